/- Written by dec.py of this project: Go functions as plain functions over the memory, and that the Go calls come to these. -/
import Derived.Test.YtoanmomopcaikaaGlue
import Derived.Test.YtoanmomopcaikaaFnD
namespace Go.Proofs.Ytoanmomopcaikaa.D
open Go
set_option linter.unusedVariables false
set_option linter.unusedSimpArgs false

noncomputable def octet_TakeKey_l1 (s8 : Sl) (x10 : Int) (x11 : Int) (w12 : World) : Option ((Int × Int × World) ⊕ (Int × World)) :=
  if (decide (x11 < (s8.n : Int))) = true then
  ((ix s8 x11 1).bind fun p20 =>
  (ldI .u8 w12 p20).bind fun v22 =>
  (shlI .u64 x10 8).bind fun v24 =>
  some (.inl ((bor .u64 v24 (IntKind.wrap .u64 v22)), (IntKind.wrap .i64 (x11 + 1)), w12)))
  else
  (some (.inr (x10, w12)))
noncomputable def octet_TakeKey (a0 : Sl) (a1 : Int) (w : World) : Option (Int × Int × Int × World) :=
  bind2 (if (decide (a1 < 0)) = true then
  (some (true, w))
  else
  (some ((decide ((a0.n : Int) < a1)), w))) fun v1 w2 =>
  if v1 = true then
  (some (0, 0, 2, w2))
  else
  (if (decide ((IntKind.wrap .i64 ((a0.n : Int) - a1)) < 8)) = true then
  (some (0, 0, 3, w2))
  else
  ((slS a0 a1 (IntKind.wrap .i64 (a1 + 8)) (a0.c : Int) 1).bind fun s8 =>
  bind2 (loopF (fun s : Int × Int × World => octet_TakeKey_l1 s8 s.1 s.2.1 s.2.2) (0, 0, w2)) fun v15 w16 =>
  some ((IntKind.wrap .i64 (bxor .u64 v15 9223372036854775808)), (IntKind.wrap .i64 (a1 + 8)), 0, w16)))
set_option maxHeartbeats 1000000 in
set_option maxRecDepth 100000 in
theorem octet_TakeKey_ok {a0 : Sl} {a1 : Int} {w w' : World} {r0 : Int} {r1 : Int} {r2 : Int} (h : octet_TakeKey a0 a1 w = some (r0, r1, r2, w')) : Calls Try.prog 64 #[(Sl.v a0), (.int .i64 a1)] w fun e w'' => e = .returned (.tuple #[(.int .i64 r0), (.int .i64 r1), (.int .i64 r2)]) ∧ w'' = w' := by
  refine calls_dec (n := 44) Try.func64 rfl Try.ntmps64 (by simp) (fun a ha => ?_)
  unfold octet_TakeKey at h
  refine wp_seq ?_
  refine region_lit ?_
  refine s_do rfl ha (ltd rfl) (d_assign ha rfl) (fun a ha => ?_)
  refine s_do rfl ha (ltd rfl) (d_assign ha rfl) (fun a ha => ?_)
  refine s_do rfl ha (ltd rfl) (d_assign ha rfl) (fun a ha => ?_)
  refine s_nil ?_
  refine t_n ?_
  replace ha : Has 44 [(0, (Sl.v a0)), (1, (.int .i64 a1))] _ := ha.sub ⟨rfl, rfl, trivial⟩
  refine wp_seq ?_
  refine wp_seq ?_
  obtain ⟨v1, w2, e3, h⟩ := bs2 h
  refine reg_join (n := 44) (L := [(17, (.bool v1)), (0, (Sl.v a0)), (1, (.int .i64 a1))]) (w' := w2) (fun a ha => ?_) (fun hk4 => ?_)
  · refine t_n ?_
    replace ha : Has 44 [(0, (Sl.v a0)), (1, (.int .i64 a1)), (17, (.bool v1))] _ := ha.sub ⟨rfl, rfl, rfl, trivial⟩
    refine s_cond ha rfl h (fun b6 h => ?_) (fun b6 h => ?_)
    · refine wp_seq ?_
      refine region_lit ?_
      refine s_do rfl ha (ltd rfl) (d_assign ha rfl) (fun a ha => ?_)
      refine s_do rfl ha (ltd rfl) (d_assign ha rfl) (fun a ha => ?_)
      refine s_do rfl ha (ltd rfl) (d_assign ha rfl) (fun a ha => ?_)
      refine s_nil ?_
      refine t_n ?_
      replace ha : Has 44 [(4, (.int .i64 0)), (5, (.int .i64 0)), (6, (.int .i64 2))] _ := ha.sub ⟨rfl, rfl, rfl, trivial⟩
      refine wp_ret ?_
      refine t_r ?_
      have hS := ha
      cases h
      exact ret3 Try.results64 hS rfl rfl rfl ⟨rfl, rfl⟩
    · refine wp_skip ?_
      refine t_n ?_
      replace ha : Has 44 [(0, (Sl.v a0)), (1, (.int .i64 a1))] _ := ha.sub ⟨rfl, rfl, trivial⟩
      refine wp_seq ?_
      refine wp_seq ?_
      refine region_lit ?_
      refine s_do rfl ha (ltd rfl) (d_move ha rfl) (fun a ha => ?_)
      refine s_do rfl ha (ltd rfl) (d_lenS ha rfl Try.runUnderlying29) (fun a ha => ?_)
      refine s_do rfl ha (ltd rfl) (d_move ha rfl) (fun a ha => ?_)
      refine s_do rfl ha (ltd rfl) (d_sub ha rfl rfl) (fun a ha => ?_)
      refine s_do rfl ha (ltd rfl) (d_lt ha rfl rfl) (fun a ha => ?_)
      refine s_nil ?_
      refine t_n ?_
      replace ha : Has 44 [(0, (Sl.v a0)), (1, (.int .i64 a1)), (22, (.bool (decide ((IntKind.wrap .i64 ((a0.n : Int) - a1)) < 8))))] _ := ha.sub ⟨rfl, rfl, rfl, trivial⟩
      refine s_cond ha rfl h (fun b7 h => ?_) (fun b7 h => ?_)
      · refine wp_seq ?_
        refine region_lit ?_
        refine s_do rfl ha (ltd rfl) (d_assign ha rfl) (fun a ha => ?_)
        refine s_do rfl ha (ltd rfl) (d_assign ha rfl) (fun a ha => ?_)
        refine s_do rfl ha (ltd rfl) (d_assign ha rfl) (fun a ha => ?_)
        refine s_nil ?_
        refine t_n ?_
        replace ha : Has 44 [(4, (.int .i64 0)), (5, (.int .i64 0)), (6, (.int .i64 3))] _ := ha.sub ⟨rfl, rfl, rfl, trivial⟩
        refine wp_ret ?_
        refine t_r ?_
        have hS := ha
        cases h
        exact ret3 Try.results64 hS rfl rfl rfl ⟨rfl, rfl⟩
      · refine wp_skip ?_
        refine t_n ?_
        replace ha : Has 44 [(0, (Sl.v a0)), (1, (.int .i64 a1))] _ := ha.sub ⟨rfl, rfl, trivial⟩
        refine wp_seq ?_
        refine region_lit ?_
        refine s_do rfl ha (ltd rfl) (d_assign ha rfl) (fun a ha => ?_)
        refine s_nil ?_
        refine t_n ?_
        replace ha : Has 44 [(0, (Sl.v a0)), (1, (.int .i64 a1)), (7, (.int .u64 0))] _ := ha.sub ⟨rfl, rfl, rfl, trivial⟩
        refine wp_seq ?_
        refine wp_seq ?_
        refine region_lit ?_
        refine s_do rfl ha (ltd rfl) (d_move ha rfl) (fun a ha => ?_)
        refine s_do rfl ha (ltd rfl) (d_move ha rfl) (fun a ha => ?_)
        refine s_do rfl ha (ltd rfl) (d_move ha rfl) (fun a ha => ?_)
        refine s_do rfl ha (ltd rfl) (d_add ha rfl rfl) (fun a ha => ?_)
        obtain ⟨s8, e9, h⟩ := bs1 h
        refine s_do rfl ha (ltd rfl) (d_slS ha rfl Try.runUnderlying29 Try.sizeOf5 ⟨_, rfl⟩ ⟨_, rfl⟩ rfl (by simp) e9) (fun a ha => ?_)
        refine s_do rfl ha (ltd rfl) (d_lenS ha rfl Try.runUnderlying29) (fun a ha => ?_)
        refine s_do rfl ha (ltd rfl) (d_move ha rfl) (fun a ha => ?_)
        refine s_nil ?_
        refine t_n ?_
        replace ha : Has 44 [(1, (.int .i64 a1)), (7, (.int .u64 0)), (27, (Sl.v s8)), (28, (.int .i64 (s8.n : Int))), (29, (.int .i64 0))] _ := ha.sub ⟨rfl, rfl, rfl, rfl, rfl, trivial⟩
        refine wp_block ?_
        obtain ⟨v15, w16, e14, h⟩ := bs2 h
        refine s_loop1 (n := 44) (L := [(7, (.int .u64 v15)), (1, (.int .i64 a1))]) (w' := w16) (e := .exit 0) (I := fun (s : Int × Int × World) a w => Has 44 [(7, (.int .u64 s.1)), (29, (.int .i64 s.2.1)), (1, (.int .i64 a1)), (27, (Sl.v s8)), (28, (.int .i64 (s8.n : Int)))] a ∧ w = s.2.2) ⟨ha.sub ⟨rfl, rfl, rfl, rfl, rfl, trivial⟩, rfl⟩ e14 (fun a ha => ?_) (fun hk17 => ?_)
        · refine b_hit ?_
          refine t_n ?_
          replace ha : Has 44 [(1, (.int .i64 a1)), (7, (.int .u64 v15))] _ := ha.sub ⟨rfl, rfl, trivial⟩
          refine wp_seq ?_
          refine region_lit ?_
          refine s_do rfl ha (ltd rfl) (d_move ha rfl) (fun a ha => ?_)
          refine s_do rfl ha (ltd rfl) (d_xor ha rfl rfl) (fun a ha => ?_)
          refine s_do rfl ha (ltd rfl) (d_conv ha rfl Try.runUnderlying47 Try.runUnderlying2) (fun a ha => ?_)
          refine s_do rfl ha (ltd rfl) (d_move ha rfl) (fun a ha => ?_)
          refine s_do rfl ha (ltd rfl) (d_add ha rfl rfl) (fun a ha => ?_)
          refine s_do rfl ha (ltd rfl) (d_assign ha rfl) (fun a ha => ?_)
          refine s_do rfl ha (ltd rfl) (d_assign ha rfl) (fun a ha => ?_)
          refine s_do rfl ha (ltd rfl) (d_assign ha rfl) (fun a ha => ?_)
          refine s_nil ?_
          refine t_n ?_
          replace ha : Has 44 [(4, (.int .i64 (IntKind.wrap .i64 (bxor .u64 v15 9223372036854775808)))), (5, (.int .i64 (IntKind.wrap .i64 (a1 + 8)))), (6, (.int .i64 0))] _ := ha.sub ⟨rfl, rfl, rfl, trivial⟩
          refine wp_ret ?_
          have hS := ha
          cases h
          exact ret3 Try.results64 hS rfl rfl rfl ⟨rfl, rfl⟩
        · clear h
          rintro ⟨x10, x11, w12⟩ a wq o ⟨ha, hwq⟩ h hr18
          obtain rfl : w12 = wq := hwq.symm
          have ha : Has 44 [(7, (.int .u64 x10)), (29, (.int .i64 x11)), (1, (.int .i64 a1)), (27, (Sl.v s8)), (28, (.int .i64 (s8.n : Int)))] a := ha
          have h : octet_TakeKey_l1 s8 x10 x11 w12 = some o := h
          unfold octet_TakeKey_l1 at h
          refine wp_seq ?_
          refine region_lit ?_
          refine s_do rfl ha (ltd rfl) (d_lt ha rfl rfl) (fun a ha => ?_)
          refine s_nil ?_
          refine t_n ?_
          replace ha : Has 44 [(1, (.int .i64 a1)), (7, (.int .u64 x10)), (27, (Sl.v s8)), (28, (.int .i64 (s8.n : Int))), (29, (.int .i64 x11)), (30, (.bool (decide (x11 < (s8.n : Int)))))] _ := ha.sub ⟨rfl, rfl, rfl, rfl, rfl, rfl, trivial⟩
          refine wp_seq ?_
          refine s_cond ha rfl h (fun b19 h => ?_) (fun b19 h => ?_)
          · refine wp_skip ?_
            refine t_n ?_
            replace ha : Has 44 [(1, (.int .i64 a1)), (7, (.int .u64 x10)), (27, (Sl.v s8)), (28, (.int .i64 (s8.n : Int))), (29, (.int .i64 x11))] _ := ha.sub ⟨rfl, rfl, rfl, rfl, rfl, trivial⟩
            refine wp_seq ?_
            refine wp_block ?_
            refine wp_seq ?_
            refine region_lit ?_
            obtain ⟨p20, e21, h⟩ := bs1 h
            refine s_do rfl ha (ltd rfl) (d_ix ha rfl rfl Try.runUnderlying29 Try.sizeOf5 e21) (fun a ha => ?_)
            obtain ⟨v22, e23, h⟩ := bs1 h
            refine s_do rfl ha (ltd rfl) (d_ld ha rfl Try.isAgg5 (ldI_c e23)) (fun a ha => ?_)
            refine s_do rfl ha (ltd rfl) (d_assign ha rfl) (fun a ha => ?_)
            refine s_nil ?_
            refine t_n ?_
            replace ha : Has 44 [(1, (.int .i64 a1)), (7, (.int .u64 x10)), (9, (.int .u8 v22)), (27, (Sl.v s8)), (28, (.int .i64 (s8.n : Int))), (29, (.int .i64 x11))] _ := ha.sub ⟨rfl, rfl, rfl, rfl, rfl, rfl, trivial⟩
            refine region_lit ?_
            refine s_do rfl ha (ltd rfl) (d_move ha rfl) (fun a ha => ?_)
            obtain ⟨v24, e25, h⟩ := bs1 h
            refine s_do rfl ha (ltd rfl) (d_shl ha rfl rfl e25) (fun a ha => ?_)
            refine s_do rfl ha (ltd rfl) (d_move ha rfl) (fun a ha => ?_)
            refine s_do rfl ha (ltd rfl) (d_conv ha rfl Try.runUnderlying5 Try.runUnderlying47) (fun a ha => ?_)
            refine s_do rfl ha (ltd rfl) (d_or ha rfl rfl) (fun a ha => ?_)
            refine s_do rfl ha (ltd rfl) (d_assign ha rfl) (fun a ha => ?_)
            refine s_nil ?_
            refine b_n ?_
            refine t_n ?_
            replace ha : Has 44 [(1, (.int .i64 a1)), (7, (.int .u64 (bor .u64 v24 (IntKind.wrap .u64 v22)))), (27, (Sl.v s8)), (28, (.int .i64 (s8.n : Int))), (29, (.int .i64 x11))] _ := ha.sub ⟨rfl, rfl, rfl, rfl, rfl, trivial⟩
            refine region_lit ?_
            refine s_do rfl ha (ltd rfl) (d_add ha rfl rfl) (fun a ha => ?_)
            refine s_do rfl ha (ltd rfl) (d_move ha rfl) (fun a ha => ?_)
            refine s_nil ?_
            have hS : Has 44 [(7, (.int .u64 (bor .u64 v24 (IntKind.wrap .u64 v22)))), (29, (.int .i64 (IntKind.wrap .i64 (x11 + 1)))), (1, (.int .i64 a1)), (27, (Sl.v s8)), (28, (.int .i64 (s8.n : Int)))] _ := ha.sub ⟨rfl, rfl, rfl, rfl, rfl, trivial⟩
            cases h
            exact lp_next ⟨hS, rfl⟩
          · refine wp_exit ?_
            refine t_x ?_
            have hS : Has 44 [(7, (.int .u64 x10)), (1, (.int .i64 a1))] _ := ha.sub ⟨rfl, rfl, trivial⟩
            cases h
            cases hr18 _ rfl
            refine lp_x ?_
            exact hk17 _ hS
  · clear h
    have h := e3
    refine region_lit ?_
    refine s_do rfl ha (ltd rfl) (d_move ha rfl) (fun a ha => ?_)
    refine s_do rfl ha (ltd rfl) (d_lt ha rfl rfl) (fun a ha => ?_)
    refine s_do rfl ha (ltd rfl) (d_move ha rfl) (fun a ha => ?_)
    refine ite_s h (fun b5 h => ?_) (fun b5 h => ?_)
    · refine s_no_g rfl rfl ha (rfl : List.lookup 12 _ = _) (tn b5) (ltd rfl) (fun a ha => ?_)
      refine s_no_g rfl rfl ha (rfl : List.lookup 12 _ = _) (tn b5) (ltd rfl) (fun a ha => ?_)
      refine s_no_g rfl rfl ha (rfl : List.lookup 12 _ = _) (tn b5) (ltd rfl) (fun a ha => ?_)
      refine s_no_g rfl rfl ha (rfl : List.lookup 12 _ = _) (tn b5) (ltd rfl) (fun a ha => ?_)
      refine s_do rfl ha (ltd rfl) (d_pick_t ha rfl b5 rfl) (fun a ha => ?_)
      refine s_nil ?_
      have hS : Has 44 [(17, (.bool true)), (0, (Sl.v a0)), (1, (.int .i64 a1))] _ := ha.sub ⟨rfl, rfl, rfl, trivial⟩
      cases h
      exact hk4 _ hS
    · refine s_do_g2 rfl rfl ha (rfl : List.lookup 12 _ = _) (nt b5) (ltd rfl) (d_move ha rfl) (fun a ha => ?_)
      refine s_do_g2 rfl rfl ha (rfl : List.lookup 12 _ = _) (nt b5) (ltd rfl) (d_move ha rfl) (fun a ha => ?_)
      refine s_do_g2 rfl rfl ha (rfl : List.lookup 12 _ = _) (nt b5) (ltd rfl) (d_lenS ha rfl Try.runUnderlying29) (fun a ha => ?_)
      refine s_do_g2 rfl rfl ha (rfl : List.lookup 12 _ = _) (nt b5) (ltd rfl) (d_gt ha rfl rfl) (fun a ha => ?_)
      refine s_do rfl ha (ltd rfl) (d_pick_f ha rfl b5 rfl) (fun a ha => ?_)
      refine s_nil ?_
      have hS : Has 44 [(17, (.bool (decide ((a0.n : Int) < a1)))), (0, (Sl.v a0)), (1, (.int .i64 a1))] _ := ha.sub ⟨rfl, rfl, rfl, trivial⟩
      cases h
      exact hk4 _ hS

noncomputable def mark_whole_l1 (s27 : Sl) (x29 : Int) (w30 : World) : Option ((Int × World) ⊕ ((World) ⊕ (Int × Int × Bool × World))) :=
  if (decide (x29 < (s27.n : Int))) = true then
  ((ix s27 x29 1).bind fun p42 =>
  (ldI .u8 w30 p42).bind fun v44 =>
  if (v44 != 0) = true then
  (some (.inr (.inr (0, 0, false, w30))))
  else
  (some (.inl ((IntKind.wrap .i64 (x29 + 1)), w30))))
  else
  (some (.inr (.inl w30)))
noncomputable def mark_whole (a0 : Sl) (w : World) : Option (Int × Int × Bool × World) :=
  bind2 ((dr w).bind fun w5 =>
  if ((a0.n : Int) != 64) = true then
  (some (true, w5))
  else
  ((ix a0 0 1).bind fun p8 =>
  (ldI .u8 w5 p8).bind fun v10 =>
  (ix a0 63 1).bind fun p12 =>
  (ldI .u8 w5 p12).bind fun v14 =>
  some ((v10 != v14), w5))) fun v1 w2 =>
  if v1 = true then
  (some (0, 0, false, w2))
  else
  (bind4 (octet_TakeKey a0 1 w2) fun v17 v18 v19 w20 =>
  bind4 (octet_TakeKey a0 9 w20) fun v22 v23 v24 w25 =>
  (slS a0 17 63 (a0.c : Int) 1).bind fun s27 =>
  (loopF (fun s : Int × World => mark_whole_l1 s27 s.1 s.2) (0, w25)).bind fun r31 => Sum.elim (fun (i : World) => u1 i fun w33 =>
  bind2 (if (decide (v17 < 1)) = true then
  (some (true, w33))
  else
  (if (decide (4611686018427387904 < v17)) = true then
  (some (true, w33))
  else
  (if (decide (v22 < 0)) = true then
  (some (true, w33))
  else
  (some ((decide (1099511627776 < v22)), w33))))) fun v47 w48 =>
  if v47 = true then
  (some (0, 0, false, w48))
  else
  (some (v17, v22, true, w48))) (fun (i : Int × Int × Bool × World) => u4 i fun v34 v35 v36 w37 =>
  some (v34, v35, v36, w37)) r31)
set_option maxHeartbeats 1000000 in
set_option maxRecDepth 100000 in
theorem mark_whole_ok {a0 : Sl} {w w' : World} {r0 : Int} {r1 : Int} {r2 : Bool} (h : mark_whole a0 w = some (r0, r1, r2, w')) : Calls Try.prog 60 #[(Sl.v a0)] w fun e w'' => e = .returned (.tuple #[(.int .i64 r0), (.int .i64 r1), (.bool r2)]) ∧ w'' = w' := by
  refine calls_dec (n := 63) Try.func60 rfl Try.ntmps60 (by simp) (fun a ha => ?_)
  unfold mark_whole at h
  refine wp_seq ?_
  refine region_lit ?_
  refine s_do rfl ha (ltd rfl) (d_assign ha rfl) (fun a ha => ?_)
  refine s_do rfl ha (ltd rfl) (d_assign ha rfl) (fun a ha => ?_)
  refine s_do rfl ha (ltd rfl) (d_assign ha rfl) (fun a ha => ?_)
  refine s_nil ?_
  refine t_n ?_
  replace ha : Has 63 [(0, (Sl.v a0))] _ := ha.sub ⟨rfl, trivial⟩
  refine wp_seq ?_
  refine wp_seq ?_
  obtain ⟨v1, w2, e3, h⟩ := bs2 h
  refine reg_join (n := 63) (L := [(24, (.bool v1)), (0, (Sl.v a0))]) (w' := w2) (fun a ha => ?_) (fun hk4 => ?_)
  · refine t_n ?_
    replace ha : Has 63 [(0, (Sl.v a0)), (24, (.bool v1))] _ := ha.sub ⟨rfl, rfl, trivial⟩
    refine s_cond ha rfl h (fun b16 h => ?_) (fun b16 h => ?_)
    · refine wp_seq ?_
      refine region_lit ?_
      refine s_do rfl ha (ltd rfl) (d_assign ha rfl) (fun a ha => ?_)
      refine s_do rfl ha (ltd rfl) (d_assign ha rfl) (fun a ha => ?_)
      refine s_do rfl ha (ltd rfl) (d_assign ha rfl) (fun a ha => ?_)
      refine s_nil ?_
      refine t_n ?_
      replace ha : Has 63 [(2, (.int .i64 0)), (3, (.int .i64 0)), (4, (.bool false))] _ := ha.sub ⟨rfl, rfl, rfl, trivial⟩
      refine wp_ret ?_
      refine t_r ?_
      have hS := ha
      cases h
      exact ret3 Try.results60 hS rfl rfl rfl ⟨rfl, rfl⟩
    · refine wp_skip ?_
      refine t_n ?_
      replace ha : Has 63 [(0, (Sl.v a0))] _ := ha.sub ⟨rfl, trivial⟩
      refine wp_seq ?_
      refine region_lit ?_
      refine s_do rfl ha (ltd rfl) (d_move ha rfl) (fun a ha => ?_)
      obtain ⟨v17, v18, v19, w20, e21, h⟩ := bs4 h
      refine s_do rfl ha (ltd rfl) (d_call (xs := [_, _]) (vs := [(Sl.v a0), (.int .i64 1)]) ha ⟨rfl, rfl, trivial⟩ Try.call64 (octet_TakeKey_ok e21)) (fun a ha => ?_)
      refine s_do rfl ha (ltd rfl) (d_move ha rfl) (fun a ha => ?_)
      refine s_do rfl ha (ltd rfl) (d_ext ha rfl rfl) (fun a ha => ?_)
      refine s_do rfl ha (ltd rfl) (d_ext ha rfl rfl) (fun a ha => ?_)
      refine s_do rfl ha (ltd rfl) (d_ext ha rfl rfl) (fun a ha => ?_)
      refine s_do rfl ha (ltd rfl) (d_assign ha rfl) (fun a ha => ?_)
      refine s_do rfl ha (ltd rfl) (d_assign ha rfl) (fun a ha => ?_)
      refine s_do rfl ha (ltd rfl) (d_assign ha rfl) (fun a ha => ?_)
      refine s_nil ?_
      refine t_n ?_
      replace ha : Has 63 [(0, (Sl.v a0)), (5, (.int .i64 v17))] _ := ha.sub ⟨rfl, rfl, trivial⟩
      refine wp_seq ?_
      refine region_lit ?_
      refine s_do rfl ha (ltd rfl) (d_move ha rfl) (fun a ha => ?_)
      obtain ⟨v22, v23, v24, w25, e26, h⟩ := bs4 h
      refine s_do rfl ha (ltd rfl) (d_call (xs := [_, _]) (vs := [(Sl.v a0), (.int .i64 9)]) ha ⟨rfl, rfl, trivial⟩ Try.call64 (octet_TakeKey_ok e26)) (fun a ha => ?_)
      refine s_do rfl ha (ltd rfl) (d_move ha rfl) (fun a ha => ?_)
      refine s_do rfl ha (ltd rfl) (d_ext ha rfl rfl) (fun a ha => ?_)
      refine s_do rfl ha (ltd rfl) (d_ext ha rfl rfl) (fun a ha => ?_)
      refine s_do rfl ha (ltd rfl) (d_ext ha rfl rfl) (fun a ha => ?_)
      refine s_do rfl ha (ltd rfl) (d_assign ha rfl) (fun a ha => ?_)
      refine s_do rfl ha (ltd rfl) (d_assign ha rfl) (fun a ha => ?_)
      refine s_do rfl ha (ltd rfl) (d_assign ha rfl) (fun a ha => ?_)
      refine s_nil ?_
      refine t_n ?_
      replace ha : Has 63 [(0, (Sl.v a0)), (5, (.int .i64 v17)), (8, (.int .i64 v22))] _ := ha.sub ⟨rfl, rfl, rfl, trivial⟩
      refine wp_seq ?_
      refine wp_seq ?_
      refine region_lit ?_
      refine s_do rfl ha (ltd rfl) (d_move ha rfl) (fun a ha => ?_)
      obtain ⟨s27, e28, h⟩ := bs1 h
      refine s_do rfl ha (ltd rfl) (d_slS ha rfl Try.runUnderlying29 Try.sizeOf5 ⟨_, rfl⟩ ⟨_, rfl⟩ rfl (by simp) e28) (fun a ha => ?_)
      refine s_do rfl ha (ltd rfl) (d_lenS ha rfl Try.runUnderlying29) (fun a ha => ?_)
      refine s_do rfl ha (ltd rfl) (d_move ha rfl) (fun a ha => ?_)
      refine s_nil ?_
      refine t_n ?_
      replace ha : Has 63 [(5, (.int .i64 v17)), (8, (.int .i64 v22)), (38, (Sl.v s27)), (39, (.int .i64 (s27.n : Int))), (40, (.int .i64 0))] _ := ha.sub ⟨rfl, rfl, rfl, rfl, rfl, trivial⟩
      refine wp_block ?_
      obtain ⟨r31, e32, h⟩ := bs1 h
      refine s_loop2 (n := 63) (L1 := fun i => [(5, (.int .i64 v17)), (8, (.int .i64 v22))]) (w1 := fun i => i) (L2 := fun i => [(2, (.int .i64 i.1)), (3, (.int .i64 i.2.1)), (4, (.bool i.2.2.1))]) (w2 := fun i => i.2.2.2) (e1 := .exit 0) (e2 := .ret) (I := fun (s : Int × World) a w => Has 63 [(40, (.int .i64 s.1)), (5, (.int .i64 v17)), (8, (.int .i64 v22)), (38, (Sl.v s27)), (39, (.int .i64 (s27.n : Int)))] a ∧ w = s.2) ⟨ha.sub ⟨rfl, rfl, rfl, rfl, rfl, trivial⟩, rfl⟩ e32 (fun i hi a ha => ?_) (fun i hi a ha => ?_) (fun hk38 hk39 => ?_)
      · subst hi
        obtain w33 := i
        dsimp only [Sum.elim_inl, Sum.elim_inr, u1, u2, u3, u4, u5, u6] at h
        have ha : Has 63 [(5, (.int .i64 v17)), (8, (.int .i64 v22))] a := ha
        refine b_hit ?_
        refine t_n ?_
        replace ha : Has 63 [(5, (.int .i64 v17)), (8, (.int .i64 v22))] _ := ha.sub ⟨rfl, rfl, trivial⟩
        refine wp_seq ?_
        refine wp_seq ?_
        obtain ⟨v47, w48, e49, h⟩ := bs2 h
        refine reg_join (n := 63) (L := [(60, (.bool v47)), (5, (.int .i64 v17)), (8, (.int .i64 v22))]) (w' := w48) (fun a ha => ?_) (fun hk50 => ?_)
        · refine t_n ?_
          replace ha : Has 63 [(5, (.int .i64 v17)), (8, (.int .i64 v22)), (60, (.bool v47))] _ := ha.sub ⟨rfl, rfl, rfl, trivial⟩
          refine s_cond ha rfl h (fun b54 h => ?_) (fun b54 h => ?_)
          · refine wp_seq ?_
            refine region_lit ?_
            refine s_do rfl ha (ltd rfl) (d_assign ha rfl) (fun a ha => ?_)
            refine s_do rfl ha (ltd rfl) (d_assign ha rfl) (fun a ha => ?_)
            refine s_do rfl ha (ltd rfl) (d_assign ha rfl) (fun a ha => ?_)
            refine s_nil ?_
            refine t_n ?_
            replace ha : Has 63 [(2, (.int .i64 0)), (3, (.int .i64 0)), (4, (.bool false))] _ := ha.sub ⟨rfl, rfl, rfl, trivial⟩
            refine wp_ret ?_
            refine t_r ?_
            have hS := ha
            cases h
            exact ret3 Try.results60 hS rfl rfl rfl ⟨rfl, rfl⟩
          · refine wp_skip ?_
            refine t_n ?_
            replace ha : Has 63 [(5, (.int .i64 v17)), (8, (.int .i64 v22))] _ := ha.sub ⟨rfl, rfl, trivial⟩
            refine wp_seq ?_
            refine region_lit ?_
            refine s_do rfl ha (ltd rfl) (d_move ha rfl) (fun a ha => ?_)
            refine s_do rfl ha (ltd rfl) (d_move ha rfl) (fun a ha => ?_)
            refine s_do rfl ha (ltd rfl) (d_assign ha rfl) (fun a ha => ?_)
            refine s_do rfl ha (ltd rfl) (d_assign ha rfl) (fun a ha => ?_)
            refine s_do rfl ha (ltd rfl) (d_assign ha rfl) (fun a ha => ?_)
            refine s_nil ?_
            refine t_n ?_
            replace ha : Has 63 [(2, (.int .i64 v17)), (3, (.int .i64 v22)), (4, (.bool true))] _ := ha.sub ⟨rfl, rfl, rfl, trivial⟩
            refine wp_ret ?_
            have hS := ha
            cases h
            exact ret3 Try.results60 hS rfl rfl rfl ⟨rfl, rfl⟩
        · clear h
          have h := e49
          refine region_lit ?_
          refine s_do rfl ha (ltd rfl) (d_move ha rfl) (fun a ha => ?_)
          refine s_do rfl ha (ltd rfl) (d_lt ha rfl rfl) (fun a ha => ?_)
          refine s_do rfl ha (ltd rfl) (d_move ha rfl) (fun a ha => ?_)
          refine ite_s h (fun b51 h => ?_) (fun b51 h => ?_)
          · refine s_no_g rfl rfl ha (rfl : List.lookup 49 _ = _) (tn b51) (ltd rfl) (fun a ha => ?_)
            refine s_no_g rfl rfl ha (rfl : List.lookup 49 _ = _) (tn b51) (ltd rfl) (fun a ha => ?_)
            refine s_do rfl ha (ltd rfl) (d_pick_t ha rfl b51 rfl) (fun a ha => ?_)
            refine s_do rfl ha (ltd rfl) (d_move ha rfl) (fun a ha => ?_)
            refine s_no_g rfl rfl ha (rfl : List.lookup 53 _ = _) (tn rfl) (ltd rfl) (fun a ha => ?_)
            refine s_no_g rfl rfl ha (rfl : List.lookup 53 _ = _) (tn rfl) (ltd rfl) (fun a ha => ?_)
            refine s_do rfl ha (ltd rfl) (d_pick_t ha rfl rfl rfl) (fun a ha => ?_)
            refine s_do rfl ha (ltd rfl) (d_move ha rfl) (fun a ha => ?_)
            refine s_no_g rfl rfl ha (rfl : List.lookup 57 _ = _) (tn rfl) (ltd rfl) (fun a ha => ?_)
            refine s_no_g rfl rfl ha (rfl : List.lookup 57 _ = _) (tn rfl) (ltd rfl) (fun a ha => ?_)
            refine s_do rfl ha (ltd rfl) (d_pick_t ha rfl rfl rfl) (fun a ha => ?_)
            refine s_nil ?_
            have hS : Has 63 [(60, (.bool true)), (5, (.int .i64 v17)), (8, (.int .i64 v22))] _ := ha.sub ⟨rfl, rfl, rfl, trivial⟩
            cases h
            exact hk50 _ hS
          · refine s_do_g2 rfl rfl ha (rfl : List.lookup 49 _ = _) (nt b51) (ltd rfl) (d_move ha rfl) (fun a ha => ?_)
            refine s_do_g2 rfl rfl ha (rfl : List.lookup 49 _ = _) (nt b51) (ltd rfl) (d_gt ha rfl rfl) (fun a ha => ?_)
            refine s_do rfl ha (ltd rfl) (d_pick_f ha rfl b51 rfl) (fun a ha => ?_)
            refine s_do rfl ha (ltd rfl) (d_move ha rfl) (fun a ha => ?_)
            refine ite_s h (fun b52 h => ?_) (fun b52 h => ?_)
            · refine s_no_g rfl rfl ha (rfl : List.lookup 53 _ = _) (tn b52) (ltd rfl) (fun a ha => ?_)
              refine s_no_g rfl rfl ha (rfl : List.lookup 53 _ = _) (tn b52) (ltd rfl) (fun a ha => ?_)
              refine s_do rfl ha (ltd rfl) (d_pick_t ha rfl b52 rfl) (fun a ha => ?_)
              refine s_do rfl ha (ltd rfl) (d_move ha rfl) (fun a ha => ?_)
              refine s_no_g rfl rfl ha (rfl : List.lookup 57 _ = _) (tn rfl) (ltd rfl) (fun a ha => ?_)
              refine s_no_g rfl rfl ha (rfl : List.lookup 57 _ = _) (tn rfl) (ltd rfl) (fun a ha => ?_)
              refine s_do rfl ha (ltd rfl) (d_pick_t ha rfl rfl rfl) (fun a ha => ?_)
              refine s_nil ?_
              have hS : Has 63 [(60, (.bool true)), (5, (.int .i64 v17)), (8, (.int .i64 v22))] _ := ha.sub ⟨rfl, rfl, rfl, trivial⟩
              cases h
              exact hk50 _ hS
            · refine s_do_g2 rfl rfl ha (rfl : List.lookup 53 _ = _) (nt b52) (ltd rfl) (d_move ha rfl) (fun a ha => ?_)
              refine s_do_g2 rfl rfl ha (rfl : List.lookup 53 _ = _) (nt b52) (ltd rfl) (d_lt ha rfl rfl) (fun a ha => ?_)
              refine s_do rfl ha (ltd rfl) (d_pick_f ha rfl b52 rfl) (fun a ha => ?_)
              refine s_do rfl ha (ltd rfl) (d_move ha rfl) (fun a ha => ?_)
              refine ite_s h (fun b53 h => ?_) (fun b53 h => ?_)
              · refine s_no_g rfl rfl ha (rfl : List.lookup 57 _ = _) (tn b53) (ltd rfl) (fun a ha => ?_)
                refine s_no_g rfl rfl ha (rfl : List.lookup 57 _ = _) (tn b53) (ltd rfl) (fun a ha => ?_)
                refine s_do rfl ha (ltd rfl) (d_pick_t ha rfl b53 rfl) (fun a ha => ?_)
                refine s_nil ?_
                have hS : Has 63 [(60, (.bool true)), (5, (.int .i64 v17)), (8, (.int .i64 v22))] _ := ha.sub ⟨rfl, rfl, rfl, trivial⟩
                cases h
                exact hk50 _ hS
              · refine s_do_g2 rfl rfl ha (rfl : List.lookup 57 _ = _) (nt b53) (ltd rfl) (d_move ha rfl) (fun a ha => ?_)
                refine s_do_g2 rfl rfl ha (rfl : List.lookup 57 _ = _) (nt b53) (ltd rfl) (d_gt ha rfl rfl) (fun a ha => ?_)
                refine s_do rfl ha (ltd rfl) (d_pick_f ha rfl b53 rfl) (fun a ha => ?_)
                refine s_nil ?_
                have hS : Has 63 [(60, (.bool (decide (1099511627776 < v22)))), (5, (.int .i64 v17)), (8, (.int .i64 v22))] _ := ha.sub ⟨rfl, rfl, rfl, trivial⟩
                cases h
                exact hk50 _ hS
      · subst hi
        obtain ⟨v34, v35, v36, w37⟩ := i
        dsimp only [Sum.elim_inl, Sum.elim_inr, u1, u2, u3, u4, u5, u6] at h
        have ha : Has 63 [(2, (.int .i64 v34)), (3, (.int .i64 v35)), (4, (.bool v36))] a := ha
        refine b_r ?_
        refine t_r ?_
        have hS := ha
        cases h
        exact ret3 Try.results60 hS rfl rfl rfl ⟨rfl, rfl⟩
      · clear h
        rintro ⟨x29, w30⟩ a wq o ⟨ha, hwq⟩ h hr40
        obtain rfl : w30 = wq := hwq.symm
        have ha : Has 63 [(40, (.int .i64 x29)), (5, (.int .i64 v17)), (8, (.int .i64 v22)), (38, (Sl.v s27)), (39, (.int .i64 (s27.n : Int)))] a := ha
        have h : mark_whole_l1 s27 x29 w30 = some o := h
        unfold mark_whole_l1 at h
        refine wp_seq ?_
        refine region_lit ?_
        refine s_do rfl ha (ltd rfl) (d_lt ha rfl rfl) (fun a ha => ?_)
        refine s_nil ?_
        refine t_n ?_
        replace ha : Has 63 [(5, (.int .i64 v17)), (8, (.int .i64 v22)), (38, (Sl.v s27)), (39, (.int .i64 (s27.n : Int))), (40, (.int .i64 x29)), (41, (.bool (decide (x29 < (s27.n : Int)))))] _ := ha.sub ⟨rfl, rfl, rfl, rfl, rfl, rfl, trivial⟩
        refine wp_seq ?_
        refine s_cond ha rfl h (fun b41 h => ?_) (fun b41 h => ?_)
        · refine wp_skip ?_
          refine t_n ?_
          replace ha : Has 63 [(5, (.int .i64 v17)), (8, (.int .i64 v22)), (38, (Sl.v s27)), (39, (.int .i64 (s27.n : Int))), (40, (.int .i64 x29))] _ := ha.sub ⟨rfl, rfl, rfl, rfl, rfl, trivial⟩
          refine wp_seq ?_
          refine wp_block ?_
          refine wp_seq ?_
          refine region_lit ?_
          obtain ⟨p42, e43, h⟩ := bs1 h
          refine s_do rfl ha (ltd rfl) (d_ix ha rfl rfl Try.runUnderlying29 Try.sizeOf5 e43) (fun a ha => ?_)
          obtain ⟨v44, e45, h⟩ := bs1 h
          refine s_do rfl ha (ltd rfl) (d_ld ha rfl Try.isAgg5 (ldI_c e45)) (fun a ha => ?_)
          refine s_do rfl ha (ltd rfl) (d_assign ha rfl) (fun a ha => ?_)
          refine s_nil ?_
          refine t_n ?_
          replace ha : Has 63 [(5, (.int .i64 v17)), (8, (.int .i64 v22)), (12, (.int .u8 v44)), (38, (Sl.v s27)), (39, (.int .i64 (s27.n : Int))), (40, (.int .i64 x29))] _ := ha.sub ⟨rfl, rfl, rfl, rfl, rfl, rfl, trivial⟩
          refine wp_seq ?_
          refine region_lit ?_
          refine s_do rfl ha (ltd rfl) (d_move ha rfl) (fun a ha => ?_)
          refine s_do rfl ha (ltd rfl) (d_ne ha rfl rfl) (fun a ha => ?_)
          refine s_nil ?_
          refine t_n ?_
          replace ha : Has 63 [(5, (.int .i64 v17)), (8, (.int .i64 v22)), (38, (Sl.v s27)), (39, (.int .i64 (s27.n : Int))), (40, (.int .i64 x29)), (45, (.bool (v44 != 0)))] _ := ha.sub ⟨rfl, rfl, rfl, rfl, rfl, rfl, trivial⟩
          refine s_cond ha rfl h (fun b46 h => ?_) (fun b46 h => ?_)
          · refine wp_seq ?_
            refine region_lit ?_
            refine s_do rfl ha (ltd rfl) (d_assign ha rfl) (fun a ha => ?_)
            refine s_do rfl ha (ltd rfl) (d_assign ha rfl) (fun a ha => ?_)
            refine s_do rfl ha (ltd rfl) (d_assign ha rfl) (fun a ha => ?_)
            refine s_nil ?_
            refine t_n ?_
            replace ha : Has 63 [(2, (.int .i64 0)), (3, (.int .i64 0)), (4, (.bool false))] _ := ha.sub ⟨rfl, rfl, rfl, trivial⟩
            refine wp_ret ?_
            refine b_r ?_
            refine t_r ?_
            have hS : Has 63 [(2, (.int .i64 0)), (3, (.int .i64 0)), (4, (.bool false))] _ := ha.sub ⟨rfl, rfl, rfl, trivial⟩
            cases h
            cases hr40 _ rfl
            refine lp_r ?_
            exact hk39 _ rfl _ hS
          · refine wp_skip ?_
            refine b_n ?_
            refine t_n ?_
            replace ha : Has 63 [(5, (.int .i64 v17)), (8, (.int .i64 v22)), (38, (Sl.v s27)), (39, (.int .i64 (s27.n : Int))), (40, (.int .i64 x29))] _ := ha.sub ⟨rfl, rfl, rfl, rfl, rfl, trivial⟩
            refine region_lit ?_
            refine s_do rfl ha (ltd rfl) (d_add ha rfl rfl) (fun a ha => ?_)
            refine s_do rfl ha (ltd rfl) (d_move ha rfl) (fun a ha => ?_)
            refine s_nil ?_
            have hS : Has 63 [(40, (.int .i64 (IntKind.wrap .i64 (x29 + 1)))), (5, (.int .i64 v17)), (8, (.int .i64 v22)), (38, (Sl.v s27)), (39, (.int .i64 (s27.n : Int)))] _ := ha.sub ⟨rfl, rfl, rfl, rfl, rfl, trivial⟩
            cases h
            exact lp_next ⟨hS, rfl⟩
        · refine wp_exit ?_
          refine t_x ?_
          have hS : Has 63 [(5, (.int .i64 v17)), (8, (.int .i64 v22))] _ := ha.sub ⟨rfl, rfl, trivial⟩
          cases h
          cases hr40 _ rfl
          refine lp_x ?_
          exact hk38 _ rfl _ hS
  · clear h
    have h := e3
    obtain ⟨w5, e6, h⟩ := bs1 h
    refine ite_s h (fun b7 h => ?_) (fun b7 h => ?_)
    · have ha : Has 63 [(0, (Sl.v a0))] a := ha.sub ⟨rfl, trivial⟩
      refine region_draw (n := 63) (ds := (⟨_, (Sl.v a0), false, 0, 0, [], [(0, (Sl.v a0))]⟩ :: ⟨_, (.int .i64 (a0.n : Int)), false, 0, 0, [0], [(13, (Sl.v a0))]⟩ :: ⟨_, (.bool ((a0.n : Int) != 64)), false, 0, 0, [0, 1], [(14, (.int .i64 (a0.n : Int)))]⟩ :: ⟨_, (.bool ((a0.n : Int) != 64)), false, 0, 0, [0, 1, 2], [(15, (.bool ((a0.n : Int) != 64)))]⟩ :: ⟨_, undef, false, 0, 0, [0, 1, 2, 3], [(16, (.bool ((a0.n : Int) != 64)))]⟩ :: ⟨_, undef, false, 0, 0, [0, 1, 2, 3, 4], [(16, (.bool ((a0.n : Int) != 64)))]⟩ :: ⟨_, undef, false, 0, 0, [0, 1, 2, 3, 4, 5], [(16, (.bool ((a0.n : Int) != 64)))]⟩ :: ⟨_, undef, false, 0, 0, [0, 1, 2, 3], [(16, (.bool ((a0.n : Int) != 64)))]⟩ :: ⟨_, undef, false, 0, 0, [0, 1, 2, 3, 7], [(16, (.bool ((a0.n : Int) != 64)))]⟩ :: ⟨_, undef, false, 0, 0, [0, 1, 2, 3, 7, 8], [(16, (.bool ((a0.n : Int) != 64)))]⟩ :: ⟨_, undef, false, 0, 0, [0, 1, 2, 3, 4, 5, 6, 7, 8, 9], [(16, (.bool ((a0.n : Int) != 64)))]⟩ :: ⟨_, (.bool true), false, 0, 0, [0, 1, 2, 3, 4, 5, 6, 7, 8, 9, 10], [(16, (.bool ((a0.n : Int) != 64))), (23, undef)]⟩ :: [])) (W := (fun _ => w5)) (by kernel_rfl) ha (dr_w e6) (by kernel_rfl) ?_ (reads_of (by kernel_rfl)) (by kernel_rfl) (m := 0) (by kernel_rfl) (fun a ha => ?_)
      · refine ⟨?_, ?_, ?_, ?_, ?_, ?_, ?_, ?_, ?_, ?_, ?_, ?_, trivial⟩
        · intro j _ _; exact ok_do rfl fun a ha => d_move ha rfl
        · intro j _ _; exact ok_do rfl fun a ha => d_lenS ha rfl Try.runUnderlying29
        · intro j _ _; exact ok_do rfl fun a ha => d_ne ha rfl rfl
        · intro j _ _; exact ok_do rfl fun a ha => d_move ha rfl
        · intro j _ _; exact ok_no_g rfl rfl (rfl : List.lookup 16 _ = _) (tn b7)
        · intro j _ _; exact ok_no_g rfl rfl (rfl : List.lookup 16 _ = _) (tn b7)
        · intro j _ _; exact ok_no_g rfl rfl (rfl : List.lookup 16 _ = _) (tn b7)
        · intro j _ _; exact ok_no_g rfl rfl (rfl : List.lookup 16 _ = _) (tn b7)
        · intro j _ _; exact ok_no_g rfl rfl (rfl : List.lookup 16 _ = _) (tn b7)
        · intro j _ _; exact ok_no_g rfl rfl (rfl : List.lookup 16 _ = _) (tn b7)
        · intro j _ _; exact ok_no_g rfl rfl (rfl : List.lookup 16 _ = _) (tn b7)
        · intro j _ _; exact ok_do rfl fun a ha => d_pick_t ha rfl b7 rfl
      · have ha : Has 63 [(0, (Sl.v a0)), (24, (.bool true))] a := ha.sub ⟨rfl, rfl, trivial⟩
        have hS : Has 63 [(24, (.bool true)), (0, (Sl.v a0))] _ := ha.sub ⟨rfl, rfl, trivial⟩
        cases h
        exact hk4 _ hS
    · obtain ⟨p8, e9, h⟩ := bs1 h
      obtain ⟨v10, e11, h⟩ := bs1 h
      obtain ⟨p12, e13, h⟩ := bs1 h
      obtain ⟨v14, e15, h⟩ := bs1 h
      have ha : Has 63 [(0, (Sl.v a0))] a := ha.sub ⟨rfl, trivial⟩
      refine region_draw (n := 63) (ds := (⟨_, (Sl.v a0), false, 0, 0, [], [(0, (Sl.v a0))]⟩ :: ⟨_, (.int .i64 (a0.n : Int)), false, 0, 0, [0], [(13, (Sl.v a0))]⟩ :: ⟨_, (.bool ((a0.n : Int) != 64)), false, 0, 0, [0, 1], [(14, (.int .i64 (a0.n : Int)))]⟩ :: ⟨_, (.bool ((a0.n : Int) != 64)), false, 0, 0, [0, 1, 2], [(15, (.bool ((a0.n : Int) != 64)))]⟩ :: ⟨_, (Sl.v a0), false, 0, 0, [0, 1, 2, 3], [(0, (Sl.v a0)), (16, (.bool ((a0.n : Int) != 64)))]⟩ :: ⟨_, (.pointer (some p8)), false, 0, 0, [0, 1, 2, 3, 4], [(17, (Sl.v a0)), (16, (.bool ((a0.n : Int) != 64)))]⟩ :: ⟨_, (.int .u8 v10), false, 0, 0, [0, 1, 2, 3, 4, 5], [(18, (.pointer (some p8))), (16, (.bool ((a0.n : Int) != 64)))]⟩ :: ⟨_, (Sl.v a0), false, 0, 0, [0, 1, 2, 3], [(0, (Sl.v a0)), (16, (.bool ((a0.n : Int) != 64)))]⟩ :: ⟨_, (.pointer (some p12)), false, 0, 0, [0, 1, 2, 3, 7], [(20, (Sl.v a0)), (16, (.bool ((a0.n : Int) != 64)))]⟩ :: ⟨_, (.int .u8 v14), false, 0, 0, [0, 1, 2, 3, 7, 8], [(21, (.pointer (some p12))), (16, (.bool ((a0.n : Int) != 64)))]⟩ :: ⟨_, (.bool (v10 != v14)), false, 0, 0, [0, 1, 2, 3, 4, 5, 6, 7, 8, 9], [(19, (.int .u8 v10)), (22, (.int .u8 v14)), (16, (.bool ((a0.n : Int) != 64)))]⟩ :: ⟨_, (.bool (v10 != v14)), false, 0, 0, [0, 1, 2, 3, 4, 5, 6, 7, 8, 9, 10], [(16, (.bool ((a0.n : Int) != 64))), (23, (.bool (v10 != v14)))]⟩ :: [])) (W := (fun _ => w5)) (by kernel_rfl) ha (dr_w e6) (by kernel_rfl) ?_ (reads_of (by kernel_rfl)) (by kernel_rfl) (m := 0) (by kernel_rfl) (fun a ha => ?_)
      · refine ⟨?_, ?_, ?_, ?_, ?_, ?_, ?_, ?_, ?_, ?_, ?_, ?_, trivial⟩
        · intro j _ _; exact ok_do rfl fun a ha => d_move ha rfl
        · intro j _ _; exact ok_do rfl fun a ha => d_lenS ha rfl Try.runUnderlying29
        · intro j _ _; exact ok_do rfl fun a ha => d_ne ha rfl rfl
        · intro j _ _; exact ok_do rfl fun a ha => d_move ha rfl
        · intro j _ _; exact ok_do_g rfl rfl (rfl : List.lookup 16 _ = _) (nt b7) fun a ha => d_move ha rfl
        · intro j _ _; exact ok_do_g rfl rfl (rfl : List.lookup 16 _ = _) (nt b7) fun a ha => d_ix ha rfl rfl Try.runUnderlying29 Try.sizeOf5 e9
        · intro j h1 h2; obtain rfl : j = 0 := Nat.le_antisymm h2 h1; exact ok_do_g rfl rfl (rfl : List.lookup 16 _ = _) (nt b7) fun a ha => d_ld ha rfl Try.isAgg5 (ldI_c e11)
        · intro j _ _; exact ok_do_g rfl rfl (rfl : List.lookup 16 _ = _) (nt b7) fun a ha => d_move ha rfl
        · intro j _ _; exact ok_do_g rfl rfl (rfl : List.lookup 16 _ = _) (nt b7) fun a ha => d_ix ha rfl rfl Try.runUnderlying29 Try.sizeOf5 e13
        · intro j h1 h2; obtain rfl : j = 0 := Nat.le_antisymm h2 h1; exact ok_do_g rfl rfl (rfl : List.lookup 16 _ = _) (nt b7) fun a ha => d_ld ha rfl Try.isAgg5 (ldI_c e15)
        · intro j _ _; exact ok_do_g rfl rfl (rfl : List.lookup 16 _ = _) (nt b7) fun a ha => d_ne ha rfl rfl
        · intro j _ _; exact ok_do rfl fun a ha => d_pick_f ha rfl b7 rfl
      · have ha : Has 63 [(0, (Sl.v a0)), (24, (.bool (v10 != v14)))] a := ha.sub ⟨rfl, rfl, trivial⟩
        have hS : Has 63 [(24, (.bool (v10 != v14))), (0, (Sl.v a0))] _ := ha.sub ⟨rfl, rfl, trivial⟩
        cases h
        exact hk4 _ hS

noncomputable def mark_Cells_found_l1 (a0 : Option Addr) (a1 : Int) (x1 : Int) (x2 : Int) (x3 : Int) (x4 : Int) (w5 : World) : Option ((Int × Int × Int × Int × World) ⊕ (Int × Int × Int × World)) :=
  if (decide (x4 < 2)) = true then
  (bind4 ((dr w5).bind fun w21 =>
  (a0).bind fun p23 =>
  (ldP w21 (p23.add 0)).bind fun v25 =>
  (ldI .i64 w21 (p23.add 1)).bind fun v27 =>
  bind3 (sector_Disk_Read v25 (IntKind.wrap .i64 ((IntKind.wrap .i64 (v27 + (IntKind.wrap .i64 (2 * a1)))) + x4)) w21) fun v29 v30 w31 =>
  bind4 (mark_whole v29 w31) fun v33 v34 v35 w36 =>
  bind2 (if v35 = true then
  (some ((decide (x2 < v33)), w36))
  else
  (some (false, w36))) fun v38 w39 =>
  if v38 = true then
  (some (x4, v33, v34, w39))
  else
  (some (x1, x2, x3, w39))) fun v15 v16 v17 w18 =>
  some (.inl (v15, v16, v17, (IntKind.wrap .i64 (x4 + 1)), w18)))
  else
  (some (.inr (x1, x2, x3, w5)))
noncomputable def mark_Cells_found (a0 : Option Addr) (a1 : Int) (w : World) : Option (Int × Int × Int × World) :=
  bind4 (loopF (fun s : Int × Int × Int × Int × World => mark_Cells_found_l1 a0 a1 s.1 s.2.1 s.2.2.1 s.2.2.2.1 s.2.2.2.2) ((-1), 0, 0, 0, w)) fun v8 v9 v10 w11 =>
  some (v8, v9, v10, w11)
set_option maxHeartbeats 1000000 in
set_option maxRecDepth 100000 in
theorem mark_Cells_found_ok {a0 : Option Addr} {a1 : Int} {w w' : World} {r0 : Int} {r1 : Int} {r2 : Int} (h : mark_Cells_found a0 a1 w = some (r0, r1, r2, w')) : Calls Try.prog 52 #[(.pointer a0), (.int .i64 a1)] w fun e w'' => e = .returned (.tuple #[(.int .i64 r0), (.int .i64 r1), (.int .i64 r2)]) ∧ w'' = w' := by
  refine calls_dec (n := 52) Try.func52 rfl Try.ntmps52 (by simp) (fun a ha => ?_)
  unfold mark_Cells_found at h
  refine wp_seq ?_
  refine region_lit ?_
  refine s_do rfl ha (ltd rfl) (d_assign ha rfl) (fun a ha => ?_)
  refine s_do rfl ha (ltd rfl) (d_assign ha rfl) (fun a ha => ?_)
  refine s_do rfl ha (ltd rfl) (d_assign ha rfl) (fun a ha => ?_)
  refine s_nil ?_
  refine t_n ?_
  replace ha : Has 52 [(0, (.pointer a0)), (1, (.int .i64 a1)), (5, (.int .i64 0)), (6, (.int .i64 0))] _ := ha.sub ⟨rfl, rfl, rfl, rfl, trivial⟩
  refine wp_seq ?_
  refine region_lit ?_
  refine s_do rfl ha (ltd rfl) (d_assign ha rfl) (fun a ha => ?_)
  refine s_nil ?_
  refine t_n ?_
  replace ha : Has 52 [(0, (.pointer a0)), (1, (.int .i64 a1)), (4, (.int .i64 (-1))), (5, (.int .i64 0)), (6, (.int .i64 0))] _ := ha.sub ⟨rfl, rfl, rfl, rfl, rfl, trivial⟩
  refine wp_seq ?_
  refine wp_seq ?_
  refine region_lit ?_
  refine s_do rfl ha (ltd rfl) (d_move ha rfl) (fun a ha => ?_)
  refine s_nil ?_
  refine t_n ?_
  replace ha : Has 52 [(0, (.pointer a0)), (1, (.int .i64 a1)), (4, (.int .i64 (-1))), (5, (.int .i64 0)), (6, (.int .i64 0)), (13, (.int .i64 0))] _ := ha.sub ⟨rfl, rfl, rfl, rfl, rfl, rfl, trivial⟩
  refine wp_block ?_
  obtain ⟨v8, v9, v10, w11, e7, h⟩ := bs4 h
  refine s_loop1 (n := 52) (L := [(4, (.int .i64 v8)), (5, (.int .i64 v9)), (6, (.int .i64 v10))]) (w' := w11) (e := .exit 0) (I := fun (s : Int × Int × Int × Int × World) a w => Has 52 [(4, (.int .i64 s.1)), (5, (.int .i64 s.2.1)), (6, (.int .i64 s.2.2.1)), (13, (.int .i64 s.2.2.2.1)), (0, (.pointer a0)), (1, (.int .i64 a1))] a ∧ w = s.2.2.2.2) ⟨ha.sub ⟨rfl, rfl, rfl, rfl, rfl, rfl, trivial⟩, rfl⟩ e7 (fun a ha => ?_) (fun hk12 => ?_)
  · refine b_hit ?_
    refine t_n ?_
    replace ha : Has 52 [(4, (.int .i64 v8)), (5, (.int .i64 v9)), (6, (.int .i64 v10))] _ := ha.sub ⟨rfl, rfl, rfl, trivial⟩
    refine wp_seq ?_
    refine region_lit ?_
    refine s_do rfl ha (ltd rfl) (d_move ha rfl) (fun a ha => ?_)
    refine s_do rfl ha (ltd rfl) (d_move ha rfl) (fun a ha => ?_)
    refine s_do rfl ha (ltd rfl) (d_move ha rfl) (fun a ha => ?_)
    refine s_do rfl ha (ltd rfl) (d_assign ha rfl) (fun a ha => ?_)
    refine s_do rfl ha (ltd rfl) (d_assign ha rfl) (fun a ha => ?_)
    refine s_do rfl ha (ltd rfl) (d_assign ha rfl) (fun a ha => ?_)
    refine s_nil ?_
    refine t_n ?_
    replace ha : Has 52 [(4, (.int .i64 v8)), (5, (.int .i64 v9)), (6, (.int .i64 v10))] _ := ha.sub ⟨rfl, rfl, rfl, trivial⟩
    refine wp_ret ?_
    have hS := ha
    cases h
    exact ret3 Try.results52 hS rfl rfl rfl ⟨rfl, rfl⟩
  · clear h
    rintro ⟨x1, x2, x3, x4, w5⟩ a wq o ⟨ha, hwq⟩ h hr13
    obtain rfl : w5 = wq := hwq.symm
    have ha : Has 52 [(4, (.int .i64 x1)), (5, (.int .i64 x2)), (6, (.int .i64 x3)), (13, (.int .i64 x4)), (0, (.pointer a0)), (1, (.int .i64 a1))] a := ha
    have h : mark_Cells_found_l1 a0 a1 x1 x2 x3 x4 w5 = some o := h
    unfold mark_Cells_found_l1 at h
    refine wp_seq ?_
    refine region_lit ?_
    refine s_do rfl ha (ltd rfl) (d_lt ha rfl rfl) (fun a ha => ?_)
    refine s_nil ?_
    refine t_n ?_
    replace ha : Has 52 [(0, (.pointer a0)), (1, (.int .i64 a1)), (4, (.int .i64 x1)), (5, (.int .i64 x2)), (6, (.int .i64 x3)), (13, (.int .i64 x4)), (14, (.bool (decide (x4 < 2))))] _ := ha.sub ⟨rfl, rfl, rfl, rfl, rfl, rfl, rfl, trivial⟩
    refine wp_seq ?_
    refine s_cond ha rfl h (fun b14 h => ?_) (fun b14 h => ?_)
    · refine wp_skip ?_
      refine t_n ?_
      replace ha : Has 52 [(0, (.pointer a0)), (1, (.int .i64 a1)), (4, (.int .i64 x1)), (5, (.int .i64 x2)), (6, (.int .i64 x3)), (13, (.int .i64 x4))] _ := ha.sub ⟨rfl, rfl, rfl, rfl, rfl, rfl, trivial⟩
      obtain ⟨v15, v16, v17, w18, e19, h⟩ := bs4 h
      refine seq_join (n := 52) (L := [(4, (.int .i64 v15)), (5, (.int .i64 v16)), (6, (.int .i64 v17)), (0, (.pointer a0)), (1, (.int .i64 a1)), (13, (.int .i64 x4))]) (w' := w18) (fun a ha => ?_) (fun hk20 => ?_)
      · refine region_lit ?_
        refine s_do rfl ha (ltd rfl) (d_add ha rfl rfl) (fun a ha => ?_)
        refine s_do rfl ha (ltd rfl) (d_move ha rfl) (fun a ha => ?_)
        refine s_nil ?_
        have hS : Has 52 [(4, (.int .i64 v15)), (5, (.int .i64 v16)), (6, (.int .i64 v17)), (13, (.int .i64 (IntKind.wrap .i64 (x4 + 1)))), (0, (.pointer a0)), (1, (.int .i64 a1))] _ := ha.sub ⟨rfl, rfl, rfl, rfl, rfl, rfl, trivial⟩
        cases h
        exact lp_next ⟨hS, rfl⟩
      · clear h
        have h := e19
        refine wp_block ?_
        refine wp_seq ?_
        refine region_lit ?_
        refine s_do rfl ha (ltd rfl) (d_move ha rfl) (fun a ha => ?_)
        refine s_do rfl ha (ltd rfl) (d_assign ha rfl) (fun a ha => ?_)
        refine s_nil ?_
        refine t_n ?_
        replace ha : Has 52 [(0, (.pointer a0)), (1, (.int .i64 a1)), (4, (.int .i64 x1)), (5, (.int .i64 x2)), (6, (.int .i64 x3)), (7, (.int .i64 x4)), (13, (.int .i64 x4))] _ := ha.sub ⟨rfl, rfl, rfl, rfl, rfl, rfl, rfl, trivial⟩
        refine wp_seq ?_
        obtain ⟨w21, e22, h⟩ := bs1 h
        obtain ⟨p23, e24, h⟩ := bs1 h
        obtain ⟨v25, e26, h⟩ := bs1 h
        obtain ⟨v27, e28, h⟩ := bs1 h
        obtain ⟨v29, v30, w31, e32, h⟩ := bs3 h
        have ha : Has 52 [(0, (.pointer a0)), (1, (.int .i64 a1)), (4, (.int .i64 x1)), (5, (.int .i64 x2)), (6, (.int .i64 x3)), (7, (.int .i64 x4)), (13, (.int .i64 x4))] a := ha.sub ⟨rfl, rfl, rfl, rfl, rfl, rfl, rfl, trivial⟩
        refine region_draw (n := 52) (ds := (⟨_, (.pointer a0), false, 0, 0, [], [(0, (.pointer a0))]⟩ :: ⟨_, (.pointer (some p23)), false, 0, 0, [0], [(17, (.pointer a0))]⟩ :: ⟨_, (.pointer (some (p23.add 0))), false, 0, 0, [0, 1], [(18, (.pointer (some p23)))]⟩ :: ⟨_, (.pointer v25), false, 0, 0, [0, 1, 2], [(19, (.pointer (some (p23.add 0))))]⟩ :: ⟨_, (.pointer a0), false, 0, 0, [], [(0, (.pointer a0))]⟩ :: ⟨_, (.pointer (some p23)), false, 0, 0, [4], [(21, (.pointer a0))]⟩ :: ⟨_, (.pointer (some (p23.add 1))), false, 0, 0, [4, 5], [(22, (.pointer (some p23)))]⟩ :: ⟨_, (.int .i64 v27), false, 0, 0, [4, 5, 6], [(23, (.pointer (some (p23.add 1))))]⟩ :: ⟨_, (.int .i64 a1), false, 0, 0, [], [(1, (.int .i64 a1))]⟩ :: ⟨_, (.int .i64 (IntKind.wrap .i64 (2 * a1))), false, 0, 0, [8], [(25, (.int .i64 a1))]⟩ :: ⟨_, (.int .i64 (IntKind.wrap .i64 (v27 + (IntKind.wrap .i64 (2 * a1))))), false, 0, 0, [4, 5, 6, 7, 8, 9], [(24, (.int .i64 v27)), (26, (.int .i64 (IntKind.wrap .i64 (2 * a1))))]⟩ :: ⟨_, (.int .i64 x4), false, 0, 0, [], [(7, (.int .i64 x4))]⟩ :: ⟨_, (.int .i64 (IntKind.wrap .i64 ((IntKind.wrap .i64 (v27 + (IntKind.wrap .i64 (2 * a1)))) + x4))), false, 0, 0, [4, 5, 6, 7, 8, 9, 10, 11], [(27, (.int .i64 (IntKind.wrap .i64 (v27 + (IntKind.wrap .i64 (2 * a1)))))), (28, (.int .i64 x4))]⟩ :: ⟨_, (.tuple #[(Sl.v v29), (.int .i64 v30)]), true, 0, 0, (0 :: 1 :: 2 :: 3 :: 4 :: 5 :: 6 :: 7 :: 8 :: 9 :: 10 :: 11 :: 12 :: []), [(20, (.pointer v25)), (29, (.int .i64 (IntKind.wrap .i64 ((IntKind.wrap .i64 (v27 + (IntKind.wrap .i64 (2 * a1)))) + x4))))]⟩ :: ⟨_, (.tuple #[(Sl.v v29), (.int .i64 v30)]), false, 1, 1, (0 :: 1 :: 2 :: 3 :: 4 :: 5 :: 6 :: 7 :: 8 :: 9 :: 10 :: 11 :: 12 :: 13 :: []), [(30, (.tuple #[(Sl.v v29), (.int .i64 v30)]))]⟩ :: ⟨_, (Sl.v v29), false, 1, 1, (0 :: 1 :: 2 :: 3 :: 4 :: 5 :: 6 :: 7 :: 8 :: 9 :: 10 :: 11 :: 12 :: 13 :: 14 :: []), [(16, (.tuple #[(Sl.v v29), (.int .i64 v30)]))]⟩ :: ⟨_, (.int .i64 v30), false, 1, 1, (0 :: 1 :: 2 :: 3 :: 4 :: 5 :: 6 :: 7 :: 8 :: 9 :: 10 :: 11 :: 12 :: 13 :: 14 :: []), [(16, (.tuple #[(Sl.v v29), (.int .i64 v30)]))]⟩ :: ⟨_, (Sl.v v29), false, 1, 1, (0 :: 1 :: 2 :: 3 :: 4 :: 5 :: 6 :: 7 :: 8 :: 9 :: 10 :: 11 :: 12 :: 13 :: 14 :: 15 :: []), [(31, (Sl.v v29))]⟩ :: ⟨_, (.int .i64 v30), false, 1, 1, (0 :: 1 :: 2 :: 3 :: 4 :: 5 :: 6 :: 7 :: 8 :: 9 :: 10 :: 11 :: 12 :: 13 :: 14 :: 15 :: 16 :: 17 :: []), [(32, (.int .i64 v30))]⟩ :: [])) (W := (fun j => match j with | 0 => w21 | _ => w31)) (by kernel_rfl) ha (dr_w e22) (by kernel_rfl) ?_ (reads_of (by kernel_rfl)) (by kernel_rfl) (m := 1) (by kernel_rfl) (fun a ha => ?_)
        · refine ⟨?_, ?_, ?_, ?_, ?_, ?_, ?_, ?_, ?_, ?_, ?_, ?_, ?_, ?_, ?_, ?_, ?_, ?_, ?_, trivial⟩
          · intro j _ _; exact ok_do rfl fun a ha => d_move ha rfl
          · intro j _ _; exact ok_do rfl fun a ha => d_nilp ha rfl e24
          · intro j _ _; exact ok_do rfl fun a ha => d_fa ha rfl Try.runUnderlying99 rfl rfl Try.sizeOf22 (by decide)
          · intro j h1 h2; obtain rfl : j = 0 := Nat.le_antisymm h2 h1; exact ok_do rfl fun a ha => d_ld ha rfl Try.isAgg22 (ldP_c e26)
          · intro j _ _; exact ok_do rfl fun a ha => d_move ha rfl
          · intro j _ _; exact ok_do rfl fun a ha => d_nilp ha rfl e24
          · intro j _ _; exact ok_do rfl fun a ha => d_fa ha rfl Try.runUnderlying99 rfl rfl Try.sizeOf3 (by decide)
          · intro j h1 h2; obtain rfl : j = 0 := Nat.le_antisymm h2 h1; exact ok_do rfl fun a ha => d_ld ha rfl Try.isAgg3 (ldI_c e28)
          · intro j _ _; exact ok_do rfl fun a ha => d_move ha rfl
          · intro j _ _; exact ok_do rfl fun a ha => d_mul ha rfl rfl
          · intro j _ _; exact ok_do rfl fun a ha => d_add ha rfl rfl
          · intro j _ _; exact ok_do rfl fun a ha => d_move ha rfl
          · intro j _ _; exact ok_do rfl fun a ha => d_add ha rfl rfl
          · intro j h1 h2; obtain rfl : j = 0 := Nat.le_antisymm h2 h1; exact ok_do rfl fun a ha => d_call (xs := [_, _]) (vs := [(.pointer v25), (.int .i64 (IntKind.wrap .i64 ((IntKind.wrap .i64 (v27 + (IntKind.wrap .i64 (2 * a1)))) + x4)))]) ha ⟨rfl, rfl, trivial⟩ Try.call25 (sector_Disk_Read_ok e32)
          · intro j _ _; exact ok_do rfl fun a ha => d_move ha rfl
          · intro j _ _; exact ok_do rfl fun a ha => d_ext ha rfl rfl
          · intro j _ _; exact ok_do rfl fun a ha => d_ext ha rfl rfl
          · intro j _ _; exact ok_do rfl fun a ha => d_assign ha rfl
          · intro j _ _; exact ok_do rfl fun a ha => d_assign ha rfl
        · have ha : Has 52 [(0, (.pointer a0)), (1, (.int .i64 a1)), (4, (.int .i64 x1)), (5, (.int .i64 x2)), (6, (.int .i64 x3)), (7, (.int .i64 x4)), (8, (Sl.v v29)), (13, (.int .i64 x4))] a := ha.sub ⟨rfl, rfl, rfl, rfl, rfl, rfl, rfl, rfl, trivial⟩
          refine t_n ?_
          replace ha : Has 52 [(0, (.pointer a0)), (1, (.int .i64 a1)), (4, (.int .i64 x1)), (5, (.int .i64 x2)), (6, (.int .i64 x3)), (7, (.int .i64 x4)), (8, (Sl.v v29)), (13, (.int .i64 x4))] _ := ha.sub ⟨rfl, rfl, rfl, rfl, rfl, rfl, rfl, rfl, trivial⟩
          refine wp_seq ?_
          refine region_lit ?_
          refine s_do rfl ha (ltd rfl) (d_move ha rfl) (fun a ha => ?_)
          obtain ⟨v33, v34, v35, w36, e37, h⟩ := bs4 h
          refine s_do rfl ha (ltd rfl) (d_call (xs := [_]) (vs := [(Sl.v v29)]) ha ⟨rfl, trivial⟩ Try.call60 (mark_whole_ok e37)) (fun a ha => ?_)
          refine s_do rfl ha (ltd rfl) (d_move ha rfl) (fun a ha => ?_)
          refine s_do rfl ha (ltd rfl) (d_ext ha rfl rfl) (fun a ha => ?_)
          refine s_do rfl ha (ltd rfl) (d_ext ha rfl rfl) (fun a ha => ?_)
          refine s_do rfl ha (ltd rfl) (d_ext ha rfl rfl) (fun a ha => ?_)
          refine s_do rfl ha (ltd rfl) (d_assign ha rfl) (fun a ha => ?_)
          refine s_do rfl ha (ltd rfl) (d_assign ha rfl) (fun a ha => ?_)
          refine s_do rfl ha (ltd rfl) (d_assign ha rfl) (fun a ha => ?_)
          refine s_nil ?_
          refine t_n ?_
          replace ha : Has 52 [(0, (.pointer a0)), (1, (.int .i64 a1)), (4, (.int .i64 x1)), (5, (.int .i64 x2)), (6, (.int .i64 x3)), (7, (.int .i64 x4)), (10, (.int .i64 v33)), (11, (.int .i64 v34)), (12, (.bool v35)), (13, (.int .i64 x4))] _ := ha.sub ⟨rfl, rfl, rfl, rfl, rfl, rfl, rfl, rfl, rfl, rfl, trivial⟩
          refine wp_seq ?_
          obtain ⟨v38, w39, e40, h⟩ := bs2 h
          refine reg_join (n := 52) (L := [(44, (.bool v38)), (0, (.pointer a0)), (1, (.int .i64 a1)), (4, (.int .i64 x1)), (5, (.int .i64 x2)), (6, (.int .i64 x3)), (7, (.int .i64 x4)), (10, (.int .i64 v33)), (11, (.int .i64 v34)), (13, (.int .i64 x4))]) (w' := w39) (fun a ha => ?_) (fun hk41 => ?_)
          · refine t_n ?_
            replace ha : Has 52 [(0, (.pointer a0)), (1, (.int .i64 a1)), (4, (.int .i64 x1)), (5, (.int .i64 x2)), (6, (.int .i64 x3)), (7, (.int .i64 x4)), (10, (.int .i64 v33)), (11, (.int .i64 v34)), (13, (.int .i64 x4)), (44, (.bool v38))] _ := ha.sub ⟨rfl, rfl, rfl, rfl, rfl, rfl, rfl, rfl, rfl, rfl, trivial⟩
            refine s_cond ha rfl h (fun b43 h => ?_) (fun b43 h => ?_)
            · refine region_lit ?_
              refine s_do rfl ha (ltd rfl) (d_move ha rfl) (fun a ha => ?_)
              refine s_do rfl ha (ltd rfl) (d_move ha rfl) (fun a ha => ?_)
              refine s_do rfl ha (ltd rfl) (d_move ha rfl) (fun a ha => ?_)
              refine s_do rfl ha (ltd rfl) (d_assign ha rfl) (fun a ha => ?_)
              refine s_do rfl ha (ltd rfl) (d_assign ha rfl) (fun a ha => ?_)
              refine s_do rfl ha (ltd rfl) (d_assign ha rfl) (fun a ha => ?_)
              refine s_nil ?_
              refine b_n ?_
              have hS : Has 52 [(4, (.int .i64 x4)), (5, (.int .i64 v33)), (6, (.int .i64 v34)), (0, (.pointer a0)), (1, (.int .i64 a1)), (13, (.int .i64 x4))] _ := ha.sub ⟨rfl, rfl, rfl, rfl, rfl, rfl, trivial⟩
              cases h
              exact hk20 _ hS
            · refine wp_skip ?_
              refine b_n ?_
              have hS : Has 52 [(4, (.int .i64 x1)), (5, (.int .i64 x2)), (6, (.int .i64 x3)), (0, (.pointer a0)), (1, (.int .i64 a1)), (13, (.int .i64 x4))] _ := ha.sub ⟨rfl, rfl, rfl, rfl, rfl, rfl, trivial⟩
              cases h
              exact hk20 _ hS
          · clear h
            have h := e40
            refine region_lit ?_
            refine s_do rfl ha (ltd rfl) (d_move ha rfl) (fun a ha => ?_)
            refine s_do rfl ha (ltd rfl) (d_move ha rfl) (fun a ha => ?_)
            refine ite_s h (fun b42 h => ?_) (fun b42 h => ?_)
            · refine s_do_g2 rfl rfl ha (rfl : List.lookup 40 _ = _) b42 (ltd rfl) (d_move ha rfl) (fun a ha => ?_)
              refine s_do_g2 rfl rfl ha (rfl : List.lookup 40 _ = _) b42 (ltd rfl) (d_move ha rfl) (fun a ha => ?_)
              refine s_do_g2 rfl rfl ha (rfl : List.lookup 40 _ = _) b42 (ltd rfl) (d_gt ha rfl rfl) (fun a ha => ?_)
              refine s_do rfl ha (ltd rfl) (d_pick_t ha rfl b42 rfl) (fun a ha => ?_)
              refine s_nil ?_
              have hS : Has 52 [(44, (.bool (decide (x2 < v33)))), (0, (.pointer a0)), (1, (.int .i64 a1)), (4, (.int .i64 x1)), (5, (.int .i64 x2)), (6, (.int .i64 x3)), (7, (.int .i64 x4)), (10, (.int .i64 v33)), (11, (.int .i64 v34)), (13, (.int .i64 x4))] _ := ha.sub ⟨rfl, rfl, rfl, rfl, rfl, rfl, rfl, rfl, rfl, rfl, trivial⟩
              cases h
              exact hk41 _ hS
            · refine s_no_g rfl rfl ha (rfl : List.lookup 40 _ = _) (nn b42 _ rfl) (ltd rfl) (fun a ha => ?_)
              refine s_no_g rfl rfl ha (rfl : List.lookup 40 _ = _) (nn b42 _ rfl) (ltd rfl) (fun a ha => ?_)
              refine s_no_g rfl rfl ha (rfl : List.lookup 40 _ = _) (nn b42 _ rfl) (ltd rfl) (fun a ha => ?_)
              refine s_do rfl ha (ltd rfl) (d_pick_f ha rfl b42 rfl) (fun a ha => ?_)
              refine s_nil ?_
              have hS : Has 52 [(44, (.bool false)), (0, (.pointer a0)), (1, (.int .i64 a1)), (4, (.int .i64 x1)), (5, (.int .i64 x2)), (6, (.int .i64 x3)), (7, (.int .i64 x4)), (10, (.int .i64 v33)), (11, (.int .i64 v34)), (13, (.int .i64 x4))] _ := ha.sub ⟨rfl, rfl, rfl, rfl, rfl, rfl, rfl, rfl, rfl, rfl, trivial⟩
              cases h
              exact hk41 _ hS
    · refine wp_exit ?_
      refine t_x ?_
      have hS : Has 52 [(4, (.int .i64 x1)), (5, (.int .i64 x2)), (6, (.int .i64 x3))] _ := ha.sub ⟨rfl, rfl, rfl, trivial⟩
      cases h
      cases hr13 _ rfl
      refine lp_x ?_
      exact hk12 _ hS

noncomputable def mark_Cells_Get (a0 : Option Addr) (a1 : Int) (w : World) : Option (Int × Bool × World) :=
  bind2 (if (a0.isNone) = true then
  (some (true, w))
  else
  (if (decide (a1 < 0)) = true then
  (some (true, w))
  else
  ((a0).bind fun p7 =>
  (ldI .i64 w (p7.add 2)).bind fun v9 =>
  some ((decide (v9 ≤ a1)), w)))) fun v1 w2 =>
  if v1 = true then
  (some (0, false, w2))
  else
  (bind4 (mark_Cells_found a0 a1 w2) fun v12 v13 v14 w15 =>
  some (v14, (decide (0 ≤ v12)), w15))
set_option maxHeartbeats 1000000 in
set_option maxRecDepth 100000 in
theorem mark_Cells_Get_ok {a0 : Option Addr} {a1 : Int} {w w' : World} {r0 : Int} {r1 : Bool} (h : mark_Cells_Get a0 a1 w = some (r0, r1, w')) : Calls Try.prog 35 #[(.pointer a0), (.int .i64 a1)] w fun e w'' => e = .returned (.tuple #[(.int .i64 r0), (.bool r1)]) ∧ w'' = w' := by
  refine calls_dec (n := 33) Try.func35 rfl Try.ntmps35 (by simp) (fun a ha => ?_)
  unfold mark_Cells_Get at h
  refine wp_seq ?_
  refine region_lit ?_
  refine s_do rfl ha (ltd rfl) (d_assign ha rfl) (fun a ha => ?_)
  refine s_do rfl ha (ltd rfl) (d_assign ha rfl) (fun a ha => ?_)
  refine s_nil ?_
  refine t_n ?_
  replace ha : Has 33 [(0, (.pointer a0)), (1, (.int .i64 a1))] _ := ha.sub ⟨rfl, rfl, trivial⟩
  refine wp_seq ?_
  refine wp_seq ?_
  obtain ⟨v1, w2, e3, h⟩ := bs2 h
  refine reg_join (n := 33) (L := [(22, (.bool v1)), (0, (.pointer a0)), (1, (.int .i64 a1))]) (w' := w2) (fun a ha => ?_) (fun hk4 => ?_)
  · refine t_n ?_
    replace ha : Has 33 [(0, (.pointer a0)), (1, (.int .i64 a1)), (22, (.bool v1))] _ := ha.sub ⟨rfl, rfl, rfl, trivial⟩
    refine s_cond ha rfl h (fun b11 h => ?_) (fun b11 h => ?_)
    · refine wp_seq ?_
      refine region_lit ?_
      refine s_do rfl ha (ltd rfl) (d_assign ha rfl) (fun a ha => ?_)
      refine s_do rfl ha (ltd rfl) (d_assign ha rfl) (fun a ha => ?_)
      refine s_nil ?_
      refine t_n ?_
      replace ha : Has 33 [(4, (.int .i64 0)), (5, (.bool false))] _ := ha.sub ⟨rfl, rfl, trivial⟩
      refine wp_ret ?_
      refine t_r ?_
      have hS := ha
      cases h
      exact ret2 Try.results35 hS rfl rfl ⟨rfl, rfl⟩
    · refine wp_skip ?_
      refine t_n ?_
      replace ha : Has 33 [(0, (.pointer a0)), (1, (.int .i64 a1))] _ := ha.sub ⟨rfl, rfl, trivial⟩
      refine wp_seq ?_
      refine region_lit ?_
      refine s_do rfl ha (ltd rfl) (d_move ha rfl) (fun a ha => ?_)
      refine s_do rfl ha (ltd rfl) (d_move ha rfl) (fun a ha => ?_)
      obtain ⟨v12, v13, v14, w15, e16, h⟩ := bs4 h
      refine s_do rfl ha (ltd rfl) (d_call (xs := [_, _]) (vs := [(.pointer a0), (.int .i64 a1)]) ha ⟨rfl, rfl, trivial⟩ Try.call52 (mark_Cells_found_ok e16)) (fun a ha => ?_)
      refine s_do rfl ha (ltd rfl) (d_move ha rfl) (fun a ha => ?_)
      refine s_do rfl ha (ltd rfl) (d_ext ha rfl rfl) (fun a ha => ?_)
      refine s_do rfl ha (ltd rfl) (d_ext ha rfl rfl) (fun a ha => ?_)
      refine s_do rfl ha (ltd rfl) (d_ext ha rfl rfl) (fun a ha => ?_)
      refine s_do rfl ha (ltd rfl) (d_assign ha rfl) (fun a ha => ?_)
      refine s_do rfl ha (ltd rfl) (d_assign ha rfl) (fun a ha => ?_)
      refine s_do rfl ha (ltd rfl) (d_assign ha rfl) (fun a ha => ?_)
      refine s_nil ?_
      refine t_n ?_
      replace ha : Has 33 [(6, (.int .i64 v12)), (8, (.int .i64 v14))] _ := ha.sub ⟨rfl, rfl, trivial⟩
      refine wp_seq ?_
      refine region_lit ?_
      refine s_do rfl ha (ltd rfl) (d_move ha rfl) (fun a ha => ?_)
      refine s_do rfl ha (ltd rfl) (d_move ha rfl) (fun a ha => ?_)
      refine s_do rfl ha (ltd rfl) (d_ge ha rfl rfl) (fun a ha => ?_)
      refine s_do rfl ha (ltd rfl) (d_assign ha rfl) (fun a ha => ?_)
      refine s_do rfl ha (ltd rfl) (d_assign ha rfl) (fun a ha => ?_)
      refine s_nil ?_
      refine t_n ?_
      replace ha : Has 33 [(4, (.int .i64 v14)), (5, (.bool (decide (0 ≤ v12))))] _ := ha.sub ⟨rfl, rfl, trivial⟩
      refine wp_ret ?_
      have hS := ha
      cases h
      exact ret2 Try.results35 hS rfl rfl ⟨rfl, rfl⟩
  · clear h
    have h := e3
    refine region_lit ?_
    refine s_do rfl ha (ltd rfl) (d_move ha rfl) (fun a ha => ?_)
    refine s_do rfl ha (ltd rfl) (d_eqN ha rfl rfl Try.runUnderlying58) (fun a ha => ?_)
    refine s_do rfl ha (ltd rfl) (d_move ha rfl) (fun a ha => ?_)
    refine ite_s h (fun b5 h => ?_) (fun b5 h => ?_)
    · refine s_no_g rfl rfl ha (rfl : List.lookup 11 _ = _) (tn b5) (ltd rfl) (fun a ha => ?_)
      refine s_no_g rfl rfl ha (rfl : List.lookup 11 _ = _) (tn b5) (ltd rfl) (fun a ha => ?_)
      refine s_do rfl ha (ltd rfl) (d_pick_t ha rfl b5 rfl) (fun a ha => ?_)
      refine s_do rfl ha (ltd rfl) (d_move ha rfl) (fun a ha => ?_)
      refine s_no_g rfl rfl ha (rfl : List.lookup 15 _ = _) (tn rfl) (ltd rfl) (fun a ha => ?_)
      refine s_no_g rfl rfl ha (rfl : List.lookup 15 _ = _) (tn rfl) (ltd rfl) (fun a ha => ?_)
      refine s_no_g rfl rfl ha (rfl : List.lookup 15 _ = _) (tn rfl) (ltd rfl) (fun a ha => ?_)
      refine s_no_g rfl rfl ha (rfl : List.lookup 15 _ = _) (tn rfl) (ltd rfl) (fun a ha => ?_)
      refine s_no_g rfl rfl ha (rfl : List.lookup 15 _ = _) (tn rfl) (ltd rfl) (fun a ha => ?_)
      refine s_no_g rfl rfl ha (rfl : List.lookup 15 _ = _) (tn rfl) (ltd rfl) (fun a ha => ?_)
      refine s_do rfl ha (ltd rfl) (d_pick_t ha rfl rfl rfl) (fun a ha => ?_)
      refine s_nil ?_
      have hS : Has 33 [(22, (.bool true)), (0, (.pointer a0)), (1, (.int .i64 a1))] _ := ha.sub ⟨rfl, rfl, rfl, trivial⟩
      cases h
      exact hk4 _ hS
    · refine s_do_g2 rfl rfl ha (rfl : List.lookup 11 _ = _) (nt b5) (ltd rfl) (d_move ha rfl) (fun a ha => ?_)
      refine s_do_g2 rfl rfl ha (rfl : List.lookup 11 _ = _) (nt b5) (ltd rfl) (d_lt ha rfl rfl) (fun a ha => ?_)
      refine s_do rfl ha (ltd rfl) (d_pick_f ha rfl b5 rfl) (fun a ha => ?_)
      refine s_do rfl ha (ltd rfl) (d_move ha rfl) (fun a ha => ?_)
      refine ite_s h (fun b6 h => ?_) (fun b6 h => ?_)
      · refine s_no_g rfl rfl ha (rfl : List.lookup 15 _ = _) (tn b6) (ltd rfl) (fun a ha => ?_)
        refine s_no_g rfl rfl ha (rfl : List.lookup 15 _ = _) (tn b6) (ltd rfl) (fun a ha => ?_)
        refine s_no_g rfl rfl ha (rfl : List.lookup 15 _ = _) (tn b6) (ltd rfl) (fun a ha => ?_)
        refine s_no_g rfl rfl ha (rfl : List.lookup 15 _ = _) (tn b6) (ltd rfl) (fun a ha => ?_)
        refine s_no_g rfl rfl ha (rfl : List.lookup 15 _ = _) (tn b6) (ltd rfl) (fun a ha => ?_)
        refine s_no_g rfl rfl ha (rfl : List.lookup 15 _ = _) (tn b6) (ltd rfl) (fun a ha => ?_)
        refine s_do rfl ha (ltd rfl) (d_pick_t ha rfl b6 rfl) (fun a ha => ?_)
        refine s_nil ?_
        have hS : Has 33 [(22, (.bool true)), (0, (.pointer a0)), (1, (.int .i64 a1))] _ := ha.sub ⟨rfl, rfl, rfl, trivial⟩
        cases h
        exact hk4 _ hS
      · refine s_do_g2 rfl rfl ha (rfl : List.lookup 15 _ = _) (nt b6) (ltd rfl) (d_move ha rfl) (fun a ha => ?_)
        refine s_do_g2 rfl rfl ha (rfl : List.lookup 15 _ = _) (nt b6) (ltd rfl) (d_move ha rfl) (fun a ha => ?_)
        obtain ⟨p7, e8, h⟩ := bs1 h
        refine s_do_g2 rfl rfl ha (rfl : List.lookup 15 _ = _) (nt b6) (ltd rfl) (d_nilp ha rfl e8) (fun a ha => ?_)
        refine s_do_g2 rfl rfl ha (rfl : List.lookup 15 _ = _) (nt b6) (ltd rfl) (d_fa ha rfl Try.runUnderlying99 rfl rfl Try.sizeOf3 (by decide)) (fun a ha => ?_)
        obtain ⟨v9, e10, h⟩ := bs1 h
        refine s_do_g2 rfl rfl ha (rfl : List.lookup 15 _ = _) (nt b6) (ltd rfl) (d_ld ha rfl Try.isAgg3 (ldI_c e10)) (fun a ha => ?_)
        refine s_do_g2 rfl rfl ha (rfl : List.lookup 15 _ = _) (nt b6) (ltd rfl) (d_ge ha rfl rfl) (fun a ha => ?_)
        refine s_do rfl ha (ltd rfl) (d_pick_f ha rfl b6 rfl) (fun a ha => ?_)
        refine s_nil ?_
        have hS : Has 33 [(22, (.bool (decide (v9 ≤ a1)))), (0, (.pointer a0)), (1, (.int .i64 a1))] _ := ha.sub ⟨rfl, rfl, rfl, trivial⟩
        cases h
        exact hk4 _ hS

noncomputable def mark_Open (a0 : Option Addr) (a1 : Int) (a2 : Int) (w : World) : Option ((Option Addr) × Int × World) :=
  if (a0.isNone) = true then
  (some (none, 1, w))
  else
  (bind2 (if (decide (a2 < 1)) = true then
  (some (true, w))
  else
  (if (decide (32 < a2)) = true then
  (some (true, w))
  else
  (if (decide (a1 < 0)) = true then
  (some (true, w))
  else
  (bind2 (sector_Disk_Size a0 w) fun v9 w10 =>
  some ((decide ((IntKind.wrap .i64 (v9 - (IntKind.wrap .i64 (2 * a2)))) < a1)), w10))))) fun v2 w3 =>
  if v2 = true then
  (some (none, 2, w3))
  else
  (bind2 (mk w3 99 ([.pointer a0, .int .i64 a1, .int .i64 a2])) fun p13 w14 =>
  some ((some p13), 0, w14)))
set_option maxHeartbeats 1000000 in
set_option maxRecDepth 100000 in
theorem mark_Open_ok {a0 : Option Addr} {a1 : Int} {a2 : Int} {w w' : World} {r0 : Option Addr} {r1 : Int} (h : mark_Open a0 a1 a2 w = some (r0, r1, w')) : Calls Try.prog 36 #[(.pointer a0), (.int .i64 a1), (.int .i64 a2)] w fun e w'' => e = .returned (.tuple #[(.pointer r0), (.int .i64 r1)]) ∧ w'' = w' := by
  refine calls_dec (n := 36) Try.func36 rfl Try.ntmps36 (by simp) (fun a ha => ?_)
  unfold mark_Open at h
  refine wp_seq ?_
  refine region_lit ?_
  refine s_do rfl ha (ltd rfl) (d_assign ha rfl) (fun a ha => ?_)
  refine s_do rfl ha (ltd rfl) (d_assign ha rfl) (fun a ha => ?_)
  refine s_nil ?_
  refine t_n ?_
  replace ha : Has 36 [(0, (.pointer a0)), (1, (.int .i64 a1)), (2, (.int .i64 a2))] _ := ha.sub ⟨rfl, rfl, rfl, trivial⟩
  refine wp_seq ?_
  refine wp_block ?_
  refine wp_seq ?_
  refine region_lit ?_
  refine s_do rfl ha (ltd rfl) (d_move ha rfl) (fun a ha => ?_)
  refine s_do rfl ha (ltd rfl) (d_eqN ha rfl rfl Try.runUnderlying22) (fun a ha => ?_)
  refine s_do rfl ha (ltd rfl) (d_assign ha rfl) (fun a ha => ?_)
  refine s_nil ?_
  refine t_n ?_
  replace ha : Has 36 [(0, (.pointer a0)), (1, (.int .i64 a1)), (2, (.int .i64 a2)), (8, (.bool (a0.isNone)))] _ := ha.sub ⟨rfl, rfl, rfl, rfl, trivial⟩
  refine s_cond ha rfl h (fun b1 h => ?_) (fun b1 h => ?_)
  · refine wp_seq ?_
    refine region_lit ?_
    refine s_do rfl ha (ltd rfl) (d_assign ha rfl) (fun a ha => ?_)
    refine s_do rfl ha (ltd rfl) (d_assign ha rfl) (fun a ha => ?_)
    refine s_nil ?_
    refine t_n ?_
    replace ha : Has 36 [(6, (.pointer none)), (7, (.int .i64 1))] _ := ha.sub ⟨rfl, rfl, trivial⟩
    refine wp_ret ?_
    refine b_r ?_
    refine t_r ?_
    have hS := ha
    cases h
    exact ret2 Try.results36 hS rfl rfl ⟨rfl, rfl⟩
  · refine wp_seq ?_
    obtain ⟨v2, w3, e4, h⟩ := bs2 h
    refine reg_join (n := 36) (L := [(11, (.bool v2)), (0, (.pointer a0)), (1, (.int .i64 a1)), (2, (.int .i64 a2))]) (w' := w3) (fun a ha => ?_) (fun hk5 => ?_)
    · refine t_n ?_
      replace ha : Has 36 [(0, (.pointer a0)), (1, (.int .i64 a1)), (2, (.int .i64 a2)), (11, (.bool v2))] _ := ha.sub ⟨rfl, rfl, rfl, rfl, trivial⟩
      refine s_cond ha rfl h (fun b12 h => ?_) (fun b12 h => ?_)
      · refine wp_seq ?_
        refine region_lit ?_
        refine s_do rfl ha (ltd rfl) (d_assign ha rfl) (fun a ha => ?_)
        refine s_do rfl ha (ltd rfl) (d_assign ha rfl) (fun a ha => ?_)
        refine s_nil ?_
        refine t_n ?_
        replace ha : Has 36 [(6, (.pointer none)), (7, (.int .i64 2))] _ := ha.sub ⟨rfl, rfl, trivial⟩
        refine wp_ret ?_
        refine b_r ?_
        refine t_r ?_
        have hS := ha
        cases h
        exact ret2 Try.results36 hS rfl rfl ⟨rfl, rfl⟩
      · refine wp_skip ?_
        refine b_n ?_
        refine t_n ?_
        replace ha : Has 36 [(0, (.pointer a0)), (1, (.int .i64 a1)), (2, (.int .i64 a2))] _ := ha.sub ⟨rfl, rfl, rfl, trivial⟩
        refine wp_seq ?_
        refine region_lit ?_
        refine s_do rfl ha (ltd rfl) (d_move ha rfl) (fun a ha => ?_)
        refine s_do rfl ha (ltd rfl) (d_move ha rfl) (fun a ha => ?_)
        refine s_do rfl ha (ltd rfl) (d_move ha rfl) (fun a ha => ?_)
        refine s_do rfl ha (ltd rfl) (d_build (vs := [(0, (.pointer a0)), (1, (.int .i64 a1)), (2, (.int .i64 a2))]) (pl := #[(0, 1), (1, 1), (2, 1)]) (cs := ([.pointer a0, .int .i64 a1, .int .i64 a2])) ha ⟨rfl, rfl, rfl, rfl, rfl, rfl, trivial⟩ Try.zeroValue99 Try.runUnderlying99 (by intro w; kernel_rfl) (by kernel_rfl)) (fun a ha => ?_)
        obtain ⟨p13, w14, e15, h⟩ := bs2 h
        refine s_do rfl ha (ltd rfl) (d_box ha rfl rfl e15) (fun a ha => ?_)
        refine s_do rfl ha (ltd rfl) (d_assign ha rfl) (fun a ha => ?_)
        refine s_do rfl ha (ltd rfl) (d_assign ha rfl) (fun a ha => ?_)
        refine s_nil ?_
        refine t_n ?_
        replace ha : Has 36 [(6, (.pointer (some p13))), (7, (.int .i64 0))] _ := ha.sub ⟨rfl, rfl, trivial⟩
        refine wp_ret ?_
        have hS := ha
        cases h
        exact ret2 Try.results36 hS rfl rfl ⟨rfl, rfl⟩
    · clear h
      have h := e4
      refine region_lit ?_
      refine s_do rfl ha (ltd rfl) (d_move ha rfl) (fun a ha => ?_)
      refine s_do rfl ha (ltd rfl) (d_lt ha rfl rfl) (fun a ha => ?_)
      refine s_do rfl ha (ltd rfl) (d_move ha rfl) (fun a ha => ?_)
      refine ite_s h (fun b6 h => ?_) (fun b6 h => ?_)
      · refine s_no_g rfl rfl ha (rfl : List.lookup 14 _ = _) (tn b6) (ltd rfl) (fun a ha => ?_)
        refine s_no_g rfl rfl ha (rfl : List.lookup 14 _ = _) (tn b6) (ltd rfl) (fun a ha => ?_)
        refine s_do rfl ha (ltd rfl) (d_pick_t ha rfl b6 rfl) (fun a ha => ?_)
        refine s_do rfl ha (ltd rfl) (d_move ha rfl) (fun a ha => ?_)
        refine s_no_g rfl rfl ha (rfl : List.lookup 18 _ = _) (tn rfl) (ltd rfl) (fun a ha => ?_)
        refine s_no_g rfl rfl ha (rfl : List.lookup 18 _ = _) (tn rfl) (ltd rfl) (fun a ha => ?_)
        refine s_do rfl ha (ltd rfl) (d_pick_t ha rfl rfl rfl) (fun a ha => ?_)
        refine s_do rfl ha (ltd rfl) (d_move ha rfl) (fun a ha => ?_)
        refine s_no_g rfl rfl ha (rfl : List.lookup 22 _ = _) (tn rfl) (ltd rfl) (fun a ha => ?_)
        refine s_no_g rfl rfl ha (rfl : List.lookup 22 _ = _) (tn rfl) (ltd rfl) (fun a ha => ?_)
        refine s_no_g rfl rfl ha (rfl : List.lookup 22 _ = _) (tn rfl) (ltd rfl) (fun a ha => ?_)
        refine s_no_g rfl rfl ha (rfl : List.lookup 22 _ = _) (tn rfl) (ltd rfl) (fun a ha => ?_)
        refine s_no_g rfl rfl ha (rfl : List.lookup 22 _ = _) (tn rfl) (ltd rfl) (fun a ha => ?_)
        refine s_no_g rfl rfl ha (rfl : List.lookup 22 _ = _) (tn rfl) (ltd rfl) (fun a ha => ?_)
        refine s_no_g rfl rfl ha (rfl : List.lookup 22 _ = _) (tn rfl) (ltd rfl) (fun a ha => ?_)
        refine s_do rfl ha (ltd rfl) (d_pick_t ha rfl rfl rfl) (fun a ha => ?_)
        refine s_do rfl ha (ltd rfl) (d_assign ha rfl) (fun a ha => ?_)
        refine s_nil ?_
        have hS : Has 36 [(11, (.bool true)), (0, (.pointer a0)), (1, (.int .i64 a1)), (2, (.int .i64 a2))] _ := ha.sub ⟨rfl, rfl, rfl, rfl, trivial⟩
        cases h
        exact hk5 _ hS
      · refine s_do_g2 rfl rfl ha (rfl : List.lookup 14 _ = _) (nt b6) (ltd rfl) (d_move ha rfl) (fun a ha => ?_)
        refine s_do_g2 rfl rfl ha (rfl : List.lookup 14 _ = _) (nt b6) (ltd rfl) (d_gt ha rfl rfl) (fun a ha => ?_)
        refine s_do rfl ha (ltd rfl) (d_pick_f ha rfl b6 rfl) (fun a ha => ?_)
        refine s_do rfl ha (ltd rfl) (d_move ha rfl) (fun a ha => ?_)
        refine ite_s h (fun b7 h => ?_) (fun b7 h => ?_)
        · refine s_no_g rfl rfl ha (rfl : List.lookup 18 _ = _) (tn b7) (ltd rfl) (fun a ha => ?_)
          refine s_no_g rfl rfl ha (rfl : List.lookup 18 _ = _) (tn b7) (ltd rfl) (fun a ha => ?_)
          refine s_do rfl ha (ltd rfl) (d_pick_t ha rfl b7 rfl) (fun a ha => ?_)
          refine s_do rfl ha (ltd rfl) (d_move ha rfl) (fun a ha => ?_)
          refine s_no_g rfl rfl ha (rfl : List.lookup 22 _ = _) (tn rfl) (ltd rfl) (fun a ha => ?_)
          refine s_no_g rfl rfl ha (rfl : List.lookup 22 _ = _) (tn rfl) (ltd rfl) (fun a ha => ?_)
          refine s_no_g rfl rfl ha (rfl : List.lookup 22 _ = _) (tn rfl) (ltd rfl) (fun a ha => ?_)
          refine s_no_g rfl rfl ha (rfl : List.lookup 22 _ = _) (tn rfl) (ltd rfl) (fun a ha => ?_)
          refine s_no_g rfl rfl ha (rfl : List.lookup 22 _ = _) (tn rfl) (ltd rfl) (fun a ha => ?_)
          refine s_no_g rfl rfl ha (rfl : List.lookup 22 _ = _) (tn rfl) (ltd rfl) (fun a ha => ?_)
          refine s_no_g rfl rfl ha (rfl : List.lookup 22 _ = _) (tn rfl) (ltd rfl) (fun a ha => ?_)
          refine s_do rfl ha (ltd rfl) (d_pick_t ha rfl rfl rfl) (fun a ha => ?_)
          refine s_do rfl ha (ltd rfl) (d_assign ha rfl) (fun a ha => ?_)
          refine s_nil ?_
          have hS : Has 36 [(11, (.bool true)), (0, (.pointer a0)), (1, (.int .i64 a1)), (2, (.int .i64 a2))] _ := ha.sub ⟨rfl, rfl, rfl, rfl, trivial⟩
          cases h
          exact hk5 _ hS
        · refine s_do_g2 rfl rfl ha (rfl : List.lookup 18 _ = _) (nt b7) (ltd rfl) (d_move ha rfl) (fun a ha => ?_)
          refine s_do_g2 rfl rfl ha (rfl : List.lookup 18 _ = _) (nt b7) (ltd rfl) (d_lt ha rfl rfl) (fun a ha => ?_)
          refine s_do rfl ha (ltd rfl) (d_pick_f ha rfl b7 rfl) (fun a ha => ?_)
          refine s_do rfl ha (ltd rfl) (d_move ha rfl) (fun a ha => ?_)
          refine ite_s h (fun b8 h => ?_) (fun b8 h => ?_)
          · refine s_no_g rfl rfl ha (rfl : List.lookup 22 _ = _) (tn b8) (ltd rfl) (fun a ha => ?_)
            refine s_no_g rfl rfl ha (rfl : List.lookup 22 _ = _) (tn b8) (ltd rfl) (fun a ha => ?_)
            refine s_no_g rfl rfl ha (rfl : List.lookup 22 _ = _) (tn b8) (ltd rfl) (fun a ha => ?_)
            refine s_no_g rfl rfl ha (rfl : List.lookup 22 _ = _) (tn b8) (ltd rfl) (fun a ha => ?_)
            refine s_no_g rfl rfl ha (rfl : List.lookup 22 _ = _) (tn b8) (ltd rfl) (fun a ha => ?_)
            refine s_no_g rfl rfl ha (rfl : List.lookup 22 _ = _) (tn b8) (ltd rfl) (fun a ha => ?_)
            refine s_no_g rfl rfl ha (rfl : List.lookup 22 _ = _) (tn b8) (ltd rfl) (fun a ha => ?_)
            refine s_do rfl ha (ltd rfl) (d_pick_t ha rfl b8 rfl) (fun a ha => ?_)
            refine s_do rfl ha (ltd rfl) (d_assign ha rfl) (fun a ha => ?_)
            refine s_nil ?_
            have hS : Has 36 [(11, (.bool true)), (0, (.pointer a0)), (1, (.int .i64 a1)), (2, (.int .i64 a2))] _ := ha.sub ⟨rfl, rfl, rfl, rfl, trivial⟩
            cases h
            exact hk5 _ hS
          · refine s_do_g2 rfl rfl ha (rfl : List.lookup 22 _ = _) (nt b8) (ltd rfl) (d_move ha rfl) (fun a ha => ?_)
            refine s_do_g2 rfl rfl ha (rfl : List.lookup 22 _ = _) (nt b8) (ltd rfl) (d_move ha rfl) (fun a ha => ?_)
            obtain ⟨v9, w10, e11, h⟩ := bs2 h
            refine s_do_g2 rfl rfl ha (rfl : List.lookup 22 _ = _) (nt b8) (ltd rfl) (d_call (xs := [_]) (vs := [(.pointer a0)]) ha ⟨rfl, trivial⟩ Try.call19 (sector_Disk_Size_ok e11)) (fun a ha => ?_)
            refine s_do_g2 rfl rfl ha (rfl : List.lookup 22 _ = _) (nt b8) (ltd rfl) (d_move ha rfl) (fun a ha => ?_)
            refine s_do_g2 rfl rfl ha (rfl : List.lookup 22 _ = _) (nt b8) (ltd rfl) (d_mul ha rfl rfl) (fun a ha => ?_)
            refine s_do_g2 rfl rfl ha (rfl : List.lookup 22 _ = _) (nt b8) (ltd rfl) (d_sub ha rfl rfl) (fun a ha => ?_)
            refine s_do_g2 rfl rfl ha (rfl : List.lookup 22 _ = _) (nt b8) (ltd rfl) (d_gt ha rfl rfl) (fun a ha => ?_)
            refine s_do rfl ha (ltd rfl) (d_pick_f ha rfl b8 rfl) (fun a ha => ?_)
            refine s_do rfl ha (ltd rfl) (d_assign ha rfl) (fun a ha => ?_)
            refine s_nil ?_
            have hS : Has 36 [(11, (.bool (decide ((IntKind.wrap .i64 (v9 - (IntKind.wrap .i64 (2 * a2)))) < a1)))), (0, (.pointer a0)), (1, (.int .i64 a1)), (2, (.int .i64 a2))] _ := ha.sub ⟨rfl, rfl, rfl, rfl, trivial⟩
            cases h
            exact hk5 _ hS

noncomputable def octet_Key_l1 (s1 : Sl) (a0 : Int) (x4 : Int) (w5 : World) : Option ((Int × World) ⊕ (World)) :=
  if (decide (x4 < (s1.n : Int))) = true then
  ((shrI .u64 (bxor .u64 (IntKind.wrap .u64 a0) 9223372036854775808) (IntKind.wrap .i64 (56 - (IntKind.wrap .i64 (8 * x4))))).bind fun v12 =>
  (ix s1 x4 1).bind fun p14 =>
  (stV w5 p14 (.int .u8 (IntKind.wrap .u8 v12))).bind fun w16 =>
  some (.inl ((IntKind.wrap .i64 (x4 + 1)), w16)))
  else
  (some (.inr w5))
noncomputable def octet_Key (a0 : Int) (w : World) : Option (Sl × World) :=
  bind2 (mkS Try.prog 29 8 8 w) fun s1 w2 =>
  (loopF (fun s : Int × World => octet_Key_l1 s1 a0 s.1 s.2) (0, w2)).bind fun w8 =>
  some (s1, w8)
set_option maxHeartbeats 1000000 in
set_option maxRecDepth 100000 in
theorem octet_Key_ok {a0 : Int} {w w' : World} {r0 : Sl} (h : octet_Key a0 w = some (r0, w')) : Calls Try.prog 53 #[(.int .i64 a0)] w fun e w'' => e = .returned (Sl.v r0) ∧ w'' = w' := by
  refine calls_dec (n := 26) Try.func53 rfl Try.ntmps53 (by simp) (fun a ha => ?_)
  unfold octet_Key at h
  refine wp_seq ?_
  refine region_lit ?_
  refine s_do rfl ha (ltd rfl) (d_assign ha rfl) (fun a ha => ?_)
  refine s_nil ?_
  refine t_n ?_
  replace ha : Has 26 [(0, (.int .i64 a0))] _ := ha.sub ⟨rfl, trivial⟩
  refine wp_seq ?_
  refine region_lit ?_
  refine s_do rfl ha (ltd rfl) (d_move ha rfl) (fun a ha => ?_)
  refine s_do rfl ha (ltd rfl) (d_conv ha rfl Try.runUnderlying2 Try.runUnderlying47) (fun a ha => ?_)
  refine s_do rfl ha (ltd rfl) (d_xor ha rfl rfl) (fun a ha => ?_)
  refine s_do rfl ha (ltd rfl) (d_assign ha rfl) (fun a ha => ?_)
  refine s_nil ?_
  refine t_n ?_
  replace ha : Has 26 [(3, (.int .u64 (bxor .u64 (IntKind.wrap .u64 a0) 9223372036854775808)))] _ := ha.sub ⟨rfl, trivial⟩
  refine wp_seq ?_
  refine region_lit ?_
  obtain ⟨s1, w2, e3, h⟩ := bs2 h
  refine s_do rfl ha (ltd rfl) (d_mkS ha rfl rfl e3) (fun a ha => ?_)
  refine s_do rfl ha (ltd rfl) (d_assign ha rfl) (fun a ha => ?_)
  refine s_nil ?_
  refine t_n ?_
  replace ha : Has 26 [(3, (.int .u64 (bxor .u64 (IntKind.wrap .u64 a0) 9223372036854775808))), (4, (Sl.v s1))] _ := ha.sub ⟨rfl, rfl, trivial⟩
  refine wp_seq ?_
  refine wp_seq ?_
  refine region_lit ?_
  refine s_do rfl ha (ltd rfl) (d_move ha rfl) (fun a ha => ?_)
  refine s_do rfl ha (ltd rfl) (d_lenS ha rfl Try.runUnderlying29) (fun a ha => ?_)
  refine s_do rfl ha (ltd rfl) (d_move ha rfl) (fun a ha => ?_)
  refine s_nil ?_
  refine t_n ?_
  replace ha : Has 26 [(3, (.int .u64 (bxor .u64 (IntKind.wrap .u64 a0) 9223372036854775808))), (4, (Sl.v s1)), (11, (.int .i64 (s1.n : Int))), (12, (.int .i64 0))] _ := ha.sub ⟨rfl, rfl, rfl, rfl, trivial⟩
  refine wp_block ?_
  obtain ⟨w8, e7, h⟩ := bs1 h
  refine s_loop1 (n := 26) (L := [(4, (Sl.v s1))]) (w' := w8) (e := .exit 0) (I := fun (s : Int × World) a w => Has 26 [(12, (.int .i64 s.1)), (3, (.int .u64 (bxor .u64 (IntKind.wrap .u64 a0) 9223372036854775808))), (4, (Sl.v s1)), (11, (.int .i64 (s1.n : Int)))] a ∧ w = s.2) ⟨ha.sub ⟨rfl, rfl, rfl, rfl, trivial⟩, rfl⟩ e7 (fun a ha => ?_) (fun hk9 => ?_)
  · refine b_hit ?_
    refine t_n ?_
    replace ha : Has 26 [(4, (Sl.v s1))] _ := ha.sub ⟨rfl, trivial⟩
    refine wp_seq ?_
    refine region_lit ?_
    refine s_do rfl ha (ltd rfl) (d_move ha rfl) (fun a ha => ?_)
    refine s_do rfl ha (ltd rfl) (d_assign ha rfl) (fun a ha => ?_)
    refine s_nil ?_
    refine t_n ?_
    replace ha : Has 26 [(2, (Sl.v s1))] _ := ha.sub ⟨rfl, trivial⟩
    refine wp_ret ?_
    have hS := ha
    cases h
    exact ret1 Try.results53 hS rfl ⟨rfl, rfl⟩
  · clear h
    rintro ⟨x4, w5⟩ a wq o ⟨ha, hwq⟩ h hr10
    obtain rfl : w5 = wq := hwq.symm
    have ha : Has 26 [(12, (.int .i64 x4)), (3, (.int .u64 (bxor .u64 (IntKind.wrap .u64 a0) 9223372036854775808))), (4, (Sl.v s1)), (11, (.int .i64 (s1.n : Int)))] a := ha
    have h : octet_Key_l1 s1 a0 x4 w5 = some o := h
    unfold octet_Key_l1 at h
    refine wp_seq ?_
    refine region_lit ?_
    refine s_do rfl ha (ltd rfl) (d_lt ha rfl rfl) (fun a ha => ?_)
    refine s_nil ?_
    refine t_n ?_
    replace ha : Has 26 [(3, (.int .u64 (bxor .u64 (IntKind.wrap .u64 a0) 9223372036854775808))), (4, (Sl.v s1)), (11, (.int .i64 (s1.n : Int))), (12, (.int .i64 x4)), (13, (.bool (decide (x4 < (s1.n : Int)))))] _ := ha.sub ⟨rfl, rfl, rfl, rfl, rfl, trivial⟩
    refine wp_seq ?_
    refine s_cond ha rfl h (fun b11 h => ?_) (fun b11 h => ?_)
    · refine wp_skip ?_
      refine t_n ?_
      replace ha : Has 26 [(3, (.int .u64 (bxor .u64 (IntKind.wrap .u64 a0) 9223372036854775808))), (4, (Sl.v s1)), (11, (.int .i64 (s1.n : Int))), (12, (.int .i64 x4))] _ := ha.sub ⟨rfl, rfl, rfl, rfl, trivial⟩
      refine wp_seq ?_
      refine wp_block ?_
      refine wp_seq ?_
      refine region_lit ?_
      refine s_do rfl ha (ltd rfl) (d_move ha rfl) (fun a ha => ?_)
      refine s_do rfl ha (ltd rfl) (d_assign ha rfl) (fun a ha => ?_)
      refine s_nil ?_
      refine t_n ?_
      replace ha : Has 26 [(3, (.int .u64 (bxor .u64 (IntKind.wrap .u64 a0) 9223372036854775808))), (4, (Sl.v s1)), (5, (.int .i64 x4)), (11, (.int .i64 (s1.n : Int))), (12, (.int .i64 x4))] _ := ha.sub ⟨rfl, rfl, rfl, rfl, rfl, trivial⟩
      refine region_lit ?_
      refine s_do rfl ha (ltd rfl) (d_move ha rfl) (fun a ha => ?_)
      refine s_do rfl ha (ltd rfl) (d_move ha rfl) (fun a ha => ?_)
      refine s_do rfl ha (ltd rfl) (d_move ha rfl) (fun a ha => ?_)
      refine s_do rfl ha (ltd rfl) (d_move ha rfl) (fun a ha => ?_)
      refine s_do rfl ha (ltd rfl) (d_mul ha rfl rfl) (fun a ha => ?_)
      refine s_do rfl ha (ltd rfl) (d_sub ha rfl rfl) (fun a ha => ?_)
      obtain ⟨v12, e13, h⟩ := bs1 h
      refine s_do rfl ha (ltd rfl) (d_shr ha rfl rfl e13) (fun a ha => ?_)
      refine s_do rfl ha (ltd rfl) (d_conv ha rfl Try.runUnderlying47 Try.runUnderlying5) (fun a ha => ?_)
      obtain ⟨p14, e15, h⟩ := bs1 h
      refine s_do rfl ha (ltd rfl) (d_ix ha rfl rfl Try.runUnderlying29 Try.sizeOf5 e15) (fun a ha => ?_)
      obtain ⟨w16, e17, h⟩ := bs1 h
      refine s_do rfl ha (ltd rfl) (d_st ha rfl rfl Try.sizeOf5 e17) (fun a ha => ?_)
      refine s_nil ?_
      refine b_n ?_
      refine t_n ?_
      replace ha : Has 26 [(3, (.int .u64 (bxor .u64 (IntKind.wrap .u64 a0) 9223372036854775808))), (4, (Sl.v s1)), (11, (.int .i64 (s1.n : Int))), (12, (.int .i64 x4))] _ := ha.sub ⟨rfl, rfl, rfl, rfl, trivial⟩
      refine region_lit ?_
      refine s_do rfl ha (ltd rfl) (d_add ha rfl rfl) (fun a ha => ?_)
      refine s_do rfl ha (ltd rfl) (d_move ha rfl) (fun a ha => ?_)
      refine s_nil ?_
      have hS : Has 26 [(12, (.int .i64 (IntKind.wrap .i64 (x4 + 1)))), (3, (.int .u64 (bxor .u64 (IntKind.wrap .u64 a0) 9223372036854775808))), (4, (Sl.v s1)), (11, (.int .i64 (s1.n : Int)))] _ := ha.sub ⟨rfl, rfl, rfl, rfl, trivial⟩
      cases h
      exact lp_next ⟨hS, rfl⟩
    · refine wp_exit ?_
      refine t_x ?_
      have hS : Has 26 [(4, (Sl.v s1))] _ := ha.sub ⟨rfl, trivial⟩
      cases h
      cases hr10 _ rfl
      refine lp_x ?_
      exact hk9 _ hS

noncomputable def mark_Cells_Put (a0 : Option Addr) (a1 : Int) (a2 : Int) (w : World) : Option (Int × World) :=
  if (a0.isNone) = true then
  (some (1, w))
  else
  ((a0).bind fun p2 =>
  (ldP w (p2.add 0)).bind fun v4 =>
  bind2 (sector_Disk_Down v4 w) fun v6 w7 =>
  if v6 = true then
  (some (10, w7))
  else
  (bind2 (if (decide (a1 < 0)) = true then
  (some (true, w7))
  else
  ((ldI .i64 w7 (p2.add 2)).bind fun v15 =>
  if (decide (v15 ≤ a1)) = true then
  (some (true, w7))
  else
  (if (decide (a2 < 0)) = true then
  (some (true, w7))
  else
  (some ((decide (1099511627776 < a2)), w7))))) fun v10 w11 =>
  if v10 = true then
  (some (2, w11))
  else
  (bind4 (mark_Cells_found a0 a1 w11) fun v20 v21 v22 w23 =>
  if (v21 == 4611686018427387904) = true then
  (some (6, w23))
  else
  ((ldI .i64 w23 (p2.add 1)).bind fun v26 =>
  (rmI (IntKind.wrap .i64 (v20 + 1)) 2).bind fun v28 =>
  (ldP w23 (p2.add 0)).bind fun v30 =>
  bind3 (sector_Disk_Read v30 (IntKind.wrap .i64 ((IntKind.wrap .i64 (v26 + (IntKind.wrap .i64 (2 * a1)))) + v28)) w23) fun v32 v33 w34 =>
  bind2 (mkS Try.prog 29 64 64 w34) fun s36 w37 =>
  (ix v32 63 1).bind fun p39 =>
  (ldI .u8 w37 p39).bind fun v41 =>
  (ix s36 0 1).bind fun p43 =>
  (stV w37 p43 (.int .u8 (IntKind.wrap .u8 (v41 + 1)))).bind fun w45 =>
  (ix s36 0 1).bind fun p47 =>
  (ldI .u8 w45 p47).bind fun v49 =>
  (ix s36 63 1).bind fun p51 =>
  (stV w45 p51 (.int .u8 v49)).bind fun w53 =>
  (dr w53).bind fun w55 =>
  (slS s36 1 (s36.n : Int) (s36.c : Int) 1).bind fun s57 =>
  bind2 (octet_Key (IntKind.wrap .i64 (v21 + 1)) w55) fun v59 w60 =>
  bind2 (cpS Try.prog 29 29 s57 v59 w60) fun v62 w63 =>
  (dr w63).bind fun w65 =>
  (slS s36 9 (s36.n : Int) (s36.c : Int) 1).bind fun s67 =>
  bind2 (octet_Key a2 w65) fun v69 w70 =>
  bind2 (cpS Try.prog 29 29 s67 v69 w70) fun v72 w73 =>
  (ldP w73 (p2.add 0)).bind fun v75 =>
  bind2 (sector_Disk_Write v75 (IntKind.wrap .i64 ((IntKind.wrap .i64 (v26 + (IntKind.wrap .i64 (2 * a1)))) + v28)) s36 w73) fun v77 w78 =>
  if (v77 != 0) = true then
  (some (v77, w78))
  else
  ((ldP w78 (p2.add 0)).bind fun v81 =>
  bind2 (sector_Disk_Sync v81 w78) fun v83 w84 =>
  some (v83, w84))))))
set_option maxHeartbeats 1000000 in
set_option maxRecDepth 100000 in
theorem mark_Cells_Put_ok {a0 : Option Addr} {a1 : Int} {a2 : Int} {w w' : World} {r0 : Int} (h : mark_Cells_Put a0 a1 a2 w = some (r0, w')) : Calls Try.prog 38 #[(.pointer a0), (.int .i64 a1), (.int .i64 a2)] w fun e w'' => e = .returned (.int .i64 r0) ∧ w'' = w' := by
  refine calls_dec (n := 110) Try.func38 rfl Try.ntmps38 (by simp) (fun a ha => ?_)
  unfold mark_Cells_Put at h
  refine wp_seq ?_
  refine region_lit ?_
  refine s_do rfl ha (ltd rfl) (d_assign ha rfl) (fun a ha => ?_)
  refine s_nil ?_
  refine t_n ?_
  replace ha : Has 110 [(0, (.pointer a0)), (1, (.int .i64 a1)), (2, (.int .i64 a2))] _ := ha.sub ⟨rfl, rfl, rfl, trivial⟩
  refine wp_seq ?_
  refine wp_block ?_
  refine wp_seq ?_
  refine region_lit ?_
  refine s_do rfl ha (ltd rfl) (d_move ha rfl) (fun a ha => ?_)
  refine s_do rfl ha (ltd rfl) (d_eqN ha rfl rfl Try.runUnderlying58) (fun a ha => ?_)
  refine s_do rfl ha (ltd rfl) (d_assign ha rfl) (fun a ha => ?_)
  refine s_nil ?_
  refine t_n ?_
  replace ha : Has 110 [(0, (.pointer a0)), (1, (.int .i64 a1)), (2, (.int .i64 a2)), (15, (.bool (a0.isNone)))] _ := ha.sub ⟨rfl, rfl, rfl, rfl, trivial⟩
  refine s_cond ha rfl h (fun b1 h => ?_) (fun b1 h => ?_)
  · refine wp_seq ?_
    refine region_lit ?_
    refine s_do rfl ha (ltd rfl) (d_assign ha rfl) (fun a ha => ?_)
    refine s_nil ?_
    refine t_n ?_
    replace ha : Has 110 [(6, (.int .i64 1))] _ := ha.sub ⟨rfl, trivial⟩
    refine wp_ret ?_
    refine b_r ?_
    refine t_r ?_
    have hS := ha
    cases h
    exact ret1 Try.results38 hS rfl ⟨rfl, rfl⟩
  · refine wp_seq ?_
    refine region_lit ?_
    refine s_do rfl ha (ltd rfl) (d_move ha rfl) (fun a ha => ?_)
    obtain ⟨p2, e3, h⟩ := bs1 h
    refine s_do rfl ha (ltd rfl) (d_nilp ha rfl e3) (fun a ha => ?_)
    refine s_do rfl ha (ltd rfl) (d_fa ha rfl Try.runUnderlying99 rfl rfl Try.sizeOf22 (by decide)) (fun a ha => ?_)
    obtain ⟨v4, e5, h⟩ := bs1 h
    refine s_do rfl ha (ltd rfl) (d_ld ha rfl Try.isAgg22 (ldP_c e5)) (fun a ha => ?_)
    obtain ⟨v6, w7, e8, h⟩ := bs2 h
    refine s_do rfl ha (ltd rfl) (d_call (xs := [_]) (vs := [(.pointer v4)]) ha ⟨rfl, trivial⟩ Try.call21 (sector_Disk_Down_ok e8)) (fun a ha => ?_)
    refine s_do rfl ha (ltd rfl) (d_assign ha rfl) (fun a ha => ?_)
    refine s_nil ?_
    refine t_n ?_
    replace ha : Has 110 [(0, (.pointer a0)), (1, (.int .i64 a1)), (2, (.int .i64 a2)), (18, (.bool v6))] _ := ha.sub ⟨rfl, rfl, rfl, rfl, trivial⟩
    refine s_cond ha rfl h (fun b9 h => ?_) (fun b9 h => ?_)
    · refine wp_seq ?_
      refine region_lit ?_
      refine s_do rfl ha (ltd rfl) (d_assign ha rfl) (fun a ha => ?_)
      refine s_nil ?_
      refine t_n ?_
      replace ha : Has 110 [(6, (.int .i64 10))] _ := ha.sub ⟨rfl, trivial⟩
      refine wp_ret ?_
      refine b_r ?_
      refine t_r ?_
      have hS := ha
      cases h
      exact ret1 Try.results38 hS rfl ⟨rfl, rfl⟩
    · refine wp_seq ?_
      obtain ⟨v10, w11, e12, h⟩ := bs2 h
      refine reg_join (n := 110) (L := [(24, (.bool v10)), (0, (.pointer a0)), (1, (.int .i64 a1)), (2, (.int .i64 a2))]) (w' := w11) (fun a ha => ?_) (fun hk13 => ?_)
      · refine t_n ?_
        replace ha : Has 110 [(0, (.pointer a0)), (1, (.int .i64 a1)), (2, (.int .i64 a2)), (24, (.bool v10))] _ := ha.sub ⟨rfl, rfl, rfl, rfl, trivial⟩
        refine s_cond ha rfl h (fun b19 h => ?_) (fun b19 h => ?_)
        · refine wp_seq ?_
          refine region_lit ?_
          refine s_do rfl ha (ltd rfl) (d_assign ha rfl) (fun a ha => ?_)
          refine s_nil ?_
          refine t_n ?_
          replace ha : Has 110 [(6, (.int .i64 2))] _ := ha.sub ⟨rfl, trivial⟩
          refine wp_ret ?_
          refine b_r ?_
          refine t_r ?_
          have hS := ha
          cases h
          exact ret1 Try.results38 hS rfl ⟨rfl, rfl⟩
        · refine wp_skip ?_
          refine b_n ?_
          refine t_n ?_
          replace ha : Has 110 [(0, (.pointer a0)), (1, (.int .i64 a1)), (2, (.int .i64 a2))] _ := ha.sub ⟨rfl, rfl, rfl, trivial⟩
          refine wp_seq ?_
          refine region_lit ?_
          refine s_do rfl ha (ltd rfl) (d_move ha rfl) (fun a ha => ?_)
          refine s_do rfl ha (ltd rfl) (d_move ha rfl) (fun a ha => ?_)
          obtain ⟨v20, v21, v22, w23, e24, h⟩ := bs4 h
          refine s_do rfl ha (ltd rfl) (d_call (xs := [_, _]) (vs := [(.pointer a0), (.int .i64 a1)]) ha ⟨rfl, rfl, trivial⟩ Try.call52 (mark_Cells_found_ok e24)) (fun a ha => ?_)
          refine s_do rfl ha (ltd rfl) (d_move ha rfl) (fun a ha => ?_)
          refine s_do rfl ha (ltd rfl) (d_ext ha rfl rfl) (fun a ha => ?_)
          refine s_do rfl ha (ltd rfl) (d_ext ha rfl rfl) (fun a ha => ?_)
          refine s_do rfl ha (ltd rfl) (d_ext ha rfl rfl) (fun a ha => ?_)
          refine s_do rfl ha (ltd rfl) (d_assign ha rfl) (fun a ha => ?_)
          refine s_do rfl ha (ltd rfl) (d_assign ha rfl) (fun a ha => ?_)
          refine s_do rfl ha (ltd rfl) (d_assign ha rfl) (fun a ha => ?_)
          refine s_nil ?_
          refine t_n ?_
          replace ha : Has 110 [(0, (.pointer a0)), (1, (.int .i64 a1)), (2, (.int .i64 a2)), (7, (.int .i64 v20)), (8, (.int .i64 v21))] _ := ha.sub ⟨rfl, rfl, rfl, rfl, rfl, trivial⟩
          refine wp_seq ?_
          refine wp_seq ?_
          refine region_lit ?_
          refine s_do rfl ha (ltd rfl) (d_move ha rfl) (fun a ha => ?_)
          refine s_do rfl ha (ltd rfl) (d_eq ha rfl rfl) (fun a ha => ?_)
          refine s_nil ?_
          refine t_n ?_
          replace ha : Has 110 [(0, (.pointer a0)), (1, (.int .i64 a1)), (2, (.int .i64 a2)), (7, (.int .i64 v20)), (8, (.int .i64 v21)), (51, (.bool (v21 == 4611686018427387904)))] _ := ha.sub ⟨rfl, rfl, rfl, rfl, rfl, rfl, trivial⟩
          refine s_cond ha rfl h (fun b25 h => ?_) (fun b25 h => ?_)
          · refine wp_seq ?_
            refine region_lit ?_
            refine s_do rfl ha (ltd rfl) (d_assign ha rfl) (fun a ha => ?_)
            refine s_nil ?_
            refine t_n ?_
            replace ha : Has 110 [(6, (.int .i64 6))] _ := ha.sub ⟨rfl, trivial⟩
            refine wp_ret ?_
            refine t_r ?_
            have hS := ha
            cases h
            exact ret1 Try.results38 hS rfl ⟨rfl, rfl⟩
          · refine wp_skip ?_
            refine t_n ?_
            replace ha : Has 110 [(0, (.pointer a0)), (1, (.int .i64 a1)), (2, (.int .i64 a2)), (7, (.int .i64 v20)), (8, (.int .i64 v21))] _ := ha.sub ⟨rfl, rfl, rfl, rfl, rfl, trivial⟩
            refine wp_seq ?_
            refine region_lit ?_
            refine s_do rfl ha (ltd rfl) (d_move ha rfl) (fun a ha => ?_)
            refine s_do rfl ha (ltd rfl) (d_nilp ha rfl e3) (fun a ha => ?_)
            refine s_do rfl ha (ltd rfl) (d_fa ha rfl Try.runUnderlying99 rfl rfl Try.sizeOf3 (by decide)) (fun a ha => ?_)
            obtain ⟨v26, e27, h⟩ := bs1 h
            refine s_do rfl ha (ltd rfl) (d_ld ha rfl Try.isAgg3 (ldI_c e27)) (fun a ha => ?_)
            refine s_do rfl ha (ltd rfl) (d_move ha rfl) (fun a ha => ?_)
            refine s_do rfl ha (ltd rfl) (d_mul ha rfl rfl) (fun a ha => ?_)
            refine s_do rfl ha (ltd rfl) (d_add ha rfl rfl) (fun a ha => ?_)
            refine s_do rfl ha (ltd rfl) (d_move ha rfl) (fun a ha => ?_)
            refine s_do rfl ha (ltd rfl) (d_add ha rfl rfl) (fun a ha => ?_)
            obtain ⟨v28, e29, h⟩ := bs1 h
            refine s_do rfl ha (ltd rfl) (d_rem ha rfl rfl e29) (fun a ha => ?_)
            refine s_do rfl ha (ltd rfl) (d_add ha rfl rfl) (fun a ha => ?_)
            refine s_do rfl ha (ltd rfl) (d_assign ha rfl) (fun a ha => ?_)
            refine s_nil ?_
            refine t_n ?_
            replace ha : Has 110 [(0, (.pointer a0)), (2, (.int .i64 a2)), (8, (.int .i64 v21)), (10, (.int .i64 (IntKind.wrap .i64 ((IntKind.wrap .i64 (v26 + (IntKind.wrap .i64 (2 * a1)))) + v28))))] _ := ha.sub ⟨rfl, rfl, rfl, rfl, trivial⟩
            refine wp_seq ?_
            refine region_lit ?_
            refine s_do rfl ha (ltd rfl) (d_move ha rfl) (fun a ha => ?_)
            refine s_do rfl ha (ltd rfl) (d_nilp ha rfl e3) (fun a ha => ?_)
            refine s_do rfl ha (ltd rfl) (d_fa ha rfl Try.runUnderlying99 rfl rfl Try.sizeOf22 (by decide)) (fun a ha => ?_)
            obtain ⟨v30, e31, h⟩ := bs1 h
            refine s_do rfl ha (ltd rfl) (d_ld ha rfl Try.isAgg22 (ldP_c e31)) (fun a ha => ?_)
            refine s_do rfl ha (ltd rfl) (d_move ha rfl) (fun a ha => ?_)
            obtain ⟨v32, v33, w34, e35, h⟩ := bs3 h
            refine s_do rfl ha (ltd rfl) (d_call (xs := [_, _]) (vs := [(.pointer v30), (.int .i64 (IntKind.wrap .i64 ((IntKind.wrap .i64 (v26 + (IntKind.wrap .i64 (2 * a1)))) + v28)))]) ha ⟨rfl, rfl, trivial⟩ Try.call25 (sector_Disk_Read_ok e35)) (fun a ha => ?_)
            refine s_do rfl ha (ltd rfl) (d_move ha rfl) (fun a ha => ?_)
            refine s_do rfl ha (ltd rfl) (d_ext ha rfl rfl) (fun a ha => ?_)
            refine s_do rfl ha (ltd rfl) (d_ext ha rfl rfl) (fun a ha => ?_)
            refine s_do rfl ha (ltd rfl) (d_assign ha rfl) (fun a ha => ?_)
            refine s_do rfl ha (ltd rfl) (d_assign ha rfl) (fun a ha => ?_)
            refine s_nil ?_
            refine t_n ?_
            replace ha : Has 110 [(0, (.pointer a0)), (2, (.int .i64 a2)), (8, (.int .i64 v21)), (10, (.int .i64 (IntKind.wrap .i64 ((IntKind.wrap .i64 (v26 + (IntKind.wrap .i64 (2 * a1)))) + v28)))), (11, (Sl.v v32))] _ := ha.sub ⟨rfl, rfl, rfl, rfl, rfl, trivial⟩
            refine wp_seq ?_
            refine region_lit ?_
            obtain ⟨s36, w37, e38, h⟩ := bs2 h
            refine s_do rfl ha (ltd rfl) (d_mkS ha rfl rfl e38) (fun a ha => ?_)
            refine s_do rfl ha (ltd rfl) (d_assign ha rfl) (fun a ha => ?_)
            refine s_nil ?_
            refine t_n ?_
            replace ha : Has 110 [(0, (.pointer a0)), (2, (.int .i64 a2)), (8, (.int .i64 v21)), (10, (.int .i64 (IntKind.wrap .i64 ((IntKind.wrap .i64 (v26 + (IntKind.wrap .i64 (2 * a1)))) + v28)))), (11, (Sl.v v32)), (13, (Sl.v s36))] _ := ha.sub ⟨rfl, rfl, rfl, rfl, rfl, rfl, trivial⟩
            refine wp_seq ?_
            refine region_lit ?_
            refine s_do rfl ha (ltd rfl) (d_move ha rfl) (fun a ha => ?_)
            refine s_do rfl ha (ltd rfl) (d_move ha rfl) (fun a ha => ?_)
            obtain ⟨p39, e40, h⟩ := bs1 h
            refine s_do rfl ha (ltd rfl) (d_ix ha rfl rfl Try.runUnderlying29 Try.sizeOf5 e40) (fun a ha => ?_)
            obtain ⟨v41, e42, h⟩ := bs1 h
            refine s_do rfl ha (ltd rfl) (d_ld ha rfl Try.isAgg5 (ldI_c e42)) (fun a ha => ?_)
            refine s_do rfl ha (ltd rfl) (d_add ha rfl rfl) (fun a ha => ?_)
            obtain ⟨p43, e44, h⟩ := bs1 h
            refine s_do rfl ha (ltd rfl) (d_ix ha rfl rfl Try.runUnderlying29 Try.sizeOf5 e44) (fun a ha => ?_)
            obtain ⟨w45, e46, h⟩ := bs1 h
            refine s_do rfl ha (ltd rfl) (d_st ha rfl rfl Try.sizeOf5 e46) (fun a ha => ?_)
            refine s_nil ?_
            refine t_n ?_
            replace ha : Has 110 [(0, (.pointer a0)), (2, (.int .i64 a2)), (8, (.int .i64 v21)), (10, (.int .i64 (IntKind.wrap .i64 ((IntKind.wrap .i64 (v26 + (IntKind.wrap .i64 (2 * a1)))) + v28)))), (13, (Sl.v s36))] _ := ha.sub ⟨rfl, rfl, rfl, rfl, rfl, trivial⟩
            refine wp_seq ?_
            refine region_lit ?_
            refine s_do rfl ha (ltd rfl) (d_move ha rfl) (fun a ha => ?_)
            refine s_do rfl ha (ltd rfl) (d_move ha rfl) (fun a ha => ?_)
            obtain ⟨p47, e48, h⟩ := bs1 h
            refine s_do rfl ha (ltd rfl) (d_ix ha rfl rfl Try.runUnderlying29 Try.sizeOf5 e48) (fun a ha => ?_)
            obtain ⟨v49, e50, h⟩ := bs1 h
            refine s_do rfl ha (ltd rfl) (d_ld ha rfl Try.isAgg5 (ldI_c e50)) (fun a ha => ?_)
            obtain ⟨p51, e52, h⟩ := bs1 h
            refine s_do rfl ha (ltd rfl) (d_ix ha rfl rfl Try.runUnderlying29 Try.sizeOf5 e52) (fun a ha => ?_)
            obtain ⟨w53, e54, h⟩ := bs1 h
            refine s_do rfl ha (ltd rfl) (d_st ha rfl rfl Try.sizeOf5 e54) (fun a ha => ?_)
            refine s_nil ?_
            refine t_n ?_
            replace ha : Has 110 [(0, (.pointer a0)), (2, (.int .i64 a2)), (8, (.int .i64 v21)), (10, (.int .i64 (IntKind.wrap .i64 ((IntKind.wrap .i64 (v26 + (IntKind.wrap .i64 (2 * a1)))) + v28)))), (13, (Sl.v s36))] _ := ha.sub ⟨rfl, rfl, rfl, rfl, rfl, trivial⟩
            refine wp_seq ?_
            obtain ⟨w55, e56, h⟩ := bs1 h
            obtain ⟨s57, e58, h⟩ := bs1 h
            obtain ⟨v59, w60, e61, h⟩ := bs2 h
            obtain ⟨v62, w63, e64, h⟩ := bs2 h
            have ha : Has 110 [(0, (.pointer a0)), (2, (.int .i64 a2)), (8, (.int .i64 v21)), (10, (.int .i64 (IntKind.wrap .i64 ((IntKind.wrap .i64 (v26 + (IntKind.wrap .i64 (2 * a1)))) + v28)))), (13, (Sl.v s36))] a := ha.sub ⟨rfl, rfl, rfl, rfl, rfl, trivial⟩
            refine region_draw (n := 110) (ds := (⟨_, (Sl.v s36), false, 0, 1, [], [(13, (Sl.v s36))]⟩ :: ⟨_, (Sl.v s57), false, 0, 1, [0], [(84, (Sl.v s36))]⟩ :: ⟨_, (.int .i64 v21), false, 0, 0, [], [(8, (.int .i64 v21))]⟩ :: ⟨_, (.int .i64 (IntKind.wrap .i64 (v21 + 1))), false, 0, 0, [2], [(86, (.int .i64 v21))]⟩ :: ⟨_, (Sl.v v59), true, 0, 0, [2, 3], [(87, (.int .i64 (IntKind.wrap .i64 (v21 + 1))))]⟩ :: ⟨_, (.int .i64 v62), true, 1, 1, [0, 1, 2, 3, 4], [(85, (Sl.v s57)), (88, (Sl.v v59))]⟩ :: [])) (W := (fun j => match j with | 0 => w55 | 1 => w60 | _ => w63)) (by kernel_rfl) ha (dr_w e56) (by kernel_rfl) ?_ (reads_of (by kernel_rfl)) (by kernel_rfl) (m := 2) (by kernel_rfl) (fun a ha => ?_)
            · refine ⟨?_, ?_, ?_, ?_, ?_, ?_, trivial⟩
              · intro j _ _; exact ok_do rfl fun a ha => d_move ha rfl
              · intro j _ _; exact ok_do rfl fun a ha => d_slS ha rfl Try.runUnderlying29 Try.sizeOf5 ⟨_, rfl⟩ rfl rfl (by simp) e58
              · intro j _ _; exact ok_do rfl fun a ha => d_move ha rfl
              · intro j _ _; exact ok_do rfl fun a ha => d_add ha rfl rfl
              · intro j h1 h2; obtain rfl : j = 0 := Nat.le_antisymm h2 h1; exact ok_do rfl fun a ha => d_call (xs := [_]) (vs := [(.int .i64 (IntKind.wrap .i64 (v21 + 1)))]) ha ⟨rfl, trivial⟩ Try.call53 (octet_Key_ok e61)
              · intro j h1 h2; obtain rfl : j = 1 := Nat.le_antisymm h2 h1; exact ok_do rfl fun a ha => d_cpS ha rfl rfl e64
            · have ha : Has 110 [(0, (.pointer a0)), (2, (.int .i64 a2)), (10, (.int .i64 (IntKind.wrap .i64 ((IntKind.wrap .i64 (v26 + (IntKind.wrap .i64 (2 * a1)))) + v28)))), (13, (Sl.v s36))] a := ha.sub ⟨rfl, rfl, rfl, rfl, trivial⟩
              refine t_n ?_
              replace ha : Has 110 [(0, (.pointer a0)), (2, (.int .i64 a2)), (10, (.int .i64 (IntKind.wrap .i64 ((IntKind.wrap .i64 (v26 + (IntKind.wrap .i64 (2 * a1)))) + v28)))), (13, (Sl.v s36))] _ := ha.sub ⟨rfl, rfl, rfl, rfl, trivial⟩
              refine wp_seq ?_
              obtain ⟨w65, e66, h⟩ := bs1 h
              obtain ⟨s67, e68, h⟩ := bs1 h
              obtain ⟨v69, w70, e71, h⟩ := bs2 h
              obtain ⟨v72, w73, e74, h⟩ := bs2 h
              have ha : Has 110 [(0, (.pointer a0)), (2, (.int .i64 a2)), (10, (.int .i64 (IntKind.wrap .i64 ((IntKind.wrap .i64 (v26 + (IntKind.wrap .i64 (2 * a1)))) + v28)))), (13, (Sl.v s36))] a := ha.sub ⟨rfl, rfl, rfl, rfl, trivial⟩
              refine region_draw (n := 110) (ds := (⟨_, (Sl.v s36), false, 0, 1, [], [(13, (Sl.v s36))]⟩ :: ⟨_, (Sl.v s67), false, 0, 1, [0], [(90, (Sl.v s36))]⟩ :: ⟨_, (.int .i64 a2), false, 0, 0, [], [(2, (.int .i64 a2))]⟩ :: ⟨_, (Sl.v v69), true, 0, 0, [2], [(92, (.int .i64 a2))]⟩ :: ⟨_, (.int .i64 v72), true, 1, 1, [0, 1, 2, 3], [(91, (Sl.v s67)), (93, (Sl.v v69))]⟩ :: [])) (W := (fun j => match j with | 0 => w65 | 1 => w70 | _ => w73)) (by kernel_rfl) ha (dr_w e66) (by kernel_rfl) ?_ (reads_of (by kernel_rfl)) (by kernel_rfl) (m := 2) (by kernel_rfl) (fun a ha => ?_)
              · refine ⟨?_, ?_, ?_, ?_, ?_, trivial⟩
                · intro j _ _; exact ok_do rfl fun a ha => d_move ha rfl
                · intro j _ _; exact ok_do rfl fun a ha => d_slS ha rfl Try.runUnderlying29 Try.sizeOf5 ⟨_, rfl⟩ rfl rfl (by simp) e68
                · intro j _ _; exact ok_do rfl fun a ha => d_move ha rfl
                · intro j h1 h2; obtain rfl : j = 0 := Nat.le_antisymm h2 h1; exact ok_do rfl fun a ha => d_call (xs := [_]) (vs := [(.int .i64 a2)]) ha ⟨rfl, trivial⟩ Try.call53 (octet_Key_ok e71)
                · intro j h1 h2; obtain rfl : j = 1 := Nat.le_antisymm h2 h1; exact ok_do rfl fun a ha => d_cpS ha rfl rfl e74
              · have ha : Has 110 [(0, (.pointer a0)), (10, (.int .i64 (IntKind.wrap .i64 ((IntKind.wrap .i64 (v26 + (IntKind.wrap .i64 (2 * a1)))) + v28)))), (13, (Sl.v s36))] a := ha.sub ⟨rfl, rfl, rfl, trivial⟩
                refine t_n ?_
                replace ha : Has 110 [(0, (.pointer a0)), (10, (.int .i64 (IntKind.wrap .i64 ((IntKind.wrap .i64 (v26 + (IntKind.wrap .i64 (2 * a1)))) + v28)))), (13, (Sl.v s36))] _ := ha.sub ⟨rfl, rfl, rfl, trivial⟩
                refine wp_seq ?_
                refine wp_seq ?_
                refine region_lit ?_
                refine s_do rfl ha (ltd rfl) (d_move ha rfl) (fun a ha => ?_)
                refine s_do rfl ha (ltd rfl) (d_nilp ha rfl e3) (fun a ha => ?_)
                refine s_do rfl ha (ltd rfl) (d_fa ha rfl Try.runUnderlying99 rfl rfl Try.sizeOf22 (by decide)) (fun a ha => ?_)
                obtain ⟨v75, e76, h⟩ := bs1 h
                refine s_do rfl ha (ltd rfl) (d_ld ha rfl Try.isAgg22 (ldP_c e76)) (fun a ha => ?_)
                refine s_do rfl ha (ltd rfl) (d_move ha rfl) (fun a ha => ?_)
                refine s_do rfl ha (ltd rfl) (d_move ha rfl) (fun a ha => ?_)
                obtain ⟨v77, w78, e79, h⟩ := bs2 h
                refine s_do rfl ha (ltd rfl) (d_call (xs := [_, _, _]) (vs := [(.pointer v75), (.int .i64 (IntKind.wrap .i64 ((IntKind.wrap .i64 (v26 + (IntKind.wrap .i64 (2 * a1)))) + v28))), (Sl.v s36)]) ha ⟨rfl, rfl, rfl, trivial⟩ Try.call22 (sector_Disk_Write_ok e79)) (fun a ha => ?_)
                refine s_do rfl ha (ltd rfl) (d_assign ha rfl) (fun a ha => ?_)
                refine s_nil ?_
                refine t_n ?_
                replace ha : Has 110 [(0, (.pointer a0)), (14, (.int .i64 v77))] _ := ha.sub ⟨rfl, rfl, trivial⟩
                refine wp_seq ?_
                refine region_lit ?_
                refine s_do rfl ha (ltd rfl) (d_move ha rfl) (fun a ha => ?_)
                refine s_do rfl ha (ltd rfl) (d_ne ha rfl rfl) (fun a ha => ?_)
                refine s_nil ?_
                refine t_n ?_
                replace ha : Has 110 [(0, (.pointer a0)), (14, (.int .i64 v77)), (103, (.bool (v77 != 0)))] _ := ha.sub ⟨rfl, rfl, rfl, trivial⟩
                refine s_cond ha rfl h (fun b80 h => ?_) (fun b80 h => ?_)
                · refine wp_seq ?_
                  refine region_lit ?_
                  refine s_do rfl ha (ltd rfl) (d_move ha rfl) (fun a ha => ?_)
                  refine s_do rfl ha (ltd rfl) (d_assign ha rfl) (fun a ha => ?_)
                  refine s_nil ?_
                  refine t_n ?_
                  replace ha : Has 110 [(6, (.int .i64 v77))] _ := ha.sub ⟨rfl, trivial⟩
                  refine wp_ret ?_
                  refine t_r ?_
                  have hS := ha
                  cases h
                  exact ret1 Try.results38 hS rfl ⟨rfl, rfl⟩
                · refine wp_skip ?_
                  refine t_n ?_
                  replace ha : Has 110 [(0, (.pointer a0))] _ := ha.sub ⟨rfl, trivial⟩
                  refine wp_seq ?_
                  refine region_lit ?_
                  refine s_do rfl ha (ltd rfl) (d_move ha rfl) (fun a ha => ?_)
                  refine s_do rfl ha (ltd rfl) (d_nilp ha rfl e3) (fun a ha => ?_)
                  refine s_do rfl ha (ltd rfl) (d_fa ha rfl Try.runUnderlying99 rfl rfl Try.sizeOf22 (by decide)) (fun a ha => ?_)
                  obtain ⟨v81, e82, h⟩ := bs1 h
                  refine s_do rfl ha (ltd rfl) (d_ld ha rfl Try.isAgg22 (ldP_c e82)) (fun a ha => ?_)
                  obtain ⟨v83, w84, e85, h⟩ := bs2 h
                  refine s_do rfl ha (ltd rfl) (d_call (xs := [_]) (vs := [(.pointer v81)]) ha ⟨rfl, trivial⟩ Try.call23 (sector_Disk_Sync_ok e85)) (fun a ha => ?_)
                  refine s_do rfl ha (ltd rfl) (d_assign ha rfl) (fun a ha => ?_)
                  refine s_nil ?_
                  refine t_n ?_
                  replace ha : Has 110 [(6, (.int .i64 v83))] _ := ha.sub ⟨rfl, trivial⟩
                  refine wp_ret ?_
                  have hS := ha
                  cases h
                  exact ret1 Try.results38 hS rfl ⟨rfl, rfl⟩
      · clear h
        have h := e12
        refine region_lit ?_
        refine s_do rfl ha (ltd rfl) (d_move ha rfl) (fun a ha => ?_)
        refine s_do rfl ha (ltd rfl) (d_lt ha rfl rfl) (fun a ha => ?_)
        refine s_do rfl ha (ltd rfl) (d_move ha rfl) (fun a ha => ?_)
        refine ite_s h (fun b14 h => ?_) (fun b14 h => ?_)
        · refine s_no_g rfl rfl ha (rfl : List.lookup 27 _ = _) (tn b14) (ltd rfl) (fun a ha => ?_)
          refine s_no_g rfl rfl ha (rfl : List.lookup 27 _ = _) (tn b14) (ltd rfl) (fun a ha => ?_)
          refine s_no_g rfl rfl ha (rfl : List.lookup 27 _ = _) (tn b14) (ltd rfl) (fun a ha => ?_)
          refine s_no_g rfl rfl ha (rfl : List.lookup 27 _ = _) (tn b14) (ltd rfl) (fun a ha => ?_)
          refine s_no_g rfl rfl ha (rfl : List.lookup 27 _ = _) (tn b14) (ltd rfl) (fun a ha => ?_)
          refine s_no_g rfl rfl ha (rfl : List.lookup 27 _ = _) (tn b14) (ltd rfl) (fun a ha => ?_)
          refine s_do rfl ha (ltd rfl) (d_pick_t ha rfl b14 rfl) (fun a ha => ?_)
          refine s_do rfl ha (ltd rfl) (d_move ha rfl) (fun a ha => ?_)
          refine s_no_g rfl rfl ha (rfl : List.lookup 35 _ = _) (tn rfl) (ltd rfl) (fun a ha => ?_)
          refine s_no_g rfl rfl ha (rfl : List.lookup 35 _ = _) (tn rfl) (ltd rfl) (fun a ha => ?_)
          refine s_do rfl ha (ltd rfl) (d_pick_t ha rfl rfl rfl) (fun a ha => ?_)
          refine s_do rfl ha (ltd rfl) (d_move ha rfl) (fun a ha => ?_)
          refine s_no_g rfl rfl ha (rfl : List.lookup 39 _ = _) (tn rfl) (ltd rfl) (fun a ha => ?_)
          refine s_no_g rfl rfl ha (rfl : List.lookup 39 _ = _) (tn rfl) (ltd rfl) (fun a ha => ?_)
          refine s_do rfl ha (ltd rfl) (d_pick_t ha rfl rfl rfl) (fun a ha => ?_)
          refine s_do rfl ha (ltd rfl) (d_assign ha rfl) (fun a ha => ?_)
          refine s_nil ?_
          have hS : Has 110 [(24, (.bool true)), (0, (.pointer a0)), (1, (.int .i64 a1)), (2, (.int .i64 a2))] _ := ha.sub ⟨rfl, rfl, rfl, rfl, trivial⟩
          cases h
          exact hk13 _ hS
        · refine s_do_g2 rfl rfl ha (rfl : List.lookup 27 _ = _) (nt b14) (ltd rfl) (d_move ha rfl) (fun a ha => ?_)
          refine s_do_g2 rfl rfl ha (rfl : List.lookup 27 _ = _) (nt b14) (ltd rfl) (d_move ha rfl) (fun a ha => ?_)
          refine s_do_g2 rfl rfl ha (rfl : List.lookup 27 _ = _) (nt b14) (ltd rfl) (d_nilp ha rfl e3) (fun a ha => ?_)
          refine s_do_g2 rfl rfl ha (rfl : List.lookup 27 _ = _) (nt b14) (ltd rfl) (d_fa ha rfl Try.runUnderlying99 rfl rfl Try.sizeOf3 (by decide)) (fun a ha => ?_)
          obtain ⟨v15, e16, h⟩ := bs1 h
          refine s_do_g2 rfl rfl ha (rfl : List.lookup 27 _ = _) (nt b14) (ltd rfl) (d_ld ha rfl Try.isAgg3 (ldI_c e16)) (fun a ha => ?_)
          refine s_do_g2 rfl rfl ha (rfl : List.lookup 27 _ = _) (nt b14) (ltd rfl) (d_ge ha rfl rfl) (fun a ha => ?_)
          refine s_do rfl ha (ltd rfl) (d_pick_f ha rfl b14 rfl) (fun a ha => ?_)
          refine s_do rfl ha (ltd rfl) (d_move ha rfl) (fun a ha => ?_)
          refine ite_s h (fun b17 h => ?_) (fun b17 h => ?_)
          · refine s_no_g rfl rfl ha (rfl : List.lookup 35 _ = _) (tn b17) (ltd rfl) (fun a ha => ?_)
            refine s_no_g rfl rfl ha (rfl : List.lookup 35 _ = _) (tn b17) (ltd rfl) (fun a ha => ?_)
            refine s_do rfl ha (ltd rfl) (d_pick_t ha rfl b17 rfl) (fun a ha => ?_)
            refine s_do rfl ha (ltd rfl) (d_move ha rfl) (fun a ha => ?_)
            refine s_no_g rfl rfl ha (rfl : List.lookup 39 _ = _) (tn rfl) (ltd rfl) (fun a ha => ?_)
            refine s_no_g rfl rfl ha (rfl : List.lookup 39 _ = _) (tn rfl) (ltd rfl) (fun a ha => ?_)
            refine s_do rfl ha (ltd rfl) (d_pick_t ha rfl rfl rfl) (fun a ha => ?_)
            refine s_do rfl ha (ltd rfl) (d_assign ha rfl) (fun a ha => ?_)
            refine s_nil ?_
            have hS : Has 110 [(24, (.bool true)), (0, (.pointer a0)), (1, (.int .i64 a1)), (2, (.int .i64 a2))] _ := ha.sub ⟨rfl, rfl, rfl, rfl, trivial⟩
            cases h
            exact hk13 _ hS
          · refine s_do_g2 rfl rfl ha (rfl : List.lookup 35 _ = _) (nt b17) (ltd rfl) (d_move ha rfl) (fun a ha => ?_)
            refine s_do_g2 rfl rfl ha (rfl : List.lookup 35 _ = _) (nt b17) (ltd rfl) (d_lt ha rfl rfl) (fun a ha => ?_)
            refine s_do rfl ha (ltd rfl) (d_pick_f ha rfl b17 rfl) (fun a ha => ?_)
            refine s_do rfl ha (ltd rfl) (d_move ha rfl) (fun a ha => ?_)
            refine ite_s h (fun b18 h => ?_) (fun b18 h => ?_)
            · refine s_no_g rfl rfl ha (rfl : List.lookup 39 _ = _) (tn b18) (ltd rfl) (fun a ha => ?_)
              refine s_no_g rfl rfl ha (rfl : List.lookup 39 _ = _) (tn b18) (ltd rfl) (fun a ha => ?_)
              refine s_do rfl ha (ltd rfl) (d_pick_t ha rfl b18 rfl) (fun a ha => ?_)
              refine s_do rfl ha (ltd rfl) (d_assign ha rfl) (fun a ha => ?_)
              refine s_nil ?_
              have hS : Has 110 [(24, (.bool true)), (0, (.pointer a0)), (1, (.int .i64 a1)), (2, (.int .i64 a2))] _ := ha.sub ⟨rfl, rfl, rfl, rfl, trivial⟩
              cases h
              exact hk13 _ hS
            · refine s_do_g2 rfl rfl ha (rfl : List.lookup 39 _ = _) (nt b18) (ltd rfl) (d_move ha rfl) (fun a ha => ?_)
              refine s_do_g2 rfl rfl ha (rfl : List.lookup 39 _ = _) (nt b18) (ltd rfl) (d_gt ha rfl rfl) (fun a ha => ?_)
              refine s_do rfl ha (ltd rfl) (d_pick_f ha rfl b18 rfl) (fun a ha => ?_)
              refine s_do rfl ha (ltd rfl) (d_assign ha rfl) (fun a ha => ?_)
              refine s_nil ?_
              have hS : Has 110 [(24, (.bool (decide (1099511627776 < a2)))), (0, (.pointer a0)), (1, (.int .i64 a1)), (2, (.int .i64 a2))] _ := ha.sub ⟨rfl, rfl, rfl, rfl, trivial⟩
              cases h
              exact hk13 _ hS

noncomputable def mark_Cells_Count (a0 : Option Addr) (w : World) : Option (Int × World) :=
  if (a0.isNone) = true then
  (some (0, w))
  else
  ((a0).bind fun p2 =>
  (ldI .i64 w (p2.add 2)).bind fun v4 =>
  some (v4, w))
set_option maxHeartbeats 1000000 in
set_option maxRecDepth 100000 in
theorem mark_Cells_Count_ok {a0 : Option Addr} {w w' : World} {r0 : Int} (h : mark_Cells_Count a0 w = some (r0, w')) : Calls Try.prog 39 #[(.pointer a0)] w fun e w'' => e = .returned (.int .i64 r0) ∧ w'' = w' := by
  refine calls_dec (n := 9) Try.func39 rfl Try.ntmps39 (by simp) (fun a ha => ?_)
  unfold mark_Cells_Count at h
  refine wp_seq ?_
  refine region_lit ?_
  refine s_do rfl ha (ltd rfl) (d_assign ha rfl) (fun a ha => ?_)
  refine s_nil ?_
  refine t_n ?_
  replace ha : Has 9 [(0, (.pointer a0))] _ := ha.sub ⟨rfl, trivial⟩
  refine wp_seq ?_
  refine wp_seq ?_
  refine region_lit ?_
  refine s_do rfl ha (ltd rfl) (d_move ha rfl) (fun a ha => ?_)
  refine s_do rfl ha (ltd rfl) (d_eqN ha rfl rfl Try.runUnderlying58) (fun a ha => ?_)
  refine s_nil ?_
  refine t_n ?_
  replace ha : Has 9 [(0, (.pointer a0)), (4, (.bool (a0.isNone)))] _ := ha.sub ⟨rfl, rfl, trivial⟩
  refine s_cond ha rfl h (fun b1 h => ?_) (fun b1 h => ?_)
  · refine wp_seq ?_
    refine region_lit ?_
    refine s_do rfl ha (ltd rfl) (d_assign ha rfl) (fun a ha => ?_)
    refine s_nil ?_
    refine t_n ?_
    replace ha : Has 9 [(2, (.int .i64 0))] _ := ha.sub ⟨rfl, trivial⟩
    refine wp_ret ?_
    refine t_r ?_
    have hS := ha
    cases h
    exact ret1 Try.results39 hS rfl ⟨rfl, rfl⟩
  · refine wp_skip ?_
    refine t_n ?_
    replace ha : Has 9 [(0, (.pointer a0))] _ := ha.sub ⟨rfl, trivial⟩
    refine wp_seq ?_
    refine region_lit ?_
    refine s_do rfl ha (ltd rfl) (d_move ha rfl) (fun a ha => ?_)
    obtain ⟨p2, e3, h⟩ := bs1 h
    refine s_do rfl ha (ltd rfl) (d_nilp ha rfl e3) (fun a ha => ?_)
    refine s_do rfl ha (ltd rfl) (d_fa ha rfl Try.runUnderlying99 rfl rfl Try.sizeOf3 (by decide)) (fun a ha => ?_)
    obtain ⟨v4, e5, h⟩ := bs1 h
    refine s_do rfl ha (ltd rfl) (d_ld ha rfl Try.isAgg3 (ldI_c e5)) (fun a ha => ?_)
    refine s_do rfl ha (ltd rfl) (d_assign ha rfl) (fun a ha => ?_)
    refine s_nil ?_
    refine t_n ?_
    replace ha : Has 9 [(2, (.int .i64 v4))] _ := ha.sub ⟨rfl, trivial⟩
    refine wp_ret ?_
    have hS := ha
    cases h
    exact ret1 Try.results39 hS rfl ⟨rfl, rfl⟩

noncomputable def grapevineref02_Key_l1 (s1 : Sl) (x4 : Int) (x5 : Int) (w6 : World) : Option ((Int × Int × World) ⊕ (World)) :=
  if (decide (0 ≤ x5)) = true then
  ((rmI x4 256).bind fun v13 =>
  (ix s1 x5 1).bind fun p15 =>
  (stV w6 p15 (.int .u8 (IntKind.wrap .u8 v13))).bind fun w17 =>
  (dvI .u64 x4 256).bind fun v19 =>
  some (.inl (v19, (IntKind.wrap .i64 (x5 - 1)), w17)))
  else
  (some (.inr w6))
noncomputable def grapevineref02_Key (a0 : Int) (w : World) : Option (Sl × World) :=
  bind2 (mkS Try.prog 29 8 8 w) fun s1 w2 =>
  (loopF (fun s : Int × Int × World => grapevineref02_Key_l1 s1 s.1 s.2.1 s.2.2) ((IntKind.wrap .u64 ((IntKind.wrap .u64 a0) + 9223372036854775808)), 7, w2)).bind fun w9 =>
  some (s1, w9)
set_option maxHeartbeats 1000000 in
set_option maxRecDepth 100000 in
theorem grapevineref02_Key_ok {a0 : Int} {w w' : World} {r0 : Sl} (h : grapevineref02_Key a0 w = some (r0, w')) : Calls Try.prog 67 #[(.int .i64 a0)] w fun e w'' => e = .returned (Sl.v r0) ∧ w'' = w' := by
  refine calls_dec (n := 23) Try.func67 rfl Try.ntmps67 (by simp) (fun a ha => ?_)
  unfold grapevineref02_Key at h
  refine wp_seq ?_
  refine region_lit ?_
  refine s_do rfl ha (ltd rfl) (d_assign ha rfl) (fun a ha => ?_)
  refine s_nil ?_
  refine t_n ?_
  replace ha : Has 23 [(0, (.int .i64 a0))] _ := ha.sub ⟨rfl, trivial⟩
  refine wp_seq ?_
  refine region_lit ?_
  refine s_do rfl ha (ltd rfl) (d_move ha rfl) (fun a ha => ?_)
  refine s_do rfl ha (ltd rfl) (d_conv ha rfl Try.runUnderlying2 Try.runUnderlying47) (fun a ha => ?_)
  refine s_do rfl ha (ltd rfl) (d_add ha rfl rfl) (fun a ha => ?_)
  refine s_do rfl ha (ltd rfl) (d_assign ha rfl) (fun a ha => ?_)
  refine s_nil ?_
  refine t_n ?_
  replace ha : Has 23 [(3, (.int .u64 (IntKind.wrap .u64 ((IntKind.wrap .u64 a0) + 9223372036854775808))))] _ := ha.sub ⟨rfl, trivial⟩
  refine wp_seq ?_
  refine region_lit ?_
  obtain ⟨s1, w2, e3, h⟩ := bs2 h
  refine s_do rfl ha (ltd rfl) (d_mkS ha rfl rfl e3) (fun a ha => ?_)
  refine s_do rfl ha (ltd rfl) (d_assign ha rfl) (fun a ha => ?_)
  refine s_nil ?_
  refine t_n ?_
  replace ha : Has 23 [(3, (.int .u64 (IntKind.wrap .u64 ((IntKind.wrap .u64 a0) + 9223372036854775808)))), (4, (Sl.v s1))] _ := ha.sub ⟨rfl, rfl, trivial⟩
  refine wp_seq ?_
  refine wp_seq ?_
  refine region_lit ?_
  refine s_do rfl ha (ltd rfl) (d_assign ha rfl) (fun a ha => ?_)
  refine s_nil ?_
  refine t_n ?_
  replace ha : Has 23 [(3, (.int .u64 (IntKind.wrap .u64 ((IntKind.wrap .u64 a0) + 9223372036854775808)))), (4, (Sl.v s1)), (5, (.int .i64 7))] _ := ha.sub ⟨rfl, rfl, rfl, trivial⟩
  refine wp_block ?_
  obtain ⟨w9, e8, h⟩ := bs1 h
  refine s_loop1 (n := 23) (L := [(4, (Sl.v s1))]) (w' := w9) (e := .exit 0) (I := fun (s : Int × Int × World) a w => Has 23 [(3, (.int .u64 s.1)), (5, (.int .i64 s.2.1)), (4, (Sl.v s1))] a ∧ w = s.2.2) ⟨ha.sub ⟨rfl, rfl, rfl, trivial⟩, rfl⟩ e8 (fun a ha => ?_) (fun hk10 => ?_)
  · refine b_hit ?_
    refine t_n ?_
    replace ha : Has 23 [(4, (Sl.v s1))] _ := ha.sub ⟨rfl, trivial⟩
    refine wp_seq ?_
    refine region_lit ?_
    refine s_do rfl ha (ltd rfl) (d_move ha rfl) (fun a ha => ?_)
    refine s_do rfl ha (ltd rfl) (d_assign ha rfl) (fun a ha => ?_)
    refine s_nil ?_
    refine t_n ?_
    replace ha : Has 23 [(2, (Sl.v s1))] _ := ha.sub ⟨rfl, trivial⟩
    refine wp_ret ?_
    have hS := ha
    cases h
    exact ret1 Try.results67 hS rfl ⟨rfl, rfl⟩
  · clear h
    rintro ⟨x4, x5, w6⟩ a wq o ⟨ha, hwq⟩ h hr11
    obtain rfl : w6 = wq := hwq.symm
    have ha : Has 23 [(3, (.int .u64 x4)), (5, (.int .i64 x5)), (4, (Sl.v s1))] a := ha
    have h : grapevineref02_Key_l1 s1 x4 x5 w6 = some o := h
    unfold grapevineref02_Key_l1 at h
    refine wp_seq ?_
    refine wp_seq ?_
    refine region_lit ?_
    refine s_do rfl ha (ltd rfl) (d_move ha rfl) (fun a ha => ?_)
    refine s_do rfl ha (ltd rfl) (d_ge ha rfl rfl) (fun a ha => ?_)
    refine s_nil ?_
    refine t_n ?_
    replace ha : Has 23 [(3, (.int .u64 x4)), (4, (Sl.v s1)), (5, (.int .i64 x5)), (11, (.bool (decide (0 ≤ x5))))] _ := ha.sub ⟨rfl, rfl, rfl, rfl, trivial⟩
    refine s_cond ha rfl h (fun b12 h => ?_) (fun b12 h => ?_)
    · refine wp_skip ?_
      refine t_n ?_
      replace ha : Has 23 [(3, (.int .u64 x4)), (4, (Sl.v s1)), (5, (.int .i64 x5))] _ := ha.sub ⟨rfl, rfl, rfl, trivial⟩
      refine wp_seq ?_
      refine wp_block ?_
      refine wp_seq ?_
      refine region_lit ?_
      refine s_do rfl ha (ltd rfl) (d_move ha rfl) (fun a ha => ?_)
      refine s_do rfl ha (ltd rfl) (d_move ha rfl) (fun a ha => ?_)
      refine s_do rfl ha (ltd rfl) (d_move ha rfl) (fun a ha => ?_)
      obtain ⟨v13, e14, h⟩ := bs1 h
      refine s_do rfl ha (ltd rfl) (d_rem ha rfl rfl e14) (fun a ha => ?_)
      refine s_do rfl ha (ltd rfl) (d_conv ha rfl Try.runUnderlying47 Try.runUnderlying5) (fun a ha => ?_)
      obtain ⟨p15, e16, h⟩ := bs1 h
      refine s_do rfl ha (ltd rfl) (d_ix ha rfl rfl Try.runUnderlying29 Try.sizeOf5 e16) (fun a ha => ?_)
      obtain ⟨w17, e18, h⟩ := bs1 h
      refine s_do rfl ha (ltd rfl) (d_st ha rfl rfl Try.sizeOf5 e18) (fun a ha => ?_)
      refine s_nil ?_
      refine t_n ?_
      replace ha : Has 23 [(3, (.int .u64 x4)), (4, (Sl.v s1)), (5, (.int .i64 x5))] _ := ha.sub ⟨rfl, rfl, rfl, trivial⟩
      refine region_lit ?_
      refine s_do rfl ha (ltd rfl) (d_move ha rfl) (fun a ha => ?_)
      obtain ⟨v19, e20, h⟩ := bs1 h
      refine s_do rfl ha (ltd rfl) (d_quo ha rfl rfl e20) (fun a ha => ?_)
      refine s_do rfl ha (ltd rfl) (d_assign ha rfl) (fun a ha => ?_)
      refine s_nil ?_
      refine b_n ?_
      refine t_n ?_
      replace ha : Has 23 [(3, (.int .u64 v19)), (4, (Sl.v s1)), (5, (.int .i64 x5))] _ := ha.sub ⟨rfl, rfl, rfl, trivial⟩
      refine region_lit ?_
      refine s_do rfl ha (ltd rfl) (d_move ha rfl) (fun a ha => ?_)
      refine s_do rfl ha (ltd rfl) (d_sub ha rfl rfl) (fun a ha => ?_)
      refine s_do rfl ha (ltd rfl) (d_assign ha rfl) (fun a ha => ?_)
      refine s_nil ?_
      have hS : Has 23 [(3, (.int .u64 v19)), (5, (.int .i64 (IntKind.wrap .i64 (x5 - 1)))), (4, (Sl.v s1))] _ := ha.sub ⟨rfl, rfl, rfl, trivial⟩
      cases h
      exact lp_next ⟨hS, rfl⟩
    · refine wp_exit ?_
      refine t_x ?_
      have hS : Has 23 [(4, (Sl.v s1))] _ := ha.sub ⟨rfl, trivial⟩
      cases h
      cases hr11 _ rfl
      refine lp_x ?_
      exact hk10 _ hS

noncomputable def grapevineref02_TakeKey_l1 (a0 : Sl) (a1 : Int) (x8 : Int) (x9 : Int) (w10 : World) : Option ((Int × Int × World) ⊕ (Int × World)) :=
  if (decide (x9 < 8)) = true then
  ((ix a0 (IntKind.wrap .i64 (a1 + x9)) 1).bind fun p18 =>
  (ldI .u8 w10 p18).bind fun v20 =>
  some (.inl ((IntKind.wrap .u64 ((IntKind.wrap .u64 (256 * x8)) + (IntKind.wrap .u64 v20))), (IntKind.wrap .i64 (x9 + 1)), w10)))
  else
  (some (.inr (x8, w10)))
noncomputable def grapevineref02_TakeKey (a0 : Sl) (a1 : Int) (w : World) : Option (Int × Int × Int × World) :=
  bind2 (if (decide (a1 < 0)) = true then
  (some (true, w))
  else
  (some ((decide ((a0.n : Int) < a1)), w))) fun v1 w2 =>
  if v1 = true then
  (some (0, 0, 2, w2))
  else
  (if (decide ((IntKind.wrap .i64 ((a0.n : Int) - a1)) < 8)) = true then
  (some (0, 0, 3, w2))
  else
  (bind2 (loopF (fun s : Int × Int × World => grapevineref02_TakeKey_l1 a0 a1 s.1 s.2.1 s.2.2) (0, 0, w2)) fun v13 w14 =>
  some ((IntKind.wrap .i64 (IntKind.wrap .u64 (v13 - 9223372036854775808))), (IntKind.wrap .i64 (a1 + 8)), 0, w14)))
set_option maxHeartbeats 1000000 in
set_option maxRecDepth 100000 in
theorem grapevineref02_TakeKey_ok {a0 : Sl} {a1 : Int} {w w' : World} {r0 : Int} {r1 : Int} {r2 : Int} (h : grapevineref02_TakeKey a0 a1 w = some (r0, r1, r2, w')) : Calls Try.prog 69 #[(Sl.v a0), (.int .i64 a1)] w fun e w'' => e = .returned (.tuple #[(.int .i64 r0), (.int .i64 r1), (.int .i64 r2)]) ∧ w'' = w' := by
  refine calls_dec (n := 41) Try.func69 rfl Try.ntmps69 (by simp) (fun a ha => ?_)
  unfold grapevineref02_TakeKey at h
  refine wp_seq ?_
  refine region_lit ?_
  refine s_do rfl ha (ltd rfl) (d_assign ha rfl) (fun a ha => ?_)
  refine s_do rfl ha (ltd rfl) (d_assign ha rfl) (fun a ha => ?_)
  refine s_do rfl ha (ltd rfl) (d_assign ha rfl) (fun a ha => ?_)
  refine s_nil ?_
  refine t_n ?_
  replace ha : Has 41 [(0, (Sl.v a0)), (1, (.int .i64 a1))] _ := ha.sub ⟨rfl, rfl, trivial⟩
  refine wp_seq ?_
  refine wp_seq ?_
  obtain ⟨v1, w2, e3, h⟩ := bs2 h
  refine reg_join (n := 41) (L := [(16, (.bool v1)), (0, (Sl.v a0)), (1, (.int .i64 a1))]) (w' := w2) (fun a ha => ?_) (fun hk4 => ?_)
  · refine t_n ?_
    replace ha : Has 41 [(0, (Sl.v a0)), (1, (.int .i64 a1)), (16, (.bool v1))] _ := ha.sub ⟨rfl, rfl, rfl, trivial⟩
    refine s_cond ha rfl h (fun b6 h => ?_) (fun b6 h => ?_)
    · refine wp_seq ?_
      refine region_lit ?_
      refine s_do rfl ha (ltd rfl) (d_assign ha rfl) (fun a ha => ?_)
      refine s_do rfl ha (ltd rfl) (d_assign ha rfl) (fun a ha => ?_)
      refine s_do rfl ha (ltd rfl) (d_assign ha rfl) (fun a ha => ?_)
      refine s_nil ?_
      refine t_n ?_
      replace ha : Has 41 [(4, (.int .i64 0)), (5, (.int .i64 0)), (6, (.int .i64 2))] _ := ha.sub ⟨rfl, rfl, rfl, trivial⟩
      refine wp_ret ?_
      refine t_r ?_
      have hS := ha
      cases h
      exact ret3 Try.results69 hS rfl rfl rfl ⟨rfl, rfl⟩
    · refine wp_skip ?_
      refine t_n ?_
      replace ha : Has 41 [(0, (Sl.v a0)), (1, (.int .i64 a1))] _ := ha.sub ⟨rfl, rfl, trivial⟩
      refine wp_seq ?_
      refine wp_seq ?_
      refine region_lit ?_
      refine s_do rfl ha (ltd rfl) (d_move ha rfl) (fun a ha => ?_)
      refine s_do rfl ha (ltd rfl) (d_lenS ha rfl Try.runUnderlying29) (fun a ha => ?_)
      refine s_do rfl ha (ltd rfl) (d_move ha rfl) (fun a ha => ?_)
      refine s_do rfl ha (ltd rfl) (d_sub ha rfl rfl) (fun a ha => ?_)
      refine s_do rfl ha (ltd rfl) (d_lt ha rfl rfl) (fun a ha => ?_)
      refine s_nil ?_
      refine t_n ?_
      replace ha : Has 41 [(0, (Sl.v a0)), (1, (.int .i64 a1)), (21, (.bool (decide ((IntKind.wrap .i64 ((a0.n : Int) - a1)) < 8))))] _ := ha.sub ⟨rfl, rfl, rfl, trivial⟩
      refine s_cond ha rfl h (fun b7 h => ?_) (fun b7 h => ?_)
      · refine wp_seq ?_
        refine region_lit ?_
        refine s_do rfl ha (ltd rfl) (d_assign ha rfl) (fun a ha => ?_)
        refine s_do rfl ha (ltd rfl) (d_assign ha rfl) (fun a ha => ?_)
        refine s_do rfl ha (ltd rfl) (d_assign ha rfl) (fun a ha => ?_)
        refine s_nil ?_
        refine t_n ?_
        replace ha : Has 41 [(4, (.int .i64 0)), (5, (.int .i64 0)), (6, (.int .i64 3))] _ := ha.sub ⟨rfl, rfl, rfl, trivial⟩
        refine wp_ret ?_
        refine t_r ?_
        have hS := ha
        cases h
        exact ret3 Try.results69 hS rfl rfl rfl ⟨rfl, rfl⟩
      · refine wp_skip ?_
        refine t_n ?_
        replace ha : Has 41 [(0, (Sl.v a0)), (1, (.int .i64 a1))] _ := ha.sub ⟨rfl, rfl, trivial⟩
        refine wp_seq ?_
        refine region_lit ?_
        refine s_do rfl ha (ltd rfl) (d_assign ha rfl) (fun a ha => ?_)
        refine s_nil ?_
        refine t_n ?_
        replace ha : Has 41 [(0, (Sl.v a0)), (1, (.int .i64 a1)), (7, (.int .u64 0))] _ := ha.sub ⟨rfl, rfl, rfl, trivial⟩
        refine wp_seq ?_
        refine wp_seq ?_
        refine region_lit ?_
        refine s_do rfl ha (ltd rfl) (d_assign ha rfl) (fun a ha => ?_)
        refine s_nil ?_
        refine t_n ?_
        replace ha : Has 41 [(0, (Sl.v a0)), (1, (.int .i64 a1)), (7, (.int .u64 0)), (8, (.int .i64 0))] _ := ha.sub ⟨rfl, rfl, rfl, rfl, trivial⟩
        refine wp_block ?_
        obtain ⟨v13, w14, e12, h⟩ := bs2 h
        refine s_loop1 (n := 41) (L := [(7, (.int .u64 v13)), (1, (.int .i64 a1))]) (w' := w14) (e := .exit 0) (I := fun (s : Int × Int × World) a w => Has 41 [(7, (.int .u64 s.1)), (8, (.int .i64 s.2.1)), (0, (Sl.v a0)), (1, (.int .i64 a1))] a ∧ w = s.2.2) ⟨ha.sub ⟨rfl, rfl, rfl, rfl, trivial⟩, rfl⟩ e12 (fun a ha => ?_) (fun hk15 => ?_)
        · refine b_hit ?_
          refine t_n ?_
          replace ha : Has 41 [(1, (.int .i64 a1)), (7, (.int .u64 v13))] _ := ha.sub ⟨rfl, rfl, trivial⟩
          refine wp_seq ?_
          refine region_lit ?_
          refine s_do rfl ha (ltd rfl) (d_move ha rfl) (fun a ha => ?_)
          refine s_do rfl ha (ltd rfl) (d_sub ha rfl rfl) (fun a ha => ?_)
          refine s_do rfl ha (ltd rfl) (d_conv ha rfl Try.runUnderlying47 Try.runUnderlying2) (fun a ha => ?_)
          refine s_do rfl ha (ltd rfl) (d_move ha rfl) (fun a ha => ?_)
          refine s_do rfl ha (ltd rfl) (d_add ha rfl rfl) (fun a ha => ?_)
          refine s_do rfl ha (ltd rfl) (d_assign ha rfl) (fun a ha => ?_)
          refine s_do rfl ha (ltd rfl) (d_assign ha rfl) (fun a ha => ?_)
          refine s_do rfl ha (ltd rfl) (d_assign ha rfl) (fun a ha => ?_)
          refine s_nil ?_
          refine t_n ?_
          replace ha : Has 41 [(4, (.int .i64 (IntKind.wrap .i64 (IntKind.wrap .u64 (v13 - 9223372036854775808))))), (5, (.int .i64 (IntKind.wrap .i64 (a1 + 8)))), (6, (.int .i64 0))] _ := ha.sub ⟨rfl, rfl, rfl, trivial⟩
          refine wp_ret ?_
          have hS := ha
          cases h
          exact ret3 Try.results69 hS rfl rfl rfl ⟨rfl, rfl⟩
        · clear h
          rintro ⟨x8, x9, w10⟩ a wq o ⟨ha, hwq⟩ h hr16
          obtain rfl : w10 = wq := hwq.symm
          have ha : Has 41 [(7, (.int .u64 x8)), (8, (.int .i64 x9)), (0, (Sl.v a0)), (1, (.int .i64 a1))] a := ha
          have h : grapevineref02_TakeKey_l1 a0 a1 x8 x9 w10 = some o := h
          unfold grapevineref02_TakeKey_l1 at h
          refine wp_seq ?_
          refine wp_seq ?_
          refine region_lit ?_
          refine s_do rfl ha (ltd rfl) (d_move ha rfl) (fun a ha => ?_)
          refine s_do rfl ha (ltd rfl) (d_lt ha rfl rfl) (fun a ha => ?_)
          refine s_nil ?_
          refine t_n ?_
          replace ha : Has 41 [(0, (Sl.v a0)), (1, (.int .i64 a1)), (7, (.int .u64 x8)), (8, (.int .i64 x9)), (23, (.bool (decide (x9 < 8))))] _ := ha.sub ⟨rfl, rfl, rfl, rfl, rfl, trivial⟩
          refine s_cond ha rfl h (fun b17 h => ?_) (fun b17 h => ?_)
          · refine wp_skip ?_
            refine t_n ?_
            replace ha : Has 41 [(0, (Sl.v a0)), (1, (.int .i64 a1)), (7, (.int .u64 x8)), (8, (.int .i64 x9))] _ := ha.sub ⟨rfl, rfl, rfl, rfl, trivial⟩
            refine wp_seq ?_
            refine wp_block ?_
            refine region_lit ?_
            refine s_do rfl ha (ltd rfl) (d_move ha rfl) (fun a ha => ?_)
            refine s_do rfl ha (ltd rfl) (d_mul ha rfl rfl) (fun a ha => ?_)
            refine s_do rfl ha (ltd rfl) (d_move ha rfl) (fun a ha => ?_)
            refine s_do rfl ha (ltd rfl) (d_move ha rfl) (fun a ha => ?_)
            refine s_do rfl ha (ltd rfl) (d_move ha rfl) (fun a ha => ?_)
            refine s_do rfl ha (ltd rfl) (d_add ha rfl rfl) (fun a ha => ?_)
            obtain ⟨p18, e19, h⟩ := bs1 h
            refine s_do rfl ha (ltd rfl) (d_ix ha rfl rfl Try.runUnderlying29 Try.sizeOf5 e19) (fun a ha => ?_)
            obtain ⟨v20, e21, h⟩ := bs1 h
            refine s_do rfl ha (ltd rfl) (d_ld ha rfl Try.isAgg5 (ldI_c e21)) (fun a ha => ?_)
            refine s_do rfl ha (ltd rfl) (d_conv ha rfl Try.runUnderlying5 Try.runUnderlying47) (fun a ha => ?_)
            refine s_do rfl ha (ltd rfl) (d_add ha rfl rfl) (fun a ha => ?_)
            refine s_do rfl ha (ltd rfl) (d_assign ha rfl) (fun a ha => ?_)
            refine s_nil ?_
            refine b_n ?_
            refine t_n ?_
            replace ha : Has 41 [(0, (Sl.v a0)), (1, (.int .i64 a1)), (7, (.int .u64 (IntKind.wrap .u64 ((IntKind.wrap .u64 (256 * x8)) + (IntKind.wrap .u64 v20))))), (8, (.int .i64 x9))] _ := ha.sub ⟨rfl, rfl, rfl, rfl, trivial⟩
            refine region_lit ?_
            refine s_do rfl ha (ltd rfl) (d_move ha rfl) (fun a ha => ?_)
            refine s_do rfl ha (ltd rfl) (d_add ha rfl rfl) (fun a ha => ?_)
            refine s_do rfl ha (ltd rfl) (d_assign ha rfl) (fun a ha => ?_)
            refine s_nil ?_
            have hS : Has 41 [(7, (.int .u64 (IntKind.wrap .u64 ((IntKind.wrap .u64 (256 * x8)) + (IntKind.wrap .u64 v20))))), (8, (.int .i64 (IntKind.wrap .i64 (x9 + 1)))), (0, (Sl.v a0)), (1, (.int .i64 a1))] _ := ha.sub ⟨rfl, rfl, rfl, rfl, trivial⟩
            cases h
            exact lp_next ⟨hS, rfl⟩
          · refine wp_exit ?_
            refine t_x ?_
            have hS : Has 41 [(7, (.int .u64 x8)), (1, (.int .i64 a1))] _ := ha.sub ⟨rfl, rfl, trivial⟩
            cases h
            cases hr16 _ rfl
            refine lp_x ?_
            exact hk15 _ hS
  · clear h
    have h := e3
    refine region_lit ?_
    refine s_do rfl ha (ltd rfl) (d_move ha rfl) (fun a ha => ?_)
    refine s_do rfl ha (ltd rfl) (d_lt ha rfl rfl) (fun a ha => ?_)
    refine s_do rfl ha (ltd rfl) (d_move ha rfl) (fun a ha => ?_)
    refine ite_s h (fun b5 h => ?_) (fun b5 h => ?_)
    · refine s_no_g rfl rfl ha (rfl : List.lookup 11 _ = _) (tn b5) (ltd rfl) (fun a ha => ?_)
      refine s_no_g rfl rfl ha (rfl : List.lookup 11 _ = _) (tn b5) (ltd rfl) (fun a ha => ?_)
      refine s_no_g rfl rfl ha (rfl : List.lookup 11 _ = _) (tn b5) (ltd rfl) (fun a ha => ?_)
      refine s_no_g rfl rfl ha (rfl : List.lookup 11 _ = _) (tn b5) (ltd rfl) (fun a ha => ?_)
      refine s_do rfl ha (ltd rfl) (d_pick_t ha rfl b5 rfl) (fun a ha => ?_)
      refine s_nil ?_
      have hS : Has 41 [(16, (.bool true)), (0, (Sl.v a0)), (1, (.int .i64 a1))] _ := ha.sub ⟨rfl, rfl, rfl, trivial⟩
      cases h
      exact hk4 _ hS
    · refine s_do_g2 rfl rfl ha (rfl : List.lookup 11 _ = _) (nt b5) (ltd rfl) (d_move ha rfl) (fun a ha => ?_)
      refine s_do_g2 rfl rfl ha (rfl : List.lookup 11 _ = _) (nt b5) (ltd rfl) (d_move ha rfl) (fun a ha => ?_)
      refine s_do_g2 rfl rfl ha (rfl : List.lookup 11 _ = _) (nt b5) (ltd rfl) (d_lenS ha rfl Try.runUnderlying29) (fun a ha => ?_)
      refine s_do_g2 rfl rfl ha (rfl : List.lookup 11 _ = _) (nt b5) (ltd rfl) (d_gt ha rfl rfl) (fun a ha => ?_)
      refine s_do rfl ha (ltd rfl) (d_pick_f ha rfl b5 rfl) (fun a ha => ?_)
      refine s_nil ?_
      have hS : Has 41 [(16, (.bool (decide ((a0.n : Int) < a1)))), (0, (Sl.v a0)), (1, (.int .i64 a1))] _ := ha.sub ⟨rfl, rfl, rfl, trivial⟩
      cases h
      exact hk4 _ hS

noncomputable def grapevineref10_Whole_l1 (a0 : Sl) (x34 : Bool) (x35 : Int) (w36 : World) : Option ((Bool × Int × World) ⊕ (Bool × World)) :=
  if (decide (x35 < 63)) = true then
  (bind2 (if x34 = true then
  ((ix a0 x35 1).bind fun p49 =>
  (ldI .u8 w36 p49).bind fun v51 =>
  some ((v51 == 0), w36))
  else
  (some (false, w36))) fun v44 w45 =>
  some (.inl (v44, (IntKind.wrap .i64 (x35 + 1)), w45)))
  else
  (some (.inr (x34, w36)))
noncomputable def grapevineref10_Whole (a0 : Sl) (w : World) : Option (Int × Int × Bool × World) :=
  bind2 ((dr w).bind fun w5 =>
  if ((a0.n : Int) != 64) = true then
  (some (true, w5))
  else
  ((ix a0 0 1).bind fun p8 =>
  (ldI .u8 w5 p8).bind fun v10 =>
  (ix a0 63 1).bind fun p12 =>
  (ldI .u8 w5 p12).bind fun v14 =>
  some ((v10 != v14), w5))) fun v1 w2 =>
  if v1 = true then
  (some (0, 0, false, w2))
  else
  (bind4 (grapevineref02_TakeKey a0 1 w2) fun v17 v18 v19 w20 =>
  bind4 (grapevineref02_TakeKey a0 9 w20) fun v22 v23 v24 w25 =>
  bind2 (if (decide (1 ≤ v17)) = true then
  (if (decide (v17 ≤ 4611686018427387904)) = true then
  (if (decide (0 ≤ v22)) = true then
  (some ((decide (v22 ≤ 1099511627776)), w25))
  else
  (some (false, w25)))
  else
  (some (false, w25)))
  else
  (some (false, w25))) fun v27 w28 =>
  bind2 (loopF (fun s : Bool × Int × World => grapevineref10_Whole_l1 a0 s.1 s.2.1 s.2.2) (v27, 17, w28)) fun v39 w40 =>
  if (!v39) = true then
  (some (0, 0, false, w40))
  else
  (some (v17, v22, true, w40)))
set_option maxHeartbeats 1000000 in
set_option maxRecDepth 100000 in
theorem grapevineref10_Whole_ok {a0 : Sl} {w w' : World} {r0 : Int} {r1 : Int} {r2 : Bool} (h : grapevineref10_Whole a0 w = some (r0, r1, r2, w')) : Calls Try.prog 68 #[(Sl.v a0)] w fun e w'' => e = .returned (.tuple #[(.int .i64 r0), (.int .i64 r1), (.bool r2)]) ∧ w'' = w' := by
  refine calls_dec (n := 67) Try.func68 rfl Try.ntmps68 (by simp) (fun a ha => ?_)
  unfold grapevineref10_Whole at h
  refine wp_seq ?_
  refine region_lit ?_
  refine s_do rfl ha (ltd rfl) (d_assign ha rfl) (fun a ha => ?_)
  refine s_do rfl ha (ltd rfl) (d_assign ha rfl) (fun a ha => ?_)
  refine s_do rfl ha (ltd rfl) (d_assign ha rfl) (fun a ha => ?_)
  refine s_nil ?_
  refine t_n ?_
  replace ha : Has 67 [(0, (Sl.v a0))] _ := ha.sub ⟨rfl, trivial⟩
  refine wp_seq ?_
  refine wp_seq ?_
  obtain ⟨v1, w2, e3, h⟩ := bs2 h
  refine reg_join (n := 67) (L := [(24, (.bool v1)), (0, (Sl.v a0))]) (w' := w2) (fun a ha => ?_) (fun hk4 => ?_)
  · refine t_n ?_
    replace ha : Has 67 [(0, (Sl.v a0)), (24, (.bool v1))] _ := ha.sub ⟨rfl, rfl, trivial⟩
    refine s_cond ha rfl h (fun b16 h => ?_) (fun b16 h => ?_)
    · refine wp_seq ?_
      refine region_lit ?_
      refine s_do rfl ha (ltd rfl) (d_assign ha rfl) (fun a ha => ?_)
      refine s_do rfl ha (ltd rfl) (d_assign ha rfl) (fun a ha => ?_)
      refine s_do rfl ha (ltd rfl) (d_assign ha rfl) (fun a ha => ?_)
      refine s_nil ?_
      refine t_n ?_
      replace ha : Has 67 [(2, (.int .i64 0)), (3, (.int .i64 0)), (4, (.bool false))] _ := ha.sub ⟨rfl, rfl, rfl, trivial⟩
      refine wp_ret ?_
      refine t_r ?_
      have hS := ha
      cases h
      exact ret3 Try.results68 hS rfl rfl rfl ⟨rfl, rfl⟩
    · refine wp_skip ?_
      refine t_n ?_
      replace ha : Has 67 [(0, (Sl.v a0))] _ := ha.sub ⟨rfl, trivial⟩
      refine wp_seq ?_
      refine region_lit ?_
      refine s_do rfl ha (ltd rfl) (d_move ha rfl) (fun a ha => ?_)
      obtain ⟨v17, v18, v19, w20, e21, h⟩ := bs4 h
      refine s_do rfl ha (ltd rfl) (d_call (xs := [_, _]) (vs := [(Sl.v a0), (.int .i64 1)]) ha ⟨rfl, rfl, trivial⟩ Try.call69 (grapevineref02_TakeKey_ok e21)) (fun a ha => ?_)
      refine s_do rfl ha (ltd rfl) (d_move ha rfl) (fun a ha => ?_)
      refine s_do rfl ha (ltd rfl) (d_ext ha rfl rfl) (fun a ha => ?_)
      refine s_do rfl ha (ltd rfl) (d_ext ha rfl rfl) (fun a ha => ?_)
      refine s_do rfl ha (ltd rfl) (d_ext ha rfl rfl) (fun a ha => ?_)
      refine s_do rfl ha (ltd rfl) (d_assign ha rfl) (fun a ha => ?_)
      refine s_do rfl ha (ltd rfl) (d_assign ha rfl) (fun a ha => ?_)
      refine s_do rfl ha (ltd rfl) (d_assign ha rfl) (fun a ha => ?_)
      refine s_nil ?_
      refine t_n ?_
      replace ha : Has 67 [(0, (Sl.v a0)), (5, (.int .i64 v17))] _ := ha.sub ⟨rfl, rfl, trivial⟩
      refine wp_seq ?_
      refine region_lit ?_
      refine s_do rfl ha (ltd rfl) (d_move ha rfl) (fun a ha => ?_)
      obtain ⟨v22, v23, v24, w25, e26, h⟩ := bs4 h
      refine s_do rfl ha (ltd rfl) (d_call (xs := [_, _]) (vs := [(Sl.v a0), (.int .i64 9)]) ha ⟨rfl, rfl, trivial⟩ Try.call69 (grapevineref02_TakeKey_ok e26)) (fun a ha => ?_)
      refine s_do rfl ha (ltd rfl) (d_move ha rfl) (fun a ha => ?_)
      refine s_do rfl ha (ltd rfl) (d_ext ha rfl rfl) (fun a ha => ?_)
      refine s_do rfl ha (ltd rfl) (d_ext ha rfl rfl) (fun a ha => ?_)
      refine s_do rfl ha (ltd rfl) (d_ext ha rfl rfl) (fun a ha => ?_)
      refine s_do rfl ha (ltd rfl) (d_assign ha rfl) (fun a ha => ?_)
      refine s_do rfl ha (ltd rfl) (d_assign ha rfl) (fun a ha => ?_)
      refine s_do rfl ha (ltd rfl) (d_assign ha rfl) (fun a ha => ?_)
      refine s_nil ?_
      refine t_n ?_
      replace ha : Has 67 [(0, (Sl.v a0)), (5, (.int .i64 v17)), (8, (.int .i64 v22))] _ := ha.sub ⟨rfl, rfl, rfl, trivial⟩
      refine wp_seq ?_
      obtain ⟨v27, w28, e29, h⟩ := bs2 h
      refine reg_join (n := 67) (L := [(11, (.bool v27)), (0, (Sl.v a0)), (5, (.int .i64 v17)), (8, (.int .i64 v22))]) (w' := w28) (fun a ha => ?_) (fun hk30 => ?_)
      · refine t_n ?_
        replace ha : Has 67 [(0, (Sl.v a0)), (5, (.int .i64 v17)), (8, (.int .i64 v22)), (11, (.bool v27))] _ := ha.sub ⟨rfl, rfl, rfl, rfl, trivial⟩
        refine wp_seq ?_
        refine wp_seq ?_
        refine region_lit ?_
        refine s_do rfl ha (ltd rfl) (d_assign ha rfl) (fun a ha => ?_)
        refine s_nil ?_
        refine t_n ?_
        replace ha : Has 67 [(0, (Sl.v a0)), (5, (.int .i64 v17)), (8, (.int .i64 v22)), (11, (.bool v27)), (12, (.int .i64 17))] _ := ha.sub ⟨rfl, rfl, rfl, rfl, rfl, trivial⟩
        refine wp_block ?_
        obtain ⟨v39, w40, e38, h⟩ := bs2 h
        refine s_loop1 (n := 67) (L := [(11, (.bool v39)), (5, (.int .i64 v17)), (8, (.int .i64 v22))]) (w' := w40) (e := .exit 0) (I := fun (s : Bool × Int × World) a w => Has 67 [(11, (.bool s.1)), (12, (.int .i64 s.2.1)), (0, (Sl.v a0)), (5, (.int .i64 v17)), (8, (.int .i64 v22))] a ∧ w = s.2.2) ⟨ha.sub ⟨rfl, rfl, rfl, rfl, rfl, trivial⟩, rfl⟩ e38 (fun a ha => ?_) (fun hk41 => ?_)
        · refine b_hit ?_
          refine t_n ?_
          replace ha : Has 67 [(5, (.int .i64 v17)), (8, (.int .i64 v22)), (11, (.bool v39))] _ := ha.sub ⟨rfl, rfl, rfl, trivial⟩
          refine wp_seq ?_
          refine wp_seq ?_
          refine region_lit ?_
          refine s_do rfl ha (ltd rfl) (d_move ha rfl) (fun a ha => ?_)
          refine s_do rfl ha (ltd rfl) (d_not ha rfl) (fun a ha => ?_)
          refine s_nil ?_
          refine t_n ?_
          replace ha : Has 67 [(5, (.int .i64 v17)), (8, (.int .i64 v22)), (64, (.bool (!v39)))] _ := ha.sub ⟨rfl, rfl, rfl, trivial⟩
          refine s_cond ha rfl h (fun b53 h => ?_) (fun b53 h => ?_)
          · refine wp_seq ?_
            refine region_lit ?_
            refine s_do rfl ha (ltd rfl) (d_assign ha rfl) (fun a ha => ?_)
            refine s_do rfl ha (ltd rfl) (d_assign ha rfl) (fun a ha => ?_)
            refine s_do rfl ha (ltd rfl) (d_assign ha rfl) (fun a ha => ?_)
            refine s_nil ?_
            refine t_n ?_
            replace ha : Has 67 [(2, (.int .i64 0)), (3, (.int .i64 0)), (4, (.bool false))] _ := ha.sub ⟨rfl, rfl, rfl, trivial⟩
            refine wp_ret ?_
            refine t_r ?_
            have hS := ha
            cases h
            exact ret3 Try.results68 hS rfl rfl rfl ⟨rfl, rfl⟩
          · refine wp_skip ?_
            refine t_n ?_
            replace ha : Has 67 [(5, (.int .i64 v17)), (8, (.int .i64 v22))] _ := ha.sub ⟨rfl, rfl, trivial⟩
            refine wp_seq ?_
            refine region_lit ?_
            refine s_do rfl ha (ltd rfl) (d_move ha rfl) (fun a ha => ?_)
            refine s_do rfl ha (ltd rfl) (d_move ha rfl) (fun a ha => ?_)
            refine s_do rfl ha (ltd rfl) (d_assign ha rfl) (fun a ha => ?_)
            refine s_do rfl ha (ltd rfl) (d_assign ha rfl) (fun a ha => ?_)
            refine s_do rfl ha (ltd rfl) (d_assign ha rfl) (fun a ha => ?_)
            refine s_nil ?_
            refine t_n ?_
            replace ha : Has 67 [(2, (.int .i64 v17)), (3, (.int .i64 v22)), (4, (.bool true))] _ := ha.sub ⟨rfl, rfl, rfl, trivial⟩
            refine wp_ret ?_
            have hS := ha
            cases h
            exact ret3 Try.results68 hS rfl rfl rfl ⟨rfl, rfl⟩
        · clear h
          rintro ⟨x34, x35, w36⟩ a wq o ⟨ha, hwq⟩ h hr42
          obtain rfl : w36 = wq := hwq.symm
          have ha : Has 67 [(11, (.bool x34)), (12, (.int .i64 x35)), (0, (Sl.v a0)), (5, (.int .i64 v17)), (8, (.int .i64 v22))] a := ha
          have h : grapevineref10_Whole_l1 a0 x34 x35 w36 = some o := h
          unfold grapevineref10_Whole_l1 at h
          refine wp_seq ?_
          refine wp_seq ?_
          refine region_lit ?_
          refine s_do rfl ha (ltd rfl) (d_move ha rfl) (fun a ha => ?_)
          refine s_do rfl ha (ltd rfl) (d_lt ha rfl rfl) (fun a ha => ?_)
          refine s_nil ?_
          refine t_n ?_
          replace ha : Has 67 [(0, (Sl.v a0)), (5, (.int .i64 v17)), (8, (.int .i64 v22)), (11, (.bool x34)), (12, (.int .i64 x35)), (52, (.bool (decide (x35 < 63))))] _ := ha.sub ⟨rfl, rfl, rfl, rfl, rfl, rfl, trivial⟩
          refine s_cond ha rfl h (fun b43 h => ?_) (fun b43 h => ?_)
          · refine wp_skip ?_
            refine t_n ?_
            replace ha : Has 67 [(0, (Sl.v a0)), (5, (.int .i64 v17)), (8, (.int .i64 v22)), (11, (.bool x34)), (12, (.int .i64 x35))] _ := ha.sub ⟨rfl, rfl, rfl, rfl, rfl, trivial⟩
            refine wp_seq ?_
            refine wp_block ?_
            obtain ⟨v44, w45, e46, h⟩ := bs2 h
            refine reg_join (n := 67) (L := [(11, (.bool v44)), (0, (Sl.v a0)), (5, (.int .i64 v17)), (8, (.int .i64 v22)), (12, (.int .i64 x35))]) (w' := w45) (fun a ha => ?_) (fun hk47 => ?_)
            · refine b_n ?_
              refine t_n ?_
              replace ha : Has 67 [(0, (Sl.v a0)), (5, (.int .i64 v17)), (8, (.int .i64 v22)), (11, (.bool v44)), (12, (.int .i64 x35))] _ := ha.sub ⟨rfl, rfl, rfl, rfl, rfl, trivial⟩
              refine region_lit ?_
              refine s_do rfl ha (ltd rfl) (d_move ha rfl) (fun a ha => ?_)
              refine s_do rfl ha (ltd rfl) (d_add ha rfl rfl) (fun a ha => ?_)
              refine s_do rfl ha (ltd rfl) (d_assign ha rfl) (fun a ha => ?_)
              refine s_nil ?_
              have hS : Has 67 [(11, (.bool v44)), (12, (.int .i64 (IntKind.wrap .i64 (x35 + 1)))), (0, (Sl.v a0)), (5, (.int .i64 v17)), (8, (.int .i64 v22))] _ := ha.sub ⟨rfl, rfl, rfl, rfl, rfl, trivial⟩
              cases h
              exact lp_next ⟨hS, rfl⟩
            · clear h
              have h := e46
              refine region_lit ?_
              refine s_do rfl ha (ltd rfl) (d_move ha rfl) (fun a ha => ?_)
              refine s_do rfl ha (ltd rfl) (d_move ha rfl) (fun a ha => ?_)
              refine ite_s h (fun b48 h => ?_) (fun b48 h => ?_)
              · refine s_do_g2 rfl rfl ha (rfl : List.lookup 56 _ = _) b48 (ltd rfl) (d_move ha rfl) (fun a ha => ?_)
                refine s_do_g2 rfl rfl ha (rfl : List.lookup 56 _ = _) b48 (ltd rfl) (d_move ha rfl) (fun a ha => ?_)
                obtain ⟨p49, e50, h⟩ := bs1 h
                refine s_do_g2 rfl rfl ha (rfl : List.lookup 56 _ = _) b48 (ltd rfl) (d_ix ha rfl rfl Try.runUnderlying29 Try.sizeOf5 e50) (fun a ha => ?_)
                obtain ⟨v51, e52, h⟩ := bs1 h
                refine s_do_g2 rfl rfl ha (rfl : List.lookup 56 _ = _) b48 (ltd rfl) (d_ld ha rfl Try.isAgg5 (ldI_c e52)) (fun a ha => ?_)
                refine s_do_g2 rfl rfl ha (rfl : List.lookup 56 _ = _) b48 (ltd rfl) (d_eq ha rfl rfl) (fun a ha => ?_)
                refine s_do rfl ha (ltd rfl) (d_pick_t ha rfl b48 rfl) (fun a ha => ?_)
                refine s_do rfl ha (ltd rfl) (d_assign ha rfl) (fun a ha => ?_)
                refine s_nil ?_
                have hS : Has 67 [(11, (.bool (v51 == 0))), (0, (Sl.v a0)), (5, (.int .i64 v17)), (8, (.int .i64 v22)), (12, (.int .i64 x35))] _ := ha.sub ⟨rfl, rfl, rfl, rfl, rfl, trivial⟩
                cases h
                exact hk47 _ hS
              · refine s_no_g rfl rfl ha (rfl : List.lookup 56 _ = _) (nn b48 _ rfl) (ltd rfl) (fun a ha => ?_)
                refine s_no_g rfl rfl ha (rfl : List.lookup 56 _ = _) (nn b48 _ rfl) (ltd rfl) (fun a ha => ?_)
                refine s_no_g rfl rfl ha (rfl : List.lookup 56 _ = _) (nn b48 _ rfl) (ltd rfl) (fun a ha => ?_)
                refine s_no_g rfl rfl ha (rfl : List.lookup 56 _ = _) (nn b48 _ rfl) (ltd rfl) (fun a ha => ?_)
                refine s_no_g rfl rfl ha (rfl : List.lookup 56 _ = _) (nn b48 _ rfl) (ltd rfl) (fun a ha => ?_)
                refine s_do rfl ha (ltd rfl) (d_pick_f ha rfl b48 rfl) (fun a ha => ?_)
                refine s_do rfl ha (ltd rfl) (d_assign ha rfl) (fun a ha => ?_)
                refine s_nil ?_
                have hS : Has 67 [(11, (.bool false)), (0, (Sl.v a0)), (5, (.int .i64 v17)), (8, (.int .i64 v22)), (12, (.int .i64 x35))] _ := ha.sub ⟨rfl, rfl, rfl, rfl, rfl, trivial⟩
                cases h
                exact hk47 _ hS
          · refine wp_exit ?_
            refine t_x ?_
            have hS : Has 67 [(11, (.bool x34)), (5, (.int .i64 v17)), (8, (.int .i64 v22))] _ := ha.sub ⟨rfl, rfl, rfl, trivial⟩
            cases h
            cases hr42 _ rfl
            refine lp_x ?_
            exact hk41 _ hS
      · clear h
        have h := e29
        refine region_lit ?_
        refine s_do rfl ha (ltd rfl) (d_move ha rfl) (fun a ha => ?_)
        refine s_do rfl ha (ltd rfl) (d_ge ha rfl rfl) (fun a ha => ?_)
        refine s_do rfl ha (ltd rfl) (d_move ha rfl) (fun a ha => ?_)
        refine ite_s h (fun b31 h => ?_) (fun b31 h => ?_)
        · refine s_do_g2 rfl rfl ha (rfl : List.lookup 39 _ = _) b31 (ltd rfl) (d_move ha rfl) (fun a ha => ?_)
          refine s_do_g2 rfl rfl ha (rfl : List.lookup 39 _ = _) b31 (ltd rfl) (d_le ha rfl rfl) (fun a ha => ?_)
          refine s_do rfl ha (ltd rfl) (d_pick_t ha rfl b31 rfl) (fun a ha => ?_)
          refine s_do rfl ha (ltd rfl) (d_move ha rfl) (fun a ha => ?_)
          refine ite_s h (fun b32 h => ?_) (fun b32 h => ?_)
          · refine s_do_g2 rfl rfl ha (rfl : List.lookup 43 _ = _) b32 (ltd rfl) (d_move ha rfl) (fun a ha => ?_)
            refine s_do_g2 rfl rfl ha (rfl : List.lookup 43 _ = _) b32 (ltd rfl) (d_ge ha rfl rfl) (fun a ha => ?_)
            refine s_do rfl ha (ltd rfl) (d_pick_t ha rfl b32 rfl) (fun a ha => ?_)
            refine s_do rfl ha (ltd rfl) (d_move ha rfl) (fun a ha => ?_)
            refine ite_s h (fun b33 h => ?_) (fun b33 h => ?_)
            · refine s_do_g2 rfl rfl ha (rfl : List.lookup 47 _ = _) b33 (ltd rfl) (d_move ha rfl) (fun a ha => ?_)
              refine s_do_g2 rfl rfl ha (rfl : List.lookup 47 _ = _) b33 (ltd rfl) (d_le ha rfl rfl) (fun a ha => ?_)
              refine s_do rfl ha (ltd rfl) (d_pick_t ha rfl b33 rfl) (fun a ha => ?_)
              refine s_do rfl ha (ltd rfl) (d_assign ha rfl) (fun a ha => ?_)
              refine s_nil ?_
              have hS : Has 67 [(11, (.bool (decide (v22 ≤ 1099511627776)))), (0, (Sl.v a0)), (5, (.int .i64 v17)), (8, (.int .i64 v22))] _ := ha.sub ⟨rfl, rfl, rfl, rfl, trivial⟩
              cases h
              exact hk30 _ hS
            · refine s_no_g rfl rfl ha (rfl : List.lookup 47 _ = _) (nn b33 _ rfl) (ltd rfl) (fun a ha => ?_)
              refine s_no_g rfl rfl ha (rfl : List.lookup 47 _ = _) (nn b33 _ rfl) (ltd rfl) (fun a ha => ?_)
              refine s_do rfl ha (ltd rfl) (d_pick_f ha rfl b33 rfl) (fun a ha => ?_)
              refine s_do rfl ha (ltd rfl) (d_assign ha rfl) (fun a ha => ?_)
              refine s_nil ?_
              have hS : Has 67 [(11, (.bool false)), (0, (Sl.v a0)), (5, (.int .i64 v17)), (8, (.int .i64 v22))] _ := ha.sub ⟨rfl, rfl, rfl, rfl, trivial⟩
              cases h
              exact hk30 _ hS
          · refine s_no_g rfl rfl ha (rfl : List.lookup 43 _ = _) (nn b32 _ rfl) (ltd rfl) (fun a ha => ?_)
            refine s_no_g rfl rfl ha (rfl : List.lookup 43 _ = _) (nn b32 _ rfl) (ltd rfl) (fun a ha => ?_)
            refine s_do rfl ha (ltd rfl) (d_pick_f ha rfl b32 rfl) (fun a ha => ?_)
            refine s_do rfl ha (ltd rfl) (d_move ha rfl) (fun a ha => ?_)
            refine s_no_g rfl rfl ha (rfl : List.lookup 47 _ = _) (nn (by decide) _ rfl) (ltd rfl) (fun a ha => ?_)
            refine s_no_g rfl rfl ha (rfl : List.lookup 47 _ = _) (nn (by decide) _ rfl) (ltd rfl) (fun a ha => ?_)
            refine s_do rfl ha (ltd rfl) (d_pick_f ha rfl (by decide) rfl) (fun a ha => ?_)
            refine s_do rfl ha (ltd rfl) (d_assign ha rfl) (fun a ha => ?_)
            refine s_nil ?_
            have hS : Has 67 [(11, (.bool false)), (0, (Sl.v a0)), (5, (.int .i64 v17)), (8, (.int .i64 v22))] _ := ha.sub ⟨rfl, rfl, rfl, rfl, trivial⟩
            cases h
            exact hk30 _ hS
        · refine s_no_g rfl rfl ha (rfl : List.lookup 39 _ = _) (nn b31 _ rfl) (ltd rfl) (fun a ha => ?_)
          refine s_no_g rfl rfl ha (rfl : List.lookup 39 _ = _) (nn b31 _ rfl) (ltd rfl) (fun a ha => ?_)
          refine s_do rfl ha (ltd rfl) (d_pick_f ha rfl b31 rfl) (fun a ha => ?_)
          refine s_do rfl ha (ltd rfl) (d_move ha rfl) (fun a ha => ?_)
          refine s_no_g rfl rfl ha (rfl : List.lookup 43 _ = _) (nn (by decide) _ rfl) (ltd rfl) (fun a ha => ?_)
          refine s_no_g rfl rfl ha (rfl : List.lookup 43 _ = _) (nn (by decide) _ rfl) (ltd rfl) (fun a ha => ?_)
          refine s_do rfl ha (ltd rfl) (d_pick_f ha rfl (by decide) rfl) (fun a ha => ?_)
          refine s_do rfl ha (ltd rfl) (d_move ha rfl) (fun a ha => ?_)
          refine s_no_g rfl rfl ha (rfl : List.lookup 47 _ = _) (nn (by decide) _ rfl) (ltd rfl) (fun a ha => ?_)
          refine s_no_g rfl rfl ha (rfl : List.lookup 47 _ = _) (nn (by decide) _ rfl) (ltd rfl) (fun a ha => ?_)
          refine s_do rfl ha (ltd rfl) (d_pick_f ha rfl (by decide) rfl) (fun a ha => ?_)
          refine s_do rfl ha (ltd rfl) (d_assign ha rfl) (fun a ha => ?_)
          refine s_nil ?_
          have hS : Has 67 [(11, (.bool false)), (0, (Sl.v a0)), (5, (.int .i64 v17)), (8, (.int .i64 v22))] _ := ha.sub ⟨rfl, rfl, rfl, rfl, trivial⟩
          cases h
          exact hk30 _ hS
  · clear h
    have h := e3
    obtain ⟨w5, e6, h⟩ := bs1 h
    refine ite_s h (fun b7 h => ?_) (fun b7 h => ?_)
    · have ha : Has 67 [(0, (Sl.v a0))] a := ha.sub ⟨rfl, trivial⟩
      refine region_draw (n := 67) (ds := (⟨_, (Sl.v a0), false, 0, 0, [], [(0, (Sl.v a0))]⟩ :: ⟨_, (.int .i64 (a0.n : Int)), false, 0, 0, [0], [(13, (Sl.v a0))]⟩ :: ⟨_, (.bool ((a0.n : Int) != 64)), false, 0, 0, [0, 1], [(14, (.int .i64 (a0.n : Int)))]⟩ :: ⟨_, (.bool ((a0.n : Int) != 64)), false, 0, 0, [0, 1, 2], [(15, (.bool ((a0.n : Int) != 64)))]⟩ :: ⟨_, undef, false, 0, 0, [0, 1, 2, 3], [(16, (.bool ((a0.n : Int) != 64)))]⟩ :: ⟨_, undef, false, 0, 0, [0, 1, 2, 3, 4], [(16, (.bool ((a0.n : Int) != 64)))]⟩ :: ⟨_, undef, false, 0, 0, [0, 1, 2, 3, 4, 5], [(16, (.bool ((a0.n : Int) != 64)))]⟩ :: ⟨_, undef, false, 0, 0, [0, 1, 2, 3], [(16, (.bool ((a0.n : Int) != 64)))]⟩ :: ⟨_, undef, false, 0, 0, [0, 1, 2, 3, 7], [(16, (.bool ((a0.n : Int) != 64)))]⟩ :: ⟨_, undef, false, 0, 0, [0, 1, 2, 3, 7, 8], [(16, (.bool ((a0.n : Int) != 64)))]⟩ :: ⟨_, undef, false, 0, 0, [0, 1, 2, 3, 4, 5, 6, 7, 8, 9], [(16, (.bool ((a0.n : Int) != 64)))]⟩ :: ⟨_, (.bool true), false, 0, 0, [0, 1, 2, 3, 4, 5, 6, 7, 8, 9, 10], [(16, (.bool ((a0.n : Int) != 64))), (23, undef)]⟩ :: [])) (W := (fun _ => w5)) (by kernel_rfl) ha (dr_w e6) (by kernel_rfl) ?_ (reads_of (by kernel_rfl)) (by kernel_rfl) (m := 0) (by kernel_rfl) (fun a ha => ?_)
      · refine ⟨?_, ?_, ?_, ?_, ?_, ?_, ?_, ?_, ?_, ?_, ?_, ?_, trivial⟩
        · intro j _ _; exact ok_do rfl fun a ha => d_move ha rfl
        · intro j _ _; exact ok_do rfl fun a ha => d_lenS ha rfl Try.runUnderlying29
        · intro j _ _; exact ok_do rfl fun a ha => d_ne ha rfl rfl
        · intro j _ _; exact ok_do rfl fun a ha => d_move ha rfl
        · intro j _ _; exact ok_no_g rfl rfl (rfl : List.lookup 16 _ = _) (tn b7)
        · intro j _ _; exact ok_no_g rfl rfl (rfl : List.lookup 16 _ = _) (tn b7)
        · intro j _ _; exact ok_no_g rfl rfl (rfl : List.lookup 16 _ = _) (tn b7)
        · intro j _ _; exact ok_no_g rfl rfl (rfl : List.lookup 16 _ = _) (tn b7)
        · intro j _ _; exact ok_no_g rfl rfl (rfl : List.lookup 16 _ = _) (tn b7)
        · intro j _ _; exact ok_no_g rfl rfl (rfl : List.lookup 16 _ = _) (tn b7)
        · intro j _ _; exact ok_no_g rfl rfl (rfl : List.lookup 16 _ = _) (tn b7)
        · intro j _ _; exact ok_do rfl fun a ha => d_pick_t ha rfl b7 rfl
      · have ha : Has 67 [(0, (Sl.v a0)), (24, (.bool true))] a := ha.sub ⟨rfl, rfl, trivial⟩
        have hS : Has 67 [(24, (.bool true)), (0, (Sl.v a0))] _ := ha.sub ⟨rfl, rfl, trivial⟩
        cases h
        exact hk4 _ hS
    · obtain ⟨p8, e9, h⟩ := bs1 h
      obtain ⟨v10, e11, h⟩ := bs1 h
      obtain ⟨p12, e13, h⟩ := bs1 h
      obtain ⟨v14, e15, h⟩ := bs1 h
      have ha : Has 67 [(0, (Sl.v a0))] a := ha.sub ⟨rfl, trivial⟩
      refine region_draw (n := 67) (ds := (⟨_, (Sl.v a0), false, 0, 0, [], [(0, (Sl.v a0))]⟩ :: ⟨_, (.int .i64 (a0.n : Int)), false, 0, 0, [0], [(13, (Sl.v a0))]⟩ :: ⟨_, (.bool ((a0.n : Int) != 64)), false, 0, 0, [0, 1], [(14, (.int .i64 (a0.n : Int)))]⟩ :: ⟨_, (.bool ((a0.n : Int) != 64)), false, 0, 0, [0, 1, 2], [(15, (.bool ((a0.n : Int) != 64)))]⟩ :: ⟨_, (Sl.v a0), false, 0, 0, [0, 1, 2, 3], [(0, (Sl.v a0)), (16, (.bool ((a0.n : Int) != 64)))]⟩ :: ⟨_, (.pointer (some p8)), false, 0, 0, [0, 1, 2, 3, 4], [(17, (Sl.v a0)), (16, (.bool ((a0.n : Int) != 64)))]⟩ :: ⟨_, (.int .u8 v10), false, 0, 0, [0, 1, 2, 3, 4, 5], [(18, (.pointer (some p8))), (16, (.bool ((a0.n : Int) != 64)))]⟩ :: ⟨_, (Sl.v a0), false, 0, 0, [0, 1, 2, 3], [(0, (Sl.v a0)), (16, (.bool ((a0.n : Int) != 64)))]⟩ :: ⟨_, (.pointer (some p12)), false, 0, 0, [0, 1, 2, 3, 7], [(20, (Sl.v a0)), (16, (.bool ((a0.n : Int) != 64)))]⟩ :: ⟨_, (.int .u8 v14), false, 0, 0, [0, 1, 2, 3, 7, 8], [(21, (.pointer (some p12))), (16, (.bool ((a0.n : Int) != 64)))]⟩ :: ⟨_, (.bool (v10 != v14)), false, 0, 0, [0, 1, 2, 3, 4, 5, 6, 7, 8, 9], [(19, (.int .u8 v10)), (22, (.int .u8 v14)), (16, (.bool ((a0.n : Int) != 64)))]⟩ :: ⟨_, (.bool (v10 != v14)), false, 0, 0, [0, 1, 2, 3, 4, 5, 6, 7, 8, 9, 10], [(16, (.bool ((a0.n : Int) != 64))), (23, (.bool (v10 != v14)))]⟩ :: [])) (W := (fun _ => w5)) (by kernel_rfl) ha (dr_w e6) (by kernel_rfl) ?_ (reads_of (by kernel_rfl)) (by kernel_rfl) (m := 0) (by kernel_rfl) (fun a ha => ?_)
      · refine ⟨?_, ?_, ?_, ?_, ?_, ?_, ?_, ?_, ?_, ?_, ?_, ?_, trivial⟩
        · intro j _ _; exact ok_do rfl fun a ha => d_move ha rfl
        · intro j _ _; exact ok_do rfl fun a ha => d_lenS ha rfl Try.runUnderlying29
        · intro j _ _; exact ok_do rfl fun a ha => d_ne ha rfl rfl
        · intro j _ _; exact ok_do rfl fun a ha => d_move ha rfl
        · intro j _ _; exact ok_do_g rfl rfl (rfl : List.lookup 16 _ = _) (nt b7) fun a ha => d_move ha rfl
        · intro j _ _; exact ok_do_g rfl rfl (rfl : List.lookup 16 _ = _) (nt b7) fun a ha => d_ix ha rfl rfl Try.runUnderlying29 Try.sizeOf5 e9
        · intro j h1 h2; obtain rfl : j = 0 := Nat.le_antisymm h2 h1; exact ok_do_g rfl rfl (rfl : List.lookup 16 _ = _) (nt b7) fun a ha => d_ld ha rfl Try.isAgg5 (ldI_c e11)
        · intro j _ _; exact ok_do_g rfl rfl (rfl : List.lookup 16 _ = _) (nt b7) fun a ha => d_move ha rfl
        · intro j _ _; exact ok_do_g rfl rfl (rfl : List.lookup 16 _ = _) (nt b7) fun a ha => d_ix ha rfl rfl Try.runUnderlying29 Try.sizeOf5 e13
        · intro j h1 h2; obtain rfl : j = 0 := Nat.le_antisymm h2 h1; exact ok_do_g rfl rfl (rfl : List.lookup 16 _ = _) (nt b7) fun a ha => d_ld ha rfl Try.isAgg5 (ldI_c e15)
        · intro j _ _; exact ok_do_g rfl rfl (rfl : List.lookup 16 _ = _) (nt b7) fun a ha => d_ne ha rfl rfl
        · intro j _ _; exact ok_do rfl fun a ha => d_pick_f ha rfl b7 rfl
      · have ha : Has 67 [(0, (Sl.v a0)), (24, (.bool (v10 != v14)))] a := ha.sub ⟨rfl, rfl, trivial⟩
        have hS : Has 67 [(24, (.bool (v10 != v14))), (0, (Sl.v a0))] _ := ha.sub ⟨rfl, rfl, trivial⟩
        cases h
        exact hk4 _ hS

noncomputable def grapevineref10_Cells_counts (a0 : Option Addr) (a1 : Int) (w : World) : Option (Int × Int × Int × World) :=
  (dr w).bind fun w1 =>
  (a0).bind fun p3 =>
  (ldP w1 (p3.add 0)).bind fun v5 =>
  (ldI .i64 w1 (p3.add 1)).bind fun v7 =>
  bind3 (grapevineref09_Disk_Read v5 (IntKind.wrap .i64 (v7 + (IntKind.wrap .i64 (2 * a1)))) w1) fun v9 v10 w11 =>
  (dr w11).bind fun w13 =>
  (ldP w13 (p3.add 0)).bind fun v15 =>
  (ldI .i64 w13 (p3.add 1)).bind fun v17 =>
  bind3 (grapevineref09_Disk_Read v15 (IntKind.wrap .i64 ((IntKind.wrap .i64 (v17 + (IntKind.wrap .i64 (2 * a1)))) + 1)) w13) fun v19 v20 w21 =>
  bind4 (grapevineref10_Whole v9 w21) fun v23 v24 v25 w26 =>
  bind4 (grapevineref10_Whole v19 w26) fun v28 v29 v30 w31 =>
  bind2 (if v25 = true then
  (if (!v30) = true then
  (some (true, w31))
  else
  (some ((decide (v28 ≤ v23)), w31)))
  else
  (some (false, w31))) fun v33 w34 =>
  if v33 = true then
  (some (0, v23, v24, w34))
  else
  (if v30 = true then
  (some (1, v28, v29, w34))
  else
  (some (2, 0, 0, w34)))
set_option maxHeartbeats 1000000 in
set_option maxRecDepth 100000 in
theorem grapevineref10_Cells_counts_ok {a0 : Option Addr} {a1 : Int} {w w' : World} {r0 : Int} {r1 : Int} {r2 : Int} (h : grapevineref10_Cells_counts a0 a1 w = some (r0, r1, r2, w')) : Calls Try.prog 66 #[(.pointer a0), (.int .i64 a1)] w fun e w'' => e = .returned (.tuple #[(.int .i64 r0), (.int .i64 r1), (.int .i64 r2)]) ∧ w'' = w' := by
  refine calls_dec (n := 75) Try.func66 rfl Try.ntmps66 (by simp) (fun a ha => ?_)
  unfold grapevineref10_Cells_counts at h
  refine wp_seq ?_
  refine region_lit ?_
  refine s_do rfl ha (ltd rfl) (d_assign ha rfl) (fun a ha => ?_)
  refine s_do rfl ha (ltd rfl) (d_assign ha rfl) (fun a ha => ?_)
  refine s_do rfl ha (ltd rfl) (d_assign ha rfl) (fun a ha => ?_)
  refine s_nil ?_
  refine t_n ?_
  replace ha : Has 75 [(0, (.pointer a0)), (1, (.int .i64 a1))] _ := ha.sub ⟨rfl, rfl, trivial⟩
  refine wp_seq ?_
  obtain ⟨w1, e2, h⟩ := bs1 h
  obtain ⟨p3, e4, h⟩ := bs1 h
  obtain ⟨v5, e6, h⟩ := bs1 h
  obtain ⟨v7, e8, h⟩ := bs1 h
  obtain ⟨v9, v10, w11, e12, h⟩ := bs3 h
  have ha : Has 75 [(0, (.pointer a0)), (1, (.int .i64 a1))] a := ha.sub ⟨rfl, rfl, trivial⟩
  refine region_draw (n := 75) (ds := (⟨_, (.pointer a0), false, 0, 0, [], [(0, (.pointer a0))]⟩ :: ⟨_, (.pointer (some p3)), false, 0, 0, [0], [(18, (.pointer a0))]⟩ :: ⟨_, (.pointer (some (p3.add 0))), false, 0, 0, [0, 1], [(19, (.pointer (some p3)))]⟩ :: ⟨_, (.pointer v5), false, 0, 0, [0, 1, 2], [(20, (.pointer (some (p3.add 0))))]⟩ :: ⟨_, (.pointer a0), false, 0, 0, [], [(0, (.pointer a0))]⟩ :: ⟨_, (.pointer (some p3)), false, 0, 0, [4], [(22, (.pointer a0))]⟩ :: ⟨_, (.pointer (some (p3.add 1))), false, 0, 0, [4, 5], [(23, (.pointer (some p3)))]⟩ :: ⟨_, (.int .i64 v7), false, 0, 0, [4, 5, 6], [(24, (.pointer (some (p3.add 1))))]⟩ :: ⟨_, (.int .i64 a1), false, 0, 0, [], [(1, (.int .i64 a1))]⟩ :: ⟨_, (.int .i64 (IntKind.wrap .i64 (2 * a1))), false, 0, 0, [8], [(26, (.int .i64 a1))]⟩ :: ⟨_, (.int .i64 (IntKind.wrap .i64 (v7 + (IntKind.wrap .i64 (2 * a1))))), false, 0, 0, [4, 5, 6, 7, 8, 9], [(25, (.int .i64 v7)), (27, (.int .i64 (IntKind.wrap .i64 (2 * a1))))]⟩ :: ⟨_, (.tuple #[(Sl.v v9), (.int .i64 v10)]), true, 0, 0, [0, 1, 2, 3, 4, 5, 6, 7, 8, 9, 10], [(21, (.pointer v5)), (28, (.int .i64 (IntKind.wrap .i64 (v7 + (IntKind.wrap .i64 (2 * a1))))))]⟩ :: ⟨_, (.tuple #[(Sl.v v9), (.int .i64 v10)]), false, 1, 1, [0, 1, 2, 3, 4, 5, 6, 7, 8, 9, 10, 11], [(29, (.tuple #[(Sl.v v9), (.int .i64 v10)]))]⟩ :: ⟨_, (Sl.v v9), false, 1, 1, (0 :: 1 :: 2 :: 3 :: 4 :: 5 :: 6 :: 7 :: 8 :: 9 :: 10 :: 11 :: 12 :: []), [(17, (.tuple #[(Sl.v v9), (.int .i64 v10)]))]⟩ :: ⟨_, (.int .i64 v10), false, 1, 1, (0 :: 1 :: 2 :: 3 :: 4 :: 5 :: 6 :: 7 :: 8 :: 9 :: 10 :: 11 :: 12 :: []), [(17, (.tuple #[(Sl.v v9), (.int .i64 v10)]))]⟩ :: ⟨_, (Sl.v v9), false, 1, 1, (0 :: 1 :: 2 :: 3 :: 4 :: 5 :: 6 :: 7 :: 8 :: 9 :: 10 :: 11 :: 12 :: 13 :: []), [(30, (Sl.v v9))]⟩ :: ⟨_, (.int .i64 v10), false, 1, 1, (0 :: 1 :: 2 :: 3 :: 4 :: 5 :: 6 :: 7 :: 8 :: 9 :: 10 :: 11 :: 12 :: 13 :: 14 :: 15 :: []), [(31, (.int .i64 v10))]⟩ :: [])) (W := (fun j => match j with | 0 => w1 | _ => w11)) (by kernel_rfl) ha (dr_w e2) (by kernel_rfl) ?_ (reads_of (by kernel_rfl)) (by kernel_rfl) (m := 1) (by kernel_rfl) (fun a ha => ?_)
  · refine ⟨?_, ?_, ?_, ?_, ?_, ?_, ?_, ?_, ?_, ?_, ?_, ?_, ?_, ?_, ?_, ?_, ?_, trivial⟩
    · intro j _ _; exact ok_do rfl fun a ha => d_move ha rfl
    · intro j _ _; exact ok_do rfl fun a ha => d_nilp ha rfl e4
    · intro j _ _; exact ok_do rfl fun a ha => d_fa ha rfl Try.runUnderlying115 rfl rfl Try.sizeOf44 (by decide)
    · intro j h1 h2; obtain rfl : j = 0 := Nat.le_antisymm h2 h1; exact ok_do rfl fun a ha => d_ld ha rfl Try.isAgg44 (ldP_c e6)
    · intro j _ _; exact ok_do rfl fun a ha => d_move ha rfl
    · intro j _ _; exact ok_do rfl fun a ha => d_nilp ha rfl e4
    · intro j _ _; exact ok_do rfl fun a ha => d_fa ha rfl Try.runUnderlying115 rfl rfl Try.sizeOf3 (by decide)
    · intro j h1 h2; obtain rfl : j = 0 := Nat.le_antisymm h2 h1; exact ok_do rfl fun a ha => d_ld ha rfl Try.isAgg3 (ldI_c e8)
    · intro j _ _; exact ok_do rfl fun a ha => d_move ha rfl
    · intro j _ _; exact ok_do rfl fun a ha => d_mul ha rfl rfl
    · intro j _ _; exact ok_do rfl fun a ha => d_add ha rfl rfl
    · intro j h1 h2; obtain rfl : j = 0 := Nat.le_antisymm h2 h1; exact ok_do rfl fun a ha => d_call (xs := [_, _]) (vs := [(.pointer v5), (.int .i64 (IntKind.wrap .i64 (v7 + (IntKind.wrap .i64 (2 * a1)))))]) ha ⟨rfl, rfl, trivial⟩ Try.call44 (grapevineref09_Disk_Read_ok e12)
    · intro j _ _; exact ok_do rfl fun a ha => d_move ha rfl
    · intro j _ _; exact ok_do rfl fun a ha => d_ext ha rfl rfl
    · intro j _ _; exact ok_do rfl fun a ha => d_ext ha rfl rfl
    · intro j _ _; exact ok_do rfl fun a ha => d_assign ha rfl
    · intro j _ _; exact ok_do rfl fun a ha => d_assign ha rfl
  · have ha : Has 75 [(0, (.pointer a0)), (1, (.int .i64 a1)), (7, (Sl.v v9))] a := ha.sub ⟨rfl, rfl, rfl, trivial⟩
    refine t_n ?_
    replace ha : Has 75 [(0, (.pointer a0)), (1, (.int .i64 a1)), (7, (Sl.v v9))] _ := ha.sub ⟨rfl, rfl, rfl, trivial⟩
    refine wp_seq ?_
    obtain ⟨w13, e14, h⟩ := bs1 h
    obtain ⟨v15, e16, h⟩ := bs1 h
    obtain ⟨v17, e18, h⟩ := bs1 h
    obtain ⟨v19, v20, w21, e22, h⟩ := bs3 h
    have ha : Has 75 [(0, (.pointer a0)), (1, (.int .i64 a1)), (7, (Sl.v v9))] a := ha.sub ⟨rfl, rfl, rfl, trivial⟩
    refine region_draw (n := 75) (ds := (⟨_, (.pointer a0), false, 0, 0, [], [(0, (.pointer a0))]⟩ :: ⟨_, (.pointer (some p3)), false, 0, 0, [0], [(33, (.pointer a0))]⟩ :: ⟨_, (.pointer (some (p3.add 0))), false, 0, 0, [0, 1], [(34, (.pointer (some p3)))]⟩ :: ⟨_, (.pointer v15), false, 0, 0, [0, 1, 2], [(35, (.pointer (some (p3.add 0))))]⟩ :: ⟨_, (.pointer a0), false, 0, 0, [], [(0, (.pointer a0))]⟩ :: ⟨_, (.pointer (some p3)), false, 0, 0, [4], [(37, (.pointer a0))]⟩ :: ⟨_, (.pointer (some (p3.add 1))), false, 0, 0, [4, 5], [(38, (.pointer (some p3)))]⟩ :: ⟨_, (.int .i64 v17), false, 0, 0, [4, 5, 6], [(39, (.pointer (some (p3.add 1))))]⟩ :: ⟨_, (.int .i64 a1), false, 0, 0, [], [(1, (.int .i64 a1))]⟩ :: ⟨_, (.int .i64 (IntKind.wrap .i64 (2 * a1))), false, 0, 0, [8], [(41, (.int .i64 a1))]⟩ :: ⟨_, (.int .i64 (IntKind.wrap .i64 (v17 + (IntKind.wrap .i64 (2 * a1))))), false, 0, 0, [4, 5, 6, 7, 8, 9], [(40, (.int .i64 v17)), (42, (.int .i64 (IntKind.wrap .i64 (2 * a1))))]⟩ :: ⟨_, (.int .i64 (IntKind.wrap .i64 ((IntKind.wrap .i64 (v17 + (IntKind.wrap .i64 (2 * a1)))) + 1))), false, 0, 0, [4, 5, 6, 7, 8, 9, 10], [(43, (.int .i64 (IntKind.wrap .i64 (v17 + (IntKind.wrap .i64 (2 * a1))))))]⟩ :: ⟨_, (.tuple #[(Sl.v v19), (.int .i64 v20)]), true, 0, 0, [0, 1, 2, 3, 4, 5, 6, 7, 8, 9, 10, 11], [(36, (.pointer v15)), (44, (.int .i64 (IntKind.wrap .i64 ((IntKind.wrap .i64 (v17 + (IntKind.wrap .i64 (2 * a1)))) + 1))))]⟩ :: ⟨_, (.tuple #[(Sl.v v19), (.int .i64 v20)]), false, 1, 1, (0 :: 1 :: 2 :: 3 :: 4 :: 5 :: 6 :: 7 :: 8 :: 9 :: 10 :: 11 :: 12 :: []), [(45, (.tuple #[(Sl.v v19), (.int .i64 v20)]))]⟩ :: ⟨_, (Sl.v v19), false, 1, 1, (0 :: 1 :: 2 :: 3 :: 4 :: 5 :: 6 :: 7 :: 8 :: 9 :: 10 :: 11 :: 12 :: 13 :: []), [(32, (.tuple #[(Sl.v v19), (.int .i64 v20)]))]⟩ :: ⟨_, (.int .i64 v20), false, 1, 1, (0 :: 1 :: 2 :: 3 :: 4 :: 5 :: 6 :: 7 :: 8 :: 9 :: 10 :: 11 :: 12 :: 13 :: []), [(32, (.tuple #[(Sl.v v19), (.int .i64 v20)]))]⟩ :: ⟨_, (Sl.v v19), false, 1, 1, (0 :: 1 :: 2 :: 3 :: 4 :: 5 :: 6 :: 7 :: 8 :: 9 :: 10 :: 11 :: 12 :: 13 :: 14 :: []), [(46, (Sl.v v19))]⟩ :: ⟨_, (.int .i64 v20), false, 1, 1, (0 :: 1 :: 2 :: 3 :: 4 :: 5 :: 6 :: 7 :: 8 :: 9 :: 10 :: 11 :: 12 :: 13 :: 14 :: 15 :: 16 :: []), [(47, (.int .i64 v20))]⟩ :: [])) (W := (fun j => match j with | 0 => w13 | _ => w21)) (by kernel_rfl) ha (dr_w e14) (by kernel_rfl) ?_ (reads_of (by kernel_rfl)) (by kernel_rfl) (m := 1) (by kernel_rfl) (fun a ha => ?_)
    · refine ⟨?_, ?_, ?_, ?_, ?_, ?_, ?_, ?_, ?_, ?_, ?_, ?_, ?_, ?_, ?_, ?_, ?_, ?_, trivial⟩
      · intro j _ _; exact ok_do rfl fun a ha => d_move ha rfl
      · intro j _ _; exact ok_do rfl fun a ha => d_nilp ha rfl e4
      · intro j _ _; exact ok_do rfl fun a ha => d_fa ha rfl Try.runUnderlying115 rfl rfl Try.sizeOf44 (by decide)
      · intro j h1 h2; obtain rfl : j = 0 := Nat.le_antisymm h2 h1; exact ok_do rfl fun a ha => d_ld ha rfl Try.isAgg44 (ldP_c e16)
      · intro j _ _; exact ok_do rfl fun a ha => d_move ha rfl
      · intro j _ _; exact ok_do rfl fun a ha => d_nilp ha rfl e4
      · intro j _ _; exact ok_do rfl fun a ha => d_fa ha rfl Try.runUnderlying115 rfl rfl Try.sizeOf3 (by decide)
      · intro j h1 h2; obtain rfl : j = 0 := Nat.le_antisymm h2 h1; exact ok_do rfl fun a ha => d_ld ha rfl Try.isAgg3 (ldI_c e18)
      · intro j _ _; exact ok_do rfl fun a ha => d_move ha rfl
      · intro j _ _; exact ok_do rfl fun a ha => d_mul ha rfl rfl
      · intro j _ _; exact ok_do rfl fun a ha => d_add ha rfl rfl
      · intro j _ _; exact ok_do rfl fun a ha => d_add ha rfl rfl
      · intro j h1 h2; obtain rfl : j = 0 := Nat.le_antisymm h2 h1; exact ok_do rfl fun a ha => d_call (xs := [_, _]) (vs := [(.pointer v15), (.int .i64 (IntKind.wrap .i64 ((IntKind.wrap .i64 (v17 + (IntKind.wrap .i64 (2 * a1)))) + 1)))]) ha ⟨rfl, rfl, trivial⟩ Try.call44 (grapevineref09_Disk_Read_ok e22)
      · intro j _ _; exact ok_do rfl fun a ha => d_move ha rfl
      · intro j _ _; exact ok_do rfl fun a ha => d_ext ha rfl rfl
      · intro j _ _; exact ok_do rfl fun a ha => d_ext ha rfl rfl
      · intro j _ _; exact ok_do rfl fun a ha => d_assign ha rfl
      · intro j _ _; exact ok_do rfl fun a ha => d_assign ha rfl
    · have ha : Has 75 [(7, (Sl.v v9)), (9, (Sl.v v19))] a := ha.sub ⟨rfl, rfl, trivial⟩
      refine t_n ?_
      replace ha : Has 75 [(7, (Sl.v v9)), (9, (Sl.v v19))] _ := ha.sub ⟨rfl, rfl, trivial⟩
      refine wp_seq ?_
      refine region_lit ?_
      refine s_do rfl ha (ltd rfl) (d_move ha rfl) (fun a ha => ?_)
      obtain ⟨v23, v24, v25, w26, e27, h⟩ := bs4 h
      refine s_do rfl ha (ltd rfl) (d_call (xs := [_]) (vs := [(Sl.v v9)]) ha ⟨rfl, trivial⟩ Try.call68 (grapevineref10_Whole_ok e27)) (fun a ha => ?_)
      refine s_do rfl ha (ltd rfl) (d_move ha rfl) (fun a ha => ?_)
      refine s_do rfl ha (ltd rfl) (d_ext ha rfl rfl) (fun a ha => ?_)
      refine s_do rfl ha (ltd rfl) (d_ext ha rfl rfl) (fun a ha => ?_)
      refine s_do rfl ha (ltd rfl) (d_ext ha rfl rfl) (fun a ha => ?_)
      refine s_do rfl ha (ltd rfl) (d_assign ha rfl) (fun a ha => ?_)
      refine s_do rfl ha (ltd rfl) (d_assign ha rfl) (fun a ha => ?_)
      refine s_do rfl ha (ltd rfl) (d_assign ha rfl) (fun a ha => ?_)
      refine s_nil ?_
      refine t_n ?_
      replace ha : Has 75 [(9, (Sl.v v19)), (11, (.int .i64 v23)), (12, (.int .i64 v24)), (13, (.bool v25))] _ := ha.sub ⟨rfl, rfl, rfl, rfl, trivial⟩
      refine wp_seq ?_
      refine region_lit ?_
      refine s_do rfl ha (ltd rfl) (d_move ha rfl) (fun a ha => ?_)
      obtain ⟨v28, v29, v30, w31, e32, h⟩ := bs4 h
      refine s_do rfl ha (ltd rfl) (d_call (xs := [_]) (vs := [(Sl.v v19)]) ha ⟨rfl, trivial⟩ Try.call68 (grapevineref10_Whole_ok e32)) (fun a ha => ?_)
      refine s_do rfl ha (ltd rfl) (d_move ha rfl) (fun a ha => ?_)
      refine s_do rfl ha (ltd rfl) (d_ext ha rfl rfl) (fun a ha => ?_)
      refine s_do rfl ha (ltd rfl) (d_ext ha rfl rfl) (fun a ha => ?_)
      refine s_do rfl ha (ltd rfl) (d_ext ha rfl rfl) (fun a ha => ?_)
      refine s_do rfl ha (ltd rfl) (d_assign ha rfl) (fun a ha => ?_)
      refine s_do rfl ha (ltd rfl) (d_assign ha rfl) (fun a ha => ?_)
      refine s_do rfl ha (ltd rfl) (d_assign ha rfl) (fun a ha => ?_)
      refine s_nil ?_
      refine t_n ?_
      replace ha : Has 75 [(11, (.int .i64 v23)), (12, (.int .i64 v24)), (13, (.bool v25)), (14, (.int .i64 v28)), (15, (.int .i64 v29)), (16, (.bool v30))] _ := ha.sub ⟨rfl, rfl, rfl, rfl, rfl, rfl, trivial⟩
      refine wp_seq ?_
      refine wp_seq ?_
      obtain ⟨v33, w34, e35, h⟩ := bs2 h
      refine reg_join (n := 75) (L := [(69, (.bool v33)), (11, (.int .i64 v23)), (12, (.int .i64 v24)), (14, (.int .i64 v28)), (15, (.int .i64 v29)), (16, (.bool v30))]) (w' := w34) (fun a ha => ?_) (fun hk36 => ?_)
      · refine t_n ?_
        replace ha : Has 75 [(11, (.int .i64 v23)), (12, (.int .i64 v24)), (14, (.int .i64 v28)), (15, (.int .i64 v29)), (16, (.bool v30)), (69, (.bool v33))] _ := ha.sub ⟨rfl, rfl, rfl, rfl, rfl, rfl, trivial⟩
        refine s_cond ha rfl h (fun b39 h => ?_) (fun b39 h => ?_)
        · refine wp_seq ?_
          refine region_lit ?_
          refine s_do rfl ha (ltd rfl) (d_move ha rfl) (fun a ha => ?_)
          refine s_do rfl ha (ltd rfl) (d_move ha rfl) (fun a ha => ?_)
          refine s_do rfl ha (ltd rfl) (d_assign ha rfl) (fun a ha => ?_)
          refine s_do rfl ha (ltd rfl) (d_assign ha rfl) (fun a ha => ?_)
          refine s_do rfl ha (ltd rfl) (d_assign ha rfl) (fun a ha => ?_)
          refine s_nil ?_
          refine t_n ?_
          replace ha : Has 75 [(4, (.int .i64 0)), (5, (.int .i64 v23)), (6, (.int .i64 v24))] _ := ha.sub ⟨rfl, rfl, rfl, trivial⟩
          refine wp_ret ?_
          refine t_r ?_
          have hS := ha
          cases h
          exact ret3 Try.results66 hS rfl rfl rfl ⟨rfl, rfl⟩
        · refine wp_skip ?_
          refine t_n ?_
          replace ha : Has 75 [(14, (.int .i64 v28)), (15, (.int .i64 v29)), (16, (.bool v30))] _ := ha.sub ⟨rfl, rfl, rfl, trivial⟩
          refine wp_seq ?_
          refine wp_seq ?_
          refine region_lit ?_
          refine s_do rfl ha (ltd rfl) (d_move ha rfl) (fun a ha => ?_)
          refine s_nil ?_
          refine t_n ?_
          replace ha : Has 75 [(14, (.int .i64 v28)), (15, (.int .i64 v29)), (72, (.bool v30))] _ := ha.sub ⟨rfl, rfl, rfl, trivial⟩
          refine s_cond ha rfl h (fun b40 h => ?_) (fun b40 h => ?_)
          · refine wp_seq ?_
            refine region_lit ?_
            refine s_do rfl ha (ltd rfl) (d_move ha rfl) (fun a ha => ?_)
            refine s_do rfl ha (ltd rfl) (d_move ha rfl) (fun a ha => ?_)
            refine s_do rfl ha (ltd rfl) (d_assign ha rfl) (fun a ha => ?_)
            refine s_do rfl ha (ltd rfl) (d_assign ha rfl) (fun a ha => ?_)
            refine s_do rfl ha (ltd rfl) (d_assign ha rfl) (fun a ha => ?_)
            refine s_nil ?_
            refine t_n ?_
            replace ha : Has 75 [(4, (.int .i64 1)), (5, (.int .i64 v28)), (6, (.int .i64 v29))] _ := ha.sub ⟨rfl, rfl, rfl, trivial⟩
            refine wp_ret ?_
            refine t_r ?_
            have hS := ha
            cases h
            exact ret3 Try.results66 hS rfl rfl rfl ⟨rfl, rfl⟩
          · refine wp_skip ?_
            refine t_n ?_
            replace ha : Has 75 [] _ := ha.sub trivial
            refine wp_seq ?_
            refine region_lit ?_
            refine s_do rfl ha (ltd rfl) (d_assign ha rfl) (fun a ha => ?_)
            refine s_do rfl ha (ltd rfl) (d_assign ha rfl) (fun a ha => ?_)
            refine s_do rfl ha (ltd rfl) (d_assign ha rfl) (fun a ha => ?_)
            refine s_nil ?_
            refine t_n ?_
            replace ha : Has 75 [(4, (.int .i64 2)), (5, (.int .i64 0)), (6, (.int .i64 0))] _ := ha.sub ⟨rfl, rfl, rfl, trivial⟩
            refine wp_ret ?_
            have hS := ha
            cases h
            exact ret3 Try.results66 hS rfl rfl rfl ⟨rfl, rfl⟩
      · clear h
        have h := e35
        refine region_lit ?_
        refine s_do rfl ha (ltd rfl) (d_move ha rfl) (fun a ha => ?_)
        refine s_do rfl ha (ltd rfl) (d_move ha rfl) (fun a ha => ?_)
        refine ite_s h (fun b37 h => ?_) (fun b37 h => ?_)
        · refine s_do_g2 rfl rfl ha (rfl : List.lookup 61 _ = _) b37 (ltd rfl) (d_move ha rfl) (fun a ha => ?_)
          refine s_do_g2 rfl rfl ha (rfl : List.lookup 61 _ = _) b37 (ltd rfl) (d_not ha rfl) (fun a ha => ?_)
          refine s_do_g2 rfl rfl ha (rfl : List.lookup 61 _ = _) b37 (ltd rfl) (d_move ha rfl) (fun a ha => ?_)
          refine ite_s h (fun b38 h => ?_) (fun b38 h => ?_)
          · refine s_no_g rfl rfl ha (rfl : List.lookup 64 _ = _) (tn b38) (ltd rfl) (fun a ha => ?_)
            refine s_no_g rfl rfl ha (rfl : List.lookup 64 _ = _) (tn b38) (ltd rfl) (fun a ha => ?_)
            refine s_no_g rfl rfl ha (rfl : List.lookup 64 _ = _) (tn b38) (ltd rfl) (fun a ha => ?_)
            refine s_do_g2 rfl rfl ha (rfl : List.lookup 61 _ = _) b37 (ltd rfl) (d_pick_t ha rfl b38 rfl) (fun a ha => ?_)
            refine s_do rfl ha (ltd rfl) (d_pick_t ha rfl b37 rfl) (fun a ha => ?_)
            refine s_nil ?_
            have hS : Has 75 [(69, (.bool true)), (11, (.int .i64 v23)), (12, (.int .i64 v24)), (14, (.int .i64 v28)), (15, (.int .i64 v29)), (16, (.bool v30))] _ := ha.sub ⟨rfl, rfl, rfl, rfl, rfl, rfl, trivial⟩
            cases h
            exact hk36 _ hS
          · refine s_do_g2 rfl rfl ha (rfl : List.lookup 64 _ = _) (nt b38) (ltd rfl) (d_move ha rfl) (fun a ha => ?_)
            refine s_do_g2 rfl rfl ha (rfl : List.lookup 64 _ = _) (nt b38) (ltd rfl) (d_move ha rfl) (fun a ha => ?_)
            refine s_do_g2 rfl rfl ha (rfl : List.lookup 64 _ = _) (nt b38) (ltd rfl) (d_ge ha rfl rfl) (fun a ha => ?_)
            refine s_do_g2 rfl rfl ha (rfl : List.lookup 61 _ = _) b37 (ltd rfl) (d_pick_f ha rfl b38 rfl) (fun a ha => ?_)
            refine s_do rfl ha (ltd rfl) (d_pick_t ha rfl b37 rfl) (fun a ha => ?_)
            refine s_nil ?_
            have hS : Has 75 [(69, (.bool (decide (v28 ≤ v23)))), (11, (.int .i64 v23)), (12, (.int .i64 v24)), (14, (.int .i64 v28)), (15, (.int .i64 v29)), (16, (.bool v30))] _ := ha.sub ⟨rfl, rfl, rfl, rfl, rfl, rfl, trivial⟩
            cases h
            exact hk36 _ hS
        · refine s_no_g rfl rfl ha (rfl : List.lookup 61 _ = _) (nn b37 _ rfl) (ltd rfl) (fun a ha => ?_)
          refine s_no_g rfl rfl ha (rfl : List.lookup 61 _ = _) (nn b37 _ rfl) (ltd rfl) (fun a ha => ?_)
          refine s_no_g rfl rfl ha (rfl : List.lookup 61 _ = _) (nn b37 _ rfl) (ltd rfl) (fun a ha => ?_)
          refine s_no_u rfl rfl ha (rfl : List.lookup 64 _ = _) (ltd rfl) (fun a ha => ?_)
          refine s_no_u rfl rfl ha (rfl : List.lookup 64 _ = _) (ltd rfl) (fun a ha => ?_)
          refine s_no_u rfl rfl ha (rfl : List.lookup 64 _ = _) (ltd rfl) (fun a ha => ?_)
          refine s_no_g rfl rfl ha (rfl : List.lookup 61 _ = _) (nn b37 _ rfl) (ltd rfl) (fun a ha => ?_)
          refine s_do rfl ha (ltd rfl) (d_pick_f ha rfl b37 rfl) (fun a ha => ?_)
          refine s_nil ?_
          have hS : Has 75 [(69, (.bool false)), (11, (.int .i64 v23)), (12, (.int .i64 v24)), (14, (.int .i64 v28)), (15, (.int .i64 v29)), (16, (.bool v30))] _ := ha.sub ⟨rfl, rfl, rfl, rfl, rfl, rfl, trivial⟩
          cases h
          exact hk36 _ hS

noncomputable def grapevineref10_Cells_Put (a0 : Option Addr) (a1 : Int) (a2 : Int) (w : World) : Option (Int × World) :=
  if (a0.isNone) = true then
  (some (1, w))
  else
  ((a0).bind fun p2 =>
  (ldP w (p2.add 0)).bind fun v4 =>
  (v4).bind fun p6 =>
  (ldB w (p6.add 3)).bind fun v8 =>
  if v8 = true then
  (some (10, w))
  else
  (bind2 (if (decide (a1 < 0)) = true then
  (some (true, w))
  else
  ((ldI .i64 w (p2.add 2)).bind fun v16 =>
  if (decide (v16 ≤ a1)) = true then
  (some (true, w))
  else
  (if (decide (a2 < 0)) = true then
  (some (true, w))
  else
  (some ((decide (1099511627776 < a2)), w))))) fun v11 w12 =>
  if v11 = true then
  (some (2, w12))
  else
  (bind4 (grapevineref10_Cells_counts a0 a1 w12) fun v21 v22 v23 w24 =>
  if (decide (4611686018427387904 ≤ v22)) = true then
  (some (6, w24))
  else
  ((ldI .i64 w24 (p2.add 1)).bind fun v27 =>
  bind2 (if (v21 == 0) = true then
  (some ((IntKind.wrap .i64 ((IntKind.wrap .i64 (v27 + (IntKind.wrap .i64 (2 * a1)))) + 1)), w24))
  else
  (some ((IntKind.wrap .i64 (v27 + (IntKind.wrap .i64 (2 * a1)))), w24))) fun v29 w30 =>
  (ldP w30 (p2.add 0)).bind fun v34 =>
  bind3 (grapevineref09_Disk_Read v34 v29 w30) fun v36 v37 w38 =>
  (ix v36 63 1).bind fun p40 =>
  (ldI .u8 w38 p40).bind fun v42 =>
  (rmI (IntKind.wrap .i64 ((IntKind.wrap .i64 v42) + 1)) 256).bind fun v44 =>
  bind2 (bsl w38 5 1 [[(.int .u8 (IntKind.wrap .u8 v44))]]) fun s46 w47 =>
  bind2 (grapevineref02_Key (IntKind.wrap .i64 (v22 + 1)) w47) fun v49 w50 =>
  bind2 (apS Try.prog 29 s46 v49 w50) fun s52 w53 =>
  bind2 (grapevineref02_Key a2 w53) fun v55 w56 =>
  bind2 (apS Try.prog 29 s52 v55 w56) fun s58 w59 =>
  bind2 (apZ Try.prog 29 3 s58 46 w59) fun s61 w62 =>
  (dr w62).bind fun w64 =>
  (ldP w64 (p2.add 0)).bind fun v66 =>
  bind2 (bsl w64 5 1 [[(.int .u8 (IntKind.wrap .u8 v44))]]) fun s68 w69 =>
  bind2 (apS Try.prog 29 s61 s68 w69) fun s71 w72 =>
  bind2 (grapevineref09_Disk_Write v66 v29 s71 w72) fun v74 w75 =>
  chk (ldP w69 (p2.add 0) = some v66) <|
  chk (ldP w72 (p2.add 0) = some v66) <|
  bind2 (if (v74 == 0) = true then
  ((ldP w75 (p2.add 0)).bind fun v84 =>
  bind2 (grapevineref09_Disk_Sync v84 w75) fun v86 w87 =>
  some (v86, w87))
  else
  (some (v74, w75))) fun v79 w80 =>
  some (v79, w80)))))
set_option maxHeartbeats 1000000 in
set_option maxRecDepth 100000 in
theorem grapevineref10_Cells_Put_ok {a0 : Option Addr} {a1 : Int} {a2 : Int} {w w' : World} {r0 : Int} (h : grapevineref10_Cells_Put a0 a1 a2 w = some (r0, w')) : Calls Try.prog 62 #[(.pointer a0), (.int .i64 a1), (.int .i64 a2)] w fun e w'' => e = .returned (.int .i64 r0) ∧ w'' = w' := by
  refine calls_dec (n := 109) Try.func62 rfl Try.ntmps62 (by simp) (fun a ha => ?_)
  unfold grapevineref10_Cells_Put at h
  refine wp_seq ?_
  refine region_lit ?_
  refine s_do rfl ha (ltd rfl) (d_assign ha rfl) (fun a ha => ?_)
  refine s_nil ?_
  refine t_n ?_
  replace ha : Has 109 [(0, (.pointer a0)), (1, (.int .i64 a1)), (2, (.int .i64 a2))] _ := ha.sub ⟨rfl, rfl, rfl, trivial⟩
  refine wp_seq ?_
  refine wp_seq ?_
  refine region_lit ?_
  refine s_do rfl ha (ltd rfl) (d_move ha rfl) (fun a ha => ?_)
  refine s_do rfl ha (ltd rfl) (d_eqN ha rfl rfl Try.runUnderlying73) (fun a ha => ?_)
  refine s_nil ?_
  refine t_n ?_
  replace ha : Has 109 [(0, (.pointer a0)), (1, (.int .i64 a1)), (2, (.int .i64 a2)), (17, (.bool (a0.isNone)))] _ := ha.sub ⟨rfl, rfl, rfl, rfl, trivial⟩
  refine s_cond ha rfl h (fun b1 h => ?_) (fun b1 h => ?_)
  · refine wp_seq ?_
    refine region_lit ?_
    refine s_do rfl ha (ltd rfl) (d_assign ha rfl) (fun a ha => ?_)
    refine s_nil ?_
    refine t_n ?_
    replace ha : Has 109 [(6, (.int .i64 1))] _ := ha.sub ⟨rfl, trivial⟩
    refine wp_ret ?_
    refine t_r ?_
    have hS := ha
    cases h
    exact ret1 Try.results62 hS rfl ⟨rfl, rfl⟩
  · refine wp_skip ?_
    refine t_n ?_
    replace ha : Has 109 [(0, (.pointer a0)), (1, (.int .i64 a1)), (2, (.int .i64 a2))] _ := ha.sub ⟨rfl, rfl, rfl, trivial⟩
    refine wp_seq ?_
    refine wp_seq ?_
    refine region_lit ?_
    refine s_do rfl ha (ltd rfl) (d_move ha rfl) (fun a ha => ?_)
    obtain ⟨p2, e3, h⟩ := bs1 h
    refine s_do rfl ha (ltd rfl) (d_nilp ha rfl e3) (fun a ha => ?_)
    refine s_do rfl ha (ltd rfl) (d_fa ha rfl Try.runUnderlying115 rfl rfl Try.sizeOf44 (by decide)) (fun a ha => ?_)
    obtain ⟨v4, e5, h⟩ := bs1 h
    refine s_do rfl ha (ltd rfl) (d_ld ha rfl Try.isAgg44 (ldP_c e5)) (fun a ha => ?_)
    obtain ⟨p6, e7, h⟩ := bs1 h
    refine s_do rfl ha (ltd rfl) (d_nilp ha rfl e7) (fun a ha => ?_)
    refine s_do rfl ha (ltd rfl) (d_fa ha rfl Try.runUnderlying95 rfl rfl Try.sizeOf4 (by decide)) (fun a ha => ?_)
    obtain ⟨v8, e9, h⟩ := bs1 h
    refine s_do rfl ha (ltd rfl) (d_ld ha rfl Try.isAgg4 (ldB_c e9)) (fun a ha => ?_)
    refine s_nil ?_
    refine t_n ?_
    replace ha : Has 109 [(0, (.pointer a0)), (1, (.int .i64 a1)), (2, (.int .i64 a2)), (24, (.bool v8))] _ := ha.sub ⟨rfl, rfl, rfl, rfl, trivial⟩
    refine s_cond ha rfl h (fun b10 h => ?_) (fun b10 h => ?_)
    · refine wp_seq ?_
      refine region_lit ?_
      refine s_do rfl ha (ltd rfl) (d_assign ha rfl) (fun a ha => ?_)
      refine s_nil ?_
      refine t_n ?_
      replace ha : Has 109 [(6, (.int .i64 10))] _ := ha.sub ⟨rfl, trivial⟩
      refine wp_ret ?_
      refine t_r ?_
      have hS := ha
      cases h
      exact ret1 Try.results62 hS rfl ⟨rfl, rfl⟩
    · refine wp_skip ?_
      refine t_n ?_
      replace ha : Has 109 [(0, (.pointer a0)), (1, (.int .i64 a1)), (2, (.int .i64 a2))] _ := ha.sub ⟨rfl, rfl, rfl, trivial⟩
      refine wp_seq ?_
      refine wp_seq ?_
      obtain ⟨v11, w12, e13, h⟩ := bs2 h
      refine reg_join (n := 109) (L := [(42, (.bool v11)), (0, (.pointer a0)), (1, (.int .i64 a1)), (2, (.int .i64 a2))]) (w' := w12) (fun a ha => ?_) (fun hk14 => ?_)
      · refine t_n ?_
        replace ha : Has 109 [(0, (.pointer a0)), (1, (.int .i64 a1)), (2, (.int .i64 a2)), (42, (.bool v11))] _ := ha.sub ⟨rfl, rfl, rfl, rfl, trivial⟩
        refine s_cond ha rfl h (fun b20 h => ?_) (fun b20 h => ?_)
        · refine wp_seq ?_
          refine region_lit ?_
          refine s_do rfl ha (ltd rfl) (d_assign ha rfl) (fun a ha => ?_)
          refine s_nil ?_
          refine t_n ?_
          replace ha : Has 109 [(6, (.int .i64 2))] _ := ha.sub ⟨rfl, trivial⟩
          refine wp_ret ?_
          refine t_r ?_
          have hS := ha
          cases h
          exact ret1 Try.results62 hS rfl ⟨rfl, rfl⟩
        · refine wp_skip ?_
          refine t_n ?_
          replace ha : Has 109 [(0, (.pointer a0)), (1, (.int .i64 a1)), (2, (.int .i64 a2))] _ := ha.sub ⟨rfl, rfl, rfl, trivial⟩
          refine wp_seq ?_
          refine region_lit ?_
          refine s_do rfl ha (ltd rfl) (d_move ha rfl) (fun a ha => ?_)
          refine s_do rfl ha (ltd rfl) (d_move ha rfl) (fun a ha => ?_)
          obtain ⟨v21, v22, v23, w24, e25, h⟩ := bs4 h
          refine s_do rfl ha (ltd rfl) (d_call (xs := [_, _]) (vs := [(.pointer a0), (.int .i64 a1)]) ha ⟨rfl, rfl, trivial⟩ Try.call66 (grapevineref10_Cells_counts_ok e25)) (fun a ha => ?_)
          refine s_do rfl ha (ltd rfl) (d_move ha rfl) (fun a ha => ?_)
          refine s_do rfl ha (ltd rfl) (d_ext ha rfl rfl) (fun a ha => ?_)
          refine s_do rfl ha (ltd rfl) (d_ext ha rfl rfl) (fun a ha => ?_)
          refine s_do rfl ha (ltd rfl) (d_ext ha rfl rfl) (fun a ha => ?_)
          refine s_do rfl ha (ltd rfl) (d_assign ha rfl) (fun a ha => ?_)
          refine s_do rfl ha (ltd rfl) (d_assign ha rfl) (fun a ha => ?_)
          refine s_do rfl ha (ltd rfl) (d_assign ha rfl) (fun a ha => ?_)
          refine s_nil ?_
          refine t_n ?_
          replace ha : Has 109 [(0, (.pointer a0)), (1, (.int .i64 a1)), (2, (.int .i64 a2)), (7, (.int .i64 v21)), (8, (.int .i64 v22))] _ := ha.sub ⟨rfl, rfl, rfl, rfl, rfl, trivial⟩
          refine wp_seq ?_
          refine wp_seq ?_
          refine region_lit ?_
          refine s_do rfl ha (ltd rfl) (d_move ha rfl) (fun a ha => ?_)
          refine s_do rfl ha (ltd rfl) (d_ge ha rfl rfl) (fun a ha => ?_)
          refine s_nil ?_
          refine t_n ?_
          replace ha : Has 109 [(0, (.pointer a0)), (1, (.int .i64 a1)), (2, (.int .i64 a2)), (7, (.int .i64 v21)), (8, (.int .i64 v22)), (51, (.bool (decide (4611686018427387904 ≤ v22))))] _ := ha.sub ⟨rfl, rfl, rfl, rfl, rfl, rfl, trivial⟩
          refine s_cond ha rfl h (fun b26 h => ?_) (fun b26 h => ?_)
          · refine wp_seq ?_
            refine region_lit ?_
            refine s_do rfl ha (ltd rfl) (d_assign ha rfl) (fun a ha => ?_)
            refine s_nil ?_
            refine t_n ?_
            replace ha : Has 109 [(6, (.int .i64 6))] _ := ha.sub ⟨rfl, trivial⟩
            refine wp_ret ?_
            refine t_r ?_
            have hS := ha
            cases h
            exact ret1 Try.results62 hS rfl ⟨rfl, rfl⟩
          · refine wp_skip ?_
            refine t_n ?_
            replace ha : Has 109 [(0, (.pointer a0)), (1, (.int .i64 a1)), (2, (.int .i64 a2)), (7, (.int .i64 v21)), (8, (.int .i64 v22))] _ := ha.sub ⟨rfl, rfl, rfl, rfl, rfl, trivial⟩
            refine wp_seq ?_
            refine region_lit ?_
            refine s_do rfl ha (ltd rfl) (d_move ha rfl) (fun a ha => ?_)
            refine s_do rfl ha (ltd rfl) (d_nilp ha rfl e3) (fun a ha => ?_)
            refine s_do rfl ha (ltd rfl) (d_fa ha rfl Try.runUnderlying115 rfl rfl Try.sizeOf3 (by decide)) (fun a ha => ?_)
            obtain ⟨v27, e28, h⟩ := bs1 h
            refine s_do rfl ha (ltd rfl) (d_ld ha rfl Try.isAgg3 (ldI_c e28)) (fun a ha => ?_)
            refine s_do rfl ha (ltd rfl) (d_move ha rfl) (fun a ha => ?_)
            refine s_do rfl ha (ltd rfl) (d_mul ha rfl rfl) (fun a ha => ?_)
            refine s_do rfl ha (ltd rfl) (d_add ha rfl rfl) (fun a ha => ?_)
            refine s_do rfl ha (ltd rfl) (d_assign ha rfl) (fun a ha => ?_)
            refine s_nil ?_
            refine t_n ?_
            replace ha : Has 109 [(0, (.pointer a0)), (2, (.int .i64 a2)), (7, (.int .i64 v21)), (8, (.int .i64 v22)), (10, (.int .i64 (IntKind.wrap .i64 (v27 + (IntKind.wrap .i64 (2 * a1))))))] _ := ha.sub ⟨rfl, rfl, rfl, rfl, rfl, trivial⟩
            obtain ⟨v29, w30, e31, h⟩ := bs2 h
            refine seq_join (n := 109) (L := [(10, (.int .i64 v29)), (0, (.pointer a0)), (2, (.int .i64 a2)), (8, (.int .i64 v22))]) (w' := w30) (fun a ha => ?_) (fun hk32 => ?_)
            · refine wp_seq ?_
              refine region_lit ?_
              refine s_do rfl ha (ltd rfl) (d_move ha rfl) (fun a ha => ?_)
              refine s_do rfl ha (ltd rfl) (d_nilp ha rfl e3) (fun a ha => ?_)
              refine s_do rfl ha (ltd rfl) (d_fa ha rfl Try.runUnderlying115 rfl rfl Try.sizeOf44 (by decide)) (fun a ha => ?_)
              obtain ⟨v34, e35, h⟩ := bs1 h
              refine s_do rfl ha (ltd rfl) (d_ld ha rfl Try.isAgg44 (ldP_c e35)) (fun a ha => ?_)
              refine s_do rfl ha (ltd rfl) (d_move ha rfl) (fun a ha => ?_)
              obtain ⟨v36, v37, w38, e39, h⟩ := bs3 h
              refine s_do rfl ha (ltd rfl) (d_call (xs := [_, _]) (vs := [(.pointer v34), (.int .i64 v29)]) ha ⟨rfl, rfl, trivial⟩ Try.call44 (grapevineref09_Disk_Read_ok e39)) (fun a ha => ?_)
              refine s_do rfl ha (ltd rfl) (d_move ha rfl) (fun a ha => ?_)
              refine s_do rfl ha (ltd rfl) (d_ext ha rfl rfl) (fun a ha => ?_)
              refine s_do rfl ha (ltd rfl) (d_ext ha rfl rfl) (fun a ha => ?_)
              refine s_do rfl ha (ltd rfl) (d_assign ha rfl) (fun a ha => ?_)
              refine s_do rfl ha (ltd rfl) (d_assign ha rfl) (fun a ha => ?_)
              refine s_nil ?_
              refine t_n ?_
              replace ha : Has 109 [(0, (.pointer a0)), (2, (.int .i64 a2)), (8, (.int .i64 v22)), (10, (.int .i64 v29)), (11, (Sl.v v36))] _ := ha.sub ⟨rfl, rfl, rfl, rfl, rfl, trivial⟩
              refine wp_seq ?_
              refine region_lit ?_
              refine s_do rfl ha (ltd rfl) (d_move ha rfl) (fun a ha => ?_)
              obtain ⟨p40, e41, h⟩ := bs1 h
              refine s_do rfl ha (ltd rfl) (d_ix ha rfl rfl Try.runUnderlying29 Try.sizeOf5 e41) (fun a ha => ?_)
              obtain ⟨v42, e43, h⟩ := bs1 h
              refine s_do rfl ha (ltd rfl) (d_ld ha rfl Try.isAgg5 (ldI_c e43)) (fun a ha => ?_)
              refine s_do rfl ha (ltd rfl) (d_conv ha rfl Try.runUnderlying5 Try.runUnderlying3) (fun a ha => ?_)
              refine s_do rfl ha (ltd rfl) (d_add ha rfl rfl) (fun a ha => ?_)
              obtain ⟨v44, e45, h⟩ := bs1 h
              refine s_do rfl ha (ltd rfl) (d_rem ha rfl rfl e45) (fun a ha => ?_)
              refine s_do rfl ha (ltd rfl) (d_conv ha rfl Try.runUnderlying3 Try.runUnderlying5) (fun a ha => ?_)
              refine s_do rfl ha (ltd rfl) (d_assign ha rfl) (fun a ha => ?_)
              refine s_nil ?_
              refine t_n ?_
              replace ha : Has 109 [(0, (.pointer a0)), (2, (.int .i64 a2)), (8, (.int .i64 v22)), (10, (.int .i64 v29)), (13, (.int .u8 (IntKind.wrap .u8 v44)))] _ := ha.sub ⟨rfl, rfl, rfl, rfl, rfl, trivial⟩
              refine wp_seq ?_
              refine region_lit ?_
              refine s_do rfl ha (ltd rfl) (d_move ha rfl) (fun a ha => ?_)
              obtain ⟨s46, w47, e48, h⟩ := bs2 h
              refine s_do rfl ha (ltd rfl) (d_bsl (vs := [(0, (.int .u8 (IntKind.wrap .u8 v44)))]) (ps := [[(.int .u8 (IntKind.wrap .u8 v44))]]) ha ⟨rfl, rfl, trivial⟩ ⟨rfl, rfl, trivial⟩ rfl Try.runUnderlying29 Try.sizeOf5 Try.zeroValue5 (by decide) e48) (fun a ha => ?_)
              refine s_do rfl ha (ltd rfl) (d_move ha rfl) (fun a ha => ?_)
              refine s_do rfl ha (ltd rfl) (d_add ha rfl rfl) (fun a ha => ?_)
              obtain ⟨v49, w50, e51, h⟩ := bs2 h
              refine s_do rfl ha (ltd rfl) (d_call (xs := [_]) (vs := [(.int .i64 (IntKind.wrap .i64 (v22 + 1)))]) ha ⟨rfl, trivial⟩ Try.call67 (grapevineref02_Key_ok e51)) (fun a ha => ?_)
              obtain ⟨s52, w53, e54, h⟩ := bs2 h
              refine s_do rfl ha (ltd rfl) (d_apS ha rfl rfl e54) (fun a ha => ?_)
              refine s_do rfl ha (ltd rfl) (d_assign ha rfl) (fun a ha => ?_)
              refine s_nil ?_
              refine t_n ?_
              replace ha : Has 109 [(0, (.pointer a0)), (2, (.int .i64 a2)), (10, (.int .i64 v29)), (13, (.int .u8 (IntKind.wrap .u8 v44))), (14, (Sl.v s52))] _ := ha.sub ⟨rfl, rfl, rfl, rfl, rfl, trivial⟩
              refine wp_seq ?_
              refine region_lit ?_
              refine s_do rfl ha (ltd rfl) (d_move ha rfl) (fun a ha => ?_)
              refine s_do rfl ha (ltd rfl) (d_move ha rfl) (fun a ha => ?_)
              obtain ⟨v55, w56, e57, h⟩ := bs2 h
              refine s_do rfl ha (ltd rfl) (d_call (xs := [_]) (vs := [(.int .i64 a2)]) ha ⟨rfl, trivial⟩ Try.call67 (grapevineref02_Key_ok e57)) (fun a ha => ?_)
              obtain ⟨s58, w59, e60, h⟩ := bs2 h
              refine s_do rfl ha (ltd rfl) (d_apS ha rfl rfl e60) (fun a ha => ?_)
              refine s_do rfl ha (ltd rfl) (d_assign ha rfl) (fun a ha => ?_)
              refine s_nil ?_
              refine t_n ?_
              replace ha : Has 109 [(0, (.pointer a0)), (10, (.int .i64 v29)), (13, (.int .u8 (IntKind.wrap .u8 v44))), (14, (Sl.v s58))] _ := ha.sub ⟨rfl, rfl, rfl, rfl, trivial⟩
              refine wp_seq ?_
              refine region_lit ?_
              refine s_do rfl ha (ltd rfl) (d_move ha rfl) (fun a ha => ?_)
              obtain ⟨s61, w62, e63, h⟩ := bs2 h
              refine s_do rfl ha (ltd rfl) (d_apZ ha rfl rfl e63) (fun a ha => ?_)
              refine s_do rfl ha (ltd rfl) (d_assign ha rfl) (fun a ha => ?_)
              refine s_nil ?_
              refine t_n ?_
              replace ha : Has 109 [(0, (.pointer a0)), (10, (.int .i64 v29)), (13, (.int .u8 (IntKind.wrap .u8 v44))), (14, (Sl.v s61))] _ := ha.sub ⟨rfl, rfl, rfl, rfl, trivial⟩
              refine wp_seq ?_
              obtain ⟨w64, e65, h⟩ := bs1 h
              obtain ⟨v66, e67, h⟩ := bs1 h
              obtain ⟨s68, w69, e70, h⟩ := bs2 h
              obtain ⟨s71, w72, e73, h⟩ := bs2 h
              obtain ⟨v74, w75, e76, h⟩ := bs2 h
              obtain ⟨e77, h⟩ := chk_some h
              obtain ⟨e78, h⟩ := chk_some h
              have ha : Has 109 [(0, (.pointer a0)), (10, (.int .i64 v29)), (13, (.int .u8 (IntKind.wrap .u8 v44))), (14, (Sl.v s61))] a := ha.sub ⟨rfl, rfl, rfl, rfl, trivial⟩
              refine region_draw (n := 109) (ds := (⟨_, (.pointer a0), false, 0, 2, [], [(0, (.pointer a0))]⟩ :: ⟨_, (.pointer (some p2)), false, 0, 2, [0], [(91, (.pointer a0))]⟩ :: ⟨_, (.pointer (some (p2.add 0))), false, 0, 2, [0, 1], [(92, (.pointer (some p2)))]⟩ :: ⟨_, (.pointer v66), false, 0, 2, [0, 1, 2], [(93, (.pointer (some (p2.add 0))))]⟩ :: ⟨_, (.int .i64 v29), false, 0, 2, [], [(10, (.int .i64 v29))]⟩ :: ⟨_, (Sl.v s61), false, 0, 1, [], [(14, (Sl.v s61))]⟩ :: ⟨_, (.int .u8 (IntKind.wrap .u8 v44)), false, 0, 0, [], [(13, (.int .u8 (IntKind.wrap .u8 v44)))]⟩ :: ⟨_, (Sl.v s68), true, 0, 0, [6], [(97, (.int .u8 (IntKind.wrap .u8 v44)))]⟩ :: ⟨_, (Sl.v s71), true, 1, 1, [5, 6, 7], [(96, (Sl.v s61)), (98, (Sl.v s68))]⟩ :: ⟨_, (.int .i64 v74), true, 2, 2, [0, 1, 2, 3, 4, 5, 6, 7, 8], [(94, (.pointer v66)), (95, (.int .i64 v29)), (99, (Sl.v s71))]⟩ :: ⟨_, (.int .i64 v74), false, 3, 3, [0, 1, 2, 3, 4, 5, 6, 7, 8, 9], [(100, (.int .i64 v74))]⟩ :: [])) (W := (fun j => match j with | 0 => w64 | 1 => w69 | 2 => w72 | _ => w75)) (by kernel_rfl) ha (dr_w e65) (by kernel_rfl) ?_ (reads_of (by kernel_rfl)) (by kernel_rfl) (m := 3) (by kernel_rfl) (fun a ha => ?_)
              · refine ⟨?_, ?_, ?_, ?_, ?_, ?_, ?_, ?_, ?_, ?_, ?_, trivial⟩
                · intro j _ _; exact ok_do rfl fun a ha => d_move ha rfl
                · intro j _ _; exact ok_do rfl fun a ha => d_nilp ha rfl e3
                · intro j _ _; exact ok_do rfl fun a ha => d_fa ha rfl Try.runUnderlying115 rfl rfl Try.sizeOf44 (by decide)
                · intro j h1 h2; have h1 : 0 ≤ j := h1; have h2 : j ≤ 2 := h2; rcases (by omega : j = 0 ∨ j = 1 ∨ j = 2) with rfl | rfl | rfl
                  · exact ok_do rfl fun a ha => d_ld ha rfl Try.isAgg44 (ldP_c e67)
                  · exact ok_do rfl fun a ha => d_ld ha rfl Try.isAgg44 (ldP_c e77)
                  · exact ok_do rfl fun a ha => d_ld ha rfl Try.isAgg44 (ldP_c e78)
                · intro j _ _; exact ok_do rfl fun a ha => d_move ha rfl
                · intro j _ _; exact ok_do rfl fun a ha => d_move ha rfl
                · intro j _ _; exact ok_do rfl fun a ha => d_move ha rfl
                · intro j h1 h2; obtain rfl : j = 0 := Nat.le_antisymm h2 h1; exact ok_do rfl fun a ha => d_bsl (vs := [(0, (.int .u8 (IntKind.wrap .u8 v44)))]) (ps := [[(.int .u8 (IntKind.wrap .u8 v44))]]) ha ⟨rfl, rfl, trivial⟩ ⟨rfl, rfl, trivial⟩ rfl Try.runUnderlying29 Try.sizeOf5 Try.zeroValue5 (by decide) e70
                · intro j h1 h2; obtain rfl : j = 1 := Nat.le_antisymm h2 h1; exact ok_do rfl fun a ha => d_apS ha rfl rfl e73
                · intro j h1 h2; obtain rfl : j = 2 := Nat.le_antisymm h2 h1; exact ok_do rfl fun a ha => d_call (xs := [_, _, _]) (vs := [(.pointer v66), (.int .i64 v29), (Sl.v s71)]) ha ⟨rfl, rfl, rfl, trivial⟩ Try.call48 (grapevineref09_Disk_Write_ok e76)
                · intro j _ _; exact ok_do rfl fun a ha => d_assign ha rfl
              · have ha : Has 109 [(0, (.pointer a0)), (15, (.int .i64 v74))] a := ha.sub ⟨rfl, rfl, trivial⟩
                refine t_n ?_
                replace ha : Has 109 [(0, (.pointer a0)), (15, (.int .i64 v74))] _ := ha.sub ⟨rfl, rfl, trivial⟩
                obtain ⟨v79, w80, e81, h⟩ := bs2 h
                refine seq_join (n := 109) (L := [(15, (.int .i64 v79))]) (w' := w80) (fun a ha => ?_) (fun hk82 => ?_)
                · refine wp_seq ?_
                  refine region_lit ?_
                  refine s_do rfl ha (ltd rfl) (d_move ha rfl) (fun a ha => ?_)
                  refine s_do rfl ha (ltd rfl) (d_assign ha rfl) (fun a ha => ?_)
                  refine s_nil ?_
                  refine t_n ?_
                  replace ha : Has 109 [(6, (.int .i64 v79))] _ := ha.sub ⟨rfl, trivial⟩
                  refine wp_ret ?_
                  have hS := ha
                  cases h
                  exact ret1 Try.results62 hS rfl ⟨rfl, rfl⟩
                · clear h
                  have h := e81
                  refine wp_seq ?_
                  refine region_lit ?_
                  refine s_do rfl ha (ltd rfl) (d_move ha rfl) (fun a ha => ?_)
                  refine s_do rfl ha (ltd rfl) (d_eq ha rfl rfl) (fun a ha => ?_)
                  refine s_nil ?_
                  refine t_n ?_
                  replace ha : Has 109 [(0, (.pointer a0)), (15, (.int .i64 v74)), (102, (.bool (v74 == 0)))] _ := ha.sub ⟨rfl, rfl, rfl, trivial⟩
                  refine s_cond ha rfl h (fun b83 h => ?_) (fun b83 h => ?_)
                  · refine region_lit ?_
                    refine s_do rfl ha (ltd rfl) (d_move ha rfl) (fun a ha => ?_)
                    refine s_do rfl ha (ltd rfl) (d_nilp ha rfl e3) (fun a ha => ?_)
                    refine s_do rfl ha (ltd rfl) (d_fa ha rfl Try.runUnderlying115 rfl rfl Try.sizeOf44 (by decide)) (fun a ha => ?_)
                    obtain ⟨v84, e85, h⟩ := bs1 h
                    refine s_do rfl ha (ltd rfl) (d_ld ha rfl Try.isAgg44 (ldP_c e85)) (fun a ha => ?_)
                    obtain ⟨v86, w87, e88, h⟩ := bs2 h
                    refine s_do rfl ha (ltd rfl) (d_call (xs := [_]) (vs := [(.pointer v84)]) ha ⟨rfl, trivial⟩ Try.call49 (grapevineref09_Disk_Sync_ok e88)) (fun a ha => ?_)
                    refine s_do rfl ha (ltd rfl) (d_assign ha rfl) (fun a ha => ?_)
                    refine s_nil ?_
                    have hS : Has 109 [(15, (.int .i64 v86))] _ := ha.sub ⟨rfl, trivial⟩
                    cases h
                    exact hk82 _ hS
                  · refine wp_skip ?_
                    have hS : Has 109 [(15, (.int .i64 v74))] _ := ha.sub ⟨rfl, trivial⟩
                    cases h
                    exact hk82 _ hS
            · clear h
              have h := e31
              refine wp_seq ?_
              refine region_lit ?_
              refine s_do rfl ha (ltd rfl) (d_move ha rfl) (fun a ha => ?_)
              refine s_do rfl ha (ltd rfl) (d_eq ha rfl rfl) (fun a ha => ?_)
              refine s_nil ?_
              refine t_n ?_
              replace ha : Has 109 [(0, (.pointer a0)), (2, (.int .i64 a2)), (8, (.int .i64 v22)), (10, (.int .i64 (IntKind.wrap .i64 (v27 + (IntKind.wrap .i64 (2 * a1)))))), (60, (.bool (v21 == 0)))] _ := ha.sub ⟨rfl, rfl, rfl, rfl, rfl, trivial⟩
              refine s_cond ha rfl h (fun b33 h => ?_) (fun b33 h => ?_)
              · refine region_lit ?_
                refine s_do rfl ha (ltd rfl) (d_move ha rfl) (fun a ha => ?_)
                refine s_do rfl ha (ltd rfl) (d_add ha rfl rfl) (fun a ha => ?_)
                refine s_do rfl ha (ltd rfl) (d_assign ha rfl) (fun a ha => ?_)
                refine s_nil ?_
                have hS : Has 109 [(10, (.int .i64 (IntKind.wrap .i64 ((IntKind.wrap .i64 (v27 + (IntKind.wrap .i64 (2 * a1)))) + 1)))), (0, (.pointer a0)), (2, (.int .i64 a2)), (8, (.int .i64 v22))] _ := ha.sub ⟨rfl, rfl, rfl, rfl, trivial⟩
                cases h
                exact hk32 _ hS
              · refine wp_skip ?_
                have hS : Has 109 [(10, (.int .i64 (IntKind.wrap .i64 (v27 + (IntKind.wrap .i64 (2 * a1)))))), (0, (.pointer a0)), (2, (.int .i64 a2)), (8, (.int .i64 v22))] _ := ha.sub ⟨rfl, rfl, rfl, rfl, trivial⟩
                cases h
                exact hk32 _ hS
      · clear h
        have h := e13
        refine region_lit ?_
        refine s_do rfl ha (ltd rfl) (d_move ha rfl) (fun a ha => ?_)
        refine s_do rfl ha (ltd rfl) (d_lt ha rfl rfl) (fun a ha => ?_)
        refine s_do rfl ha (ltd rfl) (d_move ha rfl) (fun a ha => ?_)
        refine ite_s h (fun b15 h => ?_) (fun b15 h => ?_)
        · refine s_no_g rfl rfl ha (rfl : List.lookup 27 _ = _) (tn b15) (ltd rfl) (fun a ha => ?_)
          refine s_no_g rfl rfl ha (rfl : List.lookup 27 _ = _) (tn b15) (ltd rfl) (fun a ha => ?_)
          refine s_no_g rfl rfl ha (rfl : List.lookup 27 _ = _) (tn b15) (ltd rfl) (fun a ha => ?_)
          refine s_no_g rfl rfl ha (rfl : List.lookup 27 _ = _) (tn b15) (ltd rfl) (fun a ha => ?_)
          refine s_no_g rfl rfl ha (rfl : List.lookup 27 _ = _) (tn b15) (ltd rfl) (fun a ha => ?_)
          refine s_no_g rfl rfl ha (rfl : List.lookup 27 _ = _) (tn b15) (ltd rfl) (fun a ha => ?_)
          refine s_do rfl ha (ltd rfl) (d_pick_t ha rfl b15 rfl) (fun a ha => ?_)
          refine s_do rfl ha (ltd rfl) (d_move ha rfl) (fun a ha => ?_)
          refine s_no_g rfl rfl ha (rfl : List.lookup 35 _ = _) (tn rfl) (ltd rfl) (fun a ha => ?_)
          refine s_no_g rfl rfl ha (rfl : List.lookup 35 _ = _) (tn rfl) (ltd rfl) (fun a ha => ?_)
          refine s_do rfl ha (ltd rfl) (d_pick_t ha rfl rfl rfl) (fun a ha => ?_)
          refine s_do rfl ha (ltd rfl) (d_move ha rfl) (fun a ha => ?_)
          refine s_no_g rfl rfl ha (rfl : List.lookup 39 _ = _) (tn rfl) (ltd rfl) (fun a ha => ?_)
          refine s_no_g rfl rfl ha (rfl : List.lookup 39 _ = _) (tn rfl) (ltd rfl) (fun a ha => ?_)
          refine s_do rfl ha (ltd rfl) (d_pick_t ha rfl rfl rfl) (fun a ha => ?_)
          refine s_nil ?_
          have hS : Has 109 [(42, (.bool true)), (0, (.pointer a0)), (1, (.int .i64 a1)), (2, (.int .i64 a2))] _ := ha.sub ⟨rfl, rfl, rfl, rfl, trivial⟩
          cases h
          exact hk14 _ hS
        · refine s_do_g2 rfl rfl ha (rfl : List.lookup 27 _ = _) (nt b15) (ltd rfl) (d_move ha rfl) (fun a ha => ?_)
          refine s_do_g2 rfl rfl ha (rfl : List.lookup 27 _ = _) (nt b15) (ltd rfl) (d_move ha rfl) (fun a ha => ?_)
          refine s_do_g2 rfl rfl ha (rfl : List.lookup 27 _ = _) (nt b15) (ltd rfl) (d_nilp ha rfl e3) (fun a ha => ?_)
          refine s_do_g2 rfl rfl ha (rfl : List.lookup 27 _ = _) (nt b15) (ltd rfl) (d_fa ha rfl Try.runUnderlying115 rfl rfl Try.sizeOf3 (by decide)) (fun a ha => ?_)
          obtain ⟨v16, e17, h⟩ := bs1 h
          refine s_do_g2 rfl rfl ha (rfl : List.lookup 27 _ = _) (nt b15) (ltd rfl) (d_ld ha rfl Try.isAgg3 (ldI_c e17)) (fun a ha => ?_)
          refine s_do_g2 rfl rfl ha (rfl : List.lookup 27 _ = _) (nt b15) (ltd rfl) (d_ge ha rfl rfl) (fun a ha => ?_)
          refine s_do rfl ha (ltd rfl) (d_pick_f ha rfl b15 rfl) (fun a ha => ?_)
          refine s_do rfl ha (ltd rfl) (d_move ha rfl) (fun a ha => ?_)
          refine ite_s h (fun b18 h => ?_) (fun b18 h => ?_)
          · refine s_no_g rfl rfl ha (rfl : List.lookup 35 _ = _) (tn b18) (ltd rfl) (fun a ha => ?_)
            refine s_no_g rfl rfl ha (rfl : List.lookup 35 _ = _) (tn b18) (ltd rfl) (fun a ha => ?_)
            refine s_do rfl ha (ltd rfl) (d_pick_t ha rfl b18 rfl) (fun a ha => ?_)
            refine s_do rfl ha (ltd rfl) (d_move ha rfl) (fun a ha => ?_)
            refine s_no_g rfl rfl ha (rfl : List.lookup 39 _ = _) (tn rfl) (ltd rfl) (fun a ha => ?_)
            refine s_no_g rfl rfl ha (rfl : List.lookup 39 _ = _) (tn rfl) (ltd rfl) (fun a ha => ?_)
            refine s_do rfl ha (ltd rfl) (d_pick_t ha rfl rfl rfl) (fun a ha => ?_)
            refine s_nil ?_
            have hS : Has 109 [(42, (.bool true)), (0, (.pointer a0)), (1, (.int .i64 a1)), (2, (.int .i64 a2))] _ := ha.sub ⟨rfl, rfl, rfl, rfl, trivial⟩
            cases h
            exact hk14 _ hS
          · refine s_do_g2 rfl rfl ha (rfl : List.lookup 35 _ = _) (nt b18) (ltd rfl) (d_move ha rfl) (fun a ha => ?_)
            refine s_do_g2 rfl rfl ha (rfl : List.lookup 35 _ = _) (nt b18) (ltd rfl) (d_lt ha rfl rfl) (fun a ha => ?_)
            refine s_do rfl ha (ltd rfl) (d_pick_f ha rfl b18 rfl) (fun a ha => ?_)
            refine s_do rfl ha (ltd rfl) (d_move ha rfl) (fun a ha => ?_)
            refine ite_s h (fun b19 h => ?_) (fun b19 h => ?_)
            · refine s_no_g rfl rfl ha (rfl : List.lookup 39 _ = _) (tn b19) (ltd rfl) (fun a ha => ?_)
              refine s_no_g rfl rfl ha (rfl : List.lookup 39 _ = _) (tn b19) (ltd rfl) (fun a ha => ?_)
              refine s_do rfl ha (ltd rfl) (d_pick_t ha rfl b19 rfl) (fun a ha => ?_)
              refine s_nil ?_
              have hS : Has 109 [(42, (.bool true)), (0, (.pointer a0)), (1, (.int .i64 a1)), (2, (.int .i64 a2))] _ := ha.sub ⟨rfl, rfl, rfl, rfl, trivial⟩
              cases h
              exact hk14 _ hS
            · refine s_do_g2 rfl rfl ha (rfl : List.lookup 39 _ = _) (nt b19) (ltd rfl) (d_move ha rfl) (fun a ha => ?_)
              refine s_do_g2 rfl rfl ha (rfl : List.lookup 39 _ = _) (nt b19) (ltd rfl) (d_gt ha rfl rfl) (fun a ha => ?_)
              refine s_do rfl ha (ltd rfl) (d_pick_f ha rfl b19 rfl) (fun a ha => ?_)
              refine s_nil ?_
              have hS : Has 109 [(42, (.bool (decide (1099511627776 < a2)))), (0, (.pointer a0)), (1, (.int .i64 a1)), (2, (.int .i64 a2))] _ := ha.sub ⟨rfl, rfl, rfl, rfl, trivial⟩
              cases h
              exact hk14 _ hS

noncomputable def grapevineref10_Cells_Get (a0 : Option Addr) (a1 : Int) (w : World) : Option (Int × Bool × World) :=
  bind2 (if (a0.isNone) = true then
  (some (true, w))
  else
  (if (decide (a1 < 0)) = true then
  (some (true, w))
  else
  ((a0).bind fun p7 =>
  (ldI .i64 w (p7.add 2)).bind fun v9 =>
  some ((decide (v9 ≤ a1)), w)))) fun v1 w2 =>
  if v1 = true then
  (some (0, false, w2))
  else
  (bind4 (grapevineref10_Cells_counts a0 a1 w2) fun v12 v13 v14 w15 =>
  some (v14, (decide (v12 < 2)), w15))
set_option maxHeartbeats 1000000 in
set_option maxRecDepth 100000 in
theorem grapevineref10_Cells_Get_ok {a0 : Option Addr} {a1 : Int} {w w' : World} {r0 : Int} {r1 : Bool} (h : grapevineref10_Cells_Get a0 a1 w = some (r0, r1, w')) : Calls Try.prog 63 #[(.pointer a0), (.int .i64 a1)] w fun e w'' => e = .returned (.tuple #[(.int .i64 r0), (.bool r1)]) ∧ w'' = w' := by
  refine calls_dec (n := 33) Try.func63 rfl Try.ntmps63 (by simp) (fun a ha => ?_)
  unfold grapevineref10_Cells_Get at h
  refine wp_seq ?_
  refine region_lit ?_
  refine s_do rfl ha (ltd rfl) (d_assign ha rfl) (fun a ha => ?_)
  refine s_do rfl ha (ltd rfl) (d_assign ha rfl) (fun a ha => ?_)
  refine s_nil ?_
  refine t_n ?_
  replace ha : Has 33 [(0, (.pointer a0)), (1, (.int .i64 a1))] _ := ha.sub ⟨rfl, rfl, trivial⟩
  refine wp_seq ?_
  refine wp_seq ?_
  obtain ⟨v1, w2, e3, h⟩ := bs2 h
  refine reg_join (n := 33) (L := [(22, (.bool v1)), (0, (.pointer a0)), (1, (.int .i64 a1))]) (w' := w2) (fun a ha => ?_) (fun hk4 => ?_)
  · refine t_n ?_
    replace ha : Has 33 [(0, (.pointer a0)), (1, (.int .i64 a1)), (22, (.bool v1))] _ := ha.sub ⟨rfl, rfl, rfl, trivial⟩
    refine s_cond ha rfl h (fun b11 h => ?_) (fun b11 h => ?_)
    · refine wp_seq ?_
      refine region_lit ?_
      refine s_do rfl ha (ltd rfl) (d_assign ha rfl) (fun a ha => ?_)
      refine s_do rfl ha (ltd rfl) (d_assign ha rfl) (fun a ha => ?_)
      refine s_nil ?_
      refine t_n ?_
      replace ha : Has 33 [(4, (.int .i64 0)), (5, (.bool false))] _ := ha.sub ⟨rfl, rfl, trivial⟩
      refine wp_ret ?_
      refine t_r ?_
      have hS := ha
      cases h
      exact ret2 Try.results63 hS rfl rfl ⟨rfl, rfl⟩
    · refine wp_skip ?_
      refine t_n ?_
      replace ha : Has 33 [(0, (.pointer a0)), (1, (.int .i64 a1))] _ := ha.sub ⟨rfl, rfl, trivial⟩
      refine wp_seq ?_
      refine region_lit ?_
      refine s_do rfl ha (ltd rfl) (d_move ha rfl) (fun a ha => ?_)
      refine s_do rfl ha (ltd rfl) (d_move ha rfl) (fun a ha => ?_)
      obtain ⟨v12, v13, v14, w15, e16, h⟩ := bs4 h
      refine s_do rfl ha (ltd rfl) (d_call (xs := [_, _]) (vs := [(.pointer a0), (.int .i64 a1)]) ha ⟨rfl, rfl, trivial⟩ Try.call66 (grapevineref10_Cells_counts_ok e16)) (fun a ha => ?_)
      refine s_do rfl ha (ltd rfl) (d_move ha rfl) (fun a ha => ?_)
      refine s_do rfl ha (ltd rfl) (d_ext ha rfl rfl) (fun a ha => ?_)
      refine s_do rfl ha (ltd rfl) (d_ext ha rfl rfl) (fun a ha => ?_)
      refine s_do rfl ha (ltd rfl) (d_ext ha rfl rfl) (fun a ha => ?_)
      refine s_do rfl ha (ltd rfl) (d_assign ha rfl) (fun a ha => ?_)
      refine s_do rfl ha (ltd rfl) (d_assign ha rfl) (fun a ha => ?_)
      refine s_do rfl ha (ltd rfl) (d_assign ha rfl) (fun a ha => ?_)
      refine s_nil ?_
      refine t_n ?_
      replace ha : Has 33 [(6, (.int .i64 v12)), (8, (.int .i64 v14))] _ := ha.sub ⟨rfl, rfl, trivial⟩
      refine wp_seq ?_
      refine region_lit ?_
      refine s_do rfl ha (ltd rfl) (d_move ha rfl) (fun a ha => ?_)
      refine s_do rfl ha (ltd rfl) (d_move ha rfl) (fun a ha => ?_)
      refine s_do rfl ha (ltd rfl) (d_lt ha rfl rfl) (fun a ha => ?_)
      refine s_do rfl ha (ltd rfl) (d_assign ha rfl) (fun a ha => ?_)
      refine s_do rfl ha (ltd rfl) (d_assign ha rfl) (fun a ha => ?_)
      refine s_nil ?_
      refine t_n ?_
      replace ha : Has 33 [(4, (.int .i64 v14)), (5, (.bool (decide (v12 < 2))))] _ := ha.sub ⟨rfl, rfl, trivial⟩
      refine wp_ret ?_
      have hS := ha
      cases h
      exact ret2 Try.results63 hS rfl rfl ⟨rfl, rfl⟩
  · clear h
    have h := e3
    refine region_lit ?_
    refine s_do rfl ha (ltd rfl) (d_move ha rfl) (fun a ha => ?_)
    refine s_do rfl ha (ltd rfl) (d_eqN ha rfl rfl Try.runUnderlying73) (fun a ha => ?_)
    refine s_do rfl ha (ltd rfl) (d_move ha rfl) (fun a ha => ?_)
    refine ite_s h (fun b5 h => ?_) (fun b5 h => ?_)
    · refine s_no_g rfl rfl ha (rfl : List.lookup 11 _ = _) (tn b5) (ltd rfl) (fun a ha => ?_)
      refine s_no_g rfl rfl ha (rfl : List.lookup 11 _ = _) (tn b5) (ltd rfl) (fun a ha => ?_)
      refine s_do rfl ha (ltd rfl) (d_pick_t ha rfl b5 rfl) (fun a ha => ?_)
      refine s_do rfl ha (ltd rfl) (d_move ha rfl) (fun a ha => ?_)
      refine s_no_g rfl rfl ha (rfl : List.lookup 15 _ = _) (tn rfl) (ltd rfl) (fun a ha => ?_)
      refine s_no_g rfl rfl ha (rfl : List.lookup 15 _ = _) (tn rfl) (ltd rfl) (fun a ha => ?_)
      refine s_no_g rfl rfl ha (rfl : List.lookup 15 _ = _) (tn rfl) (ltd rfl) (fun a ha => ?_)
      refine s_no_g rfl rfl ha (rfl : List.lookup 15 _ = _) (tn rfl) (ltd rfl) (fun a ha => ?_)
      refine s_no_g rfl rfl ha (rfl : List.lookup 15 _ = _) (tn rfl) (ltd rfl) (fun a ha => ?_)
      refine s_no_g rfl rfl ha (rfl : List.lookup 15 _ = _) (tn rfl) (ltd rfl) (fun a ha => ?_)
      refine s_do rfl ha (ltd rfl) (d_pick_t ha rfl rfl rfl) (fun a ha => ?_)
      refine s_nil ?_
      have hS : Has 33 [(22, (.bool true)), (0, (.pointer a0)), (1, (.int .i64 a1))] _ := ha.sub ⟨rfl, rfl, rfl, trivial⟩
      cases h
      exact hk4 _ hS
    · refine s_do_g2 rfl rfl ha (rfl : List.lookup 11 _ = _) (nt b5) (ltd rfl) (d_move ha rfl) (fun a ha => ?_)
      refine s_do_g2 rfl rfl ha (rfl : List.lookup 11 _ = _) (nt b5) (ltd rfl) (d_lt ha rfl rfl) (fun a ha => ?_)
      refine s_do rfl ha (ltd rfl) (d_pick_f ha rfl b5 rfl) (fun a ha => ?_)
      refine s_do rfl ha (ltd rfl) (d_move ha rfl) (fun a ha => ?_)
      refine ite_s h (fun b6 h => ?_) (fun b6 h => ?_)
      · refine s_no_g rfl rfl ha (rfl : List.lookup 15 _ = _) (tn b6) (ltd rfl) (fun a ha => ?_)
        refine s_no_g rfl rfl ha (rfl : List.lookup 15 _ = _) (tn b6) (ltd rfl) (fun a ha => ?_)
        refine s_no_g rfl rfl ha (rfl : List.lookup 15 _ = _) (tn b6) (ltd rfl) (fun a ha => ?_)
        refine s_no_g rfl rfl ha (rfl : List.lookup 15 _ = _) (tn b6) (ltd rfl) (fun a ha => ?_)
        refine s_no_g rfl rfl ha (rfl : List.lookup 15 _ = _) (tn b6) (ltd rfl) (fun a ha => ?_)
        refine s_no_g rfl rfl ha (rfl : List.lookup 15 _ = _) (tn b6) (ltd rfl) (fun a ha => ?_)
        refine s_do rfl ha (ltd rfl) (d_pick_t ha rfl b6 rfl) (fun a ha => ?_)
        refine s_nil ?_
        have hS : Has 33 [(22, (.bool true)), (0, (.pointer a0)), (1, (.int .i64 a1))] _ := ha.sub ⟨rfl, rfl, rfl, trivial⟩
        cases h
        exact hk4 _ hS
      · refine s_do_g2 rfl rfl ha (rfl : List.lookup 15 _ = _) (nt b6) (ltd rfl) (d_move ha rfl) (fun a ha => ?_)
        refine s_do_g2 rfl rfl ha (rfl : List.lookup 15 _ = _) (nt b6) (ltd rfl) (d_move ha rfl) (fun a ha => ?_)
        obtain ⟨p7, e8, h⟩ := bs1 h
        refine s_do_g2 rfl rfl ha (rfl : List.lookup 15 _ = _) (nt b6) (ltd rfl) (d_nilp ha rfl e8) (fun a ha => ?_)
        refine s_do_g2 rfl rfl ha (rfl : List.lookup 15 _ = _) (nt b6) (ltd rfl) (d_fa ha rfl Try.runUnderlying115 rfl rfl Try.sizeOf3 (by decide)) (fun a ha => ?_)
        obtain ⟨v9, e10, h⟩ := bs1 h
        refine s_do_g2 rfl rfl ha (rfl : List.lookup 15 _ = _) (nt b6) (ltd rfl) (d_ld ha rfl Try.isAgg3 (ldI_c e10)) (fun a ha => ?_)
        refine s_do_g2 rfl rfl ha (rfl : List.lookup 15 _ = _) (nt b6) (ltd rfl) (d_ge ha rfl rfl) (fun a ha => ?_)
        refine s_do rfl ha (ltd rfl) (d_pick_f ha rfl b6 rfl) (fun a ha => ?_)
        refine s_nil ?_
        have hS : Has 33 [(22, (.bool (decide (v9 ≤ a1)))), (0, (.pointer a0)), (1, (.int .i64 a1))] _ := ha.sub ⟨rfl, rfl, rfl, trivial⟩
        cases h
        exact hk4 _ hS
end Go.Proofs.Ytoanmomopcaikaa.D
