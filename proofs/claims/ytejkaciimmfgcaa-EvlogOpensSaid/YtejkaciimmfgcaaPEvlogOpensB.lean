/- Texts of this project that the claim of EvlogOpens uses, put together by pack.py: FnM0, POct, PWhole, Cell, Put, Log, Nd, Split, Two, FnE0. -/
import Derived.Scope
import Derived.Test.YtejkaciimmfgcaaPEvlogOpensA
namespace Go.Proofs.Ytejkaciimmfgcaa.D
open Go
set_option linter.unusedVariables false
set_option linter.unusedSimpArgs false
noncomputable def mark_Open (a0 : Option Addr) (a1 : Int) (a2 : Int) (w : World) : Option ((Option Addr)×Int×World) :=
 if (a0.isNone) = true then
 (some (none,1,w))
 else
 (bind2 (if (decide (a2 < 1)) = true then
 (some (true,w))
 else
 (if (decide (32 < a2)) = true then
 (some (true,w))
 else
 (if (decide (a1 < 0)) = true then
 (some (true,w))
 else
 (bind2 (sector_Disk_Size a0 w) fun v9 w10 =>
 some ((decide ((IntKind.wrap .i64 (v9 - (IntKind.wrap .i64 (2 * a2)))) < a1)),w10))))) fun v2 w3 =>
 if v2 = true then
 (some (none,2,w3))
 else
 (bind2 (mk w3 155 ([.pointer a0,.int .i64 a1,.int .i64 a2])) fun p13 w14 =>
 some ((some p13),0,w14)))
set_option maxHeartbeats 1000000 in
set_option maxRecDepth 100000 in
theorem mark_Open_ok {a0 : Option Addr} {a1 : Int} {a2 : Int} {w w' : World} {r0 : Option Addr} {r1 : Int} (h : mark_Open a0 a1 a2 w = some (r0,r1,w')) : Calls Try.prog 69 #[(.pointer a0),(.int .i64 a1),(.int .i64 a2)] w fun e w''=>e = .returned (.tuple #[(.pointer r0),(.int .i64 r1)])∧w'' = w':=by
 refine calls_dec (n:=36) Try.func69 rfl Try.ntmps69 (by simp) fun a ha=>?_
 unfold mark_Open at h
 refine wp_seq<|region_lit<|qa ha rfl fun a ha=>qa ha rfl fun a ha=>s_nil<|t_n<|wp_seq<|wp_block<|wp_seq<|region_lit<|qm ha rfl fun a ha=>q ha (d_eqN ha rfl rfl Try.runUnderlying57) fun a ha=>qa ha rfl fun a ha=>s_nil<|t_n<|?_
 refine s_cond ha rfl h (fun b1 h=>?_) (fun b1 h=>?_)
 ·refine wp_seq<|region_lit<|qa ha rfl fun a ha=>qa ha rfl fun a ha=>s_nil<|t_n<|wp_ret<|b_r<|t_r<|?_
  have hS:=ha
  cases h
  exact ret2 Try.results69 hS rfl rfl ⟨rfl,rfl⟩
 ·refine wp_seq<|?_
  obtain ⟨v2,w3,e4,h⟩:=bs2 h
  refine reg_join (n:=36) (L:=[(11,(.bool v2)),(0,(.pointer a0)),(1,(.int .i64 a1)),(2,(.int .i64 a2))]) (w':=w3) (fun a ha=>?_) (fun hk5=>?_)
  ·refine t_n<|?_
   refine s_cond ha rfl h (fun b12 h=>?_) (fun b12 h=>?_)
   ·refine wp_seq<|region_lit<|qa ha rfl fun a ha=>qa ha rfl fun a ha=>s_nil<|t_n<|wp_ret<|b_r<|t_r<|?_
    have hS:=ha
    cases h
    exact ret2 Try.results69 hS rfl rfl ⟨rfl,rfl⟩
   ·refine wp_skip<|b_n<|t_n<|wp_seq<|region_lit<|qm ha rfl fun a ha=>qm ha rfl fun a ha=>qm ha rfl fun a ha=>q ha (d_build (vs:=[(0,(.pointer a0)),(1,(.int .i64 a1)),(2,(.int .i64 a2))]) (pl:=#[(0,1),(1,1),(2,1)]) (cs:=([.pointer a0,.int .i64 a1,.int .i64 a2])) ha ⟨rfl,rfl,rfl,rfl,rfl,rfl,trivial⟩ Try.zeroValue155 Try.runUnderlying155 (by intro w; kernel_rfl) (by kernel_rfl)) fun a ha=>?_
    obtain ⟨p13,w14,e15,h⟩:=bs2 h
    refine q ha (d_box ha rfl rfl e15) fun a ha=>qa ha rfl fun a ha=>qa ha rfl fun a ha=>s_nil<|t_n<|wp_ret<|?_
    have hS:=ha
    cases h
    exact ret2 Try.results69 hS rfl rfl ⟨rfl,rfl⟩
  ·clear h
   have h:=e4
   refine region_lit<|qm ha rfl fun a ha=>q ha (d_lt ha rfl rfl) fun a ha=>qm ha rfl fun a ha=>?_
   refine ite_s h (fun b6 h=>?_) (fun b6 h=>?_)
   ·refine qn ha 14 (tn b6) fun a ha=>qn ha 14 (tn b6) fun a ha=>q ha (d_pick_t ha rfl b6 rfl) fun a ha=>qm ha rfl fun a ha=>qn ha 18 (tn rfl) fun a ha=>qn ha 18 (tn rfl) fun a ha=>q ha (d_pick_t ha rfl rfl rfl) fun a ha=>qm ha rfl fun a ha=>qn ha 22 (tn rfl) fun a ha=>qn ha 22 (tn rfl) fun a ha=>qn ha 22 (tn rfl) fun a ha=>qn ha 22 (tn rfl) fun a ha=>qn ha 22 (tn rfl) fun a ha=>qn ha 22 (tn rfl) fun a ha=>qn ha 22 (tn rfl) fun a ha=>q ha (d_pick_t ha rfl rfl rfl) fun a ha=>qa ha rfl fun a ha=>s_nil<|?_
    have hS : Has 36 [(11,(.bool true)),(0,(.pointer a0)),(1,(.int .i64 a1)),(2,(.int .i64 a2))] _:=ha.sub ⟨rfl,rfl,rfl,rfl,trivial⟩
    cases h
    exact hk5 _ hS
   ·refine qg ha 14 (nt b6) (d_move ha rfl) fun a ha=>qg ha 14 (nt b6) (d_gt ha rfl rfl) fun a ha=>q ha (d_pick_f ha rfl b6 rfl) fun a ha=>qm ha rfl fun a ha=>?_
    refine ite_s h (fun b7 h=>?_) (fun b7 h=>?_)
    ·refine qn ha 18 (tn b7) fun a ha=>qn ha 18 (tn b7) fun a ha=>q ha (d_pick_t ha rfl b7 rfl) fun a ha=>qm ha rfl fun a ha=>qn ha 22 (tn rfl) fun a ha=>qn ha 22 (tn rfl) fun a ha=>qn ha 22 (tn rfl) fun a ha=>qn ha 22 (tn rfl) fun a ha=>qn ha 22 (tn rfl) fun a ha=>qn ha 22 (tn rfl) fun a ha=>qn ha 22 (tn rfl) fun a ha=>q ha (d_pick_t ha rfl rfl rfl) fun a ha=>qa ha rfl fun a ha=>s_nil<|?_
     have hS : Has 36 [(11,(.bool true)),(0,(.pointer a0)),(1,(.int .i64 a1)),(2,(.int .i64 a2))] _:=ha.sub ⟨rfl,rfl,rfl,rfl,trivial⟩
     cases h
     exact hk5 _ hS
    ·refine qg ha 18 (nt b7) (d_move ha rfl) fun a ha=>qg ha 18 (nt b7) (d_lt ha rfl rfl) fun a ha=>q ha (d_pick_f ha rfl b7 rfl) fun a ha=>qm ha rfl fun a ha=>?_
     refine ite_s h (fun b8 h=>?_) (fun b8 h=>?_)
     ·refine qn ha 22 (tn b8) fun a ha=>qn ha 22 (tn b8) fun a ha=>qn ha 22 (tn b8) fun a ha=>qn ha 22 (tn b8) fun a ha=>qn ha 22 (tn b8) fun a ha=>qn ha 22 (tn b8) fun a ha=>qn ha 22 (tn b8) fun a ha=>q ha (d_pick_t ha rfl b8 rfl) fun a ha=>qa ha rfl fun a ha=>s_nil<|?_
      have hS : Has 36 [(11,(.bool true)),(0,(.pointer a0)),(1,(.int .i64 a1)),(2,(.int .i64 a2))] _:=ha.sub ⟨rfl,rfl,rfl,rfl,trivial⟩
      cases h
      exact hk5 _ hS
     ·refine qg ha 22 (nt b8) (d_move ha rfl) fun a ha=>qg ha 22 (nt b8) (d_move ha rfl) fun a ha=>?_
      obtain ⟨v9,w10,e11,h⟩:=bs2 h
      refine qg ha 22 (nt b8) (d_call (xs:=[_]) (vs:=[(.pointer a0)]) ha ⟨rfl,trivial⟩ Try.call67 (sector_Disk_Size_ok e11)) fun a ha=>qg ha 22 (nt b8) (d_move ha rfl) fun a ha=>qg ha 22 (nt b8) (d_mul ha rfl rfl) fun a ha=>qg ha 22 (nt b8) (d_sub ha rfl rfl) fun a ha=>qg ha 22 (nt b8) (d_gt ha rfl rfl) fun a ha=>q ha (d_pick_f ha rfl b8 rfl) fun a ha=>qa ha rfl fun a ha=>s_nil<|?_
      have hS : Has 36 [(11,(.bool (decide ((IntKind.wrap .i64 (v9 - (IntKind.wrap .i64 (2 * a2)))) < a1)))),(0,(.pointer a0)),(1,(.int .i64 a1)),(2,(.int .i64 a2))] _:=ha.sub ⟨rfl,rfl,rfl,rfl,trivial⟩
      cases h
      exact hk5 _ hS
noncomputable def octet_TakeKey_l1 (s8 : Sl) (x10 : Int) (x11 : Int) (w12 : World) : Option ((Int×Int×World)⊕(Int×World)) :=
 if (decide (x11 < (s8.n : Int))) = true then
 ((ix s8 x11 1).bind fun p20 =>
 (ldI .u8 w12 p20).bind fun v22 =>
 (shlI .u64 x10 8).bind fun v24 =>
 some (.inl ((bor .u64 v24 (IntKind.wrap .u64 v22)),(IntKind.wrap .i64 (x11 + 1)),w12)))
 else
 (some (.inr (x10,w12)))
noncomputable def octet_TakeKey (a0 : Sl) (a1 : Int) (w : World) : Option (Int×Int×Int×World) :=
 bind2 (if (decide (a1 < 0)) = true then
 (some (true,w))
 else
 (some ((decide ((a0.n : Int) < a1)),w))) fun v1 w2 =>
 if v1 = true then
 (some (0,0,2,w2))
 else
 (if (decide ((IntKind.wrap .i64 ((a0.n : Int) - a1)) < 8)) = true then
 (some (0,0,3,w2))
 else
 ((slS a0 a1 (IntKind.wrap .i64 (a1 + 8)) (a0.c : Int) 1).bind fun s8 =>
 bind2 (loopF (fun s : Int×Int×World=>octet_TakeKey_l1 s8 s.1 s.2.1 s.2.2) (0,0,w2)) fun v15 w16 =>
 some ((IntKind.wrap .i64 (bxor .u64 v15 9223372036854775808)),(IntKind.wrap .i64 (a1 + 8)),0,w16)))
set_option maxHeartbeats 1000000 in
set_option maxRecDepth 100000 in
theorem octet_TakeKey_ok {a0 : Sl} {a1 : Int} {w w' : World} {r0 : Int} {r1 : Int} {r2 : Int} (h : octet_TakeKey a0 a1 w = some (r0,r1,r2,w')) : Calls Try.prog 141 #[(Sl.v a0),(.int .i64 a1)] w fun e w''=>e = .returned (.tuple #[(.int .i64 r0),(.int .i64 r1),(.int .i64 r2)])∧w'' = w':=by
 refine calls_dec (n:=44) Try.func141 rfl Try.ntmps141 (by simp) fun a ha=>?_
 unfold octet_TakeKey at h
 refine wp_seq<|region_lit<|qa ha rfl fun a ha=>qa ha rfl fun a ha=>qa ha rfl fun a ha=>s_nil<|t_n<|wp_seq<|wp_seq<|?_
 obtain ⟨v1,w2,e3,h⟩:=bs2 h
 refine reg_join (n:=44) (L:=[(17,(.bool v1)),(0,(Sl.v a0)),(1,(.int .i64 a1))]) (w':=w2) (fun a ha=>?_) (fun hk4=>?_)
 ·refine t_n<|?_
  refine s_cond ha rfl h (fun b6 h=>?_) (fun b6 h=>?_)
  ·refine wp_seq<|region_lit<|qa ha rfl fun a ha=>qa ha rfl fun a ha=>qa ha rfl fun a ha=>s_nil<|t_n<|wp_ret<|t_r<|?_
   have hS:=ha
   cases h
   exact ret3 Try.results141 hS rfl rfl rfl ⟨rfl,rfl⟩
  ·refine wp_skip<|t_n<|wp_seq<|wp_seq<|region_lit<|qm ha rfl fun a ha=>q ha (d_lenS ha rfl Try.runUnderlying72) fun a ha=>qm ha rfl fun a ha=>q ha (d_sub ha rfl rfl) fun a ha=>q ha (d_lt ha rfl rfl) fun a ha=>s_nil<|t_n<|?_
   refine s_cond ha rfl h (fun b7 h=>?_) (fun b7 h=>?_)
   ·refine wp_seq<|region_lit<|qa ha rfl fun a ha=>qa ha rfl fun a ha=>qa ha rfl fun a ha=>s_nil<|t_n<|wp_ret<|t_r<|?_
    have hS:=ha
    cases h
    exact ret3 Try.results141 hS rfl rfl rfl ⟨rfl,rfl⟩
   ·refine wp_skip<|t_n<|wp_seq<|region_lit<|qa ha rfl fun a ha=>s_nil<|t_n<|wp_seq<|wp_seq<|region_lit<|qm ha rfl fun a ha=>qm ha rfl fun a ha=>qm ha rfl fun a ha=>q ha (d_add ha rfl rfl) fun a ha=>?_
    obtain ⟨s8,e9,h⟩:=bs1 h
    refine q ha (d_slS ha rfl Try.runUnderlying72 Try.sizeOf5 ⟨_,rfl⟩ ⟨_,rfl⟩ rfl (by simp) e9) fun a ha=>q ha (d_lenS ha rfl Try.runUnderlying72) fun a ha=>qm ha rfl fun a ha=>s_nil<|t_n<|wp_block<|?_
    obtain ⟨v15,w16,e14,h⟩:=bs2 h
    refine s_loop1 (n:=44) (L:=[(7,(.int .u64 v15)),(1,(.int .i64 a1))]) (w':=w16) (e:=.exit 0) (I:=fun (s : Int×Int×World) a w=>Has 44 [(7,(.int .u64 s.1)),(29,(.int .i64 s.2.1)),(1,(.int .i64 a1)),(27,(Sl.v s8)),(28,(.int .i64 (s8.n : Int)))] a∧w = s.2.2) ⟨ha.sub ⟨rfl,rfl,rfl,rfl,rfl,trivial⟩,rfl⟩ e14 (fun a ha=>?_) (fun hk17=>?_)
    ·refine b_hit<|t_n<|wp_seq<|region_lit<|qm ha rfl fun a ha=>q ha (d_xor ha rfl rfl) fun a ha=>q ha (d_conv ha rfl Try.runUnderlying60 Try.runUnderlying2) fun a ha=>qm ha rfl fun a ha=>q ha (d_add ha rfl rfl) fun a ha=>qa ha rfl fun a ha=>qa ha rfl fun a ha=>qa ha rfl fun a ha=>s_nil<|t_n<|wp_ret<|?_
     have hS:=ha
     cases h
     exact ret3 Try.results141 hS rfl rfl rfl ⟨rfl,rfl⟩
    ·clear h
     rintro ⟨x10,x11,w12⟩ a wq o ⟨ha,hwq⟩ h hr18
     obtain rfl : w12 = wq:=hwq.symm
     have ha : Has 44 [(7,(.int .u64 x10)),(29,(.int .i64 x11)),(1,(.int .i64 a1)),(27,(Sl.v s8)),(28,(.int .i64 (s8.n : Int)))] a:=ha
     have h : octet_TakeKey_l1 s8 x10 x11 w12 = some o:=h
     unfold octet_TakeKey_l1 at h
     refine wp_seq<|region_lit<|q ha (d_lt ha rfl rfl) fun a ha=>s_nil<|t_n<|wp_seq<|?_
     refine s_cond ha rfl h (fun b19 h=>?_) (fun b19 h=>?_)
     ·refine wp_skip<|t_n<|wp_seq<|wp_block<|wp_seq<|region_lit<|?_
      obtain ⟨p20,e21,h⟩:=bs1 h
      refine q ha (d_ix ha rfl rfl Try.runUnderlying72 Try.sizeOf5 e21) fun a ha=>?_
      obtain ⟨v22,e23,h⟩:=bs1 h
      refine q ha (d_ld ha rfl Try.isAgg5 (ldI_c e23)) fun a ha=>qa ha rfl fun a ha=>s_nil<|t_n<|region_lit<|qm ha rfl fun a ha=>?_
      obtain ⟨v24,e25,h⟩:=bs1 h
      refine q ha (d_shl ha rfl rfl e25) fun a ha=>qm ha rfl fun a ha=>q ha (d_conv ha rfl Try.runUnderlying5 Try.runUnderlying60) fun a ha=>q ha (d_or ha rfl rfl) fun a ha=>qa ha rfl fun a ha=>s_nil<|b_n<|t_n<|region_lit<|q ha (d_add ha rfl rfl) fun a ha=>qm ha rfl fun a ha=>s_nil<|?_
      have hS : Has 44 [(7,(.int .u64 (bor .u64 v24 (IntKind.wrap .u64 v22)))),(29,(.int .i64 (IntKind.wrap .i64 (x11 + 1)))),(1,(.int .i64 a1)),(27,(Sl.v s8)),(28,(.int .i64 (s8.n : Int)))] _:=ha.sub ⟨rfl,rfl,rfl,rfl,rfl,trivial⟩
      cases h
      exact lp_next ⟨hS,rfl⟩
     ·refine wp_exit<|t_x<|?_
      have hS : Has 44 [(7,(.int .u64 x10)),(1,(.int .i64 a1))] _:=ha.sub ⟨rfl,rfl,trivial⟩
      cases h
      cases hr18 _ rfl
      refine lp_x<|?_
      exact hk17 _ hS
 ·clear h
  have h:=e3
  refine region_lit<|qm ha rfl fun a ha=>q ha (d_lt ha rfl rfl) fun a ha=>qm ha rfl fun a ha=>?_
  refine ite_s h (fun b5 h=>?_) (fun b5 h=>?_)
  ·refine qn ha 12 (tn b5) fun a ha=>qn ha 12 (tn b5) fun a ha=>qn ha 12 (tn b5) fun a ha=>qn ha 12 (tn b5) fun a ha=>q ha (d_pick_t ha rfl b5 rfl) fun a ha=>s_nil<|?_
   have hS : Has 44 [(17,(.bool true)),(0,(Sl.v a0)),(1,(.int .i64 a1))] _:=ha.sub ⟨rfl,rfl,rfl,trivial⟩
   cases h
   exact hk4 _ hS
  ·refine qg ha 12 (nt b5) (d_move ha rfl) fun a ha=>qg ha 12 (nt b5) (d_move ha rfl) fun a ha=>qg ha 12 (nt b5) (d_lenS ha rfl Try.runUnderlying72) fun a ha=>qg ha 12 (nt b5) (d_gt ha rfl rfl) fun a ha=>q ha (d_pick_f ha rfl b5 rfl) fun a ha=>s_nil<|?_
   have hS : Has 44 [(17,(.bool (decide ((a0.n : Int) < a1)))),(0,(Sl.v a0)),(1,(.int .i64 a1))] _:=ha.sub ⟨rfl,rfl,rfl,trivial⟩
   cases h
   exact hk4 _ hS
noncomputable def mark_whole_l1 (s27 : Sl) (x29 : Int) (w30 : World) : Option ((Int×World)⊕((World)⊕(Int×Int×Bool×World))) :=
 if (decide (x29 < (s27.n : Int))) = true then
 ((ix s27 x29 1).bind fun p42 =>
 (ldI .u8 w30 p42).bind fun v44 =>
 if (v44 != 0) = true then
 (some (.inr (.inr (0,0,false,w30))))
 else
 (some (.inl ((IntKind.wrap .i64 (x29 + 1)),w30))))
 else
 (some (.inr (.inl w30)))
noncomputable def mark_whole (a0 : Sl) (w : World) : Option (Int×Int×Bool×World) :=
 bind2 ((dr w).bind fun w5 =>
 if ((a0.n : Int) != 64) = true then
 (some (true,w5))
 else
 ((ix a0 0 1).bind fun p8 =>
 (ldI .u8 w5 p8).bind fun v10 =>
 (ix a0 63 1).bind fun p12 =>
 (ldI .u8 w5 p12).bind fun v14 =>
 some ((v10 != v14),w5))) fun v1 w2 =>
 if v1 = true then
 (some (0,0,false,w2))
 else
 (bind4 (octet_TakeKey a0 1 w2) fun v17 v18 v19 w20 =>
 bind4 (octet_TakeKey a0 9 w20) fun v22 v23 v24 w25 =>
 (slS a0 17 63 (a0.c : Int) 1).bind fun s27 =>
 (loopF (fun s : Int×World=>mark_whole_l1 s27 s.1 s.2) (0,w25)).bind fun r31=>Sum.elim (fun (i : World)=>u1 i fun w33 =>
 bind2 (if (decide (v17 < 1)) = true then
 (some (true,w33))
 else
 (if (decide (4611686018427387904 < v17)) = true then
 (some (true,w33))
 else
 (if (decide (v22 < 0)) = true then
 (some (true,w33))
 else
 (some ((decide (1099511627776 < v22)),w33))))) fun v47 w48 =>
 if v47 = true then
 (some (0,0,false,w48))
 else
 (some (v17,v22,true,w48))) (fun (i : Int×Int×Bool×World)=>u4 i fun v34 v35 v36 w37 =>
 some (v34,v35,v36,w37)) r31)
set_option maxHeartbeats 1000000 in
set_option maxRecDepth 100000 in
theorem mark_whole_ok {a0 : Sl} {w w' : World} {r0 : Int} {r1 : Int} {r2 : Bool} (h : mark_whole a0 w = some (r0,r1,r2,w')) : Calls Try.prog 149 #[(Sl.v a0)] w fun e w''=>e = .returned (.tuple #[(.int .i64 r0),(.int .i64 r1),(.bool r2)])∧w'' = w':=by
 refine calls_dec (n:=63) Try.func149 rfl Try.ntmps149 (by simp) fun a ha=>?_
 unfold mark_whole at h
 refine wp_seq<|region_lit<|qa ha rfl fun a ha=>qa ha rfl fun a ha=>qa ha rfl fun a ha=>s_nil<|t_n<|wp_seq<|wp_seq<|?_
 obtain ⟨v1,w2,e3,h⟩:=bs2 h
 refine reg_join (n:=63) (L:=[(24,(.bool v1)),(0,(Sl.v a0))]) (w':=w2) (fun a ha=>?_) (fun hk4=>?_)
 ·refine t_n<|?_
  refine s_cond ha rfl h (fun b16 h=>?_) (fun b16 h=>?_)
  ·refine wp_seq<|region_lit<|qa ha rfl fun a ha=>qa ha rfl fun a ha=>qa ha rfl fun a ha=>s_nil<|t_n<|wp_ret<|t_r<|?_
   have hS:=ha
   cases h
   exact ret3 Try.results149 hS rfl rfl rfl ⟨rfl,rfl⟩
  ·refine wp_skip<|t_n<|wp_seq<|region_lit<|qm ha rfl fun a ha=>?_
   obtain ⟨v17,v18,v19,w20,e21,h⟩:=bs4 h
   refine q ha (d_call (xs:=[_,_]) (vs:=[(Sl.v a0),(.int .i64 1)]) ha ⟨rfl,rfl,trivial⟩ Try.call141 (octet_TakeKey_ok e21)) fun a ha=>qm ha rfl fun a ha=>q ha (d_ext ha rfl rfl) fun a ha=>q ha (d_ext ha rfl rfl) fun a ha=>q ha (d_ext ha rfl rfl) fun a ha=>qa ha rfl fun a ha=>qa ha rfl fun a ha=>qa ha rfl fun a ha=>s_nil<|t_n<|wp_seq<|region_lit<|qm ha rfl fun a ha=>?_
   obtain ⟨v22,v23,v24,w25,e26,h⟩:=bs4 h
   refine q ha (d_call (xs:=[_,_]) (vs:=[(Sl.v a0),(.int .i64 9)]) ha ⟨rfl,rfl,trivial⟩ Try.call141 (octet_TakeKey_ok e26)) fun a ha=>qm ha rfl fun a ha=>q ha (d_ext ha rfl rfl) fun a ha=>q ha (d_ext ha rfl rfl) fun a ha=>q ha (d_ext ha rfl rfl) fun a ha=>qa ha rfl fun a ha=>qa ha rfl fun a ha=>qa ha rfl fun a ha=>s_nil<|t_n<|wp_seq<|wp_seq<|region_lit<|qm ha rfl fun a ha=>?_
   obtain ⟨s27,e28,h⟩:=bs1 h
   refine q ha (d_slS ha rfl Try.runUnderlying72 Try.sizeOf5 ⟨_,rfl⟩ ⟨_,rfl⟩ rfl (by simp) e28) fun a ha=>q ha (d_lenS ha rfl Try.runUnderlying72) fun a ha=>qm ha rfl fun a ha=>s_nil<|t_n<|wp_block<|?_
   obtain ⟨r31,e32,h⟩:=bs1 h
   refine s_loop2 (n:=63) (L1:=fun i=>[(5,(.int .i64 v17)),(8,(.int .i64 v22))]) (w1:=fun i=>i) (L2:=fun i=>[(2,(.int .i64 i.1)),(3,(.int .i64 i.2.1)),(4,(.bool i.2.2.1))]) (w2:=fun i=>i.2.2.2) (e1:=.exit 0) (e2:=.ret) (I:=fun (s : Int×World) a w=>Has 63 [(40,(.int .i64 s.1)),(5,(.int .i64 v17)),(8,(.int .i64 v22)),(38,(Sl.v s27)),(39,(.int .i64 (s27.n : Int)))] a∧w = s.2) ⟨ha.sub ⟨rfl,rfl,rfl,rfl,rfl,trivial⟩,rfl⟩ e32 (fun i hi a ha=>?_) (fun i hi a ha=>?_) (fun hk38 hk39=>?_)
   ·subst hi
    obtain ⟨w33,rfl⟩ : ∃ x,x = i:=⟨i,rfl⟩
    dsimp only [Sum.elim_inl,Sum.elim_inr,u1,u2,u3,u4,u5,u6] at h
    have ha : Has 63 [(5,(.int .i64 v17)),(8,(.int .i64 v22))] a:=ha
    refine b_hit<|t_n<|wp_seq<|wp_seq<|?_
    obtain ⟨v47,w48,e49,h⟩:=bs2 h
    refine reg_join (n:=63) (L:=[(60,(.bool v47)),(5,(.int .i64 v17)),(8,(.int .i64 v22))]) (w':=w48) (fun a ha=>?_) (fun hk50=>?_)
    ·refine t_n<|?_
     refine s_cond ha rfl h (fun b54 h=>?_) (fun b54 h=>?_)
     ·refine wp_seq<|region_lit<|qa ha rfl fun a ha=>qa ha rfl fun a ha=>qa ha rfl fun a ha=>s_nil<|t_n<|wp_ret<|t_r<|?_
      have hS:=ha
      cases h
      exact ret3 Try.results149 hS rfl rfl rfl ⟨rfl,rfl⟩
     ·refine wp_skip<|t_n<|wp_seq<|region_lit<|qm ha rfl fun a ha=>qm ha rfl fun a ha=>qa ha rfl fun a ha=>qa ha rfl fun a ha=>qa ha rfl fun a ha=>s_nil<|t_n<|wp_ret<|?_
      have hS:=ha
      cases h
      exact ret3 Try.results149 hS rfl rfl rfl ⟨rfl,rfl⟩
    ·clear h
     have h:=e49
     refine region_lit<|qm ha rfl fun a ha=>q ha (d_lt ha rfl rfl) fun a ha=>qm ha rfl fun a ha=>?_
     refine ite_s h (fun b51 h=>?_) (fun b51 h=>?_)
     ·refine qn ha 49 (tn b51) fun a ha=>qn ha 49 (tn b51) fun a ha=>q ha (d_pick_t ha rfl b51 rfl) fun a ha=>qm ha rfl fun a ha=>qn ha 53 (tn rfl) fun a ha=>qn ha 53 (tn rfl) fun a ha=>q ha (d_pick_t ha rfl rfl rfl) fun a ha=>qm ha rfl fun a ha=>qn ha 57 (tn rfl) fun a ha=>qn ha 57 (tn rfl) fun a ha=>q ha (d_pick_t ha rfl rfl rfl) fun a ha=>s_nil<|?_
      have hS : Has 63 [(60,(.bool true)),(5,(.int .i64 v17)),(8,(.int .i64 v22))] _:=ha.sub ⟨rfl,rfl,rfl,trivial⟩
      cases h
      exact hk50 _ hS
     ·refine qg ha 49 (nt b51) (d_move ha rfl) fun a ha=>qg ha 49 (nt b51) (d_gt ha rfl rfl) fun a ha=>q ha (d_pick_f ha rfl b51 rfl) fun a ha=>qm ha rfl fun a ha=>?_
      refine ite_s h (fun b52 h=>?_) (fun b52 h=>?_)
      ·refine qn ha 53 (tn b52) fun a ha=>qn ha 53 (tn b52) fun a ha=>q ha (d_pick_t ha rfl b52 rfl) fun a ha=>qm ha rfl fun a ha=>qn ha 57 (tn rfl) fun a ha=>qn ha 57 (tn rfl) fun a ha=>q ha (d_pick_t ha rfl rfl rfl) fun a ha=>s_nil<|?_
       have hS : Has 63 [(60,(.bool true)),(5,(.int .i64 v17)),(8,(.int .i64 v22))] _:=ha.sub ⟨rfl,rfl,rfl,trivial⟩
       cases h
       exact hk50 _ hS
      ·refine qg ha 53 (nt b52) (d_move ha rfl) fun a ha=>qg ha 53 (nt b52) (d_lt ha rfl rfl) fun a ha=>q ha (d_pick_f ha rfl b52 rfl) fun a ha=>qm ha rfl fun a ha=>?_
       refine ite_s h (fun b53 h=>?_) (fun b53 h=>?_)
       ·refine qn ha 57 (tn b53) fun a ha=>qn ha 57 (tn b53) fun a ha=>q ha (d_pick_t ha rfl b53 rfl) fun a ha=>s_nil<|?_
        have hS : Has 63 [(60,(.bool true)),(5,(.int .i64 v17)),(8,(.int .i64 v22))] _:=ha.sub ⟨rfl,rfl,rfl,trivial⟩
        cases h
        exact hk50 _ hS
       ·refine qg ha 57 (nt b53) (d_move ha rfl) fun a ha=>qg ha 57 (nt b53) (d_gt ha rfl rfl) fun a ha=>q ha (d_pick_f ha rfl b53 rfl) fun a ha=>s_nil<|?_
        have hS : Has 63 [(60,(.bool (decide (1099511627776 < v22)))),(5,(.int .i64 v17)),(8,(.int .i64 v22))] _:=ha.sub ⟨rfl,rfl,rfl,trivial⟩
        cases h
        exact hk50 _ hS
   ·subst hi
    obtain ⟨v34,v35,v36,w37⟩:=i
    dsimp only [Sum.elim_inl,Sum.elim_inr,u1,u2,u3,u4,u5,u6] at h
    have ha : Has 63 [(2,(.int .i64 v34)),(3,(.int .i64 v35)),(4,(.bool v36))] a:=ha
    refine b_r<|t_r<|?_
    have hS:=ha
    cases h
    exact ret3 Try.results149 hS rfl rfl rfl ⟨rfl,rfl⟩
   ·clear h
    rintro ⟨x29,w30⟩ a wq o ⟨ha,hwq⟩ h hr40
    obtain rfl : w30 = wq:=hwq.symm
    have ha : Has 63 [(40,(.int .i64 x29)),(5,(.int .i64 v17)),(8,(.int .i64 v22)),(38,(Sl.v s27)),(39,(.int .i64 (s27.n : Int)))] a:=ha
    have h : mark_whole_l1 s27 x29 w30 = some o:=h
    unfold mark_whole_l1 at h
    refine wp_seq<|region_lit<|q ha (d_lt ha rfl rfl) fun a ha=>s_nil<|t_n<|wp_seq<|?_
    refine s_cond ha rfl h (fun b41 h=>?_) (fun b41 h=>?_)
    ·refine wp_skip<|t_n<|wp_seq<|wp_block<|wp_seq<|region_lit<|?_
     obtain ⟨p42,e43,h⟩:=bs1 h
     refine q ha (d_ix ha rfl rfl Try.runUnderlying72 Try.sizeOf5 e43) fun a ha=>?_
     obtain ⟨v44,e45,h⟩:=bs1 h
     refine q ha (d_ld ha rfl Try.isAgg5 (ldI_c e45)) fun a ha=>qa ha rfl fun a ha=>s_nil<|t_n<|wp_seq<|region_lit<|qm ha rfl fun a ha=>q ha (d_ne ha rfl rfl) fun a ha=>s_nil<|t_n<|?_
     refine s_cond ha rfl h (fun b46 h=>?_) (fun b46 h=>?_)
     ·refine wp_seq<|region_lit<|qa ha rfl fun a ha=>qa ha rfl fun a ha=>qa ha rfl fun a ha=>s_nil<|t_n<|wp_ret<|b_r<|t_r<|?_
      have hS : Has 63 [(2,(.int .i64 0)),(3,(.int .i64 0)),(4,(.bool false))] _:=ha.sub ⟨rfl,rfl,rfl,trivial⟩
      cases h
      cases hr40 _ rfl
      refine lp_r<|?_
      exact hk39 _ rfl _ hS
     ·refine wp_skip<|b_n<|t_n<|region_lit<|q ha (d_add ha rfl rfl) fun a ha=>qm ha rfl fun a ha=>s_nil<|?_
      have hS : Has 63 [(40,(.int .i64 (IntKind.wrap .i64 (x29 + 1)))),(5,(.int .i64 v17)),(8,(.int .i64 v22)),(38,(Sl.v s27)),(39,(.int .i64 (s27.n : Int)))] _:=ha.sub ⟨rfl,rfl,rfl,rfl,rfl,trivial⟩
      cases h
      exact lp_next ⟨hS,rfl⟩
    ·refine wp_exit<|t_x<|?_
     have hS : Has 63 [(5,(.int .i64 v17)),(8,(.int .i64 v22))] _:=ha.sub ⟨rfl,rfl,trivial⟩
     cases h
     cases hr40 _ rfl
     refine lp_x<|?_
     exact hk38 _ rfl _ hS
 ·clear h
  have h:=e3
  obtain ⟨w5,e6,h⟩:=bs1 h
  refine ite_s h (fun b7 h=>?_) (fun b7 h=>?_)
  ·have ha : Has 63 [(0,(Sl.v a0))] a:=ha.sub ⟨rfl,trivial⟩
   refine region_draw (n:=63) (ds:=(⟨_,(Sl.v a0),false,0,0,[],[(0,(Sl.v a0))]⟩ :: ⟨_,(.int .i64 (a0.n : Int)),false,0,0,[0],[(13,(Sl.v a0))]⟩ :: ⟨_,(.bool ((a0.n : Int) != 64)),false,0,0,[0,1],[(14,(.int .i64 (a0.n : Int)))]⟩ :: ⟨_,(.bool ((a0.n : Int) != 64)),false,0,0,[0,1,2],[(15,(.bool ((a0.n : Int) != 64)))]⟩ :: ⟨_,undef,false,0,0,(rn 0 4),[(16,(.bool ((a0.n : Int) != 64)))]⟩ :: ⟨_,undef,false,0,0,(rn 0 5),[(16,(.bool ((a0.n : Int) != 64)))]⟩ :: ⟨_,undef,false,0,0,(rn 0 6),[(16,(.bool ((a0.n : Int) != 64)))]⟩ :: ⟨_,undef,false,0,0,(rn 0 4),[(16,(.bool ((a0.n : Int) != 64)))]⟩ :: ⟨_,undef,false,0,0,(rn 0 4 ++ [7]),[(16,(.bool ((a0.n : Int) != 64)))]⟩ :: ⟨_,undef,false,0,0,(rn 0 4 ++ [7,8]),[(16,(.bool ((a0.n : Int) != 64)))]⟩ :: ⟨_,undef,false,0,0,(rn 0 10),[(16,(.bool ((a0.n : Int) != 64)))]⟩ :: ⟨_,(.bool true),false,0,0,(rn 0 11),[(16,(.bool ((a0.n : Int) != 64))),(23,undef)]⟩ :: [])) (W:=(fun _=>w5)) (by kernel_rfl) ha (dr_w e6) (by kernel_rfl) ?_ (reads_of (by kernel_rfl)) (by kernel_rfl) (m:=0) (by kernel_rfl) (fun a ha=>?_)
   ·refine ⟨?_,?_,?_,?_,?_,?_,?_,?_,?_,?_,?_,?_,trivial⟩
    ·exact oa fun j a ha=>d_move ha rfl
    ·exact oa fun j a ha=>d_lenS ha rfl Try.runUnderlying72
    ·exact oa fun j a ha=>d_ne ha rfl rfl
    ·exact oa fun j a ha=>d_move ha rfl
    ·exact on 16 (tn b7)
    ·exact on 16 (tn b7)
    ·exact on 16 (tn b7)
    ·exact on 16 (tn b7)
    ·exact on 16 (tn b7)
    ·exact on 16 (tn b7)
    ·exact on 16 (tn b7)
    ·exact oa fun j a ha=>d_pick_t ha rfl b7 rfl
   ·have ha : Has 63 [(0,(Sl.v a0)),(24,(.bool true))] a:=ha.sub ⟨rfl,rfl,trivial⟩
    have hS : Has 63 [(24,(.bool true)),(0,(Sl.v a0))] _:=ha.sub ⟨rfl,rfl,trivial⟩
    cases h
    exact hk4 _ hS
  ·obtain ⟨p8,e9,h⟩:=bs1 h
   obtain ⟨v10,e11,h⟩:=bs1 h
   obtain ⟨p12,e13,h⟩:=bs1 h
   obtain ⟨v14,e15,h⟩:=bs1 h
   have ha : Has 63 [(0,(Sl.v a0))] a:=ha.sub ⟨rfl,trivial⟩
   refine region_draw (n:=63) (ds:=(⟨_,(Sl.v a0),false,0,0,[],[(0,(Sl.v a0))]⟩ :: ⟨_,(.int .i64 (a0.n : Int)),false,0,0,[0],[(13,(Sl.v a0))]⟩ :: ⟨_,(.bool ((a0.n : Int) != 64)),false,0,0,[0,1],[(14,(.int .i64 (a0.n : Int)))]⟩ :: ⟨_,(.bool ((a0.n : Int) != 64)),false,0,0,[0,1,2],[(15,(.bool ((a0.n : Int) != 64)))]⟩ :: ⟨_,(Sl.v a0),false,0,0,(rn 0 4),[(0,(Sl.v a0)),(16,(.bool ((a0.n : Int) != 64)))]⟩ :: ⟨_,(.pointer (some p8)),false,0,0,(rn 0 5),[(17,(Sl.v a0)),(16,(.bool ((a0.n : Int) != 64)))]⟩ :: ⟨_,(.int .u8 v10),false,0,0,(rn 0 6),[(18,(.pointer (some p8))),(16,(.bool ((a0.n : Int) != 64)))]⟩ :: ⟨_,(Sl.v a0),false,0,0,(rn 0 4),[(0,(Sl.v a0)),(16,(.bool ((a0.n : Int) != 64)))]⟩ :: ⟨_,(.pointer (some p12)),false,0,0,(rn 0 4 ++ [7]),[(20,(Sl.v a0)),(16,(.bool ((a0.n : Int) != 64)))]⟩ :: ⟨_,(.int .u8 v14),false,0,0,(rn 0 4 ++ [7,8]),[(21,(.pointer (some p12))),(16,(.bool ((a0.n : Int) != 64)))]⟩ :: ⟨_,(.bool (v10 != v14)),false,0,0,(rn 0 10),[(19,(.int .u8 v10)),(22,(.int .u8 v14)),(16,(.bool ((a0.n : Int) != 64)))]⟩ :: ⟨_,(.bool (v10 != v14)),false,0,0,(rn 0 11),[(16,(.bool ((a0.n : Int) != 64))),(23,(.bool (v10 != v14)))]⟩ :: [])) (W:=(fun _=>w5)) (by kernel_rfl) ha (dr_w e6) (by kernel_rfl) ?_ (reads_of (by kernel_rfl)) (by kernel_rfl) (m:=0) (by kernel_rfl) (fun a ha=>?_)
   ·refine ⟨?_,?_,?_,?_,?_,?_,?_,?_,?_,?_,?_,?_,trivial⟩
    ·exact oa fun j a ha=>d_move ha rfl
    ·exact oa fun j a ha=>d_lenS ha rfl Try.runUnderlying72
    ·exact oa fun j a ha=>d_ne ha rfl rfl
    ·exact oa fun j a ha=>d_move ha rfl
    ·exact oag 16 (nt b7) fun j a ha=>d_move ha rfl
    ·exact oag 16 (nt b7) fun j a ha=>d_ix ha rfl rfl Try.runUnderlying72 Try.sizeOf5 e9
    ·exact oc (e:=false) 0 (ok_do_g rfl rfl (rfl : List.lookup 16 _ = _) (nt b7) fun a ha=>d_ld ha rfl Try.isAgg5 (ldI_c e11))
    ·exact oag 16 (nt b7) fun j a ha=>d_move ha rfl
    ·exact oag 16 (nt b7) fun j a ha=>d_ix ha rfl rfl Try.runUnderlying72 Try.sizeOf5 e13
    ·exact oc (e:=false) 0 (ok_do_g rfl rfl (rfl : List.lookup 16 _ = _) (nt b7) fun a ha=>d_ld ha rfl Try.isAgg5 (ldI_c e15))
    ·exact oag 16 (nt b7) fun j a ha=>d_ne ha rfl rfl
    ·exact oa fun j a ha=>d_pick_f ha rfl b7 rfl
   ·have ha : Has 63 [(0,(Sl.v a0)),(24,(.bool (v10 != v14)))] a:=ha.sub ⟨rfl,rfl,trivial⟩
    have hS : Has 63 [(24,(.bool (v10 != v14))),(0,(Sl.v a0))] _:=ha.sub ⟨rfl,rfl,trivial⟩
    cases h
    exact hk4 _ hS
noncomputable def mark_Cells_found_l1 (a0 : Option Addr) (a1 : Int) (x1 : Int) (x2 : Int) (x3 : Int) (x4 : Int) (w5 : World) : Option ((Int×Int×Int×Int×World)⊕(Int×Int×Int×World)) :=
 if (decide (x4 < 2)) = true then
 (bind4 ((dr w5).bind fun w21 =>
 (a0).bind fun p23 =>
 (ldP w21 (p23.add 0)).bind fun v25 =>
 (ldI .i64 w21 (p23.add 1)).bind fun v27 =>
 bind3 (sector_Disk_Read v25 (IntKind.wrap .i64 ((IntKind.wrap .i64 (v27 + (IntKind.wrap .i64 (2 * a1)))) + x4)) w21) fun v29 v30 w31 =>
 bind4 (mark_whole v29 w31) fun v33 v34 v35 w36 =>
 bind2 (if v35 = true then
 (some ((decide (x2 < v33)),w36))
 else
 (some (false,w36))) fun v38 w39 =>
 if v38 = true then
 (some (x4,v33,v34,w39))
 else
 (some (x1,x2,x3,w39))) fun v15 v16 v17 w18 =>
 some (.inl (v15,v16,v17,(IntKind.wrap .i64 (x4 + 1)),w18)))
 else
 (some (.inr (x1,x2,x3,w5)))
noncomputable def mark_Cells_found (a0 : Option Addr) (a1 : Int) (w : World) : Option (Int×Int×Int×World) :=
 bind4 (loopF (fun s : Int×Int×Int×Int×World=>mark_Cells_found_l1 a0 a1 s.1 s.2.1 s.2.2.1 s.2.2.2.1 s.2.2.2.2) ((-1),0,0,0,w)) fun v8 v9 v10 w11 =>
 some (v8,v9,v10,w11)
set_option maxHeartbeats 1000000 in
set_option maxRecDepth 100000 in
theorem mark_Cells_found_ok {a0 : Option Addr} {a1 : Int} {w w' : World} {r0 : Int} {r1 : Int} {r2 : Int} (h : mark_Cells_found a0 a1 w = some (r0,r1,r2,w')) : Calls Try.prog 122 #[(.pointer a0),(.int .i64 a1)] w fun e w''=>e = .returned (.tuple #[(.int .i64 r0),(.int .i64 r1),(.int .i64 r2)])∧w'' = w':=by
 refine calls_dec (n:=52) Try.func122 rfl Try.ntmps122 (by simp) fun a ha=>?_
 unfold mark_Cells_found at h
 refine wp_seq<|region_lit<|qa ha rfl fun a ha=>qa ha rfl fun a ha=>qa ha rfl fun a ha=>s_nil<|t_n<|wp_seq<|region_lit<|qa ha rfl fun a ha=>s_nil<|t_n<|wp_seq<|wp_seq<|region_lit<|qm ha rfl fun a ha=>s_nil<|t_n<|wp_block<|?_
 obtain ⟨v8,v9,v10,w11,e7,h⟩:=bs4 h
 refine s_loop1 (n:=52) (L:=[(4,(.int .i64 v8)),(5,(.int .i64 v9)),(6,(.int .i64 v10))]) (w':=w11) (e:=.exit 0) (I:=fun (s : Int×Int×Int×Int×World) a w=>Has 52 [(4,(.int .i64 s.1)),(5,(.int .i64 s.2.1)),(6,(.int .i64 s.2.2.1)),(13,(.int .i64 s.2.2.2.1)),(0,(.pointer a0)),(1,(.int .i64 a1))] a∧w = s.2.2.2.2) ⟨ha.sub ⟨rfl,rfl,rfl,rfl,rfl,rfl,trivial⟩,rfl⟩ e7 (fun a ha=>?_) (fun hk12=>?_)
 ·refine b_hit<|t_n<|wp_seq<|region_lit<|qm ha rfl fun a ha=>qm ha rfl fun a ha=>qm ha rfl fun a ha=>qa ha rfl fun a ha=>qa ha rfl fun a ha=>qa ha rfl fun a ha=>s_nil<|t_n<|wp_ret<|?_
  have hS:=ha
  cases h
  exact ret3 Try.results122 hS rfl rfl rfl ⟨rfl,rfl⟩
 ·clear h
  rintro ⟨x1,x2,x3,x4,w5⟩ a wq o ⟨ha,hwq⟩ h hr13
  obtain rfl : w5 = wq:=hwq.symm
  have ha : Has 52 [(4,(.int .i64 x1)),(5,(.int .i64 x2)),(6,(.int .i64 x3)),(13,(.int .i64 x4)),(0,(.pointer a0)),(1,(.int .i64 a1))] a:=ha
  have h : mark_Cells_found_l1 a0 a1 x1 x2 x3 x4 w5 = some o:=h
  unfold mark_Cells_found_l1 at h
  refine wp_seq<|region_lit<|q ha (d_lt ha rfl rfl) fun a ha=>s_nil<|t_n<|wp_seq<|?_
  refine s_cond ha rfl h (fun b14 h=>?_) (fun b14 h=>?_)
  ·refine wp_skip<|t_n<|?_
   obtain ⟨v15,v16,v17,w18,e19,h⟩:=bs4 h
   refine seq_join (n:=52) (L:=[(4,(.int .i64 v15)),(5,(.int .i64 v16)),(6,(.int .i64 v17)),(0,(.pointer a0)),(1,(.int .i64 a1)),(13,(.int .i64 x4))]) (w':=w18) (fun a ha=>?_) (fun hk20=>?_)
   ·refine region_lit<|q ha (d_add ha rfl rfl) fun a ha=>qm ha rfl fun a ha=>s_nil<|?_
    have hS : Has 52 [(4,(.int .i64 v15)),(5,(.int .i64 v16)),(6,(.int .i64 v17)),(13,(.int .i64 (IntKind.wrap .i64 (x4 + 1)))),(0,(.pointer a0)),(1,(.int .i64 a1))] _:=ha.sub ⟨rfl,rfl,rfl,rfl,rfl,rfl,trivial⟩
    cases h
    exact lp_next ⟨hS,rfl⟩
   ·clear h
    have h:=e19
    refine wp_block<|wp_seq<|region_lit<|qm ha rfl fun a ha=>qa ha rfl fun a ha=>s_nil<|t_n<|wp_seq<|?_
    obtain ⟨w21,e22,h⟩:=bs1 h
    obtain ⟨p23,e24,h⟩:=bs1 h
    obtain ⟨v25,e26,h⟩:=bs1 h
    obtain ⟨v27,e28,h⟩:=bs1 h
    obtain ⟨v29,v30,w31,e32,h⟩:=bs3 h
    have ha : Has 52 [(0,(.pointer a0)),(1,(.int .i64 a1)),(4,(.int .i64 x1)),(5,(.int .i64 x2)),(6,(.int .i64 x3)),(7,(.int .i64 x4)),(13,(.int .i64 x4))] a:=ha.sub ⟨rfl,rfl,rfl,rfl,rfl,rfl,rfl,trivial⟩
    refine region_draw (n:=52) (ds:=(⟨_,(.pointer a0),false,0,0,[],[(0,(.pointer a0))]⟩ :: ⟨_,(.pointer (some p23)),false,0,0,[0],[(17,(.pointer a0))]⟩ :: ⟨_,(.pointer (some (p23.add 0))),false,0,0,[0,1],[(18,(.pointer (some p23)))]⟩ :: ⟨_,(.pointer v25),false,0,0,[0,1,2],[(19,(.pointer (some (p23.add 0))))]⟩ :: ⟨_,(.pointer a0),false,0,0,[],[(0,(.pointer a0))]⟩ :: ⟨_,(.pointer (some p23)),false,0,0,[4],[(21,(.pointer a0))]⟩ :: ⟨_,(.pointer (some (p23.add 1))),false,0,0,[4,5],[(22,(.pointer (some p23)))]⟩ :: ⟨_,(.int .i64 v27),false,0,0,[4,5,6],[(23,(.pointer (some (p23.add 1))))]⟩ :: ⟨_,(.int .i64 a1),false,0,0,[],[(1,(.int .i64 a1))]⟩ :: ⟨_,(.int .i64 (IntKind.wrap .i64 (2 * a1))),false,0,0,[8],[(25,(.int .i64 a1))]⟩ :: ⟨_,(.int .i64 (IntKind.wrap .i64 (v27 + (IntKind.wrap .i64 (2 * a1))))),false,0,0,(rn 4 6),[(24,(.int .i64 v27)),(26,(.int .i64 (IntKind.wrap .i64 (2 * a1))))]⟩ :: ⟨_,(.int .i64 x4),false,0,0,[],[(7,(.int .i64 x4))]⟩ :: ⟨_,(.int .i64 (IntKind.wrap .i64 ((IntKind.wrap .i64 (v27 + (IntKind.wrap .i64 (2 * a1)))) + x4))),false,0,0,(rn 4 8),[(27,(.int .i64 (IntKind.wrap .i64 (v27 + (IntKind.wrap .i64 (2 * a1)))))),(28,(.int .i64 x4))]⟩ :: ⟨_,(.tuple #[(Sl.v v29),(.int .i64 v30)]),true,0,0,(rn 0 13),[(20,(.pointer v25)),(29,(.int .i64 (IntKind.wrap .i64 ((IntKind.wrap .i64 (v27 + (IntKind.wrap .i64 (2 * a1)))) + x4))))]⟩ :: ⟨_,(.tuple #[(Sl.v v29),(.int .i64 v30)]),false,1,1,(rn 0 14),[(30,(.tuple #[(Sl.v v29),(.int .i64 v30)]))]⟩ :: ⟨_,(Sl.v v29),false,1,1,(rn 0 15),[(16,(.tuple #[(Sl.v v29),(.int .i64 v30)]))]⟩ :: ⟨_,(.int .i64 v30),false,1,1,(rn 0 15),[(16,(.tuple #[(Sl.v v29),(.int .i64 v30)]))]⟩ :: ⟨_,(Sl.v v29),false,1,1,(rn 0 16),[(31,(Sl.v v29))]⟩ :: ⟨_,(.int .i64 v30),false,1,1,(rn 0 18),[(32,(.int .i64 v30))]⟩ :: [])) (W:=(fun j=>match j with | 0=>w21 | 1=>w31 | _=>w31)) (by kernel_rfl) ha (dr_w e22) (by kernel_rfl) ?_ (reads_of (by kernel_rfl)) (by kernel_rfl) (m:=1) (by kernel_rfl) (fun a ha=>?_)
    ·refine ⟨?_,?_,?_,?_,?_,?_,?_,?_,?_,?_,?_,?_,?_,?_,?_,?_,?_,?_,?_,trivial⟩
     ·exact oa fun j a ha=>d_move ha rfl
     ·exact oa fun j a ha=>d_nilp ha rfl e24
     ·exact oa fun j a ha=>d_fa ha rfl Try.runUnderlying155 rfl rfl Try.sizeOf57 (by decide)
     ·exact oc 0 (ok_do rfl fun a ha=>d_ld ha rfl Try.isAgg57 (ldP_c e26))
     ·exact oa fun j a ha=>d_move ha rfl
     ·exact oa fun j a ha=>d_nilp ha rfl e24
     ·exact oa fun j a ha=>d_fa ha rfl Try.runUnderlying155 rfl rfl Try.sizeOf3 (by decide)
     ·exact oc 0 (ok_do rfl fun a ha=>d_ld ha rfl Try.isAgg3 (ldI_c e28))
     ·exact oa fun j a ha=>d_move ha rfl
     ·exact oa fun j a ha=>d_mul ha rfl rfl
     ·exact oa fun j a ha=>d_add ha rfl rfl
     ·exact oa fun j a ha=>d_move ha rfl
     ·exact oa fun j a ha=>d_add ha rfl rfl
     ·exact oc 0 (ok_do rfl fun a ha=>d_call (xs:=[_,_]) (vs:=[(.pointer v25),(.int .i64 (IntKind.wrap .i64 ((IntKind.wrap .i64 (v27 + (IntKind.wrap .i64 (2 * a1)))) + x4)))]) ha ⟨rfl,rfl,trivial⟩ Try.call99 (sector_Disk_Read_ok e32))
     ·exact oa fun j a ha=>d_move ha rfl
     ·exact oa fun j a ha=>d_ext ha rfl rfl
     ·exact oa fun j a ha=>d_ext ha rfl rfl
     ·exact oa fun j a ha=>d_assign ha rfl
     ·exact oa fun j a ha=>d_assign ha rfl
    ·have ha : Has 52 [(0,(.pointer a0)),(1,(.int .i64 a1)),(4,(.int .i64 x1)),(5,(.int .i64 x2)),(6,(.int .i64 x3)),(7,(.int .i64 x4)),(8,(Sl.v v29)),(13,(.int .i64 x4))] a:=ha.sub ⟨rfl,rfl,rfl,rfl,rfl,rfl,rfl,rfl,trivial⟩
     refine t_n<|wp_seq<|region_lit<|qm ha rfl fun a ha=>?_
     obtain ⟨v33,v34,v35,w36,e37,h⟩:=bs4 h
     refine q ha (d_call (xs:=[_]) (vs:=[(Sl.v v29)]) ha ⟨rfl,trivial⟩ Try.call149 (mark_whole_ok e37)) fun a ha=>qm ha rfl fun a ha=>q ha (d_ext ha rfl rfl) fun a ha=>q ha (d_ext ha rfl rfl) fun a ha=>q ha (d_ext ha rfl rfl) fun a ha=>qa ha rfl fun a ha=>qa ha rfl fun a ha=>qa ha rfl fun a ha=>s_nil<|t_n<|wp_seq<|?_
     obtain ⟨v38,w39,e40,h⟩:=bs2 h
     refine reg_join (n:=52) (L:=[(44,(.bool v38)),(0,(.pointer a0)),(1,(.int .i64 a1)),(4,(.int .i64 x1)),(5,(.int .i64 x2)),(6,(.int .i64 x3)),(7,(.int .i64 x4)),(10,(.int .i64 v33)),(11,(.int .i64 v34)),(13,(.int .i64 x4))]) (w':=w39) (fun a ha=>?_) (fun hk41=>?_)
     ·refine t_n<|?_
      refine s_cond ha rfl h (fun b43 h=>?_) (fun b43 h=>?_)
      ·refine region_lit<|qm ha rfl fun a ha=>qm ha rfl fun a ha=>qm ha rfl fun a ha=>qa ha rfl fun a ha=>qa ha rfl fun a ha=>qa ha rfl fun a ha=>s_nil<|b_n<|?_
       have hS : Has 52 [(4,(.int .i64 x4)),(5,(.int .i64 v33)),(6,(.int .i64 v34)),(0,(.pointer a0)),(1,(.int .i64 a1)),(13,(.int .i64 x4))] _:=ha.sub ⟨rfl,rfl,rfl,rfl,rfl,rfl,trivial⟩
       cases h
       exact hk20 _ hS
      ·refine wp_skip<|b_n<|?_
       have hS : Has 52 [(4,(.int .i64 x1)),(5,(.int .i64 x2)),(6,(.int .i64 x3)),(0,(.pointer a0)),(1,(.int .i64 a1)),(13,(.int .i64 x4))] _:=ha.sub ⟨rfl,rfl,rfl,rfl,rfl,rfl,trivial⟩
       cases h
       exact hk20 _ hS
     ·clear h
      have h:=e40
      refine region_lit<|qm ha rfl fun a ha=>qm ha rfl fun a ha=>?_
      refine ite_s h (fun b42 h=>?_) (fun b42 h=>?_)
      ·refine qg ha 40 b42 (d_move ha rfl) fun a ha=>qg ha 40 b42 (d_move ha rfl) fun a ha=>qg ha 40 b42 (d_gt ha rfl rfl) fun a ha=>q ha (d_pick_t ha rfl b42 rfl) fun a ha=>s_nil<|?_
       have hS : Has 52 [(44,(.bool (decide (x2 < v33)))),(0,(.pointer a0)),(1,(.int .i64 a1)),(4,(.int .i64 x1)),(5,(.int .i64 x2)),(6,(.int .i64 x3)),(7,(.int .i64 x4)),(10,(.int .i64 v33)),(11,(.int .i64 v34)),(13,(.int .i64 x4))] _:=ha.sub ⟨rfl,rfl,rfl,rfl,rfl,rfl,rfl,rfl,rfl,rfl,trivial⟩
       cases h
       exact hk41 _ hS
      ·refine qn ha 40 (nn b42 _ rfl) fun a ha=>qn ha 40 (nn b42 _ rfl) fun a ha=>qn ha 40 (nn b42 _ rfl) fun a ha=>q ha (d_pick_f ha rfl b42 rfl) fun a ha=>s_nil<|?_
       have hS : Has 52 [(44,(.bool false)),(0,(.pointer a0)),(1,(.int .i64 a1)),(4,(.int .i64 x1)),(5,(.int .i64 x2)),(6,(.int .i64 x3)),(7,(.int .i64 x4)),(10,(.int .i64 v33)),(11,(.int .i64 v34)),(13,(.int .i64 x4))] _:=ha.sub ⟨rfl,rfl,rfl,rfl,rfl,rfl,rfl,rfl,rfl,rfl,trivial⟩
       cases h
       exact hk41 _ hS
  ·refine wp_exit<|t_x<|?_
   have hS : Has 52 [(4,(.int .i64 x1)),(5,(.int .i64 x2)),(6,(.int .i64 x3))] _:=ha.sub ⟨rfl,rfl,rfl,trivial⟩
   cases h
   cases hr13 _ rfl
   refine lp_x<|?_
   exact hk12 _ hS
noncomputable def octet_Key_l1 (s1 : Sl) (a0 : Int) (x4 : Int) (w5 : World) : Option ((Int×World)⊕(World)) :=
 if (decide (x4 < (s1.n : Int))) = true then
 ((shrI .u64 (bxor .u64 (IntKind.wrap .u64 a0) 9223372036854775808) (IntKind.wrap .i64 (56 - (IntKind.wrap .i64 (8 * x4))))).bind fun v12 =>
 (ix s1 x4 1).bind fun p14 =>
 (stV w5 p14 (.int .u8 (IntKind.wrap .u8 v12))).bind fun w16 =>
 some (.inl ((IntKind.wrap .i64 (x4 + 1)),w16)))
 else
 (some (.inr w5))
noncomputable def octet_Key (a0 : Int) (w : World) : Option (Sl×World) :=
 bind2 (mkS Try.prog 72 8 8 w) fun s1 w2 =>
 (loopF (fun s : Int×World=>octet_Key_l1 s1 a0 s.1 s.2) (0,w2)).bind fun w8 =>
 some (s1,w8)
set_option maxHeartbeats 1000000 in
set_option maxRecDepth 100000 in
theorem octet_Key_ok {a0 : Int} {w w' : World} {r0 : Sl} (h : octet_Key a0 w = some (r0,w')) : Calls Try.prog 81 #[(.int .i64 a0)] w fun e w''=>e = .returned (Sl.v r0)∧w'' = w':=by
 refine calls_dec (n:=26) Try.func81 rfl Try.ntmps81 (by simp) fun a ha=>?_
 unfold octet_Key at h
 refine wp_seq<|region_lit<|qa ha rfl fun a ha=>s_nil<|t_n<|wp_seq<|region_lit<|qm ha rfl fun a ha=>q ha (d_conv ha rfl Try.runUnderlying2 Try.runUnderlying60) fun a ha=>q ha (d_xor ha rfl rfl) fun a ha=>qa ha rfl fun a ha=>s_nil<|t_n<|wp_seq<|region_lit<|?_
 obtain ⟨s1,w2,e3,h⟩:=bs2 h
 refine q ha (d_mkS ha rfl rfl e3) fun a ha=>qa ha rfl fun a ha=>s_nil<|t_n<|wp_seq<|wp_seq<|region_lit<|qm ha rfl fun a ha=>q ha (d_lenS ha rfl Try.runUnderlying72) fun a ha=>qm ha rfl fun a ha=>s_nil<|t_n<|wp_block<|?_
 obtain ⟨w8,e7,h⟩:=bs1 h
 refine s_loop1 (n:=26) (L:=[(4,(Sl.v s1))]) (w':=w8) (e:=.exit 0) (I:=fun (s : Int×World) a w=>Has 26 [(12,(.int .i64 s.1)),(3,(.int .u64 (bxor .u64 (IntKind.wrap .u64 a0) 9223372036854775808))),(4,(Sl.v s1)),(11,(.int .i64 (s1.n : Int)))] a∧w = s.2) ⟨ha.sub ⟨rfl,rfl,rfl,rfl,trivial⟩,rfl⟩ e7 (fun a ha=>?_) (fun hk9=>?_)
 ·refine b_hit<|t_n<|wp_seq<|region_lit<|qm ha rfl fun a ha=>qa ha rfl fun a ha=>s_nil<|t_n<|wp_ret<|?_
  have hS:=ha
  cases h
  exact ret1 Try.results81 hS rfl ⟨rfl,rfl⟩
 ·clear h
  rintro ⟨x4,w5⟩ a wq o ⟨ha,hwq⟩ h hr10
  obtain rfl : w5 = wq:=hwq.symm
  have ha : Has 26 [(12,(.int .i64 x4)),(3,(.int .u64 (bxor .u64 (IntKind.wrap .u64 a0) 9223372036854775808))),(4,(Sl.v s1)),(11,(.int .i64 (s1.n : Int)))] a:=ha
  have h : octet_Key_l1 s1 a0 x4 w5 = some o:=h
  unfold octet_Key_l1 at h
  refine wp_seq<|region_lit<|q ha (d_lt ha rfl rfl) fun a ha=>s_nil<|t_n<|wp_seq<|?_
  refine s_cond ha rfl h (fun b11 h=>?_) (fun b11 h=>?_)
  ·refine wp_skip<|t_n<|wp_seq<|wp_block<|wp_seq<|region_lit<|qm ha rfl fun a ha=>qa ha rfl fun a ha=>s_nil<|t_n<|region_lit<|qm ha rfl fun a ha=>qm ha rfl fun a ha=>qm ha rfl fun a ha=>qm ha rfl fun a ha=>q ha (d_mul ha rfl rfl) fun a ha=>q ha (d_sub ha rfl rfl) fun a ha=>?_
   obtain ⟨v12,e13,h⟩:=bs1 h
   refine q ha (d_shr ha rfl rfl e13) fun a ha=>q ha (d_conv ha rfl Try.runUnderlying60 Try.runUnderlying5) fun a ha=>?_
   obtain ⟨p14,e15,h⟩:=bs1 h
   refine q ha (d_ix ha rfl rfl Try.runUnderlying72 Try.sizeOf5 e15) fun a ha=>?_
   obtain ⟨w16,e17,h⟩:=bs1 h
   refine q ha (d_st ha rfl rfl Try.sizeOf5 e17) fun a ha=>s_nil<|b_n<|t_n<|region_lit<|q ha (d_add ha rfl rfl) fun a ha=>qm ha rfl fun a ha=>s_nil<|?_
   have hS : Has 26 [(12,(.int .i64 (IntKind.wrap .i64 (x4 + 1)))),(3,(.int .u64 (bxor .u64 (IntKind.wrap .u64 a0) 9223372036854775808))),(4,(Sl.v s1)),(11,(.int .i64 (s1.n : Int)))] _:=ha.sub ⟨rfl,rfl,rfl,rfl,trivial⟩
   cases h
   exact lp_next ⟨hS,rfl⟩
  ·refine wp_exit<|t_x<|?_
   have hS : Has 26 [(4,(Sl.v s1))] _:=ha.sub ⟨rfl,trivial⟩
   cases h
   cases hr10 _ rfl
   refine lp_x<|?_
   exact hk9 _ hS
noncomputable def mark_Cells_Get (a0 : Option Addr) (a1 : Int) (w : World) : Option (Int×Bool×World) :=
 bind2 (if (a0.isNone) = true then
 (some (true,w))
 else
 (if (decide (a1 < 0)) = true then
 (some (true,w))
 else
 ((a0).bind fun p7 =>
 (ldI .i64 w (p7.add 2)).bind fun v9 =>
 some ((decide (v9≤a1)),w)))) fun v1 w2 =>
 if v1 = true then
 (some (0,false,w2))
 else
 (bind4 (mark_Cells_found a0 a1 w2) fun v12 v13 v14 w15 =>
 some (v14,(decide (0≤v12)),w15))
set_option maxHeartbeats 1000000 in
set_option maxRecDepth 100000 in
theorem mark_Cells_Get_ok {a0 : Option Addr} {a1 : Int} {w w' : World} {r0 : Int} {r1 : Bool} (h : mark_Cells_Get a0 a1 w = some (r0,r1,w')) : Calls Try.prog 109 #[(.pointer a0),(.int .i64 a1)] w fun e w''=>e = .returned (.tuple #[(.int .i64 r0),(.bool r1)])∧w'' = w':=by
 refine calls_dec (n:=33) Try.func109 rfl Try.ntmps109 (by simp) fun a ha=>?_
 unfold mark_Cells_Get at h
 refine wp_seq<|region_lit<|qa ha rfl fun a ha=>qa ha rfl fun a ha=>s_nil<|t_n<|wp_seq<|wp_seq<|?_
 obtain ⟨v1,w2,e3,h⟩:=bs2 h
 refine reg_join (n:=33) (L:=[(22,(.bool v1)),(0,(.pointer a0)),(1,(.int .i64 a1))]) (w':=w2) (fun a ha=>?_) (fun hk4=>?_)
 ·refine t_n<|?_
  refine s_cond ha rfl h (fun b11 h=>?_) (fun b11 h=>?_)
  ·refine wp_seq<|region_lit<|qa ha rfl fun a ha=>qa ha rfl fun a ha=>s_nil<|t_n<|wp_ret<|t_r<|?_
   have hS:=ha
   cases h
   exact ret2 Try.results109 hS rfl rfl ⟨rfl,rfl⟩
  ·refine wp_skip<|t_n<|wp_seq<|region_lit<|qm ha rfl fun a ha=>qm ha rfl fun a ha=>?_
   obtain ⟨v12,v13,v14,w15,e16,h⟩:=bs4 h
   refine q ha (d_call (xs:=[_,_]) (vs:=[(.pointer a0),(.int .i64 a1)]) ha ⟨rfl,rfl,trivial⟩ Try.call122 (mark_Cells_found_ok e16)) fun a ha=>qm ha rfl fun a ha=>q ha (d_ext ha rfl rfl) fun a ha=>q ha (d_ext ha rfl rfl) fun a ha=>q ha (d_ext ha rfl rfl) fun a ha=>qa ha rfl fun a ha=>qa ha rfl fun a ha=>qa ha rfl fun a ha=>s_nil<|t_n<|wp_seq<|region_lit<|qm ha rfl fun a ha=>qm ha rfl fun a ha=>q ha (d_ge ha rfl rfl) fun a ha=>qa ha rfl fun a ha=>qa ha rfl fun a ha=>s_nil<|t_n<|wp_ret<|?_
   have hS:=ha
   cases h
   exact ret2 Try.results109 hS rfl rfl ⟨rfl,rfl⟩
 ·clear h
  have h:=e3
  refine region_lit<|qm ha rfl fun a ha=>q ha (d_eqN ha rfl rfl Try.runUnderlying116) fun a ha=>qm ha rfl fun a ha=>?_
  refine ite_s h (fun b5 h=>?_) (fun b5 h=>?_)
  ·refine qn ha 11 (tn b5) fun a ha=>qn ha 11 (tn b5) fun a ha=>q ha (d_pick_t ha rfl b5 rfl) fun a ha=>qm ha rfl fun a ha=>qn ha 15 (tn rfl) fun a ha=>qn ha 15 (tn rfl) fun a ha=>qn ha 15 (tn rfl) fun a ha=>qn ha 15 (tn rfl) fun a ha=>qn ha 15 (tn rfl) fun a ha=>qn ha 15 (tn rfl) fun a ha=>q ha (d_pick_t ha rfl rfl rfl) fun a ha=>s_nil<|?_
   have hS : Has 33 [(22,(.bool true)),(0,(.pointer a0)),(1,(.int .i64 a1))] _:=ha.sub ⟨rfl,rfl,rfl,trivial⟩
   cases h
   exact hk4 _ hS
  ·refine qg ha 11 (nt b5) (d_move ha rfl) fun a ha=>qg ha 11 (nt b5) (d_lt ha rfl rfl) fun a ha=>q ha (d_pick_f ha rfl b5 rfl) fun a ha=>qm ha rfl fun a ha=>?_
   refine ite_s h (fun b6 h=>?_) (fun b6 h=>?_)
   ·refine qn ha 15 (tn b6) fun a ha=>qn ha 15 (tn b6) fun a ha=>qn ha 15 (tn b6) fun a ha=>qn ha 15 (tn b6) fun a ha=>qn ha 15 (tn b6) fun a ha=>qn ha 15 (tn b6) fun a ha=>q ha (d_pick_t ha rfl b6 rfl) fun a ha=>s_nil<|?_
    have hS : Has 33 [(22,(.bool true)),(0,(.pointer a0)),(1,(.int .i64 a1))] _:=ha.sub ⟨rfl,rfl,rfl,trivial⟩
    cases h
    exact hk4 _ hS
   ·refine qg ha 15 (nt b6) (d_move ha rfl) fun a ha=>qg ha 15 (nt b6) (d_move ha rfl) fun a ha=>?_
    obtain ⟨p7,e8,h⟩:=bs1 h
    refine qg ha 15 (nt b6) (d_nilp ha rfl e8) fun a ha=>qg ha 15 (nt b6) (d_fa ha rfl Try.runUnderlying155 rfl rfl Try.sizeOf3 (by decide)) fun a ha=>?_
    obtain ⟨v9,e10,h⟩:=bs1 h
    refine qg ha 15 (nt b6) (d_ld ha rfl Try.isAgg3 (ldI_c e10)) fun a ha=>qg ha 15 (nt b6) (d_ge ha rfl rfl) fun a ha=>q ha (d_pick_f ha rfl b6 rfl) fun a ha=>s_nil<|?_
    have hS : Has 33 [(22,(.bool (decide (v9≤a1)))),(0,(.pointer a0)),(1,(.int .i64 a1))] _:=ha.sub ⟨rfl,rfl,rfl,trivial⟩
    cases h
    exact hk4 _ hS
theorem xor63_lo {u : Nat} (h : u < 2^63) : u ^^^ 2^63 = u + 2^63:=by
 apply Nat.eq_of_testBit_eq
 intro i
 rw [Nat.testBit_xor,Nat.testBit_two_pow,Nat.add_comm]
 by_cases hi : i = 63
 ·subst hi
  rw [Nat.testBit_two_pow_add_eq,Nat.testBit_lt_two_pow h]; rfl
 ·by_cases h2 : i < 63
  ·rw [Nat.testBit_two_pow_add_gt h2]
   simp [Ne.symm hi]
  ·have h3 : u < 2^i:=Nat.lt_of_lt_of_le h (Nat.pow_le_pow_right (by decide) (by omega))
   have h4 : 2^63 + u < 2^i:=by
    have : 2^64≤2^i:=Nat.pow_le_pow_right (by decide) (by omega)
    omega
   rw [Nat.testBit_lt_two_pow h3,Nat.testBit_lt_two_pow h4]
   simp [Ne.symm hi]
theorem xor63_hi {u : Nat} (h : 2^63≤u) (h2 : u < 2^64) : u ^^^ 2^63 = u - 2^63:=by
 obtain ⟨v,rfl⟩ : ∃ v,u = v + 2^63:=⟨u - 2^63,by omega⟩
 rw [← xor63_lo (by omega),Nat.xor_assoc,Nat.xor_self,Nat.xor_zero,xor63_lo (by omega)]
 omega
theorem ofInt_nat {x : Nat} (h : x < 18446744073709551616) : (BitVec.ofInt 64 (x : Int)).toNat = x:=by
 rw [BitVec.toNat_ofInt]; simp; omega
theorem bxor63 {u : Int} (h0 : 0≤u) (h1 : u < 18446744073709551616) : bxor .u64 u 9223372036854775808 = (u + 9223372036854775808) % 18446744073709551616:=by
 obtain ⟨x,rfl⟩:=Int.eq_ofNat_of_zero_le h0
 show IntKind.wrap .u64 ((BitVec.ofInt 64 (x : Int) ^^^ BitVec.ofInt 64 9223372036854775808 : BitVec 64).toNat : Int) = _
 rw [BitVec.toNat_xor,ofInt_nat (by omega),show (9223372036854775808 : Int) = ((9223372036854775808 : Nat) : Int) from rfl,ofInt_nat (by omega),wrap_u64]
 have e : (9223372036854775808 : Nat) = 2^63:=by decide
 by_cases h : x < 2^63
 ·rw [e,xor63_lo h]; omega
 ·rw [e,xor63_hi (by omega) (by omega)]; omega
theorem bor8 {x b : Int} (h0 : 0≤x) (h1 : x < 72057594037927936) (b0 : 0≤b) (b1 : b < 256) : bor .u64 (x * 256) b = x * 256 + b:=by
 obtain ⟨x,rfl⟩:=Int.eq_ofNat_of_zero_le h0
 obtain ⟨b,rfl⟩:=Int.eq_ofNat_of_zero_le b0
 show IntKind.wrap .u64 ((BitVec.ofInt 64 ((x : Int) * 256) ||| BitVec.ofInt 64 (b : Int) : BitVec 64).toNat : Int) = _
 rw [BitVec.toNat_or,show ((x : Int) * 256) = ((x * 256 : Nat) : Int) by omega,ofInt_nat (by omega),ofInt_nat (by omega),wrap_u64]
 have:=Nat.shiftLeft_add_eq_or_of_lt (i:=8) (b:=b) (by omega) x
 rw [Nat.shiftLeft_eq] at this
 rw [show x * 256 = x * 2 ^ 8 from rfl,← this]
 omega
def be (xs : List Int) : Int:=xs.foldl (fun x b=>x * 256 + b) 0
def keyL (n : Int) : List Int:=(List.range 8).map fun j=>(n + 9223372036854775808) / 2 ^ (56 - 8 * j) % 256
def takeK (xs : List Int) (i : Nat) : Int:=be ((xs.drop i).take 8) - 9223372036854775808
def Bytes (xs : List Int) : Prop:=∀ b∈xs,0≤b∧b < 256
theorem be_snoc (xs : List Int) (b : Int) : be (xs ++ [b]) = be xs * 256 + b:=by simp [be]
theorem be_range : ∀ (n : Nat) (xs : List Int),xs.length = n→Bytes xs→0≤be xs∧be xs < 256 ^ n:=by
 intro n
 induction n with
 | zero =>
  intro xs h _
  have : xs = []:=List.eq_nil_of_length_eq_zero h
  subst this
  simp [be]
 | succ n ih =>
  intro xs h hb
  rcases List.eq_nil_or_concat xs with rfl | ⟨ys,b,rfl⟩
  ·simp at h
  ·rw [List.concat_eq_append] at h hb ⊢
   simp only [List.length_append,List.length_singleton] at h
   have h1:=ih ys (by omega) (fun y hy=>hb y (by simp [hy]))
   have h2:=hb b (by simp)
   rw [be_snoc,Int.pow_succ]
   omega
theorem keyL_len (n : Int) : (keyL n).length = 8:=by simp [keyL]
theorem keyL_bytes (n : Int) : Bytes (keyL n):=by
 intro b hb
 simp only [keyL,List.mem_map] at hb
 obtain ⟨j,_,rfl⟩:=hb
 omega
section
variable {w w' : World}
theorem pow7 : ∀ p : Nat,p≤7→(256 : Int) ^ p≤72057594037927936:=by decide
theorem be_lt7 {pre suf : List Int} (hl : (pre ++ suf).length = 8) (hb : Bytes (pre ++ suf)) (hs : suf≠[]) : 0≤be pre∧be pre < 72057594037927936:=by
 have h1:=be_range pre.length pre rfl (fun y hy=>hb y (by simp [hy]))
 have hn : pre.length≤7:=by
  have : suf.length≠0:=fun h=>hs (List.eq_nil_of_length_eq_zero h)
  simp at hl; omega
 refine ⟨h1.1,Int.lt_of_lt_of_le h1.2 ?_⟩
 exact pow7 _ hn
theorem take_loop {s8 : Sl} {ys : List Int} (h : Rd w s8 1 (nums .u8 ys)) (hl : ys.length = 8) (hb : Bytes ys) : ∀ (suf pre : List Int),ys = pre ++ suf →
  loopF (fun s : Int×Int×World=>octet_TakeKey_l1 s8 s.1 s.2.1 s.2.2) (be pre,(pre.length : Int),w) = some (be ys,w):=by
 have hn : ys.length = s8.n:=by have:=h.len; simpa using this
 intro suf
 induction suf with
 | nil =>
  intro pre hp
  have : pre = ys:=by simpa using hp.symm
  subst this
  refine loopF_done ?_
  have : decide ((pre.length : Int) < (s8.n : Int)) = false:=by simp; omega
  simp only [octet_TakeKey_l1,this,Bool.false_eq_true,if_false]
 | cons b suf ih =>
  intro pre hp
  have hk : pre.length < ys.length:=by rw [hp]; simp
  obtain ⟨a,e1,e2⟩:=ld_u8 (i:=pre.length) h hk
  have hbx : ys.getD pre.length 0 = b:=by rw [hp,List.getD_eq_getElem?_getD]; simp
  rw [hbx] at e2
  have hr:=be_lt7 (pre:=pre) (suf:=b :: suf) (by rw [← hp]; exact hl) (by rw [← hp]; exact hb) (by simp)
  have hb0:=hb b (by rw [hp]; simp)
  have hlt : decide ((pre.length : Int) < (s8.n : Int)) = true:=by simp; omega
  rw [← ih (pre ++ [b]) (by rw [hp]; simp),be_snoc,← bor8 hr.1 hr.2 hb0.1 hb0.2,show ((pre ++ [b]).length : Int) = ((pre.length + 1 : Nat) : Int) by simp]
  refine loopF_next ?_
  have e3 : shlI .u64 (be pre) 8 = some (be pre * 256):=by
   have : IntKind.wrap .u64 (be pre * 2 ^ min (8 : Int).toNat (IntKind.bits .u64)) = be pre * 256:=by
    rw [show (2 : Int) ^ min (8 : Int).toNat (IntKind.bits .u64) = 256 from rfl,wrap_u64]; omega
   unfold shlI
   rw [if_neg (by decide),this]
  have e4 : IntKind.wrap .u64 b = b:=by rw [wrap_u64]; omega
  simp only [octet_TakeKey_l1,hlt,if_true,e1,Option.bind_some,e2,e3,e4]
  rw [wrap_nat (by omega)]
theorem take_end {u : Int} (h0 : 0≤u) (h1 : u < 18446744073709551616) : IntKind.wrap .i64 (bxor .u64 u 9223372036854775808) = u - 9223372036854775808:=by
 rw [bxor63 h0 h1,IntKind.wrap_i64]; omega
theorem be8 {ys : List Int} (hl : ys.length = 8) (hb : Bytes ys) : 0≤be ys∧be ys < 18446744073709551616:=by
 have:=be_range 8 ys hl hb
 exact ⟨this.1,Int.lt_of_lt_of_le this.2 (by decide)⟩
theorem take_ok {s : Sl} {xs : List Int} {i : Nat} (h : Rd w s 1 (nums .u8 xs)) (hb : Bytes xs) (hi : i + 8≤xs.length) (hc : s.n≤s.c) (hm : s.n < 1000000) : octet_TakeKey s (i : Int) w = some (takeK xs i,((i + 8 : Nat) : Int),0,w):=by
 have hn : xs.length = s.n:=by have:=h.len; simpa using this
 obtain ⟨s8,e8,r8,n8,_⟩:=slS_rdZ (lo:=i) (hi:=i + 8) h (by omega) (by omega) hc
 have hy : ((nums .u8 xs).drop i).take (i + 8 - i) = nums .u8 ((xs.drop i).take 8):=by
  rw [show i + 8 - i = 8 by omega]; simp [nums,List.map_take,List.map_drop]
 rw [hy] at r8
 have hl : ((xs.drop i).take 8).length = 8:=by simp; omega
 have hby : Bytes ((xs.drop i).take 8):=fun b hb'=>hb b (List.mem_of_mem_drop (List.mem_of_mem_take hb'))
 have hloop:=take_loop r8 hl hby ((xs.drop i).take 8) [] rfl
 have hr:=be8 hl hby
 have g1 : decide ((i : Int) < 0) = false:=by simp
 have g2 : decide ((s.n : Int) < (i : Int)) = false:=by simp; omega
 have g3 : decide (IntKind.wrap .i64 ((s.n : Int) - (i : Int)) < 8) = false:=by rw [IntKind.wrap_i64]; simp; omega
 have g4 : IntKind.wrap .i64 ((i : Int) + 8) = ((i + 8 : Nat) : Int):=by rw [IntKind.wrap_i64]; omega
 simp only [List.length_nil,Int.ofNat_zero] at hloop
 unfold octet_TakeKey
 rw [g1,if_neg (by simp),g2,bind2_some,if_neg (by simp),g3,if_neg (by simp),g4,e8,Option.bind_some]
 have hloop' : loopF (fun s : Int×Int×World=>octet_TakeKey_l1 s8 s.1 s.2.1 s.2.2) (0,0,w) = some (be ((xs.drop i).take 8),w):=hloop
 rw [hloop',bind2_some,take_end hr.1 hr.2]
 rfl
theorem key_get {n : Int} {j : Nat} (hj : j < 8) : (keyL n).getD j 0 = (n + 9223372036854775808) / 2 ^ (56 - 8 * j) % 256:=by
 rw [List.getD_eq_getElem?_getD,keyL,List.getElem?_map,List.getElem?_range hj]; rfl
theorem key_ext {n : Int} {xs : List Int} (hl : xs.length = 8) (h : ∀ j,j < 8→xs.getD j 0 = (keyL n).getD j 0) : xs = keyL n:=by
 refine List.ext_getElem (by rw [hl,keyL_len]) (fun j h1 h2=>?_)
 have:=h j (by omega)
 rw [List.getD_eq_getElem?_getD,List.getD_eq_getElem?_getD,List.getElem?_eq_getElem h1,List.getElem?_eq_getElem h2] at this
 exact this
theorem getD_set {xs : List Int} {k j : Nat} {v : Int} (hk : k < xs.length) : (xs.set k v).getD j 0 = if k = j then v else xs.getD j 0:=by
 rw [List.getD_eq_getElem?_getD,List.getElem?_set]
 split
 ·subst_vars; simp [hk]
 ·rw [List.getD_eq_getElem?_getD]
theorem key_loop {n : Int} {T : TypeId} {s1 : Sl} (hn : s1.n = 8) (h0 : -9223372036854775808≤n) (h1 : n≤9223372036854775807) : ∀ (m k : Nat) (xs : List Int) (w : World),k + m = 8→xs.length = 8→(∀ j,j < k→xs.getD j 0 = (keyL n).getD j 0)→Own w T s1 1 (nums .u8 xs) →
  ∃ w',loopF (fun s : Int×World=>octet_Key_l1 s1 n s.1 s.2) ((k : Int),w) = some w'∧Own w' T s1 1 (nums .u8 (keyL n))∧Fr s1.blk w w':=by
 intro m
 induction m with
 | zero =>
  intro k xs w hk hl hx ho
  have : k = 8:=by omega
  subst this
  refine ⟨w,loopF_done ?_,by rw [← key_ext hl hx]; exact ho,Fr.refl⟩
  simp [octet_Key_l1,hn]
 | succ m ih =>
  intro k xs w hk hl hx ho
  have hk8 : k < 8:=by omega
  have hlt : decide ((k : Int) < (s1.n : Int)) = true:=by simp; omega
  obtain ⟨g,w1,e1,_,_,e3,o1,f1⟩:=own_set ((keyL n).getD k 0) ho (show k < s1.n by omega)
  obtain ⟨w',e',o',f'⟩:=ih (k + 1) _ w1 (by omega) (by rw [List.length_set]; exact hl) (fun j hj=>by
   rw [getD_set (by omega)]
   split
   ·subst_vars; rfl
   ·exact hx j (by omega)) o1
  refine ⟨w',?_,o',f1.trans f'⟩
  rw [← e',← wrap_nat (show k < 9223372036854775807 by omega)]
  refine loopF_next ?_
  have e0 : IntKind.wrap .i64 (56 - IntKind.wrap .i64 (8 * (k : Int))) = ((56 - 8 * k : Nat) : Int):=by rw [IntKind.wrap_i64,IntKind.wrap_i64]; omega
  have hu : bxor .u64 (IntKind.wrap .u64 n) 9223372036854775808 = n + 9223372036854775808:=by
   rw [wrap_u64,bxor63 (by omega) (by omega)]; omega
  have e4 : shrI .u64 (n + 9223372036854775808) ((56 - 8 * k : Nat) : Int) = some ((n + 9223372036854775808) / 2 ^ (56 - 8 * k)):=by
   unfold shrI
   rw [if_neg (by omega),Int.toNat_natCast,show min (56 - 8 * k) (IntKind.bits .u64) = 56 - 8 * k by simp [IntKind.bits]; omega,Int.fdiv_eq_ediv_of_nonneg _ (Int.pow_nonneg (by decide))]
  have e5 : IntKind.wrap .u8 ((n + 9223372036854775808) / 2 ^ (56 - 8 * k)) = (keyL n).getD k 0:=by
   rw [key_get hk8]; simp [IntKind.wrap,IntKind.bits,IntKind.signed]
  simp only [octet_Key_l1,hlt,if_true,hu,e0,e4,Option.bind_some,e1,e5,e3]
theorem key_ok {n : Int} (h0 : -9223372036854775808≤n) (h1 : n≤9223372036854775807) : ∃ o w',octet_Key n w = some (o,w')∧RowAt w' o (keyL n)∧(∀ k,o.blk k→w.heap.size≤k)∧(∀ S,Fr S w w'):=by
 obtain ⟨w1,e1,n1⟩:=mkS_s (w:=w) st29 (m:=8) (by omega) (by omega)
 rw [show (8 : Int).toNat = 8 from rfl] at e1 n1
 rw [zeros_u8] at n1
 have o1 : RowAt w1 ⟨some ⟨w.heap.size,0,none⟩,8,8⟩ (List.replicate 8 0):=Own.of_new n1 (by simp only [nums_length,List.length_replicate]) (by omega)
 obtain ⟨w',e',o',f'⟩:=key_loop (n:=n) (s1:=⟨some ⟨w.heap.size,0,none⟩,8,8⟩) rfl h0 h1 8 0 _ w1 rfl (by simp only [List.length_replicate]) (fun j hj=>by omega) o1
 simp only [Int.ofNat_zero] at e'
 refine ⟨_,w',?_,o',fun k hk=>Nat.le_of_eq (blk_eq hk).symm,fun S=>(n1.fr _ S (Nat.le_refl _)).fr.trans_new f' (fun k hk=>.inr (Nat.le_of_eq (blk_eq hk).symm))⟩
 unfold octet_Key
 rw [e1,bind2_some,e',Option.bind_some]
end
def fits (x y : Int) : Bool:=decide (1≤x) && decide (x≤4611686018427387904) && decide (0≤y) && decide (y≤1099511627776)
def whole (b : List Int) : Int×Int×Bool :=
 if b.length = 64∧b.getD 0 0 = b.getD 63 0 then
  if (fits (takeK b 1) (takeK b 9) && ((b.drop 17).take 46).all (· == 0)) = true then (takeK b 1,takeK b 9,true) else (0,0,false)
 else (0,0,false)
section
variable {w w' : World}
theorem whole_loop {s : Sl} {zs : List Int} (h : Rd w s 1 (nums .u8 zs)) (hm : s.n < 1000000) : ∀ (suf pre : List Int),zs = pre ++ suf →
  loopF (fun r : Int×World=>mark_whole_l1 s r.1 r.2) ((pre.length : Int),w) = some (if (suf.all (· == 0)) = true then .inl w else .inr (0,0,false,w)):=by
 have hn : zs.length = s.n:=by have:=h.len; simpa using this
 intro suf
 induction suf with
 | nil =>
  intro pre hp
  refine loopF_done ?_
  have hl : zs.length = pre.length:=by rw [hp]; simp
  have : decide ((pre.length : Int) < (s.n : Int)) = false:=by simp; omega
  simp only [mark_whole_l1,this,Bool.false_eq_true,if_false,List.all_nil,if_true]
 | cons b suf ih =>
  intro pre hp
  have hk : pre.length < zs.length:=by rw [hp]; simp
  obtain ⟨a,e1,e2⟩:=ld_u8 (i:=pre.length) h hk
  have hbx : zs.getD pre.length 0 = b:=by rw [hp,List.getD_eq_getElem?_getD]; simp
  rw [hbx] at e2
  have hlt : decide ((pre.length : Int) < (s.n : Int)) = true:=by simp; omega
  by_cases hb : b = 0
  ·have:=ih (pre ++ [b]) (by rw [hp]; simp)
   rw [show ((pre ++ [b]).length : Int) = ((pre.length + 1 : Nat) : Int) by simp] at this
   simp only [List.all_cons,hb,beq_self_eq_true,Bool.true_and]
   rw [← this]
   refine loopF_next ?_
   simp only [mark_whole_l1,hlt,if_true,e1,Option.bind_some,e2,hb,bne_self_eq_false,Bool.false_eq_true,if_false]
   rw [wrap_nat (by omega)]
  ·have hb' : (b == 0) = false:=by simpa using hb
   have hb2 : (b != 0) = true:=by simpa using hb
   simp only [List.all_cons,hb',Bool.false_and,Bool.false_eq_true,if_false]
   refine loopF_done ?_
   simp only [mark_whole_l1,hlt,if_true,e1,Option.bind_some,e2,hb2]
theorem fits_mark {x y : Int} : (if decide (x < 1) = true then some (true,w) else if decide (4611686018427387904 < x) = true then some (true,w) else if decide (y < 0) = true then some (true,w) else some (decide (1099511627776 < y),w)) = some (!fits x y,w):=by
 unfold fits
 by_cases h1 : x < 1
 ·have : decide (1≤x) = false:=by simp; omega
  simp [h1,this]
 by_cases h2 : 4611686018427387904 < x
 ·have : decide (x≤4611686018427387904) = false:=by simp; omega
  simp [h1,h2,this]
 by_cases h3 : y < 0
 ·have : decide (0≤y) = false:=by simp; omega
  simp [h1,h2,h3,this]
 have g1 : decide (1≤x) = true:=by simp; omega
 have g2 : decide (x≤4611686018427387904) = true:=by simp; omega
 have g3 : decide (0≤y) = true:=by simp; omega
 by_cases h4 : 1099511627776 < y
 ·have : decide (y≤1099511627776) = false:=by simp; omega
  simp [h1,h2,h3,h4,this]
 ·have : decide (y≤1099511627776) = true:=by simp; omega
  simp [h1,h2,h3,h4,this,g1,g2,g3]
theorem head_test {s : Sl} {xs : List Int} (h : Rd w s 1 (nums .u8 xs)) : (if ((s.n : Int) != 64) = true then some (true,w) else (ix s 0 1).bind fun p8=>(ldI .u8 w p8).bind fun v10=>(ix s 63 1).bind fun p12=>(ldI .u8 w p12).bind fun v14=>some ((v10 != v14),w)) = some (!decide (xs.length = 64∧xs.getD 0 0 = xs.getD 63 0),w):=by
 have hn : xs.length = s.n:=by have:=h.len; simpa using this
 by_cases hl : xs.length = 64
 ·have g : ((s.n : Int) != 64) = false:=by simp; omega
  obtain ⟨a,a1,a2⟩:=ld_u8 (i:=0) h (by omega)
  obtain ⟨b,b1,b2⟩:=ld_u8 (i:=63) h (by omega)
  have a1' : ix s 0 1 = some a:=a1
  have b1' : ix s 63 1 = some b:=b1
  rw [g,if_neg (by simp),a1',Option.bind_some,a2,Option.bind_some,b1',Option.bind_some,b2,Option.bind_some]
  have hpq : ∀ p q : Int,(p != q) = !decide (p = q):=fun p q=>by by_cases h : p = q <;> simp [h]
  rw [hpq]
  simp only [hl,true_and]
 ·have g : ((s.n : Int) != 64) = true:=by simp; omega
  rw [if_pos g]
  simp [hl]
theorem mwhole_ok {s : Sl} {xs : List Int} (h : Rd w s 1 (nums .u8 xs)) (hb : Bytes xs) (hc : s.n≤s.c) (hm : s.n < 1000000) : ∃ w',mark_whole s w = some ((whole xs).1,(whole xs).2.1,(whole xs).2.2,w')∧∀ S,Fr S w w':=by
 obtain ⟨w1,e1,_,g1,_,_⟩:=dr_s (w:=w)
 have f1 : ∀ S,Fr S w w1:=fun S=>(g1 w.heap.size S).fr
 have h1:=h.fr (f1 (fun _=>False)) (fun _ _ _ h=>h)
 have hn : xs.length = s.n:=by have:=h.len; simpa using this
 refine ⟨w1,?_,f1⟩
 unfold mark_whole
 rw [e1,Option.bind_some,head_test h1,bind2_some]
 by_cases hd : xs.length = 64∧xs.getD 0 0 = xs.getD 63 0
 ·have t1:=take_ok (i:=1) h1 hb (by omega) hc hm
  have t2:=take_ok (i:=9) h1 hb (by omega) hc hm
  obtain ⟨s27,e2,r2,n2,_⟩:=slS_rdZ (lo:=17) (hi:=63) h1 (by omega) (by omega) hc
  have hy : ((nums .u8 xs).drop 17).take (63 - 17) = nums .u8 ((xs.drop 17).take 46):=by
   simp [nums,List.map_take,List.map_drop]
  rw [hy] at r2
  have l2:=whole_loop r2 (by omega) ((xs.drop 17).take 46) [] rfl
  have t1' : octet_TakeKey s 1 w1 = some (takeK xs 1,((1 + 8 : Nat) : Int),0,w1):=t1
  have t2' : octet_TakeKey s 9 w1 = some (takeK xs 9,((9 + 8 : Nat) : Int),0,w1):=t2
  have e2' : slS s 17 63 (s.c : Int) 1 = some s27:=e2
  have l2' : loopF (fun r : Int×World=>mark_whole_l1 s27 r.1 r.2) (0,w1) = some (if (((xs.drop 17).take 46).all (· == 0)) = true then .inl w1 else .inr (0,0,false,w1)):=l2
  rw [decide_eq_true hd,if_neg (by simp),t1',bind4_some,t2',bind4_some,e2',Option.bind_some,l2',Option.bind_some]
  have hw : whole xs = if (fits (takeK xs 1) (takeK xs 9) && ((xs.drop 17).take 46).all (· == 0)) = true then (takeK xs 1,takeK xs 9,true) else (0,0,false):=by unfold whole; rw [if_pos hd]
  rw [hw]
  by_cases hz : (((xs.drop 17).take 46).all (· == 0)) = true
  ·rw [if_pos hz]
   simp only [Sum.elim_inl,u1]
   rw [fits_mark,bind2_some,hz,Bool.and_true]
   cases fits (takeK xs 1) (takeK xs 9) <;> rfl
  ·rw [if_neg hz]
   simp only [Sum.elim_inr,u4]
   have : (((xs.drop 17).take 46).all (· == 0)) = false:=by simpa using hz
   rw [this,Bool.and_false]; rfl
 ·rw [decide_eq_false hd,if_pos (by simp)]
  have hw : whole xs = (0,0,false):=by unfold whole; rw [if_neg hd]
  rw [hw]
end
structure Dk.Bt (D : Dk) : Prop where
 s : ∀ x∈D.S,Bytes x
 w : ∀ x∈D.W,Bytes x.2
def fstep (k : Int) (s : Int×Int×Int) (r : Int×Int×Bool) : Int×Int×Int:=if r.2.2 = true∧s.2.1 < r.1 then (k,r.1,r.2.1) else s
def Dk.found (D : Dk) (j : Int) : Int×Int×Int:=fstep 1 (fstep 0 (-1,0,0) (whole (D.read j).1)) (whole (D.read (j + 1)).1)
section
variable {w w' : World} {x c : Nat} {F : Nat → Prop} {D : Dk} {base count : Int}
theorem fold_bytes {i : Int} : ∀ (W : List (Int×List Int)) (b : List Int),(∀ x∈W,Bytes x.2)→Bytes b→Bytes (W.foldl (fun b x=>if x.1 = i then x.2 else b) b)
 | [],_,_,hb=>hb
 | x :: W,b,h,hb=>by
  rw [List.foldl_cons]
  refine fold_bytes W _ (fun y hy=>h y (by simp [hy])) ?_
  split
  ·exact h x (by simp)
  ·exact hb
theorem getD_bytes {S : List (List Int)} {i : Nat} (h : ∀ x∈S,Bytes x) : Bytes (S.getD i []):=by
 rw [List.getD_eq_getElem?_getD]
 cases e : S[i]? with
 | none=>intro b hb; simp at hb
 | some y=>exact h y (List.mem_of_getElem? e)
theorem read_bytes (h : D.Bt) (i : Int) : Bytes (D.read i).1:=by
 unfold Dk.read
 split; · intro b hb; simp at hb
 split; · intro b hb; simp at hb
 exact fold_bytes D.W _ h.w (getD_bytes h.s)
theorem read_len (h : D.Wf) (i : Int) : (D.read i).1.length≤64:=by
 unfold Dk.read
 split; · simp
 split
 ·simp
 ·rename_i hb
  rw [Dk.cur,cur_len h (by simpa using hb) _ _ h.w64 (getS_len h (by simpa using hb))]
  exact Nat.le_refl _
def cellsC (x : Nat) (base count : Int) : List Value:=[.pointer (some ⟨x,0,none⟩),.int .i64 base,.int .i64 count]
structure CellsAt (w : World) (c x : Nat) (base count : Int) : Prop where
 blk : B w c = some (cellsC x base count,155)
 b0 : 0≤base
 b1 : base≤512
 n0 : 1≤count
 n1 : count≤32
theorem CellsAt.fr {S : Nat→Prop} (h : CellsAt w c x base count) (hf : Fr S w w') (hs : ¬ S c) : CellsAt w' c x base count:=⟨hf.B h.blk hs,h.b0,h.b1,h.n0,h.n1⟩
theorem CellsAt.all (h : CellsAt w c x base count) (hf : ∀ S,Fr S w w') : CellsAt w' c x base count:=h.fr (hf (fun _=>False)) id
theorem cread0 (h : CellsAt w c x base count) : ldP w ⟨c,0,none⟩ = some (some ⟨x,0,none⟩):=ldP_B h.blk rfl
theorem cread1 (h : CellsAt w c x base count) : ldI .i64 w ⟨c,1,none⟩ = some base:=ldI_B h.blk rfl
theorem cread2 (h : CellsAt w c x base count) : ldI .i64 w ⟨c,2,none⟩ = some count:=ldI_B h.blk rfl
theorem Disk.all (h : Disk w x F D) (hf : ∀ S,Fr S w w') : Disk w' x F D:=h.fr (hf (fun _=>False)) (fun _ _ h=>h)
theorem found_step (h : Disk w x F D) (hc : CellsAt w c x base count) (hb : D.Bt) (hbd : D.W.length < 900000) {i : Int} (i0 : 0≤i) (i1 : i < count) {k : Nat} (hk : k < 2) (s : Int×Int×Int) :
  ∃ w',mark_Cells_found_l1 (some ⟨c,0,none⟩) i s.1 s.2.1 s.2.2 (k : Int) w = some (.inl ((fstep k s (whole (D.read (base + 2 * i + k)).1)).1,(fstep k s (whole (D.read (base + 2 * i + k)).1)).2.1,(fstep k s (whole (D.read (base + 2 * i + k)).1)).2.2,((k + 1 : Nat) : Int),w'))∧∀ S,Fr S w w':=by
 have hb0:=hc.b0
 have hb1:=hc.b1
 have hn1:=hc.n1
 obtain ⟨w1,e1,_,g1,_,_⟩:=dr_s (w:=w)
 have f1 : ∀ S,Fr S w w1:=fun S=>(g1 w.heap.size S).fr
 have c1:=hc.all f1
 obtain ⟨o,w2,e2,r2⟩:=(h.all f1).read (i:=base + 2 * i + k) (by omega)
 have rl:=read_len h.wf (base + 2 * i + k)
 obtain ⟨w3,e3,f3⟩:=mwhole_ok r2.rd (read_bytes hb _) r2.cap (by rw [r2.n]; omega)
 refine ⟨w3,?_,fun S=>((f1 S).trans (r2.fr S)).trans (f3 S)⟩
 have hlt : decide ((k : Int) < 2) = true:=by simp; omega
 have hwr : IntKind.wrap .i64 (IntKind.wrap .i64 (base + IntKind.wrap .i64 (2 * i)) + (k : Int)) = base + 2 * i + k:=by
  rw [IntKind.wrap_i64,IntKind.wrap_i64,IntKind.wrap_i64]; omega
 unfold mark_Cells_found_l1
 rw [if_pos hlt,e1,Option.bind_some,Option.bind_some,add_mk,Nat.zero_add,cread0 c1,Option.bind_some,add_mk,Nat.zero_add,cread1 c1,Option.bind_some,hwr,e2,bind3_some,e3,bind4_some]
 obtain ⟨r,hr⟩ : ∃ r,whole (D.read (base + 2 * i + k)).1 = r:=⟨_,rfl⟩
 rw [hr]
 have hwk:=wrap_nat (show k < 9223372036854775807 by omega)
 by_cases h1 : r.2.2 = true
 ·rw [if_pos h1,bind2_some]
  by_cases h2 : s.2.1 < r.1
  ·have : fstep k s r = ((k : Int),r.1,r.2.1):=by unfold fstep; rw [if_pos ⟨h1,h2⟩]
   rw [if_pos (by simpa using h2),bind4_some,this,hwk]
  ·have : fstep k s r = s:=by unfold fstep; rw [if_neg (fun h=>h2 h.2)]
   rw [if_neg (by simpa using h2),bind4_some,this,hwk]
 ·have : fstep k s r = s:=by unfold fstep; rw [if_neg (fun h=>h1 h.1)]
  rw [if_neg h1,bind2_some,if_neg (by simp),bind4_some,this,hwk]
theorem found_ok (h : Disk w x F D) (hc : CellsAt w c x base count) (hb : D.Bt) (hbd : D.W.length < 900000) {i : Int} (i0 : 0≤i) (i1 : i < count) :
  ∃ w',mark_Cells_found (some ⟨c,0,none⟩) i w = some ((D.found (base + 2 * i)).1,(D.found (base + 2 * i)).2.1,(D.found (base + 2 * i)).2.2,w')∧∀ S,Fr S w w':=by
 obtain ⟨w1,e1,f1⟩:=found_step h hc hb hbd i0 i1 (k:=0) (by omega) (-1,0,0)
 obtain ⟨w2,e2,f2⟩:=found_step (h.all f1) (hc.all f1) hb hbd i0 i1 (k:=1) (by omega) (fstep (0 : Nat) (-1,0,0) (whole (D.read (base + 2 * i + (0 : Nat))).1))
 refine ⟨w2,?_,fun S=>(f1 S).trans (f2 S)⟩
 have h0 : base + 2 * i + ((0 : Nat) : Int) = base + 2 * i:=by omega
 have hD : D.found (base + 2 * i) = fstep (1 : Nat) (fstep (0 : Nat) (-1,0,0) (whole (D.read (base + 2 * i + (0 : Nat))).1)) (whole (D.read (base + 2 * i + (1 : Nat))).1):=by
  rw [h0]; rfl
 rw [hD]
 unfold mark_Cells_found
 have l1 : loopF (fun s : Int×Int×Int×Int×World=>mark_Cells_found_l1 (some ⟨c,0,none⟩) i s.1 s.2.1 s.2.2.1 s.2.2.2.1 s.2.2.2.2) ((-1),0,0,0,w) = _:=loopF_next e1
 rw [l1]
 have l2 : loopF (fun s : Int×Int×Int×Int×World=>mark_Cells_found_l1 (some ⟨c,0,none⟩) i s.1 s.2.1 s.2.2.1 s.2.2.2.1 s.2.2.2.2) ((fstep (0 : Nat) (-1,0,0) (whole (D.read (base + 2 * i + (0 : Nat))).1)).1,(fstep (0 : Nat) (-1,0,0) (whole (D.read (base + 2 * i + (0 : Nat))).1)).2.1,(fstep (0 : Nat) (-1,0,0) (whole (D.read (base + 2 * i + (0 : Nat))).1)).2.2,((0 + 1 : Nat) : Int),w1) = _:=loopF_next e2
 rw [l2,loopF_done (r:=((fstep (1 : Nat) (fstep (0 : Nat) (-1,0,0) (whole (D.read (base + 2 * i + (0 : Nat))).1)) (whole (D.read (base + 2 * i + (1 : Nat))).1)).1,(fstep (1 : Nat) (fstep (0 : Nat) (-1,0,0) (whole (D.read (base + 2 * i + (0 : Nat))).1)) (whole (D.read (base + 2 * i + (1 : Nat))).1)).2.1,(fstep (1 : Nat) (fstep (0 : Nat) (-1,0,0) (whole (D.read (base + 2 * i + (0 : Nat))).1)) (whole (D.read (base + 2 * i + (1 : Nat))).1)).2.2,w2)) ?_,bind4_some]
 unfold mark_Cells_found_l1
 rw [if_neg (by simp)]
def Dk.get (D : Dk) (base count i : Int) : Int×Bool:=if i < 0∨count≤i then (0,false) else ((D.found (base + 2 * i)).2.2,decide (0≤(D.found (base + 2 * i)).1))
theorem get_ok (h : Disk w x F D) (hc : CellsAt w c x base count) (hb : D.Bt) (hbd : D.W.length < 900000) (i : Int) :
  ∃ w',mark_Cells_Get (some ⟨c,0,none⟩) i w = some ((D.get base count i).1,(D.get base count i).2,w')∧∀ S,Fr S w w':=by
 unfold mark_Cells_Get Dk.get
 by_cases h0 : i < 0
 ·refine ⟨w,?_,fun S=>Fr.refl⟩
  rw [if_neg (by simp),if_pos (by simpa using h0),bind2_some,if_pos rfl,if_pos (.inl h0)]
 ·by_cases h1 : count≤i
  ·refine ⟨w,?_,fun S=>Fr.refl⟩
   rw [if_neg (by simp),if_neg (by simpa using h0),Option.bind_some,add_mk,Nat.zero_add,cread2 hc,Option.bind_some,decide_eq_true h1,bind2_some,if_pos rfl,if_pos (.inr h1)]
  ·obtain ⟨w1,e1,f1⟩:=found_ok h hc hb hbd (i:=i) (by omega) (by omega)
   refine ⟨w1,?_,f1⟩
   rw [if_neg (by simp),if_neg (by simpa using h0),Option.bind_some,add_mk,Nat.zero_add,cread2 hc,Option.bind_some,decide_eq_false h1,bind2_some,if_neg (by simp),e1,bind4_some,if_neg (by omega)]
def mayOpen (n base count : Int) : Bool:=decide (1≤count) && decide (count≤32) && decide (0≤base) && decide (base≤n - 2 * count)
theorem open_test (h : Disk w x F D) (hi : -9223372036854775808 ≤ count ∧ count ≤ 9223372036854775807) : (if decide (count < 1) = true then some (true, w) else if decide (32 < count) = true then some (true, w) else if decide (base < 0) = true then some (true, w) else
      bind2 (sector_Disk_Size (some ⟨x, 0, none⟩) w) fun v9 w10 => some ((decide ((IntKind.wrap .i64 (v9 - (IntKind.wrap .i64 (2 * count)))) < base)), w10)) = some (!mayOpen D.S.length base count, w) := by
  have hn := h.wf.n
  have hb : ∀ b : Bool, ∀ p : Prop, [Decidable p] → (b = true ↔ p) → b = decide p := fun b p _ hh => by
    cases b
    · exact (decide_eq_false (fun hp => by simpa using hh.2 hp)).symm
    · exact (decide_eq_true (hh.1 rfl)).symm
  have hm : mayOpen D.S.length base count = decide (1 ≤ count ∧ count ≤ 32 ∧ 0 ≤ base ∧ base ≤ D.S.length - 2 * count) := hb _ _ (by simp [mayOpen, and_assoc])
  rw [hm]
  by_cases h1 : count < 1
  · rw [if_pos (by simpa using h1), decide_eq_false (by omega)]; rfl
  by_cases h2 : 32 < count
  · rw [if_neg (by simpa using h1), if_pos (by simpa using h2), decide_eq_false (by omega)]; rfl
  by_cases h3 : base < 0
  · rw [if_neg (by simpa using h1), if_neg (by simpa using h2), if_pos (by simpa using h3), decide_eq_false (by omega)]; rfl
  have hwr : IntKind.wrap .i64 ((D.S.length : Int) - IntKind.wrap .i64 (2 * count)) = D.S.length - 2 * count := by rw [IntKind.wrap_i64, IntKind.wrap_i64]; omega
  rw [if_neg (by simpa using h1), if_neg (by simpa using h2), if_neg (by simpa using h3), h.size, bind2_some, hwr]
  by_cases h4 : base ≤ D.S.length - 2 * count
  · rw [decide_eq_false (show ¬ (D.S.length : Int) - 2 * count < base by omega), decide_eq_true (by omega)]; rfl
  · rw [decide_eq_true (show (D.S.length : Int) - 2 * count < base by omega), decide_eq_false (by omega)]; rfl
theorem open_yes (h : Disk w x F D) (hi : -9223372036854775808≤count∧count≤9223372036854775807) (hm : mayOpen D.S.length base count = true) : ∃ c w',mark_Open (some ⟨x,0,none⟩) base count w = some (some ⟨c,0,none⟩,0,w')∧CellsAt w' c x base count∧w.heap.size≤c∧∀ S,Fr S w w':=by
 have hn:=h.wf.n
 have hr : 1≤count∧count≤32∧0≤base∧base≤D.S.length - 2 * count:=by simpa [mayOpen,and_assoc] using hm
 obtain ⟨w1,e1,n1⟩:=mk_s (w:=w) (T:=155) (cs:=cellsC x base count)
 refine ⟨_,w1,?_,⟨n1.b,by omega,by omega,by omega,by omega⟩,Nat.le_refl _,fun S=>(n1.fr _ S (Nat.le_refl _)).fr⟩
 have e1' : mk w 155 [.pointer (some ⟨x,0,none⟩),.int .i64 base,.int .i64 count] = some (⟨w.heap.size,0,none⟩,w1):=e1
 unfold mark_Open
 rw [if_neg (by simp),open_test h hi,bind2_some,hm,if_neg (by simp),e1',bind2_some]
end
def secOf (was : List Int) (n v : Int) : List Int:=((was.getD 63 0 + 1) % 256) :: (keyL (n + 1) ++ keyL v ++ List.replicate 46 0 ++ [(was.getD 63 0 + 1) % 256])
def Dk.put (D : Dk) (base count i v : Int) : Int×Dk :=
 if D.down = true then (10,D) else if i < 0∨count≤i∨v < 0∨1099511627776 < v then (2,D) else
 if (D.found (base + 2 * i)).2.1 = 4611686018427387904 then (6,D) else
 if (D.write (base + 2 * i + ((D.found (base + 2 * i)).1 + 1) % 2) (secOf (D.read (base + 2 * i + ((D.found (base + 2 * i)).1 + 1) % 2)).1 (D.found (base + 2 * i)).2.1 v)).1≠0 then D.write (base + 2 * i + ((D.found (base + 2 * i)).1 + 1) % 2) (secOf (D.read (base + 2 * i + ((D.found (base + 2 * i)).1 + 1) % 2)).1 (D.found (base + 2 * i)).2.1 v)
 else (D.write (base + 2 * i + ((D.found (base + 2 * i)).1 + 1) % 2) (secOf (D.read (base + 2 * i + ((D.found (base + 2 * i)).1 + 1) % 2)).1 (D.found (base + 2 * i)).2.1 v)).2.sync
section
variable {w w' : World} {x c : Nat} {F : Nat → Prop} {D : Dk} {base count : Int}
theorem fstep_at {k : Int} {s : Int×Int×Int} {r : Int×Int×Bool} : (fstep k s r).1 = k∨(fstep k s r).1 = s.1:=by
 unfold fstep; split
 ·exact .inl rfl
 ·exact .inr rfl
theorem found_at (D : Dk) (j : Int) : -1≤(D.found j).1∧(D.found j).1≤1:=by
 have h1 : (D.found j).1 = 1∨(D.found j).1 = (fstep 0 (-1,0,0) (whole (D.read j).1)).1:=fstep_at
 have h2 : (fstep 0 (-1,0,0) (whole (D.read j).1)).1 = 0∨(fstep 0 (-1,0,0) (whole (D.read j).1)).1 = -1:=fstep_at
 omega
end
structure Sg where
 pos : Int
 seq : Int
 fin : Int
 high : Int
 recs : List (Int×List Int)
structure Lg where
 base : Int
 segs : Int
 age : Int
 high : Int
 rel : Int
 used : List Sg
def zeroL (b : List Int) : Bool:=b.all fun x=>x == 0
def goodC (b : List Int) : Bool :=
 decide (b.length = 64) && b.getD 0 0 == 231 && b.getD 63 0 == 231 && decide (1≤b.getD 1 0) && decide (b.getD 1 0≤3) && decide (b.getD 2 0≤59) && decide (b.getD 3 0≤1) && !(b.getD 3 0 == 0 && b.getD 2 0 != 59) && zeroL ((b.take 63).drop (4 + (b.getD 2 0).toNat))
def goodL (b : List Int) : Int×List Int×Bool:=if goodC b = true then (b.getD 1 0,(b.drop 4).take (b.getD 2 0).toNat,b.getD 3 0 == 1) else (0,[],false)
def laidL (kind : Int) (p : List Int) (last : Bool) : List Int:=[231,kind,(p.length : Int),if last = true then 1 else 0] ++ p ++ List.replicate (59 - p.length) 0 ++ [231]
def Dk.look (D : Dk) (base pos i : Int) : List Int:=(D.read (base + 2 + pos * 16 + i)).1
def hdC (n t : Int) : Bool:=decide (1≤n) && decide (n≤4611686018427387904) && decide (0≤t) && decide (t≤1099511627776)
def headC (b : List Int) : Bool:=(goodL b).1 == 1 && (goodL b).2.2 && decide ((goodL b).2.1.length = 16) && hdC (takeK (goodL b).2.1 0) (takeK (goodL b).2.1 8)
def headL (pos : Int) (b : List Int) : Option Sg:=if headC b = true then some ⟨pos,takeK (goodL b).2.1 0,1,takeK (goodL b).2.1 8,[]⟩ else none
def Dk.rcd (D : Dk) (base pos : Int) : Nat→Int→Int→List Int→Option (Int×List Int×Int)
 | 0,_,_,_=>none
 | m + 1,i,want,all =>
  if (goodL (D.look base pos i)).1 = want then
   if (goodL (D.look base pos i)).2.2 = true then
    if (all ++ (goodL (D.look base pos i)).2.1).length < 8 then none else some (takeK (all ++ (goodL (D.look base pos i)).2.1) 0,(all ++ (goodL (D.look base pos i)).2.1).drop 8,i + 1)
   else D.rcd base pos m (i + 1) 3 (all ++ (goodL (D.look base pos i)).2.1)
  else none
def Dk.seg (D : Dk) (base pos : Int) : Nat→Int→Int→List (Int×List Int)→Int×Int×List (Int×List Int)
 | 0,e,h,rs=>(e,h,rs)
 | m + 1,e,h,rs=>match D.rcd base pos (16 - e).toNat e 2 [] with
  | some (t,b,nx)=>if h < t∧t≤1099511627776 then D.seg base pos m nx t (rs ++ [(t,b)]) else (e,h,rs)
  | none=>(e,h,rs)
def insR (x : Sg) : List Sg→List Sg
 | []=>[x]
 | y :: l=>if x.seq < y.seq then y :: insR x l else x :: y :: l
def insS (l : List Sg) (x : Sg) : List Sg:=(insR x l.reverse).reverse
def Dk.heads (D : Dk) (base : Int) (n : Nat) : List Sg:=(List.range n).filterMap fun k : Nat=>headL (k : Int) (D.look base k 0)
def Dk.segs (D : Dk) (base : Int) : List Sg→Int→List Sg→Int×List Sg
 | [],h,ds=>(h,ds)
 | s :: l,h,ds=>D.segs base l (D.seg base s.pos 16 s.fin (max h s.high) []).2.1 (ds ++ [⟨s.pos,s.seq,(D.seg base s.pos 16 s.fin (max h s.high) []).1,(D.seg base s.pos 16 s.fin (max h s.high) []).2.1,(D.seg base s.pos 16 s.fin (max h s.high) []).2.2⟩])
def Dk.readL (D : Dk) (base segs : Int) : Lg :=
 ⟨base,segs,D.age,max (D.segs base ((D.heads base segs.toNat).foldl insS []) 0 []).1 (D.get base 1 0).1,(D.get base 1 0).1,(D.segs base ((D.heads base segs.toNat).foldl insS []) 0 []).2⟩
def Dk.free (D : Dk) (base rel : Int) : List Sg→Int×Dk×List Sg
 | []=>(0,D,[])
 | s :: l=>if l = []∨rel < s.high then ((D.free base rel l).1,(D.free base rel l).2.1,s :: (D.free base rel l).2.2)
  else if (D.write (base + 2 + s.pos * 16 + 0) []).1 = 0 then (D.write (base + 2 + s.pos * 16 + 0) []).2.free base rel l
  else ((D.write (base + 2 + s.pos * 16 + 0) []).1,(D.write (base + 2 + s.pos * 16 + 0) []).2,[])
def Dk.wipe (D : Dk) (base pos : Int) : Nat→Int→Int→Int×Int×Dk
 | 0,_,n=>(n,0,D)
 | m + 1,i,n=>if zeroL (D.look base pos i) = true then D.wipe base pos m (i + 1) n
  else if (D.write (base + 2 + pos * 16 + i) []).1 = 0 then (D.write (base + 2 + pos * 16 + i) []).2.wipe base pos m (i + 1) (n + 1)
  else (n,(D.write (base + 2 + pos * 16 + i) []).1,(D.write (base + 2 + pos * 16 + i) []).2)
def wipeLast (D : Dk) (base : Int) (us : List Sg) : Int×Int×Dk:=match us.getLast? with | some s=>D.wipe base s.pos (16 - s.fin).toNat s.fin 0 | none=>(0,0,D)
def Dk.tidy (D : Dk) (l : Lg) : Int×Dk×Option Lg :=
 if (D.free l.base l.rel l.used).1≠0 then ((D.free l.base l.rel l.used).1,(D.free l.base l.rel l.used).2.1,none) else
 if (wipeLast (D.free l.base l.rel l.used).2.1 l.base (D.free l.base l.rel l.used).2.2).2.1≠0 then ((wipeLast (D.free l.base l.rel l.used).2.1 l.base (D.free l.base l.rel l.used).2.2).2.1,(wipeLast (D.free l.base l.rel l.used).2.1 l.base (D.free l.base l.rel l.used).2.2).2.2,none) else
 if 0 < (l.used.length : Int) - ((D.free l.base l.rel l.used).2.2.length : Int) + (wipeLast (D.free l.base l.rel l.used).2.1 l.base (D.free l.base l.rel l.used).2.2).1 then
  if (wipeLast (D.free l.base l.rel l.used).2.1 l.base (D.free l.base l.rel l.used).2.2).2.2.sync.1≠0 then ((wipeLast (D.free l.base l.rel l.used).2.1 l.base (D.free l.base l.rel l.used).2.2).2.2.sync.1,(wipeLast (D.free l.base l.rel l.used).2.1 l.base (D.free l.base l.rel l.used).2.2).2.2.sync.2,none)
  else (0,(wipeLast (D.free l.base l.rel l.used).2.1 l.base (D.free l.base l.rel l.used).2.2).2.2.sync.2,some { l with used:=(D.free l.base l.rel l.used).2.2 })
 else (0,(wipeLast (D.free l.base l.rel l.used).2.1 l.base (D.free l.base l.rel l.used).2.2).2.2,some { l with used:=(D.free l.base l.rel l.used).2.2 })
def logC (n base segs : Int) : Bool:=decide (2≤segs) && decide (segs≤16) && decide (0≤base) && decide (base≤n - 2 - segs * 16)
def Dk.openL (D : Dk) (base segs : Int) : Int×Dk×Option Lg:=if D.down = true then (10,D,none) else if logC D.S.length base segs = true then D.tidy (D.readL base segs) else (2,D,none)
def Dk.badL (D : Dk) (l : Lg) : Int:=if D.age≠l.age then 13 else if D.down = true then 10 else 0
def posL (us : List Sg) : Nat→Int→Int
 | 0,p=>p
 | m + 1,p=>if us.any (fun s=>s.pos == p) = true then posL us m (p + 1) else p
def seqL (us : List Sg) : Int:=match us.getLast? with | some s=>s.seq + 1 | none=>1
def Dk.fresh (D : Dk) (l : Lg) : Int×Dk :=
 if l.segs≤l.used.length then (9,D) else if 4611686018427387904 < seqL l.used then (6,D) else
 if (D.wipe l.base (posL l.used l.used.length 0) 16 0 0).2.1≠0 then ((D.wipe l.base (posL l.used l.used.length 0) 16 0 0).2.1,(D.wipe l.base (posL l.used l.used.length 0) 16 0 0).2.2) else
 if (D.wipe l.base (posL l.used l.used.length 0) 16 0 0).2.2.sync.1≠0 then (D.wipe l.base (posL l.used l.used.length 0) 16 0 0).2.2.sync else
 (D.wipe l.base (posL l.used l.used.length 0) 16 0 0).2.2.sync.2.write (l.base + 2 + posL l.used l.used.length 0 * 16 + 0) (laidL 1 (keyL (seqL l.used) ++ keyL l.high) true)
def Dk.puts (D : Dk) (base pos : Int) : Nat→Int→Int→List Int→Int×Dk
 | 0,_,_,_=>(0,D)
 | m + 1,i,kind,all=>if all = [] then (0,D) else
  if (D.write (base + 2 + pos * 16 + i) (laidL kind (all.take (min 59 all.length)) (min 59 all.length == all.length))).1 = 0 then
   (D.write (base + 2 + pos * 16 + i) (laidL kind (all.take (min 59 all.length)) (min 59 all.length == all.length))).2.puts base pos m (i + 1) 3 (all.drop (min 59 all.length))
  else D.write (base + 2 + pos * 16 + i) (laidL kind (all.take (min 59 all.length)) (min 59 all.length == all.length))
def secs (body : List Int) : Nat:=(body.length + 8 + 58) / 59
def begunL (us : List Sg) (n : Int) : Bool:=match us.getLast? with | some s=>decide (16 < s.fin + n) | none=>true
def curL (l : Lg) (n : Int) : Sg:=if begunL l.used n = true then ⟨posL l.used l.used.length 0,seqL l.used,1,l.high,[]⟩ else l.used.getLast?.getD ⟨0,0,0,0,[]⟩
def grownL (l : Lg) (t : Int) (body : List Int) : Lg :=
 { l with high:=t,used:=(if begunL l.used (secs body) = true then l.used else l.used.dropLast) ++ [⟨(curL l (secs body)).pos,(curL l (secs body)).seq,(curL l (secs body)).fin + secs body,t,(curL l (secs body)).recs ++ [(t,body)]⟩] }
def Dk.appendL (D : Dk) (l : Lg) (t : Int) (body : List Int) : Int×Dk×Lg :=
 if D.badL l≠0 then (D.badL l,D,l) else if 400 < body.length then (6,D,l) else if t≤l.high∨1099511627776 < t then (14,D,l) else
 if begunL l.used (secs body) = true∧(D.fresh l).1≠0 then ((D.fresh l).1,(D.fresh l).2,l) else
 if ((if begunL l.used (secs body) = true then (D.fresh l).2 else D).puts l.base (curL l (secs body)).pos (secs body) (curL l (secs body)).fin 2 (keyL t ++ body)).1≠0 then
  (((if begunL l.used (secs body) = true then (D.fresh l).2 else D).puts l.base (curL l (secs body)).pos (secs body) (curL l (secs body)).fin 2 (keyL t ++ body)).1,((if begunL l.used (secs body) = true then (D.fresh l).2 else D).puts l.base (curL l (secs body)).pos (secs body) (curL l (secs body)).fin 2 (keyL t ++ body)).2,l)
 else (0,((if begunL l.used (secs body) = true then (D.fresh l).2 else D).puts l.base (curL l (secs body)).pos (secs body) (curL l (secs body)).fin 2 (keyL t ++ body)).2,grownL l t body)
def Dk.syncL (D : Dk) (l : Lg) : Int×Dk:=if D.badL l≠0 then (D.badL l,D) else D.sync
def Lg.all (l : Lg) : List (Int×List Int):=l.used.flatMap fun s=>s.recs
def Lg.events (l : Lg) (a b : Int) : List (Int×List Int):=l.all.filter fun r=>decide (a≤r.1) && decide (r.1≤b) && decide (l.rel < r.1)
structure Sg.Wf (s : Sg) (segs : Int) : Prop where
 p0 : 0≤s.pos
 p1 : s.pos < segs
 q0 : 1≤s.seq
 q1 : s.seq≤4611686018427387904
 f0 : 1≤s.fin
 f1 : s.fin≤16
 h0 : 0≤s.high
 h1 : s.high≤1099511627776
 rn : (s.recs.length : Int) < s.fin
 rb : ∀ r∈s.recs,r.2.length≤1000∧Bytes r.2∧r.1≤s.high
structure Lg.Wf (l : Lg) : Prop where
 b0 : 0≤l.base
 b1 : l.base≤512
 s0 : 2≤l.segs
 s1 : l.segs≤16
 h1 : l.high≤1099511627776
 r0 : 0≤l.rel
 r1 : l.rel≤l.high
 seg : ∀ s∈l.used,s.Wf l.segs
 nd : (l.used.map fun s=>s.pos).Nodup
structure ND (α : Type) where
 t : (α→Prop)→Prop
 m : ∀ {Q Q' : α→Prop},(∀ a,Q a→Q' a)→t Q→t Q'
section
variable {α β γ δ ε ζ ρ S R ι : Type}
def nret (a : α) : ND α:=⟨fun Q=>Q a,fun h k=>h _ k⟩
def nck (p : Prop) (x : ND α) : ND α:=⟨fun Q=>p∧x.t Q,fun h k=>⟨k.1,x.m h k.2⟩⟩
def lb1 (o : Option α) (f : α→ND ρ) : ND ρ:=⟨fun Q=>∃ a,o = some a∧(f a).t Q,fun h ⟨a,e,k⟩=>⟨a,e,(f a).m h k⟩⟩
def lb2 (o : Option (α×β)) (f : α→β→ND ρ) : ND ρ:=⟨fun Q=>∃ a b,o = some (a,b)∧(f a b).t Q,fun h ⟨a,b,e,k⟩=>⟨a,b,e,(f a b).m h k⟩⟩
def lb3 (o : Option (α×β×γ)) (f : α→β→γ→ND ρ) : ND ρ:=⟨fun Q=>∃ a b c,o = some (a,b,c)∧(f a b c).t Q,fun h ⟨a,b,c,e,k⟩=>⟨a,b,c,e,(f a b c).m h k⟩⟩
def lb4 (o : Option (α×β×γ×δ)) (f : α→β→γ→δ→ND ρ) : ND ρ:=⟨fun Q=>∃ a b c d,o = some (a,b,c,d)∧(f a b c d).t Q,fun h ⟨a,b,c,d,e,k⟩=>⟨a,b,c,d,e,(f a b c d).m h k⟩⟩
def lb5 (o : Option (α×β×γ×δ×ε)) (f : α→β→γ→δ→ε→ND ρ) : ND ρ:=⟨fun Q=>∃ a b c d x,o = some (a,b,c,d,x)∧(f a b c d x).t Q,fun h ⟨a,b,c,d,x,e,k⟩=>⟨a,b,c,d,x,e,(f a b c d x).m h k⟩⟩
def cb1 (x : ND α) (f : α→ND ρ) : ND ρ:=⟨fun Q=>x.t fun i=>(f i).t Q,fun h=>x.m fun i=>(f i).m h⟩
def cb2 (x : ND (α×β)) (f : α→β→ND ρ) : ND ρ:=⟨fun Q=>x.t fun i=>(f i.1 i.2).t Q,fun h=>x.m fun i=>(f i.1 i.2).m h⟩
def cb3 (x : ND (α×β×γ)) (f : α→β→γ→ND ρ) : ND ρ:=⟨fun Q=>x.t fun i=>(f i.1 i.2.1 i.2.2).t Q,fun h=>x.m fun i=>(f i.1 i.2.1 i.2.2).m h⟩
def cb4 (x : ND (α×β×γ×δ)) (f : α→β→γ→δ→ND ρ) : ND ρ:=⟨fun Q=>x.t fun i=>(f i.1 i.2.1 i.2.2.1 i.2.2.2).t Q,fun h=>x.m fun i=>(f i.1 i.2.1 i.2.2.1 i.2.2.2).m h⟩
def cbX (x : ND (ρ⊕α)) (f : α→ND ρ) : ND ρ:=⟨fun Q=>x.t (Sum.elim Q fun i=>(f i).t Q),fun h=>x.m fun i=>by cases i with | inl r=>exact h r | inr i=>exact (f i).m h⟩
def nloop (step : S→ND (S⊕R)) (s : S) : ND R :=
 ⟨fun Q=>∀ X : S→Prop,(∀ s,(step s).t (Sum.elim X Q)→X s)→X s,fun h k X hX=>k X fun s hs=>hX s ((step s).m (fun i=>by cases i with | inl x=>exact id | inr r=>exact h r) hs)⟩
variable {Q : ρ → Prop}
theorem un1 {x : ND α} {f : α→ND ρ} (h : (cb1 x f).t Q) : x.t fun i=>(f i).t Q:=h
theorem un2 {x : ND (α×β)} {f : α→β→ND ρ} (h : (cb2 x f).t Q) : x.t fun i=>(f i.1 i.2).t Q:=h
theorem un3 {x : ND (α×β×γ)} {f : α→β→γ→ND ρ} (h : (cb3 x f).t Q) : x.t fun i=>(f i.1 i.2.1 i.2.2).t Q:=h
theorem un4 {x : ND (α×β×γ×δ)} {f : α→β→γ→δ→ND ρ} (h : (cb4 x f).t Q) : x.t fun i=>(f i.1 i.2.1 i.2.2.1 i.2.2.2).t Q:=h
theorem unX {x : ND (ρ⊕α)} {f : α→ND ρ} (h : (cbX x f).t Q) : x.t (Sum.elim Q fun i=>(f i).t Q):=h
theorem unL {x : ND ρ} {K : α→Prop} (h : (cb1 x fun g=>nret (.inl g)).t (Sum.elim Q K)) : x.t Q:=h
theorem ite_n {b : Bool} {A B : ND ρ} {G : Prop} (h : (if b = true then A else B).t Q) (ht : b = true→A.t Q→G) (hf : b≠true→B.t Q→G) : G:=by
 by_cases e : b = true
 ·exact ht e (by rwa [if_pos e] at h)
 ·exact hf e (by rwa [if_neg e] at h)
end
section
variable {ρ ι : Type} {P : Program} {n : Nat} {L : List (Nat × Value)} {a : Act} {w : World} {Q : Exit → Act → World → Prop}
theorem s_condN {c : Operand} {x y : Code} {b : Bool} {A B : ND ρ} {C : ρ→Prop} (ha : Has n L a) (hc : evO L c = some (.bool b)) (h : (if b = true then A else B).t C)
  (ht : b = true→A.t C→x.wp P Q a w) (hf : b = false→B.t C→y.wp P Q a w) : (Code.cond c x y).wp P Q a w:=by
 refine wp_cond_split (ha.ev hc) (fun e=>ht e ?_) (fun e=>hf e ?_)
 ·rwa [if_pos e] at h
 ·rwa [if_neg (by simp [e])] at h
theorem seq_joinN {x y : Code} {X : ND ι} {Lf : ι→List (Nat×Value)} {wf : ι→World} {C : ι→Prop} (h : X.t C) (hk : ∀ i,C i→∀ a,Has n (Lf i) a→y.wp P Q a (wf i))
  (hx : X.t C→(∀ i,C i→∀ a,Has n (Lf i) a→Exit.then (y.wp P Q) Q .normal a (wf i))→x.wp P (Exit.then (y.wp P Q) Q) a w) : (Code.seq x y).wp P Q a w :=
 wp_seq (hx h hk)
theorem seq_joinNX {x y : Code} {X : ND (ρ⊕ι)} {Lf : ι→List (Nat×Value)} {wf : ι→World} {C0 : ρ→Prop} {C : ι→Prop} (h : X.t (Sum.elim C0 C)) (hk : ∀ i,C i→∀ a,Has n (Lf i) a→y.wp P Q a (wf i))
  (hx : X.t (Sum.elim C0 C)→(∀ i,C i→∀ a,Has n (Lf i) a→Exit.then (y.wp P Q) Q .normal a (wf i))→x.wp P (Exit.then (y.wp P Q) Q) a w) : (Code.seq x y).wp P Q a w :=
 wp_seq (hx h hk)
theorem reg_joinN {c : Code} {X : ND ι} {Lf : ι→List (Nat×Value)} {wf : ι→World} {C : ι→Prop} (h : X.t C) (hk : ∀ i,C i→∀ a,Has n (Lf i) a→Q .normal a (wf i))
  (hx : X.t C→(∀ i,C i→∀ a,Has n (Lf i) a→Q .normal a (wf i))→c.wp P Q a w) : c.wp P Q a w:=hx h hk
theorem s_loopN {S R : Type} {step : S→ND (S⊕R)} {I : S→Act→World→Prop} {C : R→Prop} {body : Code} {s0 : S}
  (h : (nloop step s0).t C) (hI : I s0 a w)
  (hb : ∀ (X : S→Prop) s a w,I s a w→(step s).t (Sum.elim X C)→body.wp P (Exit.then (fun a w=>∃ s,I s a w∧X s) Q) a w) : (Code.loop body).wp P Q a w:=by
 have key:=h (fun s=>∀ a w,I s a w→∀ (b : Frame) (k : List Item) (cs : List Frame),∃ e a' w',Q e a' w'∧Arrives P (lone (b.at a (.code body :: .inLoop body :: k)) cs w) b k cs e a' w') ?_
 ·intro b k cs
  obtain ⟨e,a',w',hq,harr⟩:=key a w hI b k cs
  exact ⟨e,a',w',hq,.of_steps (.one step_loop) harr⟩
 ·intro s hs a w hIs b k cs
  obtain ⟨e,a₁,w₁,hq,harr⟩:=hb _ s a w hIs hs b (.inLoop body :: k) cs
  cases e with
  | normal =>
   obtain ⟨s',hI',hX⟩:=hq
   obtain ⟨e₂,a₂,w₂,hq₂,harr₂⟩:=hX a₁ w₁ hI' b k cs
   exact ⟨e₂,a₂,w₂,hq₂,.of_steps (Steps.trans harr (.one step_inLoop)) harr₂⟩
  | exit id=>exact ⟨_,a₁,w₁,hq,.pass rfl (fun _ _=>.inl (by simp)) harr⟩
  | goto l=>exact ⟨_,a₁,w₁,hq,.pass rfl (fun _ _=>.inl (by simp)) harr⟩
  | ret=>exact ⟨_,a₁,w₁,hq,.pass rfl (fun _ _=>.inl (by simp)) harr⟩
  | panic ch=>exact ⟨_,a₁,w₁,hq,.pass rfl (fun _ _=>.inl (by simp)) harr⟩
  | outgrown=>exact ⟨_,a₁,w₁,hq,.pass rfl (fun _ _=>.inl (by simp)) harr⟩
theorem s_loopN1 {S R : Type} {step : S→ND (S⊕R)} {I : S→Act→World→Prop} {C : R→Prop} {body : Code} {s0 : S} {e : Exit} {Lr : R→List (Nat×Value)} {wr : R→World}
  (h : (nloop step s0).t C) (hI : I s0 a w) (hk : ∀ i,C i→∀ a,Has n (Lr i) a→Q e a (wr i))
  (hb : (∀ i,C i→∀ a,Has n (Lr i) a→Q e a (wr i))→∀ (X : S→Prop) s a w,I s a w→(step s).t (Sum.elim X C)→body.wp P (Exit.then (fun a w=>∃ s,I s a w∧X s) Q) a w) : (Code.loop body).wp P Q a w:=s_loopN h hI (hb hk)
theorem s_loopN2 {S R1 R2 : Type} {step : S→ND (S⊕(R1⊕R2))} {I : S→Act→World→Prop} {C : R1⊕R2→Prop} {body : Code} {s0 : S} {e1 e2 : Exit} {L1 : R1→List (Nat×Value)} {w1 : R1→World} {L2 : R2→List (Nat×Value)} {w2 : R2→World}
  (h : (nloop step s0).t C) (hI : I s0 a w) (hk1 : ∀ i,C (.inl i)→∀ a,Has n (L1 i) a→Q e1 a (w1 i)) (hk2 : ∀ i,C (.inr i)→∀ a,Has n (L2 i) a→Q e2 a (w2 i))
  (hb : (∀ i,C (.inl i)→∀ a,Has n (L1 i) a→Q e1 a (w1 i))→(∀ i,C (.inr i)→∀ a,Has n (L2 i) a→Q e2 a (w2 i))→∀ (X : S→Prop) s a w,I s a w→(step s).t (Sum.elim X C)→body.wp P (Exit.then (fun a w=>∃ s,I s a w∧X s) Q) a w) : (Code.loop body).wp P Q a w:=s_loopN h hI (hb hk1 hk2)
theorem s_callN {ops : Array Oper} {rest : List Oper} {d ty pos af f} {xs : List Operand} {ts : Array TypeId} {vs : List Value} {pk : ι→Value} {wf : ι→World} {C : ι→Prop} (ha : Has n L a) (hx : evs L xs vs) (hf : ∀ (args : Array Value) (w : World),(callFunc f args).run P w = .ok (.enter f args) w)
  (h : Calls P f vs.toArray w fun e w''=>∃ i,e = .returned (pk i)∧C i∧w'' = wf i) (hr : ∀ i,C i→∀ a',Has n (upd d (pk i) L) a'→wpList P ops Q rest a' (wf i)) (hd : ltb n d = true:=by rfl) :
  wpList P ops Q (⟨d,.call { callee:=.value (.func f),args:=xs.toArray,argTypes:=ts },ty,pos,af,none⟩ :: rest) a w:=by
 unfold wpList
 rw [if_pos (by simp [Region.wanted])]
 left
 unfold Oper.wp
 have hrun : (execOp a.eval ⟨d,.call { callee:=.value (.func f),args:=xs.toArray,argTypes:=ts },ty,pos,af,none⟩).run P w = .ok (.enter f vs.toArray) w:=by
  simp [execOp,resolve,Deferred.ofValue,invoke,Act.eval,hf]
  have:=evs_map ha hx
  exact this
 rw [hrun]
 refine h.mono fun e w' ⟨i,he,hC,hw⟩=>?_
 subst he; subst hw
 exact hr i hC _ (ha.put _ (ltd hd) _)
end
section
variable {α β γ δ ε ζ ρ S R : Type} {Φ : ρ → Prop}
theorem Nd.ret {r : ρ} (h : Φ r) : (nret r).t Φ:=h
theorem Nd.b1 {o : Option α} {a : α} {f : α→ND ρ} (e : o = some a) (h : (f a).t Φ) : (lb1 o f).t Φ:=⟨a,e,h⟩
theorem Nd.s1 {a : α} {f : α→ND ρ} (h : (f a).t Φ) : (lb1 (some a) f).t Φ:=⟨a,rfl,h⟩
theorem Nd.b2 {o : Option (α×β)} {a : α} {b : β} {f : α→β→ND ρ} (e : o = some (a,b)) (h : (f a b).t Φ) : (lb2 o f).t Φ:=⟨a,b,e,h⟩
theorem Nd.b3 {o : Option (α×β×γ)} {a : α} {b : β} {c : γ} {f : α→β→γ→ND ρ} (e : o = some (a,b,c)) (h : (f a b c).t Φ) : (lb3 o f).t Φ:=⟨a,b,c,e,h⟩
theorem Nd.b4 {o : Option (α×β×γ×δ)} {a : α} {b : β} {c : γ} {d : δ} {f : α→β→γ→δ→ND ρ} (e : o = some (a,b,c,d)) (h : (f a b c d).t Φ) : (lb4 o f).t Φ:=⟨a,b,c,d,e,h⟩
theorem Nd.b5 {o : Option (α×β×γ×δ×ε)} {a : α} {b : β} {c : γ} {d : δ} {x : ε} {f : α→β→γ→δ→ε→ND ρ} (e : o = some (a,b,c,d,x)) (h : (f a b c d x).t Φ) : (lb5 o f).t Φ:=⟨a,b,c,d,x,e,h⟩
theorem Nd.ck {p : Prop} {x : ND ρ} (hp : p) (h : x.t Φ) : (nck p x).t Φ:=⟨hp,h⟩
theorem Nd.t {c : Prop} [Decidable c] {A B : ND ρ} (hc : c) (h : A.t Φ) : (if c then A else B).t Φ:=by rw [if_pos hc]; exact h
theorem Nd.f {c : Prop} [Decidable c] {A B : ND ρ} (hc : ¬ c) (h : B.t Φ) : (if c then A else B).t Φ:=by rw [if_neg hc]; exact h
theorem Nd.j1 {x : ND α} {f : α→ND ρ} {Ψ : α→Prop} (h : x.t Ψ) (k : ∀ a,Ψ a→(f a).t Φ) : (cb1 x f).t Φ:=x.m k h
theorem Nd.j2 {x : ND (α×β)} {f : α→β→ND ρ} {Ψ : α×β→Prop} (h : x.t Ψ) (k : ∀ a b,Ψ (a,b)→(f a b).t Φ) : (cb2 x f).t Φ:=x.m (fun i hi=>k _ _ hi) h
theorem Nd.j3 {x : ND (α×β×γ)} {f : α→β→γ→ND ρ} {Ψ : α×β×γ→Prop} (h : x.t Ψ) (k : ∀ a b c,Ψ (a,b,c)→(f a b c).t Φ) : (cb3 x f).t Φ:=x.m (fun i hi=>k _ _ _ hi) h
theorem Nd.j4 {x : ND (α×β×γ×δ)} {f : α→β→γ→δ→ND ρ} {Ψ : α×β×γ×δ→Prop} (h : x.t Ψ) (k : ∀ a b c d,Ψ (a,b,c,d)→(f a b c d).t Φ) : (cb4 x f).t Φ:=x.m (fun i hi=>k _ _ _ _ hi) h
theorem Nd.jX {x : ND (ρ⊕α)} {f : α→ND ρ} {Ψ : α→Prop} (h : x.t (Sum.elim Φ Ψ)) (k : ∀ a,Ψ a→(f a).t Φ) : (cbX x f).t Φ:=x.m (fun i=>by cases i with | inl r=>exact id | inr i=>exact k i) h
theorem Nd.mono {x : ND ρ} {Ψ : ρ→Prop} (h : x.t Ψ) (k : ∀ r,Ψ r→Φ r) : x.t Φ:=x.m k h
theorem Nd.next {step : S→ND (S⊕R)} {s : S} {Φ : R→Prop} (h : (step s).t (Sum.elim (fun s'=>(nloop step s').t Φ) Φ)) : (nloop step s).t Φ:=fun X hX =>
 hX s ((step s).m (fun i=>by cases i with | inl x=>exact fun h=>h X hX | inr r=>exact id) h)
theorem Nd.loop {step : S→ND (S⊕R)} {Φ : R→Prop} (I : Nat→S→Prop) (hs : ∀ m s,I m s→(step s).t (Sum.elim (fun s'=>∃ m',m' < m∧I m' s') Φ)) : ∀ (m : Nat) (s : S),I m s→(nloop step s).t Φ:=by
 intro m
 induction m using Nat.strongRecOn with
 | _ m ih =>
  intro s h
  refine Nd.next ((step s).m (fun i=>?_) (hs m s h))
  cases i with
  | inl x=>exact fun ⟨m',hm,h'⟩=>ih m' hm x h'
  | inr r=>exact id
end
def clOKX (X : List Nat) (ds : List OpD) : Bool:=ds.zipIdx.all fun (d,i)=>d.cl.all fun k=>X.contains k || d.o.after.toList.any fun e=>Region.binds .any e && decide (e.on < i) && (k == e.on || ((ds[e.on]?).any fun d'=>d'.cl.contains k))
def allOKX (X : List Nat) (ds : List OpD) : Bool:=clOKX X ds && dstOK ds && liOK ds && rngOK ds && edgeOK ds
section
variable {P : Program} {n : Nat} {L0 : List (Nat × Value)} {Q : Exit → Act → World → Prop}
theorem region_anyX {ds : List OpD} {W : Nat→World} {X : List Nat} (hok : allOKX X ds = true) (hO : ∀ (i : Nat) (d : OpD),ds[i]? = some d→¬ i∈X→∀ j,d.lo≤j→j≤d.hi→OpOK P n (ds.map (·.o)).toArray d.o d.li d.v (W j) (W (j + if d.e = true then 1 else 0))) (hR : Reads ds L0) (hd : ∀ (i : Nat) (d : OpD) (t : Nat),ds[i]? = some d→d.o.dst = some t→t < n)
  (hQ : ∀ a,Has n (envF ds 0 (fun _=>true) L0) a→Q .normal a (W (cnt ds 0 fun _=>true))) :
  ∀ (fuel : Nat) (listed : Array Bool) (a : Act),listed.size = ds.length→(∀ k∈X,listed.getD k false = true) →
   (∀ (i : Nat) (d : OpD),ds[i]? = some d→listed.getD i false = true→∀ e∈d.o.after.toList,Region.binds .any e = true→listed.getD e.on false = true) →
   Has n (envF ds 0 (fun k=>listed.getD k false) L0) a→fuel = ((List.range ds.length).filter fun i=>!listed.getD i false).length →
   wpAny P .any (ds.map (·.o)).toArray Q fuel listed a (W (cnt ds 0 fun k=>listed.getD k false)):=by
 simp only [allOKX,Bool.and_eq_true] at hok
 obtain ⟨⟨⟨⟨hcl,hds⟩,hli⟩,hrg⟩,hed⟩:=hok
 have zi : ∀ (i : Nat) (d : OpD),ds[i]? = some d→(d,i)∈ds.zipIdx:=fun i d h=>List.mem_zipIdx_iff_getElem?.2 h
 have hed' : ∀ (i : Nat) (d : OpD),ds[i]? = some d→∀ e∈d.o.after.toList,Region.binds .any e = true→e.on < i:=fun i d h e he hb=>by
  have:=List.all_eq_true.1 (List.all_eq_true.1 hed _ (zi i d h)) e he
  simpa [hb] using this
 have hcl' : ∀ (i : Nat) (d : OpD),ds[i]? = some d→∀ k∈d.cl,k∈X∨∃ e∈d.o.after.toList,Region.binds .any e = true∧e.on < i∧(k = e.on∨∃ d',ds[e.on]? = some d'∧k∈d'.cl):=fun i d h k hk=>by
  have:=List.all_eq_true.1 (List.all_eq_true.1 hcl _ (zi i d h)) k hk
  rcases Bool.or_eq_true _ _ ▸ this with this | this
  ·exact .inl (by simpa using this)
  right
  obtain ⟨e,he,hx⟩:=List.any_eq_true.1 this
  simp only [Bool.and_eq_true,decide_eq_true_eq,Bool.or_eq_true,beq_iff_eq,Option.any_eq_true,List.contains_iff_mem] at hx
  exact ⟨e,he,hx.1.1,hx.1.2,hx.2⟩
 have hds' : ∀ (i k : Nat) (d d' : OpD) (t : Nat),ds[i]? = some d→ds[k]? = some d'→i < k→d.o.dst = some t→d'.o.dst = some t→i∈d'.cl:=fun i k d d' t h h' hik ht ht'=>by
  have:=List.all_eq_true.1 hds _ (zi i d h)
  simp only [ht,Option.all_some] at this
  have:=List.all_eq_true.1 this _ (zi k d' h')
  simpa [hik,ht'] using this
 have hli' : ∀ (i k : Nat) (d d' : OpD) (t : Nat) (u : Value),ds[i]? = some d→ds[k]? = some d'→(t,u)∈d.li→d'.o.dst = some t→k = i∨(k < i∧k∈d.cl)∨(i < k∧i∈d'.cl):=fun i k d d' t u h h' ht ht'=>by
  have:=List.all_eq_true.1 (List.all_eq_true.1 (List.all_eq_true.1 hli _ (zi i d h)) _ ht) _ (zi k d' h')
  simp only [ht',bne_self_eq_false,Bool.or_false,Bool.or_eq_true,beq_iff_eq,Bool.and_eq_true,decide_eq_true_eq,List.contains_iff_mem] at this
  rcases this with (h1 | h1) | h1
  ·exact .inl h1
  ·exact .inr (.inl h1)
  ·exact .inr (.inr h1)
 have hrg' : ∀ (i : Nat) (d : OpD),ds[i]? = some d→d.lo≤(cnt ds 0 fun k=>d.cl.contains k)∧(cnt ds 0 fun k=>k != i && !((ds[k]?).any fun d'=>d'.cl.contains i))≤d.hi:=fun i d h=>by
  have:=List.all_eq_true.1 hrg _ (zi i d h)
  simpa using this
 -- what lies ahead of a listed one is listed
 have closed : ∀ (listed : Array Bool),(∀ k∈X,listed.getD k false = true)→(∀ (i : Nat) (d : OpD),ds[i]? = some d→listed.getD i false = true→∀ e∈d.o.after.toList,Region.binds .any e = true→listed.getD e.on false = true) →
   ∀ (i : Nat) (d : OpD),ds[i]? = some d→(∀ e∈d.o.after.toList,Region.binds .any e = true→listed.getD e.on false = true)→∀ k∈d.cl,listed.getD k false = true:=by
  intro listed hX hc i
  induction i using Nat.strongRecOn with
  | _ i ih =>
   intro d hd0 he k hk
   rcases hcl' i d hd0 k hk with hkX | ⟨e,he1,he2,he3,he4⟩
   ·exact hX k hkX
   rcases he4 with rfl | ⟨d',hd',hk'⟩
   ·exact he e he1 he2
   ·exact ih e.on he3 d' hd' (hc e.on d' hd' (he e he1 he2)) k hk'
 have opsAt : ∀ (i : Nat),(ds.map fun d=>d.o).toArray[i]? = (ds[i]?).map (fun d : OpD=>d.o):=fun i=>by simp
 intro fuel
 induction fuel with
 | zero =>
  intro listed a hsz hX hc ha hf
  have hall : ∀ k,k < ds.length→listed.getD k false = true:=fun k hk=>by
   cases h : listed.getD k false with
   | true=>rfl
   | false =>
    have : k∈(List.range ds.length).filter fun i=>!listed.getD i false:=by simp [hk]; simpa using h
    rw [List.eq_nil_of_length_eq_zero hf.symm] at this
    cases this
  have e1 : envF ds 0 (fun k=>listed.getD k false) L0 = envF ds 0 (fun _=>true) L0:=by
   have key : ∀ (l : List OpD) (m : Nat) (L : List (Nat×Value)),m + l.length≤ds.length→envF l m (fun k=>listed.getD k false) L = envF l m (fun _=>true) L:=by
    intro l
    induction l with
    | nil=>intro m L _; rfl
    | cons x xs ih=>intro m L hm; simp only [envF]; simp only [List.length_cons] at hm; rw [if_pos (hall m (by omega)),if_pos trivial]; exact ih _ _ (by omega)
   exact key ds 0 L0 (by omega)
  have e2 : (cnt ds 0 fun k=>listed.getD k false) = cnt ds 0 fun _=>true:=cnt_eq ds 0 fun k hk=>by simpa using hall k hk
  rw [e2]
  refine ⟨?_,hQ a (e1 ▸ ha)⟩
  unfold Region.ready
  rw [List.filter_eq_nil_iff]
  intro i hi
  simp at hi
  have:=hall i hi
  simp only [Array.getD_eq_getD_getElem?] at this ⊢
  have h3 : listed[i]? = some true:=by
   cases h4 : listed[i]? with
   | none=>simp [h4] at this
   | some b=>simpa [h4] using this
  simp [h3]
 | succ fuel ih =>
  intro listed a hsz hX hc ha hf
  have some_ready : Region.ready .any (ds.map (·.o)).toArray listed≠[]:=by
   have hne : ((List.range ds.length).filter fun i=>!listed.getD i false)≠[]:=fun h=>by rw [h] at hf; cases hf
   obtain ⟨x,hx⟩:=List.exists_mem_of_ne_nil _ hne
   have hx' : x < ds.length∧listed.getD x false = false:=by simpa using hx
   have hmin : ∃ m,(m < ds.length∧listed.getD m false = false)∧∀ k,k < m→¬ (k < ds.length∧listed.getD k false = false):=by
    clear hx hf hne
    induction x using Nat.strongRecOn with
    | _ x ihx =>
     by_cases h : ∃ k,k < x∧(k < ds.length∧listed.getD k false = false)
     ·obtain ⟨k,hk,hk'⟩:=h
      exact ihx k hk hk'
     ·exact ⟨x,hx',fun k hk hk'=>h ⟨k,hk,hk'⟩⟩
   obtain ⟨m,⟨hm1,hm2⟩,hm3⟩:=hmin
   intro hr
   have : m∈Region.ready .any (ds.map (·.o)).toArray listed:=by
    unfold Region.ready
    simp only [List.mem_filter,List.mem_range,Bool.and_eq_true,Bool.not_eq_true']
    have hl : listed[m]? = some false:=by
     have h4 : m < listed.size:=by omega
     simp only [Array.getD_eq_getD_getElem?] at hm2
     simpa [h4] using hm2
    refine ⟨by simpa using hm1,by simp [hl],?_⟩
    rw [opsAt]
    obtain ⟨d,hd0⟩ : ∃ d,ds[m]? = some d:=⟨_,List.getElem?_eq_getElem hm1⟩
    rw [hd0]
    simp only [Option.map_some,Option.getD_some]
    rw [← Array.all_toList,List.all_eq_true]
    intro e he
    by_cases hb : Region.binds .any e = true
    ·have h5:=hed' m d hd0 e he hb
     have h6 : listed.getD e.on false = true:=by
      cases h7 : listed.getD e.on false with
      | true=>rfl
      | false=>exact (hm3 e.on h5 ⟨by omega,h7⟩).elim
     simp [h6]
    ·simp at hb; simp [hb]
   rw [hr] at this
   cases this
  refine ⟨fun h=>(some_ready h).elim,fun i hi=>?_⟩
  unfold Region.ready at hi
  simp only [List.mem_filter,List.mem_range,Bool.and_eq_true,Bool.not_eq_true'] at hi
  obtain ⟨hi1,hi2,hi3⟩:=hi
  have hi1' : i < ds.length:=by simpa using hi1
  obtain ⟨d,hd0⟩ : ∃ d,ds[i]? = some d:=⟨_,List.getElem?_eq_getElem hi1'⟩
  have hun : listed.getD i false = false:=by
   have h4 : i < listed.size:=by omega
   simp only [Array.getD_eq_getD_getElem?] at hi2 ⊢
   simpa [h4] using hi2
  rw [opsAt,hd0] at hi3
  simp only [Option.map_some,Option.getD_some] at hi3
  rw [← Array.all_toList,List.all_eq_true] at hi3
  have hed2 : ∀ e∈d.o.after.toList,Region.binds .any e = true→listed.getD e.on false = true:=fun e he hb=>by
   have:=hi3 e he
   simpa [hb] using this
  have hcl2:=closed listed hX hc i d hd0 hed2
  have notl : ∀ k (d' : OpD),ds[k]? = some d'→i∈d'.cl→listed.getD k false = false:=fun k d' hk hik=>by
   cases h : listed.getD k false with
   | false=>rfl
   | true =>
    have:=closed listed hX hc k d' hk (hc k d' hk h) i hik
    rw [hun] at this; cases this
  have hj1 : d.lo≤cnt ds 0 fun k=>listed.getD k false:=Nat.le_trans (hrg' i d hd0).1 (cnt_le ds 0 fun k d' h1 h2 h3=>by
   simp only [Nat.zero_add] at h3 ⊢
   exact hcl2 k (by simpa using h3))
  have hj2 : (cnt ds 0 fun k=>listed.getD k false)≤d.hi:=Nat.le_trans (cnt_le ds 0 fun k d' h1 h2 h3=>by
   simp only [Nat.zero_add] at h3 ⊢
   simp only [Bool.and_eq_true,bne_iff_ne,Bool.not_eq_true',Option.any_eq_false]
   refine ⟨fun e=>?_,fun d'' h4=>?_⟩
   ·subst e; rw [hun] at h3; cases h3
   ·rw [h1] at h4; cases h4
    simp only [List.contains_eq_mem,decide_eq_false_iff_not]
    intro h5
    rw [notl k d' h1 h5] at h3; cases h3) (hrg' i d hd0).2
  have hop:=hO i d hd0 (fun h=>by have:=hX i h; rw [hun] at this; cases this) _ hj1 hj2
  have hLi : Has n d.li a:=by
   have hs:=Reads.get 0 hR hd0
   refine ⟨ha.d,ha.z,fun t v hv=>ha.l t v ?_⟩
   have h1:=hs.look hv
   obtain ⟨u,hu⟩:=lookup_mem hv
   rw [lookup_envF] at h1 ⊢
   rw [← h1]
   congr 1
   refine lastW_same ds 0 fun k d' hk hkd=>?_
   simp only [Nat.zero_add]
   rcases hli' i k d d' t u hd0 hk hu hkd with rfl | ⟨h2,h3⟩ | ⟨h2,h3⟩
   ·rw [hun]; simp
   ·rw [hcl2 k h3]; simp [h2]
   ·rw [notl k d' hk h3]; simp; omega
  have goal:=fun K hk=>hop a hLi K Q hk
  unfold wpOp
  rw [opsAt,hd0]
  simp only [Option.map_some]
  have hK:=goal (wpAny P .any (ds.map (·.o)).toArray Q fuel (listed.setIfInBounds i true)) ?_
  ·split
   ·rename_i hw; rw [if_pos hw] at hK; exact .inl hK
   ·rename_i hw; rw [if_neg hw] at hK; exact hK
  have hset : ∀ k,(listed.setIfInBounds i true).getD k false = addS (fun k=>listed.getD k false) i k:=fun k=>by
   simp only [addS,Array.getD_eq_getD_getElem?]
   by_cases h : k = i
   ·subst h
    have : k < listed.size:=by omega
    simp [this]
   ·rw [Array.getElem?_setIfInBounds_ne (Ne.symm h),if_neg h]
  have hset' : (fun k=>(listed.setIfInBounds i true).getD k false) = addS (fun k=>listed.getD k false) i:=funext hset
  have hcnt:=cnt_add (S:=fun k=>listed.getD k false) (j:=i) ds 0 i d hd0 (by omega) hun
  have hfin:=ih (listed.setIfInBounds i true) (a.put d.o.dst d.v) (by simpa using hsz) ?_ ?_ ?_ ?_
  ·rw [hset',hcnt] at hfin
   exact hfin
  ·intro k hk
   rw [hset]
   simp only [addS]
   split
   ·rfl
   ·exact hX k hk
  ·intro k d' hk hl e he hb
   rw [hset] at hl ⊢
   simp only [addS] at hl ⊢
   split
   ·rfl
   ·split at hl
    ·rename_i h1 h2; subst h2; rw [hd0] at hk; cases hk; exact hed2 e he hb
    ·exact hc k d' hk hl e he hb
  ·have hput:=ha.put d.o.dst (fun t ht=>hd i d t hd0 ht) d.v
   refine ⟨hput.d,hput.z,fun t v hv=>hput.l t v ?_⟩
   rw [hset'] at hv
   rw [lookup_upd]
   rw [lookup_envF] at hv ⊢
   by_cases ht : d.o.dst = some t
   ·rw [if_pos ht]
    rw [lastW_is ds 0 i d hd0 ht (by simp [addS]) (fun k' d' h1 h2 h3=>by
     simp only [Nat.zero_add,addS]
     rw [if_neg (by omega)]
     exact notl k' d' h2 (hds' i k' d d' t hd0 h2 h1 ht h3))] at hv
    simpa using hv
   ·rw [if_neg ht]
    rw [← hv]
    congr 1
    refine lastW_same ds 0 fun k d' hk hkd=>?_
    simp only [Nat.zero_add,addS]
    split
    ·rename_i h1; subst h1; rw [hd0] at hk; cases hk; exact (ht hkd).elim
    ·rfl
  ·have h1 : (List.range ds.length).filter (fun k=>!(listed.setIfInBounds i true).getD k false) = ((List.range ds.length).filter fun k=>!listed.getD k false).filter (fun k=>k != i):=by
    rw [List.filter_filter]
    apply List.filter_congr
    intro k _
    rw [hset]
    simp only [addS]
    by_cases h : k = i <;> simp [h]
   rw [h1]
   have hmem : i∈(List.range ds.length).filter fun k=>!listed.getD k false:=by
    simp only [List.mem_filter,List.mem_range]; exact ⟨hi1',by rw [hun]; rfl⟩
   have hnd : ((List.range ds.length).filter fun k=>!listed.getD k false).Nodup:=List.nodup_range.filter _
   have:=hnd.erase_eq_filter i
   rw [← this,List.length_erase_of_mem hmem,← hf]
   rfl
def depOK (ds : List OpD) (Pv Dp : List Nat) : Bool :=
 (Pv.all fun i=>Dp.contains i && decide (i < ds.length)) &&
 ds.zipIdx.all fun (d,i)=>if Dp.contains i then Pv.contains i || d.o.after.toList.any (fun e=>Region.binds .any e && Dp.contains e.on) else !d.e && d.cl.all fun k=>!Dp.contains k
def agree (ds ds' : List OpD) (Dp : List Nat) : Prop:=∀ (i : Nat) (d d' : OpD),ds[i]? = some d→ds'[i]? = some d'→¬ i∈Dp→d.v = d'.v∧d.cl = d'.cl
theorem getD_set' {listed : Array Bool} {i : Nat} (hi : i < listed.size) (k : Nat) : (listed.setIfInBounds i true).getD k false = addS (fun k=>listed.getD k false) i k:=by
 simp only [addS,Array.getD_eq_getD_getElem?]
 by_cases h : k = i
 ·subst h; simp [hi]
 ·rw [Array.getElem?_setIfInBounds_ne (Ne.symm h),if_neg h]
theorem env_put {ds : List OpD} {listed : Array Bool} {a : Act} {i : Nat} {d : OpD} (hds : dstOK ds = true) (hd0 : ds[i]? = some d) (hi : i < listed.size) (notl : ∀ k (d' : OpD),ds[k]? = some d'→i∈d'.cl→listed.getD k false = false)
  (ha : Has n (envF ds 0 (fun k=>listed.getD k false) L0) a) (hd : ∀ t,d.o.dst = some t→t < n) : Has n (envF ds 0 (fun k=>(listed.setIfInBounds i true).getD k false) L0) (a.put d.o.dst d.v):=by
 have hset' : (fun k=>(listed.setIfInBounds i true).getD k false) = addS (fun k=>listed.getD k false) i:=funext (getD_set' hi)
 have zi : ∀ (i : Nat) (d : OpD),ds[i]? = some d→(d,i)∈ds.zipIdx:=fun i d h=>List.mem_zipIdx_iff_getElem?.2 h
 have hds' : ∀ (i k : Nat) (d d' : OpD) (t : Nat),ds[i]? = some d→ds[k]? = some d'→i < k→d.o.dst = some t→d'.o.dst = some t→i∈d'.cl:=fun i k d d' t h h' hik ht ht'=>by
  have:=List.all_eq_true.1 hds _ (zi i d h)
  simp only [ht,Option.all_some] at this
  have:=List.all_eq_true.1 this _ (zi k d' h')
  simpa [hik,ht'] using this
 have hput:=ha.put d.o.dst hd d.v
 refine ⟨hput.d,hput.z,fun t v hv=>hput.l t v ?_⟩
 rw [hset'] at hv
 rw [lookup_upd]
 rw [lookup_envF] at hv ⊢
 by_cases ht : d.o.dst = some t
 ·rw [if_pos ht]
  rw [lastW_is ds 0 i d hd0 ht (by simp [addS]) (fun k' d' h1 h2 h3=>by
   simp only [Nat.zero_add,addS]
   rw [if_neg (by omega)]
   exact notl k' d' h2 (hds' i k' d d' t hd0 h2 h1 ht h3))] at hv
  simpa using hv
 ·rw [if_neg ht]
  rw [← hv]
  congr 1
  refine lastW_same ds 0 fun k d' hk hkd=>?_
  simp only [Nat.zero_add,addS]
  split
  ·rename_i h1; subst h1; rw [hd0] at hk; cases hk; exact (ht hkd).elim
  ·rfl
theorem fuel_dec {N fuel : Nat} {listed : Array Bool} {i : Nat} (hi : i < listed.size) (hN : i < N) (hun : listed.getD i false = false) (hf : fuel + 1 = ((List.range N).filter fun i=>!listed.getD i false).length) :
  fuel = ((List.range N).filter fun k=>!(listed.setIfInBounds i true).getD k false).length:=by
 have h1 : (List.range N).filter (fun k=>!(listed.setIfInBounds i true).getD k false) = ((List.range N).filter fun k=>!listed.getD k false).filter (fun k=>k != i):=by
  rw [List.filter_filter]
  apply List.filter_congr
  intro k _
  rw [getD_set' hi]
  simp only [addS]
  by_cases h : k = i <;> simp [h]
 rw [h1]
 have hmem : i∈(List.range N).filter fun k=>!listed.getD k false:=by
  simp only [List.mem_filter,List.mem_range]; exact ⟨hN,by rw [hun]; rfl⟩
 have hnd : ((List.range N).filter fun k=>!listed.getD k false).Nodup:=List.nodup_range.filter _
 have:=hnd.erase_eq_filter i
 rw [← this,List.length_erase_of_mem hmem,← hf]
 rfl
theorem ready_ne {ops : List Oper} {fuel : Nat} {listed : Array Bool} (hsz : listed.size = ops.length) (hed : ∀ (i : Nat) (o : Oper),ops[i]? = some o→∀ e∈o.after.toList,Region.binds .any e = true→e.on < i)
  (hf : fuel + 1 = ((List.range ops.length).filter fun i=>!listed.getD i false).length) : Region.ready .any ops.toArray listed≠[]:=by
 have hne : ((List.range ops.length).filter fun i=>!listed.getD i false)≠[]:=fun h=>by rw [h] at hf; cases hf
 obtain ⟨x,hx⟩:=List.exists_mem_of_ne_nil _ hne
 have hx' : x < ops.length∧listed.getD x false = false:=by simpa using hx
 have hmin : ∃ m,(m < ops.length∧listed.getD m false = false)∧∀ k,k < m→¬ (k < ops.length∧listed.getD k false = false):=by
  clear hx hf hne
  induction x using Nat.strongRecOn with
  | _ x ihx =>
   by_cases h : ∃ k,k < x∧(k < ops.length∧listed.getD k false = false)
   ·obtain ⟨k,hk,hk'⟩:=h
    exact ihx k hk hk'
   ·exact ⟨x,hx',fun k hk hk'=>h ⟨k,hk,hk'⟩⟩
 obtain ⟨m,⟨hm1,hm2⟩,hm3⟩:=hmin
 intro hr
 have : m∈Region.ready .any ops.toArray listed:=by
  unfold Region.ready
  simp only [List.mem_filter,List.mem_range,Bool.and_eq_true,Bool.not_eq_true']
  have hl : listed[m]? = some false:=by
   have h4 : m < listed.size:=by omega
   simp only [Array.getD_eq_getD_getElem?] at hm2
   simpa [h4] using hm2
  refine ⟨by simpa using hm1,by simp [hl],?_⟩
  rw [List.getElem?_toArray,List.getElem?_eq_getElem hm1]
  simp only [Option.map_some,Option.getD_some]
  rw [← Array.all_toList,List.all_eq_true]
  intro e he
  by_cases hb : Region.binds .any e = true
  ·have h5:=hed m ops[m] (List.getElem?_eq_getElem hm1) e he hb
   have h6 : listed.getD e.on false = true:=by
    cases h7 : listed.getD e.on false with
    | true=>rfl
    | false=>exact (hm3 e.on h5 ⟨by omega,h7⟩).elim
   simp [h6]
  ·simp at hb; simp [hb]
 rw [hr] at this
 cases this
theorem region_split {σ : Type} {C : σ→Prop} {piv : σ→Nat} {ds0 : List OpD} {D : σ→List OpD} {W : σ→Nat→World} {m : σ→Nat} {X : Nat→List Nat} {Pv Dp : List Nat} {w0 : World} {ops : List Oper}
  (hok0 : (clOK ds0 && dstOK ds0 && liOK ds0 && edgeOK ds0) = true) (hdp : depOK ds0 Pv Dp = true) (hne : Pv≠[]) (ho0 : ds0.map (·.o) = ops) (hR0 : Reads ds0 L0) (hd : ∀ (i : Nat) (d : OpD) (t : Nat),ds0[i]? = some d→d.o.dst = some t→t < n)
  (hO0 : ∀ (i : Nat) (d : OpD),ds0[i]? = some d→¬ i∈Dp→OpOK P n ops.toArray d.o d.li d.v w0 w0)
  (hP : ∀ i∈Pv,∀ (d : OpD),ds0[i]? = some d→∀ a,Has n d.li a→∀ (K : Act→World→Prop),(∀ s,C s→piv s = i→∀ v,((D s)[i]?).map (·.v) = some v→K (a.put d.o.dst v) (W s 1))→wpOp P ops.toArray Q i K a w0)
  (hXp : ∀ i,i∈X i) (hX : ∀ s,C s→∀ k∈X (piv s),k = piv s∨∃ d,ds0[piv s]? = some d∧k∈d.cl)
  (hS : ∀ s,C s→(D s).map (·.o) = ops∧allOKX (X (piv s)) (D s) = true∧agree ds0 (D s) Dp∧Reads (D s) L0∧((D s)[piv s]?).map (·.e) = some true∧(∀ (i : Nat) (d : OpD),(D s)[i]? = some d→i≠piv s→∀ j,d.lo≤j→j≤d.hi→OpOK P n ops.toArray d.o d.li d.v (W s j) (W s (j + if d.e = true then 1 else 0)))∧(∀ (i : Nat) (d : OpD),(D s)[i]? = some d→¬ i∈Dp→d.e = false) ∧
   ∀ a,Has n (envF (D s) 0 (fun _=>true) L0) a→Q .normal a (W s (cnt (D s) 0 fun _=>true))) :
  ∀ (fuel : Nat) (listed : Array Bool) (a : Act),listed.size = ds0.length→(∀ k∈Dp,listed.getD k false = false) →
   (∀ (i : Nat) (d : OpD),ds0[i]? = some d→listed.getD i false = true→∀ e∈d.o.after.toList,Region.binds .any e = true→listed.getD e.on false = true) →
   Has n (envF ds0 0 (fun k=>listed.getD k false) L0) a→fuel = ((List.range ds0.length).filter fun i=>!listed.getD i false).length →
   wpAny P .any ops.toArray Q fuel listed a w0:=by
 simp only [Bool.and_eq_true] at hok0
 obtain ⟨⟨⟨hcl,hds⟩,hli⟩,hed⟩:=hok0
 unfold depOK at hdp
 simp only [Bool.and_eq_true] at hdp
 obtain ⟨hdp1,hdp2⟩:=hdp
 have zi : ∀ (i : Nat) (d : OpD),ds0[i]? = some d→(d,i)∈ds0.zipIdx:=fun i d h=>List.mem_zipIdx_iff_getElem?.2 h
 have hpv : ∀ i∈Pv,i∈Dp∧i < ds0.length:=fun i hi=>by
  have:=List.all_eq_true.1 hdp1 i hi
  simpa using this
 have hdep : ∀ (i : Nat) (d : OpD),ds0[i]? = some d→i∈Dp→i∈Pv∨∃ e∈d.o.after.toList,Region.binds .any e = true∧e.on∈Dp:=fun i d h hi=>by
  have:=List.all_eq_true.1 hdp2 _ (zi i d h)
  simp only [List.contains_iff_mem,hi,if_true,Bool.or_eq_true,List.any_eq_true,Bool.and_eq_true] at this
  rcases this with h1 | ⟨e,h1,h2⟩
  ·exact .inl (by simpa using h1)
  ·exact .inr ⟨e,h1,h2.1,by simpa using h2.2⟩
 have hind : ∀ (i : Nat) (d : OpD),ds0[i]? = some d→¬ i∈Dp→d.e = false∧∀ k∈d.cl,¬ k∈Dp:=fun i d h hi=>by
  have:=List.all_eq_true.1 hdp2 _ (zi i d h)
  simp only [List.contains_iff_mem,hi,if_false,Bool.and_eq_true,Bool.not_eq_true',List.all_eq_true,decide_eq_true_eq,Bool.not_eq_eq_eq_not,Bool.not_true] at this
  exact ⟨this.1,fun k hk=>by simpa using this.2 k hk⟩
 have hed' : ∀ (i : Nat) (d : OpD),ds0[i]? = some d→∀ e∈d.o.after.toList,Region.binds .any e = true→e.on < i:=fun i d h e he hb=>by
  have:=List.all_eq_true.1 (List.all_eq_true.1 hed _ (zi i d h)) e he
  simpa [hb] using this
 have hcl' : ∀ (i : Nat) (d : OpD),ds0[i]? = some d→∀ k∈d.cl,∃ e∈d.o.after.toList,Region.binds .any e = true∧e.on < i∧(k = e.on∨∃ d',ds0[e.on]? = some d'∧k∈d'.cl):=fun i d h k hk=>by
  have:=List.all_eq_true.1 (List.all_eq_true.1 hcl _ (zi i d h)) k hk
  obtain ⟨e,he,hx⟩:=List.any_eq_true.1 this
  simp only [Bool.and_eq_true,decide_eq_true_eq,Bool.or_eq_true,beq_iff_eq,Option.any_eq_true,List.contains_iff_mem] at hx
  exact ⟨e,he,hx.1.1,hx.1.2,hx.2⟩
 have hli' : ∀ (i k : Nat) (d d' : OpD) (t : Nat) (u : Value),ds0[i]? = some d→ds0[k]? = some d'→(t,u)∈d.li→d'.o.dst = some t→k = i∨(k < i∧k∈d.cl)∨(i < k∧i∈d'.cl):=fun i k d d' t u h h' ht ht'=>by
  have:=List.all_eq_true.1 (List.all_eq_true.1 (List.all_eq_true.1 hli _ (zi i d h)) _ ht) _ (zi k d' h')
  simp only [ht',bne_self_eq_false,Bool.or_false,Bool.or_eq_true,beq_iff_eq,Bool.and_eq_true,decide_eq_true_eq,List.contains_iff_mem] at this
  rcases this with (h1 | h1) | h1
  ·exact .inl h1
  ·exact .inr (.inl h1)
  ·exact .inr (.inr h1)
 have closed : ∀ (listed : Array Bool),(∀ (i : Nat) (d : OpD),ds0[i]? = some d→listed.getD i false = true→∀ e∈d.o.after.toList,Region.binds .any e = true→listed.getD e.on false = true) →
   ∀ (i : Nat) (d : OpD),ds0[i]? = some d→(∀ e∈d.o.after.toList,Region.binds .any e = true→listed.getD e.on false = true)→∀ k∈d.cl,listed.getD k false = true:=by
  intro listed hc i
  induction i using Nat.strongRecOn with
  | _ i ih =>
   intro d hd0 he k hk
   obtain ⟨e,he1,he2,he3,he4⟩:=hcl' i d hd0 k hk
   rcases he4 with rfl | ⟨d',hd',hk'⟩
   ·exact he e he1 he2
   ·exact ih e.on he3 d' hd' (hc e.on d' hd' (he e he1 he2)) k hk'
 have hol : ops.length = ds0.length:=by rw [← ho0]; simp
 have opsAt : ∀ (i : Nat),ops.toArray[i]? = (ds0[i]?).map (fun d : OpD=>d.o):=fun i=>by rw [← ho0]; simp
 intro fuel
 induction fuel with
 | zero =>
  intro listed a hsz hdl hc ha hf
  obtain ⟨i,hi⟩:=List.exists_mem_of_ne_nil _ hne
  obtain ⟨h1,h2⟩:=hpv i hi
  have : i∈(List.range ds0.length).filter fun i=>!listed.getD i false:=by
   simp only [List.mem_filter,List.mem_range]; exact ⟨h2,by rw [hdl i h1]; rfl⟩
  rw [List.eq_nil_of_length_eq_zero hf.symm] at this
  cases this
 | succ fuel ih =>
  intro listed a hsz hdl hc ha hf
  refine ⟨fun h=>((ready_ne (ops:=ops) (fuel:=fuel) (by omega) (fun i o h=>?_) (by rw [hol]; exact hf)) h).elim,fun i hi=>?_⟩
  ·have h1:=opsAt i
   rw [List.getElem?_toArray,h] at h1
   obtain ⟨d,hd0,rfl⟩:=Option.map_eq_some_iff.1 h1.symm
   exact hed' i d hd0
  unfold Region.ready at hi
  simp only [List.mem_filter,List.mem_range,Bool.and_eq_true,Bool.not_eq_true'] at hi
  obtain ⟨hi1,hi2,hi3⟩:=hi
  have hi1' : i < ds0.length:=by simpa [hol] using hi1
  have hils : i < listed.size:=by omega
  obtain ⟨d,hd0⟩ : ∃ d,ds0[i]? = some d:=⟨_,List.getElem?_eq_getElem hi1'⟩
  have hun : listed.getD i false = false:=by
   simp only [Array.getD_eq_getD_getElem?] at hi2 ⊢
   simpa [hils] using hi2
  rw [opsAt,hd0] at hi3
  simp only [Option.map_some,Option.getD_some] at hi3
  rw [← Array.all_toList,List.all_eq_true] at hi3
  have hed2 : ∀ e∈d.o.after.toList,Region.binds .any e = true→listed.getD e.on false = true:=fun e he hb=>by
   have:=hi3 e he
   simpa [hb] using this
  have hcl2:=closed listed hc i d hd0 hed2
  have hLi : Has n d.li a:=by
   have hs:=Reads.get 0 hR0 hd0
   refine ⟨ha.d,ha.z,fun t v hv=>ha.l t v ?_⟩
   have h1:=hs.look hv
   obtain ⟨u,hu⟩:=lookup_mem hv
   rw [lookup_envF] at h1 ⊢
   rw [← h1]
   congr 1
   refine lastW_same ds0 0 fun k d' hk hkd=>?_
   simp only [Nat.zero_add]
   rcases hli' i k d d' t u hd0 hk hu hkd with rfl | ⟨h2,h3⟩ | ⟨h2,h3⟩
   ·rw [hun]; simp
   ·rw [hcl2 k h3]; simp [h2]
   ·have : listed.getD k false = false:=by
     cases h : listed.getD k false with
     | false=>rfl
     | true =>
      have:=closed listed hc k d' hk (hc k d' hk h) i h3
      rw [hun] at this; cases this
    rw [this]; simp; omega
  have hcset : ∀ (k : Nat) (d' : OpD),ds0[k]? = some d'→(listed.setIfInBounds i true).getD k false = true→∀ e∈d'.o.after.toList,Region.binds .any e = true→(listed.setIfInBounds i true).getD e.on false = true:=by
   intro k d' hk hl e he hb
   rw [getD_set' hils] at hl ⊢
   simp only [addS] at hl ⊢
   split
   ·rfl
   ·split at hl
    ·rename_i h1 h2; subst h2; rw [hd0] at hk; cases hk; exact hed2 e he hb
    ·exact hc k d' hk hl e he hb
  by_cases hiD : i∈Dp
  ·-- the first act
   have hiP : i∈Pv:=by
    rcases hdep i d hd0 hiD with h | ⟨e,h1,h2,h3⟩
    ·exact h
    ·have:=hed2 e h1 h2; rw [hdl _ h3] at this; cases this
   refine hP i hiP d hd0 a hLi _ fun s hs hps v hv=>?_
   obtain ⟨s1,s2,s3,s4,s5,s6,s7,s8⟩:=hS s hs
   subst hps
   have hlen : (D s).length = ds0.length:=by rw [← hol,← s1]; simp
   obtain ⟨ds',hds'⟩ : ∃ d',(D s)[piv s]? = some d':=⟨_,List.getElem?_eq_getElem (by omega)⟩
   have same : ∀ (k : Nat) (d' : OpD),(D s)[k]? = some d'→∃ d1,ds0[k]? = some d1∧d1.o = d'.o:=fun k d' hk=>by
    have h1:=congrArg (fun l : List Oper=>l[k]?) (s1.trans ho0.symm)
    simp only [List.getElem?_map,hk,Option.map_some] at h1
    obtain ⟨d1,h2,h3⟩:=Option.map_eq_some_iff.1 h1.symm
    exact ⟨d1,h2,h3⟩
   have hdo : d.o = ds'.o:=by obtain ⟨d1,h1,h2⟩:=same _ _ hds'; rw [hd0] at h1; cases h1; exact h2
   have hvs : ds'.v = v:=by rw [hds'] at hv; simpa using hv
   have hes : ds'.e = true:=by rw [hds'] at s5; simpa using s5
   have notD : ∀ k,listed.getD k false = true→¬ k∈Dp:=fun k hk hkD=>by rw [hdl k hkD] at hk; cases hk
   have henv : envF (D s) 0 (fun k=>listed.getD k false) L0 = envF ds0 0 (fun k=>listed.getD k false) L0:=by
    have key : ∀ (l l' : List OpD) (b : Nat) (L : List (Nat×Value)),(∀ j,l[j]? = (D s)[b + j]?)→(∀ j,l'[j]? = ds0[b + j]?)→envF l b (fun k=>listed.getD k false) L = envF l' b (fun k=>listed.getD k false) L:=by
     intro l
     induction l with
     | nil =>
      intro l' b L h1 h2
      cases l' with
      | nil=>rfl
      | cons x xs =>
       have e1:=h1 0; have e2:=h2 0
       simp only [Nat.add_zero,List.getElem?_nil,List.getElem?_cons_zero] at e1 e2
       have:=List.getElem?_eq_none_iff.1 e1.symm
       have:=(List.getElem?_eq_some_iff.1 e2.symm).1
       omega
     | cons x xs ihx =>
      intro l' b L h1 h2
      cases l' with
      | nil =>
       have e1:=h1 0; have e2:=h2 0
       simp only [Nat.add_zero,List.getElem?_nil,List.getElem?_cons_zero] at e1 e2
       have:=List.getElem?_eq_none_iff.1 e2.symm
       have:=(List.getElem?_eq_some_iff.1 e1.symm).1
       omega
      | cons y ys =>
       have e1:=h1 0; have e2:=h2 0
       simp only [Nat.add_zero,List.getElem?_cons_zero] at e1 e2
       have hrec : ∀ L,envF xs (b + 1) (fun k=>listed.getD k false) L = envF ys (b + 1) (fun k=>listed.getD k false) L:=fun L =>
        ihx ys (b + 1) L (fun j=>by have:=h1 (j + 1); simp only [List.getElem?_cons_succ] at this; rw [this]; congr 1; omega) (fun j=>by have:=h2 (j + 1); simp only [List.getElem?_cons_succ] at this; rw [this]; congr 1; omega)
       simp only [envF]
       by_cases hb : listed.getD b false = true
       ·have hag:=(s3 b y x e2.symm e1.symm (notD b hb)).1
        obtain ⟨d1,k1,k2⟩:=same b x e1.symm
        rw [← e2] at k1; cases k1
        rw [if_pos hb,if_pos hb,hrec,k2,hag]
       ·rw [if_neg hb,if_neg hb,hrec]
    exact key (D s) ds0 0 L0 (fun j=>by rw [Nat.zero_add]) (fun j=>by rw [Nat.zero_add])
   have hallX:=s2
   simp only [allOKX,Bool.and_eq_true] at hallX
   have hput:=env_put (n:=n) (L0:=L0) (ds:=D s) (listed:=listed) (a:=a) (i:=piv s) (d:=ds') hallX.1.1.1.2 hds' hils (fun k d' hk hik=>by
    cases h : listed.getD k false with
    | false=>rfl
    | true =>
     obtain ⟨d1,k1,k2⟩:=same k d' hk
     have hcl3:=(s3 k d1 d' k1 hk (notD k h)).2
     rw [← hcl3] at hik
     exact ((hind k d1 k1 (notD k h)).2 _ hik hiD).elim) (by rw [henv]; exact ha) (fun t ht=>hd _ d t hd0 (by rw [hdo]; exact ht))
   have hcnt : cnt (D s) 0 (fun k=>(listed.setIfInBounds (piv s) true).getD k false) = 1:=by
    have h0 : cnt (D s) 0 (fun k=>listed.getD k false) = 0:=by
     have key : ∀ (l : List OpD) (b : Nat),(∀ j,l[j]? = (D s)[b + j]?)→cnt l b (fun k=>listed.getD k false) = 0:=by
      intro l
      induction l with
      | nil=>intro b _; rfl
      | cons x xs ihx =>
       intro b h1
       have e1:=h1 0
       simp only [Nat.add_zero,List.getElem?_cons_zero] at e1
       simp only [cnt]
       rw [ihx (b + 1) (fun j=>by have:=h1 (j + 1); simp only [List.getElem?_cons_succ] at this; rw [this]; congr 1; omega),if_neg]
       rintro ⟨h2,h3⟩
       rw [s7 b x e1.symm (notD b h2)] at h3; cases h3
     exact key (D s) 0 (fun j=>by rw [Nat.zero_add])
    have hset' : (fun k=>(listed.setIfInBounds (piv s) true).getD k false) = addS (fun k=>listed.getD k false) (piv s):=funext (getD_set' hils)
    rw [hset',cnt_add (D s) 0 (piv s) ds' hds' (by omega) hun,h0,hes]; rfl
   have hfin:=region_anyX (P:=P) (n:=n) (L0:=L0) (Q:=Q) (ds:=D s) (W:=W s) s2 (by rw [s1]; exact fun i d h hi=>s6 i d h (fun e=>hi (by rw [e]; exact hXp _))) s4 (fun i d' t h1 h2=>by
    obtain ⟨d1,k1,k2⟩:=same i d' h1; exact hd i d1 t k1 (by rw [k2]; exact h2)) s8 fuel (listed.setIfInBounds (piv s) true) (a.put ds'.o.dst ds'.v) (by simp [hsz,hlen]) (fun k hk=>by
     rw [getD_set' hils]; simp only [addS]
     rcases hX s hs k hk with rfl | ⟨d1,k1,k2⟩
     ·simp
     ·rw [hd0] at k1; cases k1
      rw [hcl2 k k2]; simp) (fun k d' hk hl e he hb=>by
     obtain ⟨d1,k1,k2⟩:=same k d' hk
     exact hcset k d1 k1 hl e (by rw [k2]; exact he) hb) hput (by rw [hlen]; exact fuel_dec hils hi1' hun hf)
   rw [hcnt,s1] at hfin
   rw [hdo,← hvs]
   exact hfin
  ·have hop:=hO0 i d hd0 hiD
   unfold wpOp
   rw [opsAt,hd0]
   simp only [Option.map_some]
   have hK:=hop a hLi (wpAny P .any ops.toArray Q fuel (listed.setIfInBounds i true)) Q (ih (listed.setIfInBounds i true) (a.put d.o.dst d.v) (by simpa using hsz) (fun k hk=>by
     rw [getD_set' hils]; simp only [addS]; rw [if_neg (fun e : k = i=>hiD (e ▸ hk))]; exact hdl k hk) hcset
    (env_put hds hd0 hils (fun k d' hk hik=>by
     cases h : listed.getD k false with
     | false=>rfl
     | true =>
      have:=closed listed hc k d' hk (hc k d' hk h) i hik
      rw [hun] at this; cases this) ha (fun t ht=>hd i d t hd0 ht)) (fuel_dec hils hi1' hun hf))
   split
   ·rename_i hw; rw [if_pos hw] at hK; exact .inl hK
   ·rename_i hw; rw [if_neg hw] at hK; exact hK
end
def nand {α : Type} (x y : ND α) : ND α:=⟨fun Q=>x.t Q∧y.t Q,fun h k=>⟨x.m h k.1,y.m h k.2⟩⟩
theorem Nd.both {α : Type} {x y : ND α} {Φ : α→Prop} (h : x.t Φ) (k : y.t Φ) : (nand x y).t Φ:=⟨h,k⟩
def clsOf : List Oper→List (List Nat)→List (List Nat)
 | [],acc=>acc
 | o :: os,acc=>clsOf os (acc ++ [(o.after.toList.filter fun e=>Region.binds .any e).flatMap fun e=>e.on :: acc.getD e.on []])
def withCl (ds : List OpD) (cls : List (List Nat)) : List OpD:=List.zipWith (fun d c=>{ d with cl:=c }) ds cls
def plainOf (ds : List OpD) : List OpD:=withCl ds (clsOf (ds.map (·.o)) [])
def vsOf (ds : List OpD) (Dp : List Nat) : List (Value×List Nat):=(ds.zipIdx.filter fun x=>!Dp.contains x.2).map fun x=>(x.1.v,x.1.cl)
def okOne (n : Nat) (ds : List OpD) (i : Nat) (Pv Dp : List Nat) : Bool :=
 let b:=plainOf ds
 clOK b && dstOK b && liOK b && edgeOK b && depOK b Pv Dp && (ds.all fun d=>d.o.dst.all fun t=>decide (t < n)) && decide (b.length = ds.length) &&
 allOKX (i :: ((b[i]?).map (·.cl)).getD []) ds && ((ds[i]?).any fun d=>d.e && d.lo == 0) && ds.zipIdx.all fun (d,k)=>Dp.contains k || (!d.e && d.lo == 0 && d.cl == ((b[k]?).map (·.cl)).getD [])
section
variable {P : Program} {n : Nat} {L0 : List (Nat × Value)} {Q : Exit → Act → World → Prop} {a : Act} {w : World}
theorem withCl_get {ds : List OpD} {cls : List (List Nat)} {k : Nat} {d : OpD} (h : (withCl ds cls)[k]? = some d) : ∃ d',ds[k]? = some d'∧d'.o = d.o∧d'.v = d.v∧d'.e = d.e∧d'.lo = d.lo∧d'.li = d.li∧cls[k]? = some d.cl:=by
 unfold withCl at h
 rw [List.getElem?_zipWith] at h
 cases h1 : ds[k]? with
 | none=>rw [h1] at h; simp at h
 | some d' =>
  cases h2 : cls[k]? with
  | none=>rw [h1,h2] at h; simp at h
  | some c=>rw [h1,h2] at h; simp at h; subst h; exact ⟨d',rfl,rfl,rfl,rfl,rfl,rfl,rfl⟩
theorem withCl_reads : ∀ {ds : List OpD} {cls : List (List Nat)} {L : List (Nat×Value)},Reads ds L→Reads (withCl ds cls) L
 | [],_,_,_=>by simp [withCl,Reads]
 | _ :: _,[],_,_=>by simp [withCl,Reads]
 | d :: ds,c :: cls,L,h=>⟨h.1,withCl_reads h.2⟩
theorem withCl_o : ∀ {ds : List OpD} {cls : List (List Nat)},(withCl ds cls).length = ds.length→(withCl ds cls).map (·.o) = ds.map (·.o)
 | [],_,_=>by simp [withCl]
 | _ :: _,[],h=>by simp [withCl] at h
 | d :: ds,c :: cls,h=>by
  have:=withCl_o (ds:=ds) (cls:=cls) (by simpa [withCl] using h)
  simp only [withCl,List.zipWith_cons_cons,List.map_cons] at this ⊢
  rw [this]
theorem vsOf_agree {ds ds' : List OpD} {Dp : List Nat} (hl : ds.length = ds'.length) (h : vsOf ds Dp = vsOf ds' Dp) {k : Nat} {d d' : OpD} (h1 : ds[k]? = some d) (h2 : ds'[k]? = some d') (hk : ¬ k∈Dp) : d.v = d'.v∧d.cl = d'.cl:=by
 have key : ∀ (l l' : List OpD) (b : Nat),l.length = l'.length→((l.zipIdx b).filter fun x=>!Dp.contains x.2).map (fun x=>(x.1.v,x.1.cl)) = ((l'.zipIdx b).filter fun x=>!Dp.contains x.2).map (fun x=>(x.1.v,x.1.cl))→∀ j x y,l[j]? = some x→l'[j]? = some y→¬ (b + j)∈Dp→x.v = y.v∧x.cl = y.cl:=by
  intro l
  induction l with
  | nil=>intro l' b _ _ j x y hx; simp at hx
  | cons u us ih =>
   intro l' b hl' he j x y hx hy hj
   cases l' with
   | nil=>simp at hl'
   | cons u' us' =>
    simp only [List.zipIdx_cons,List.filter_cons] at he
    by_cases hb : b∈Dp
    ·have : (!Dp.contains b) = false:=by simp [hb]
     simp only [this,Bool.false_eq_true,if_false] at he
     cases j with
     | zero=>exact (hj (by simpa using hb)).elim
     | succ j=>exact ih us' (b + 1) (by simpa using hl') he j x y (by simpa using hx) (by simpa using hy) (by rwa [show b + 1 + j = b + (j + 1) by omega])
    ·have : (!Dp.contains b) = true:=by simp [hb]
     simp only [this,if_true,List.map_cons,List.cons.injEq,Prod.mk.injEq] at he
     cases j with
     | zero=>simp at hx hy; subst hx; subst hy; exact he.1
     | succ j=>exact ih us' (b + 1) (by simpa using hl') he.2 j x y (by simpa using hx) (by simpa using hy) (by rwa [show b + 1 + j = b + (j + 1) by omega])
 exact key ds ds' 0 hl h k d d' h1 h2 (by simpa using hk)
theorem region_start {ops : List Oper} {id : Nat} (hm : P.follows .mixedOrders = true) (h : wpAny P .any ops.toArray Q ops.length (Array.replicate ops.length false) a w.drew) : (Code.region id ops.toArray true).wp P Q a w:=by
 refine wp_region_any hm ?_
 have : ops.toArray.size = ops.length:=by simp
 rw [this]; exact h
theorem rep_false (N k : Nat) : (Array.replicate N false).getD k false = false:=by
 simp only [Array.getD_eq_getD_getElem?,Array.getElem?_replicate]; split <;> rfl
theorem env_none (l : List OpD) : ∀ (i : Nat) (L : List (Nat×Value)),envF l i (fun _=>false) L = L:=by
 induction l with
 | nil=>intro i L; rfl
 | cons x xs ih=>intro i L; simp only [envF]; rw [if_neg (by simp)]; exact ih _ _
theorem wpOp_of {ops : Array Oper} {i : Nat} {o : Oper} {li : List (Nat×Value)} {v : Value} {w w' : World} (hi : ops[i]? = some o) (h : OpOK P n ops o li v w w') (ha : Has n li a) {K : Act→World→Prop} (hk : K (a.put o.dst v) w') : wpOp P ops Q i K a w:=by
 unfold wpOp
 rw [hi]
 simp only
 have:=h a ha K Q hk
 split
 ·rename_i hw; rw [if_pos hw] at this; exact .inl this
 ·rename_i hw; rw [if_neg hw] at this; exact this
theorem region_gen {σ : Type} {C : σ → Prop} {piv : σ → Nat} {Pv Dp : List Nat} {D : σ → List OpD} {W : σ → Nat → World} {m : σ → Nat} {ops : List Oper} {id : Nat} (s0 : σ) (hm : P.follows .mixedOrders = true) (ha : Has n L0 a) (hne : Pv ≠ [])
    (hs0 : (D s0).map (·.o) = ops) (hok : ∀ s, okOne n (D s) (piv s) Pv Dp = true) (ho : ∀ s, (D s).map (·.o) = ops) (hv : ∀ s, vsOf (D s) Dp = vsOf (D s0) Dp) (hR : ∀ s, Reads (D s) L0) (hO0 : ∀ (i : Nat) (d : OpD), (D s0)[i]? = some d → ¬ i ∈ Dp → OpOK P n ops.toArray d.o d.li d.v w.drew w.drew)
    (hP : ∀ i ∈ Pv, ∀ (d : OpD), (D s0)[i]? = some d → ∀ a, Has n d.li a → ∀ (K : Act → World → Prop), (∀ s, C s → piv s = i → ∀ v, ((D s)[i]?).map (·.v) = some v → K (a.put d.o.dst v) (W s 1)) → wpOp P ops.toArray Q i K a w.drew)
    (hO : ∀ s, C s → ∀ (i : Nat) (d : OpD), (D s)[i]? = some d → i ≠ piv s → ∀ j, d.lo ≤ j → j ≤ d.hi → OpOK P n ops.toArray d.o d.li d.v (W s j) (W s (j + if d.e = true then 1 else 0))) (hcm : ∀ s, cnt (D s) 0 (fun _ => true) = m s) (hQ : ∀ s, C s → ∀ a, Has n (envF (D s) 0 (fun _ => true) L0) a → Q .normal a (W s (m s))) : (Code.region id ops.toArray true).wp P Q a w := by
  have b0 := hok s0
  simp only [okOne, Bool.and_eq_true] at b0
  obtain ⟨⟨⟨⟨⟨⟨⟨⟨⟨c1, c2⟩, c3⟩, c4⟩, c5⟩, c6⟩, c7⟩, c8⟩, c9⟩, c10⟩ := b0
  have hl0 : (plainOf (D s0)).length = (D s0).length := by simpa using c7
  have hlo : ops.length = (D s0).length := by rw [← hs0]; simp
  have hall : ∀ s, (D s).length = (D s0).length := fun s => by rw [← hlo, ← ho s]; simp
  have zi : ∀ s (i : Nat) (d : OpD), (D s)[i]? = some d → (d, i) ∈ (D s).zipIdx := fun s i d h => List.mem_zipIdx_iff_getElem?.2 h
  have nd : ∀ s (k : Nat) (d : OpD), (D s)[k]? = some d → ¬ k ∈ Dp → d.e = false ∧ d.cl = (((plainOf (D s))[k]?).map (·.cl)).getD [] := fun s k d h hk => by
    have b := hok s
    simp only [okOne, Bool.and_eq_true] at b
    have := List.all_eq_true.1 b.2 _ (zi s k d h)
    simp only [Bool.or_eq_true, Bool.and_eq_true, Bool.not_eq_true', beq_iff_eq] at this
    rcases this with h | h
    · exact (hk (by simpa using h)).elim
    · exact ⟨h.1.1, h.2⟩
  refine region_start hm ?_
  have hmain := region_split (P := P) (n := n) (L0 := L0) (Q := Q) (C := C) (piv := piv) (ds0 := plainOf (D s0)) (D := D) (W := W) (m := m) (X := fun i => i :: (((plainOf (D s0))[i]?).map (·.cl)).getD []) (Pv := Pv) (Dp := Dp) (w0 := w.drew) (ops := ops)
    (by simp only [Bool.and_eq_true]; exact ⟨⟨⟨c1, c2⟩, c3⟩, c4⟩) c5 hne (by rw [← hs0]; exact withCl_o hl0) (withCl_reads (hR s0)) (fun i d t h ht => by
      obtain ⟨d', h1, h2, _⟩ := withCl_get h
      have := List.all_eq_true.1 c6 d' (List.mem_of_getElem? h1)
      rw [h2, ht] at this
      simpa using this) (fun i d h hi => by
      obtain ⟨d', h1, h2, h3, _, _, h6, _⟩ := withCl_get h
      have := hO0 i d' h1 hi
      rwa [h2, h6, h3] at this) (fun i hi d h a ha K hK => by
      obtain ⟨d', h1, h2, h3, _, _, h6, _⟩ := withCl_get h
      refine hP i hi d' h1 a (h6 ▸ ha) K fun s hs hp v hv => ?_
      rw [h2]; exact hK s hs hp v hv) (fun i => by simp) (fun s hs k hk => by
      rcases List.mem_cons.1 hk with h | h
      · exact .inl h
      · right
        cases e : (plainOf (D s0))[piv s]? with
        | none => rw [e] at h; simp at h
        | some d => rw [e] at h; exact ⟨d, rfl, by simpa using h⟩) (fun s hs => by
      have b := hok s
      simp only [okOne, Bool.and_eq_true] at b
      obtain ⟨⟨⟨_, b8⟩, b9⟩, b10⟩ := b
      have hpl : plainOf (D s) = withCl (D s) (clsOf ops []) := by unfold plainOf; rw [ho s]
      have hpl0 : plainOf (D s0) = withCl (D s0) (clsOf ops []) := by unfold plainOf; rw [hs0]
      have hcl : ∀ k : Nat, (((plainOf (D s))[k]?).map (·.cl)).getD [] = (((plainOf (D s0))[k]?).map (·.cl)).getD [] := fun k => by
        rw [hpl, hpl0]
        unfold withCl
        rw [List.getElem?_zipWith, List.getElem?_zipWith]
        cases h1 : (D s)[k]? with
        | none =>
          have : (D s0)[k]? = none := by rw [List.getElem?_eq_none_iff] at h1 ⊢; rw [← hall s]; exact h1
          rw [this]
        | some d1 =>
          have : k < (D s0).length := by rw [← hall s]; exact (List.getElem?_eq_some_iff.1 h1).1
          rw [List.getElem?_eq_getElem this]
          cases (clsOf ops [])[k]? <;> simp
      refine ⟨ho s, by rw [← hcl (piv s)]; exact b8, fun k d d' h h' hk => ?_, hR s, ?_, hO s hs, fun k d h hk => (nd s k d h hk).1, by rw [hcm s]; exact hQ s hs⟩
      · obtain ⟨d1, h1, h2, h3, _, _, _, h7⟩ := withCl_get h
        have hva := vsOf_agree (hall s) (hv s) h' h1 hk
        refine ⟨by rw [← h3, hva.1], ?_⟩
        rw [(nd s k d' h' hk).2, hcl k, h]; rfl
      · cases e : (D s)[piv s]? with
        | none => rw [e] at b9; simp at b9
        | some d => rw [e] at b9; simp at b9; simp [b9.1])
    ops.length (Array.replicate ops.length false) a (by simp [hl0, hlo]) (fun k _ => rep_false _ _) (fun i d _ h => by rw [rep_false] at h; cases h)
    (by have : (fun k => (Array.replicate ops.length false).getD k false) = fun _ => false := funext (rep_false _)
        rw [this, env_none]; exact ha)
    (by have : ((List.range (plainOf (D s0)).length).filter fun i => !(Array.replicate ops.length false).getD i false) = List.range (plainOf (D s0)).length := by
          rw [List.filter_eq_self]; intro k _; rw [rep_false]; rfl
        rw [this, List.length_range, hl0, hlo])
  exact hmain
theorem region_two {i j : Nat} {Dp : List Nat} {ds1 ds2 : List OpD} {W1 W2 : Nat→World} {m1 m2 : Nat} {id : Nat} (hm : P.follows .mixedOrders = true) (ha : Has n L0 a) (h1 : W1 0 = w.drew) (h2 : W2 0 = w.drew)
  (ho : ds2.map (·.o) = ds1.map (·.o)) (hok1 : okOne n ds1 i [i,j] Dp = true) (hok2 : okOne n ds2 j [i,j] Dp = true) (hv : vsOf ds2 Dp = vsOf ds1 Dp) (hli : (ds2[j]?).map (·.li) = (ds1[j]?).map (·.li)) (hij : i≠j)
  (hR1 : Reads ds1 L0) (hR2 : Reads ds2 L0) (hO1 : Obl P n (ds1.map (·.o)).toArray W1 ds1) (hO2 : Obl P n (ds1.map (·.o)).toArray W2 ds2) (hc1 : cnt ds1 0 (fun _=>true) = m1) (hc2 : cnt ds2 0 (fun _=>true) = m2)
  (hQ1 : ∀ a,Has n (envF ds1 0 (fun _=>true) L0) a→Q .normal a (W1 m1)) (hQ2 : ∀ a,Has n (envF ds2 0 (fun _=>true) L0) a→Q .normal a (W2 m2)) : (Code.region id (ds1.map (·.o)).toArray true).wp P Q a w:=by
 have opsAt : ∀ (k : Nat),(ds1.map (·.o)).toArray[k]? = (ds1[k]?).map (fun d : OpD=>d.o):=fun k=>by simp
 have lo0 : ∀ {ds : List OpD} {i : Nat} (hok : okOne n ds i [i,j] Dp = true) (k : Nat) (d : OpD),ds[k]? = some d→¬ k∈Dp→d.e = false∧d.lo = 0:=fun {ds i} hok k d h hk=>by
  simp only [okOne,Bool.and_eq_true] at hok
  have:=List.all_eq_true.1 hok.2 _ (List.mem_zipIdx_iff_getElem?.2 h : (d,k)∈ds.zipIdx)
  simp only [Bool.or_eq_true,Bool.and_eq_true,Bool.not_eq_true',beq_iff_eq] at this
  rcases this with h | h
  ·exact (hk (by simpa using h)).elim
  ·exact ⟨h.1.1,h.1.2⟩
 have pv : ∀ {ds : List OpD} {i j p : Nat} {Pv : List Nat} (hok : okOne n ds p Pv Dp = true) (d : OpD),ds[p]? = some d→d.e = true∧d.lo = 0:=fun {ds i j p Pv} hok d h=>by
  simp only [okOne,Bool.and_eq_true] at hok
  have:=hok.1.2
  rw [h] at this
  simpa using this
 refine region_gen (σ:=Bool) (C:=fun _=>True) (piv:=fun s=>if s = true then i else j) (Pv:=[i,j]) (Dp:=Dp) (D:=fun s=>if s = true then ds1 else ds2) (W:=fun s=>if s = true then W1 else W2) (m:=fun s=>if s = true then m1 else m2)
  true hm ha (by simp) rfl (fun s=>?_) (fun s=>?_) (fun s=>?_) (fun s=>?_) (fun k d h hk=>?_) (fun k hk d h a ha K hK=>?_) (fun s _=>?_) (fun s=>?_) (fun s _ a ha=>?_)
 ·cases s
  ·exact hok2
  ·exact hok1
 ·cases s
  ·exact ho
  ·rfl
 ·cases s
  ·exact hv
  ·rfl
 ·cases s
  ·exact hR2
  ·exact hR1
 ·simp only [if_true] at h
  obtain ⟨he,hlo⟩:=lo0 hok1 k d h hk
  have:=hO1.get h 0 (by omega) (by omega)
  rw [he,h1] at this
  simpa [h1] using this
 ·simp only [if_true] at h
  have hk' : k = i∨k = j:=by simpa using hk
  rcases hk' with rfl | rfl
  ·obtain ⟨he,hlo⟩:=pv (i:=k) (j:=j) hok1 d h
   have hop:=hO1.get h 0 (by omega) (by omega)
   rw [he,h1] at hop
   have hK1:=hK true trivial (by simp) d.v (by simp [h])
   exact wpOp_of (by rw [opsAt,h]; rfl) (by simpa using hop) ha (by simpa using hK1)
  ·obtain ⟨d2,h2',hl2⟩ : ∃ d2,ds2[k]? = some d2∧d2.li = d.li:=by rw [h] at hli; exact Option.map_eq_some_iff.1 hli
   have ho2 : d2.o = d.o:=by
    have:=congrArg (fun l : List Oper=>l[k]?) ho
    simp only [List.getElem?_map,h2',h,Option.map_some,Option.some.injEq] at this
    exact this
   obtain ⟨he,hlo⟩:=pv (i:=i) (j:=k) hok2 d2 h2'
   have hop:=hO2.get h2' 0 (by omega) (by omega)
   rw [he,h2,ho2,hl2] at hop
   have hK1:=hK false trivial (by simp) d2.v (by simp [h2'])
   exact wpOp_of (by rw [opsAt,h]; rfl) (by simpa using hop) ha (by simpa using hK1)
 ·cases s
  ·exact fun i d h _=>hO2.get h
  ·exact fun i d h _=>hO1.get h
 ·cases s
  ·exact hc2
  ·exact hc1
 ·cases s
  ·exact hQ2 a ha
  ·exact hQ1 a ha
def OblK (P : Program) (n : Nat) (ops : Array Oper) (W : Nat→World) (p : Nat) : Nat→List OpD→Prop
 | _,[]=>True
 | i,d :: ds=>(if i == p then True else ∀ j,d.lo≤j→j≤d.hi→OpOK P n ops d.o d.li d.v (W j) (W (j + if d.e = true then 1 else 0)))∧OblK P n ops W p (i + 1) ds
theorem OblK.get {ops : Array Oper} {W : Nat→World} {p : Nat} : ∀ {ds : List OpD} {b : Nat},OblK P n ops W p b ds→∀ {i : Nat} {d : OpD},ds[i]? = some d→b + i≠p→∀ j,d.lo≤j→j≤d.hi→OpOK P n ops d.o d.li d.v (W j) (W (j + if d.e = true then 1 else 0))
 | [],_,_,_,_,h,_=>by simp at h
 | _ :: _,b,h,0,_,hd,hp=>by
  simp at hd; subst hd
  have h1:=h.1
  have : (b == p) = false:=by simpa using hp
  rw [this] at h1
  simpa using h1
 | _ :: _,b,h,i + 1,_,hd,hp=>OblK.get h.2 (i:=i) (by simpa using hd) (by omega)
end
noncomputable def evlog_Log_at (a0 : Option Addr) (a1 : Int) (a2 : Int) (w : World) : Option (Int×World) :=
 (a0).bind fun p1 =>
 (ldI .i64 w (p1.add 2)).bind fun v3 =>
 some ((IntKind.wrap .i64 ((IntKind.wrap .i64 ((IntKind.wrap .i64 (v3 + 2)) + (IntKind.wrap .i64 (a1 * 16)))) + a2)),w)
set_option maxHeartbeats 1000000 in
set_option maxRecDepth 100000 in
theorem evlog_Log_at_ok {a0 : Option Addr} {a1 : Int} {a2 : Int} {w w' : World} {r0 : Int} (h : evlog_Log_at a0 a1 a2 w = some (r0,w')) : Calls Try.prog 85 #[(.pointer a0),(.int .i64 a1),(.int .i64 a2)] w fun e w''=>e = .returned (.int .i64 r0)∧w'' = w':=by
 refine calls_dec (n:=17) Try.func85 rfl Try.ntmps85 (by simp) fun a ha=>?_
 unfold evlog_Log_at at h
 refine wp_seq<|region_lit<|qa ha rfl fun a ha=>s_nil<|t_n<|wp_seq<|region_lit<|qm ha rfl fun a ha=>?_
 obtain ⟨p1,e2,h⟩:=bs1 h
 refine q ha (d_nilp ha rfl e2) fun a ha=>q ha (d_fa ha rfl Try.runUnderlying119 rfl rfl Try.sizeOf3 (by decide)) fun a ha=>?_
 obtain ⟨v3,e4,h⟩:=bs1 h
 refine q ha (d_ld ha rfl Try.isAgg3 (ldI_c e4)) fun a ha=>q ha (d_add ha rfl rfl) fun a ha=>qm ha rfl fun a ha=>q ha (d_mul ha rfl rfl) fun a ha=>q ha (d_add ha rfl rfl) fun a ha=>qm ha rfl fun a ha=>q ha (d_add ha rfl rfl) fun a ha=>qa ha rfl fun a ha=>s_nil<|t_n<|wp_ret<|?_
 have hS:=ha
 cases h
 exact ret1 Try.results85 hS rfl ⟨rfl,rfl⟩
noncomputable def evlog_Log_look (a0 : Option Addr) (a1 : Int) (a2 : Int) (w : World) : Option (Sl×World) :=
 (dr w).bind fun w1 =>
 (a0).bind fun p3 =>
 (ldP w1 (p3.add 0)).bind fun v5 =>
 bind2 (evlog_Log_at a0 a1 a2 w1) fun v7 w8 =>
 bind3 (sector_Disk_Read v5 v7 w8) fun v10 v11 w12 =>
 chk (ldP w8 (p3.add 0) = some v5) <|
 some (v10,w12)
set_option maxHeartbeats 1000000 in
set_option maxRecDepth 100000 in
theorem evlog_Log_look_ok {a0 : Option Addr} {a1 : Int} {a2 : Int} {w w' : World} {r0 : Sl} (h : evlog_Log_look a0 a1 a2 w = some (r0,w')) : Calls Try.prog 111 #[(.pointer a0),(.int .i64 a1),(.int .i64 a2)] w fun e w''=>e = .returned (Sl.v r0)∧w'' = w':=by
 refine calls_dec (n:=22) Try.func111 rfl Try.ntmps111 (by simp) fun a ha=>?_
 unfold evlog_Log_look at h
 refine wp_seq<|region_lit<|qa ha rfl fun a ha=>s_nil<|t_n<|wp_seq<|?_
 obtain ⟨w1,e2,h⟩:=bs1 h
 obtain ⟨p3,e4,h⟩:=bs1 h
 obtain ⟨v5,e6,h⟩:=bs1 h
 obtain ⟨v7,w8,e9,h⟩:=bs2 h
 obtain ⟨v10,v11,w12,e13,h⟩:=bs3 h
 obtain ⟨e14,h⟩:=chk_some h
 have ha : Has 22 [(0,(.pointer a0)),(1,(.int .i64 a1)),(2,(.int .i64 a2))] a:=ha.sub ⟨rfl,rfl,rfl,trivial⟩
 refine region_draw (n:=22) (ds:=(⟨_,(.pointer a0),false,0,1,[],[(0,(.pointer a0))]⟩ :: ⟨_,(.pointer (some p3)),false,0,1,[0],[(10,(.pointer a0))]⟩ :: ⟨_,(.pointer (some (p3.add 0))),false,0,1,[0,1],[(11,(.pointer (some p3)))]⟩ :: ⟨_,(.pointer v5),false,0,1,[0,1,2],[(12,(.pointer (some (p3.add 0))))]⟩ :: ⟨_,(.pointer a0),false,0,0,[],[(0,(.pointer a0))]⟩ :: ⟨_,(.int .i64 a1),false,0,0,[],[(1,(.int .i64 a1))]⟩ :: ⟨_,(.int .i64 a2),false,0,0,[],[(2,(.int .i64 a2))]⟩ :: ⟨_,(.int .i64 v7),true,0,0,[4,5,6],[(14,(.pointer a0)),(15,(.int .i64 a1)),(16,(.int .i64 a2))]⟩ :: ⟨_,(.tuple #[(Sl.v v10),(.int .i64 v11)]),true,1,1,(rn 0 8),[(13,(.pointer v5)),(17,(.int .i64 v7))]⟩ :: ⟨_,(.tuple #[(Sl.v v10),(.int .i64 v11)]),false,2,2,(rn 0 9),[(18,(.tuple #[(Sl.v v10),(.int .i64 v11)]))]⟩ :: ⟨_,(Sl.v v10),false,2,2,(rn 0 10),[(9,(.tuple #[(Sl.v v10),(.int .i64 v11)]))]⟩ :: ⟨_,(.int .i64 v11),false,2,2,(rn 0 10),[(9,(.tuple #[(Sl.v v10),(.int .i64 v11)]))]⟩ :: ⟨_,(Sl.v v10),false,2,2,(rn 0 11),[(19,(Sl.v v10))]⟩ :: ⟨_,(.int .i64 v11),false,2,2,(rn 0 13),[(20,(.int .i64 v11))]⟩ :: [])) (W:=(fun j=>match j with | 0=>w1 | 1=>w8 | 2=>w12 | _=>w12)) (by kernel_rfl) ha (dr_w e2) (by kernel_rfl) ?_ (reads_of (by kernel_rfl)) (by kernel_rfl) (m:=2) (by kernel_rfl) (fun a ha=>?_)
 ·refine ⟨?_,?_,?_,?_,?_,?_,?_,?_,?_,?_,?_,?_,?_,?_,trivial⟩
  ·exact oa fun j a ha=>d_move ha rfl
  ·exact oa fun j a ha=>d_nilp ha rfl e4
  ·exact oa fun j a ha=>d_fa ha rfl Try.runUnderlying119 rfl rfl Try.sizeOf57 (by decide)
  ·intro j h1 h2; have h1 : 0≤j:=h1; have h2 : j≤1:=h2; rcases (by omega : j = 0∨j = 1) with rfl | rfl
   ·exact ok_do rfl fun a ha=>d_ld ha rfl Try.isAgg57 (ldP_c e6)
   ·exact ok_do rfl fun a ha=>d_ld ha rfl Try.isAgg57 (ldP_c e14)
  ·exact oa fun j a ha=>d_move ha rfl
  ·exact oa fun j a ha=>d_move ha rfl
  ·exact oa fun j a ha=>d_move ha rfl
  ·exact oc 0 (ok_do rfl fun a ha=>d_call (xs:=[_,_,_]) (vs:=[(.pointer a0),(.int .i64 a1),(.int .i64 a2)]) ha ⟨rfl,rfl,rfl,trivial⟩ Try.call85 (evlog_Log_at_ok e9))
  ·exact oc 1 (ok_do rfl fun a ha=>d_call (xs:=[_,_]) (vs:=[(.pointer v5),(.int .i64 v7)]) ha ⟨rfl,rfl,trivial⟩ Try.call99 (sector_Disk_Read_ok e13))
  ·exact oa fun j a ha=>d_move ha rfl
  ·exact oa fun j a ha=>d_ext ha rfl rfl
  ·exact oa fun j a ha=>d_ext ha rfl rfl
  ·exact oa fun j a ha=>d_assign ha rfl
  ·exact oa fun j a ha=>d_assign ha rfl
 ·have ha : Has 22 [(7,(Sl.v v10))] a:=ha.sub ⟨rfl,trivial⟩
  refine t_n<|wp_seq<|region_lit<|qm ha rfl fun a ha=>qa ha rfl fun a ha=>s_nil<|t_n<|wp_ret<|?_
  have hS:=ha
  cases h
  exact ret1 Try.results111 hS rfl ⟨rfl,rfl⟩
noncomputable def evlog_empty_1 (a0 : Int) (w : World) : Option (Bool×World) :=
 some ((a0 != 0),w)
set_option maxHeartbeats 1000000 in
set_option maxRecDepth 100000 in
theorem evlog_empty_1_ok {a0 : Int} {w w' : World} {r0 : Bool} (h : evlog_empty_1 a0 w = some (r0,w')) : Calls Try.prog 144 #[(.int .u8 a0)] w fun e w''=>e = .returned (.bool r0)∧w'' = w':=by
 refine calls_dec (n:=5) Try.func144 rfl Try.ntmps144 (by simp) fun a ha=>?_
 unfold evlog_empty_1 at h
 refine wp_seq<|region_lit<|qa ha rfl fun a ha=>s_nil<|t_n<|wp_seq<|region_lit<|qm ha rfl fun a ha=>q ha (d_ne ha rfl rfl) fun a ha=>qa ha rfl fun a ha=>s_nil<|t_n<|wp_ret<|?_
 have hS:=ha
 cases h
 exact ret1 Try.results144 hS rfl ⟨rfl,rfl⟩
noncomputable def slices_IndexFunc_byte_byte_144_l1 (a0 : Sl) (x1 : Int) (w2 : World) : Option ((Int×World)⊕((World)⊕(Int×World))) :=
 if (decide (x1 < (a0.n : Int))) = true then
 ((ix a0 x1 1).bind fun p12 =>
 (ldI .u8 w2 p12).bind fun v14 =>
 bind2 (evlog_empty_1 v14 w2) fun v16 w17 =>
 if v16 = true then
 (some (.inr (.inr (x1,w17))))
 else
 (some (.inl ((IntKind.wrap .i64 (x1 + 1)),w17))))
 else
 (some (.inr (.inl w2)))
noncomputable def slices_IndexFunc_byte_byte_144 (a0 : Sl) (w : World) : Option (Int×World) :=
 (loopF (fun s : Int×World=>slices_IndexFunc_byte_byte_144_l1 a0 s.1 s.2) (0,w)).bind fun r3=>Sum.elim (fun (i : World)=>u1 i fun w5 =>
 some ((-1),w5)) (fun (i : Int×World)=>u2 i fun v6 w7 =>
 some (v6,w7)) r3
set_option maxHeartbeats 1000000 in
set_option maxRecDepth 100000 in
theorem slices_IndexFunc_byte_byte_144_ok {a0 : Sl} {w w' : World} {r0 : Int} (h : slices_IndexFunc_byte_byte_144 a0 w = some (r0,w')) : Calls Try.prog 157 #[(Sl.v a0),(.func (.func 144) #[] #[])] w fun e w''=>e = .returned (.int .i64 r0)∧w'' = w':=by
 refine calls_dec (n:=19) Try.func157 rfl Try.ntmps157 (by simp) fun a ha=>?_
 unfold slices_IndexFunc_byte_byte_144 at h
 refine wp_seq<|region_lit<|qa ha rfl fun a ha=>s_nil<|t_n<|wp_seq<|wp_seq<|region_lit<|qm ha rfl fun a ha=>q ha (d_lenS ha rfl Try.runUnderlying72) fun a ha=>qm ha rfl fun a ha=>s_nil<|t_n<|wp_block<|?_
 obtain ⟨r3,e4,h⟩:=bs1 h
 refine s_loop2 (n:=19) (L1:=fun i=>[]) (w1:=fun i=>i) (L2:=fun i=>[(4,(.int .i64 i.1))]) (w2:=fun i=>i.2) (e1:=.exit 0) (e2:=.ret) (I:=fun (s : Int×World) a w=>Has 19 [(8,(.int .i64 s.1)),(0,(Sl.v a0)),(1,(.func (.func 144) #[] #[])),(7,(.int .i64 (a0.n : Int)))] a∧w = s.2) ⟨ha.sub ⟨rfl,rfl,rfl,rfl,trivial⟩,rfl⟩ e4 (fun i hi a ha=>?_) (fun i hi a ha=>?_) (fun hk8 hk9=>?_)
 ·subst hi
  obtain ⟨w5,rfl⟩ : ∃ x,x = i:=⟨i,rfl⟩
  dsimp only [Sum.elim_inl,Sum.elim_inr,u1,u2,u3,u4,u5,u6] at h
  have ha : Has 19 [] a:=ha
  refine b_hit<|t_n<|wp_seq<|region_lit<|qa ha rfl fun a ha=>s_nil<|t_n<|wp_ret<|?_
  have hS:=ha
  cases h
  exact ret1 Try.results157 hS rfl ⟨rfl,rfl⟩
 ·subst hi
  obtain ⟨v6,w7⟩:=i
  dsimp only [Sum.elim_inl,Sum.elim_inr,u1,u2,u3,u4,u5,u6] at h
  have ha : Has 19 [(4,(.int .i64 v6))] a:=ha
  refine b_r<|t_r<|?_
  have hS:=ha
  cases h
  exact ret1 Try.results157 hS rfl ⟨rfl,rfl⟩
 ·clear h
  rintro ⟨x1,w2⟩ a wq o ⟨ha,hwq⟩ h hr10
  obtain rfl : w2 = wq:=hwq.symm
  have ha : Has 19 [(8,(.int .i64 x1)),(0,(Sl.v a0)),(1,(.func (.func 144) #[] #[])),(7,(.int .i64 (a0.n : Int)))] a:=ha
  have h : slices_IndexFunc_byte_byte_144_l1 a0 x1 w2 = some o:=h
  unfold slices_IndexFunc_byte_byte_144_l1 at h
  refine wp_seq<|region_lit<|q ha (d_lt ha rfl rfl) fun a ha=>s_nil<|t_n<|wp_seq<|?_
  refine s_cond ha rfl h (fun b11 h=>?_) (fun b11 h=>?_)
  ·refine wp_skip<|t_n<|wp_seq<|wp_block<|wp_seq<|region_lit<|qm ha rfl fun a ha=>qa ha rfl fun a ha=>s_nil<|t_n<|wp_seq<|region_lit<|qm ha rfl fun a ha=>qm ha rfl fun a ha=>qm ha rfl fun a ha=>?_
   obtain ⟨p12,e13,h⟩:=bs1 h
   refine q ha (d_ix ha rfl rfl Try.runUnderlying72 Try.sizeOf5 e13) fun a ha=>?_
   obtain ⟨v14,e15,h⟩:=bs1 h
   refine q ha (d_ld ha rfl Try.isAgg5 (ldI_c e15)) fun a ha=>?_
   obtain ⟨v16,w17,e18,h⟩:=bs2 h
   refine q ha (d_callF (xs:=[_]) (vs:=[(.int .u8 v14)]) (cv:=[]) ha rfl ⟨rfl,trivial⟩ Try.call144 (evlog_empty_1_ok e18)) fun a ha=>s_nil<|t_n<|?_
   refine s_cond ha rfl h (fun b19 h=>?_) (fun b19 h=>?_)
   ·refine wp_seq<|region_lit<|qm ha rfl fun a ha=>qa ha rfl fun a ha=>s_nil<|t_n<|wp_ret<|b_r<|t_r<|?_
    have hS : Has 19 [(4,(.int .i64 x1))] _:=ha.sub ⟨rfl,trivial⟩
    cases h
    cases hr10 _ rfl
    refine lp_r<|?_
    exact hk9 _ rfl _ hS
   ·refine wp_skip<|b_n<|t_n<|region_lit<|q ha (d_add ha rfl rfl) fun a ha=>qm ha rfl fun a ha=>s_nil<|?_
    have hS : Has 19 [(8,(.int .i64 (IntKind.wrap .i64 (x1 + 1)))),(0,(Sl.v a0)),(1,(.func (.func 144) #[] #[])),(7,(.int .i64 (a0.n : Int)))] _:=ha.sub ⟨rfl,rfl,rfl,rfl,trivial⟩
    cases h
    exact lp_next ⟨hS,rfl⟩
  ·refine wp_exit<|t_x<|?_
   have hS : Has 19 [] _:=ha.sub trivial
   cases h
   cases hr10 _ rfl
   refine lp_x<|?_
   exact hk8 _ rfl _ hS
noncomputable def slices_ContainsFunc_byte_byte_144 (a0 : Sl) (w : World) : Option (Bool×World) :=
 bind2 (slices_IndexFunc_byte_byte_144 a0 w) fun v1 w2 =>
 some ((decide (0≤v1)),w2)
set_option maxHeartbeats 1000000 in
set_option maxRecDepth 100000 in
theorem slices_ContainsFunc_byte_byte_144_ok {a0 : Sl} {w w' : World} {r0 : Bool} (h : slices_ContainsFunc_byte_byte_144 a0 w = some (r0,w')) : Calls Try.prog 143 #[(Sl.v a0),(.func (.func 144) #[] #[])] w fun e w''=>e = .returned (.bool r0)∧w'' = w':=by
 refine calls_dec (n:=9) Try.func143 rfl Try.ntmps143 (by simp) fun a ha=>?_
 unfold slices_ContainsFunc_byte_byte_144 at h
 refine wp_seq<|region_lit<|qa ha rfl fun a ha=>s_nil<|t_n<|wp_seq<|region_lit<|qm ha rfl fun a ha=>qm ha rfl fun a ha=>?_
 obtain ⟨v1,w2,e3,h⟩:=bs2 h
 refine q ha (d_call (xs:=[_,_]) (vs:=[(Sl.v a0),(.func (.func 144) #[] #[])]) ha ⟨rfl,rfl,trivial⟩ Try.call157 (slices_IndexFunc_byte_byte_144_ok e3)) fun a ha=>q ha (d_ge ha rfl rfl) fun a ha=>qa ha rfl fun a ha=>s_nil<|t_n<|wp_ret<|?_
 have hS:=ha
 cases h
 exact ret1 Try.results143 hS rfl ⟨rfl,rfl⟩
noncomputable def evlog_empty (a0 : Sl) (w : World) : Option (Bool×World) :=
 bind2 (slices_ContainsFunc_byte_byte_144 a0 w) fun v1 w2 =>
 some ((!v1),w2)
set_option maxHeartbeats 1000000 in
set_option maxRecDepth 100000 in
theorem evlog_empty_ok {a0 : Sl} {w w' : World} {r0 : Bool} (h : evlog_empty a0 w = some (r0,w')) : Calls Try.prog 110 #[(Sl.v a0)] w fun e w''=>e = .returned (.bool r0)∧w'' = w':=by
 refine calls_dec (n:=6) Try.func110 rfl Try.ntmps110 (by simp) fun a ha=>?_
 unfold evlog_empty at h
 refine wp_seq<|region_lit<|qa ha rfl fun a ha=>s_nil<|t_n<|wp_seq<|region_lit<|qm ha rfl fun a ha=>?_
 obtain ⟨v1,w2,e3,h⟩:=bs2 h
 refine q ha (d_call (xs:=[_,_]) (vs:=[(Sl.v a0),(.func (.func 144) #[] #[])]) ha ⟨rfl,rfl,trivial⟩ Try.call143 (slices_ContainsFunc_byte_byte_144_ok e3)) fun a ha=>q ha (d_not ha rfl) fun a ha=>qa ha rfl fun a ha=>s_nil<|t_n<|wp_ret<|?_
 have hS:=ha
 cases h
 exact ret1 Try.results110 hS rfl ⟨rfl,rfl⟩
noncomputable def evlog_good (a0 : Sl) (w : World) : Option (Int×Sl×Bool×World) :=
 bind2 (if ((a0.n : Int) != 64) = true then
 (some (true,w))
 else
 ((ix a0 0 1).bind fun p6 =>
 (ldI .u8 w p6).bind fun v8 =>
 if (v8 != 231) = true then
 (some (true,w))
 else
 ((ix a0 63 1).bind fun p11 =>
 (ldI .u8 w p11).bind fun v13 =>
 if (v13 != 231) = true then
 (some (true,w))
 else
 ((ix a0 1 1).bind fun p16 =>
 (ldI .u8 w p16).bind fun v18 =>
 if (decide (v18 < 1)) = true then
 (some (true,w))
 else
 ((ix a0 1 1).bind fun p21 =>
 (ldI .u8 w p21).bind fun v23 =>
 if (decide (3 < v23)) = true then
 (some (true,w))
 else
 ((ix a0 2 1).bind fun p26 =>
 (ldI .u8 w p26).bind fun v28 =>
 if (decide (59 < v28)) = true then
 (some (true,w))
 else
 ((ix a0 3 1).bind fun p31 =>
 (ldI .u8 w p31).bind fun v33 =>
 if (decide (1 < v33)) = true then
 (some (true,w))
 else
 ((ix a0 3 1).bind fun p36 =>
 (ldI .u8 w p36).bind fun v38 =>
 if (v38 == 0) = true then
 ((ix a0 2 1).bind fun p41 =>
 (ldI .u8 w p41).bind fun v43 =>
 some ((v43 != 59),w))
 else
 (some (false,w)))))))))) fun v1 w2 =>
 if v1 = true then
 (some (0,Sl.nil,false,w2))
 else
 ((ix a0 2 1).bind fun p46 =>
 (ldI .u8 w2 p46).bind fun v48 =>
 (slS a0 (IntKind.wrap .i64 (4 + (IntKind.wrap .i64 v48))) 63 (a0.c : Int) 1).bind fun s50 =>
 bind2 (evlog_empty s50 w2) fun v52 w53 =>
 if (!v52) = true then
 (some (0,Sl.nil,false,w53))
 else
 ((dr w53).bind fun w56 =>
 (ix a0 1 1).bind fun p58 =>
 (ldI .u8 w56 p58).bind fun v60 =>
 (slS a0 4 (IntKind.wrap .i64 (4 + (IntKind.wrap .i64 v48))) (IntKind.wrap .i64 (4 + (IntKind.wrap .i64 v48))) 1).bind fun s62 =>
 (ix a0 3 1).bind fun p64 =>
 (ldI .u8 w56 p64).bind fun v66 =>
 some ((IntKind.wrap .i64 v60),s62,(v66 == 1),w56)))
set_option maxHeartbeats 1000000 in
set_option maxRecDepth 100000 in
theorem evlog_good_ok {a0 : Sl} {w w' : World} {r0 : Int} {r1 : Sl} {r2 : Bool} (h : evlog_good a0 w = some (r0,r1,r2,w')) : Calls Try.prog 140 #[(Sl.v a0)] w fun e w''=>e = .returned (.tuple #[(.int .i64 r0),(Sl.v r1),(.bool r2)])∧w'' = w':=by
 refine calls_dec (n:=79) Try.func140 rfl Try.ntmps140 (by simp) fun a ha=>?_
 unfold evlog_good at h
 refine wp_seq<|region_lit<|qa ha rfl fun a ha=>qa ha rfl fun a ha=>qa ha rfl fun a ha=>s_nil<|t_n<|wp_seq<|wp_seq<|?_
 obtain ⟨v1,w2,e3,h⟩:=bs2 h
 refine reg_join (n:=79) (L:=[(56,(.bool v1)),(0,(Sl.v a0))]) (w':=w2) (fun a ha=>?_) (fun hk4=>?_)
 ·refine t_n<|?_
  refine s_cond ha rfl h (fun b45 h=>?_) (fun b45 h=>?_)
  ·refine wp_seq<|region_lit<|qa ha rfl fun a ha=>qa ha rfl fun a ha=>qa ha rfl fun a ha=>s_nil<|t_n<|wp_ret<|t_r<|?_
   have hS:=ha
   cases h
   exact ret3 Try.results140 hS rfl rfl rfl ⟨rfl,rfl⟩
  ·refine wp_skip<|t_n<|wp_seq<|region_lit<|qm ha rfl fun a ha=>?_
   obtain ⟨p46,e47,h⟩:=bs1 h
   refine q ha (d_ix ha rfl rfl Try.runUnderlying72 Try.sizeOf5 e47) fun a ha=>?_
   obtain ⟨v48,e49,h⟩:=bs1 h
   refine q ha (d_ld ha rfl Try.isAgg5 (ldI_c e49)) fun a ha=>q ha (d_conv ha rfl Try.runUnderlying5 Try.runUnderlying3) fun a ha=>q ha (d_add ha rfl rfl) fun a ha=>qa ha rfl fun a ha=>s_nil<|t_n<|wp_seq<|wp_seq<|region_lit<|qm ha rfl fun a ha=>qm ha rfl fun a ha=>?_
   obtain ⟨s50,e51,h⟩:=bs1 h
   refine q ha (d_slS ha rfl Try.runUnderlying72 Try.sizeOf5 ⟨_,rfl⟩ ⟨_,rfl⟩ rfl (by simp) e51) fun a ha=>?_
   obtain ⟨v52,w53,e54,h⟩:=bs2 h
   refine q ha (d_call (xs:=[_]) (vs:=[(Sl.v s50)]) ha ⟨rfl,trivial⟩ Try.call110 (evlog_empty_ok e54)) fun a ha=>q ha (d_not ha rfl) fun a ha=>s_nil<|t_n<|?_
   refine s_cond ha rfl h (fun b55 h=>?_) (fun b55 h=>?_)
   ·refine wp_seq<|region_lit<|qa ha rfl fun a ha=>qa ha rfl fun a ha=>qa ha rfl fun a ha=>s_nil<|t_n<|wp_ret<|t_r<|?_
    have hS:=ha
    cases h
    exact ret3 Try.results140 hS rfl rfl rfl ⟨rfl,rfl⟩
   ·refine wp_skip<|t_n<|wp_seq<|?_
    obtain ⟨w56,e57,h⟩:=bs1 h
    obtain ⟨p58,e59,h⟩:=bs1 h
    obtain ⟨v60,e61,h⟩:=bs1 h
    obtain ⟨s62,e63,h⟩:=bs1 h
    obtain ⟨p64,e65,h⟩:=bs1 h
    obtain ⟨v66,e67,h⟩:=bs1 h
    have ha : Has 79 [(0,(Sl.v a0)),(5,(.int .i64 (IntKind.wrap .i64 (4 + (IntKind.wrap .i64 v48)))))] a:=ha.sub ⟨rfl,rfl,trivial⟩
    refine region_draw (n:=79) (ds:=(⟨_,(Sl.v a0),false,0,0,[],[(0,(Sl.v a0))]⟩ :: ⟨_,(.pointer (some p58)),false,0,0,[0],[(67,(Sl.v a0))]⟩ :: ⟨_,(.int .u8 v60),false,0,0,[0,1],[(68,(.pointer (some p58)))]⟩ :: ⟨_,(.int .i64 (IntKind.wrap .i64 v60)),false,0,0,[0,1,2],[(69,(.int .u8 v60))]⟩ :: ⟨_,(Sl.v a0),false,0,0,[],[(0,(Sl.v a0))]⟩ :: ⟨_,(.int .i64 (IntKind.wrap .i64 (4 + (IntKind.wrap .i64 v48)))),false,0,0,[],[(5,(.int .i64 (IntKind.wrap .i64 (4 + (IntKind.wrap .i64 v48)))))]⟩ :: ⟨_,(.int .i64 (IntKind.wrap .i64 (4 + (IntKind.wrap .i64 v48)))),false,0,0,[],[(5,(.int .i64 (IntKind.wrap .i64 (4 + (IntKind.wrap .i64 v48)))))]⟩ :: ⟨_,(Sl.v s62),false,0,0,[4,5,6],[(71,(Sl.v a0)),(72,(.int .i64 (IntKind.wrap .i64 (4 + (IntKind.wrap .i64 v48))))),(73,(.int .i64 (IntKind.wrap .i64 (4 + (IntKind.wrap .i64 v48)))))]⟩ :: ⟨_,(Sl.v a0),false,0,0,[],[(0,(Sl.v a0))]⟩ :: ⟨_,(.pointer (some p64)),false,0,0,[8],[(75,(Sl.v a0))]⟩ :: ⟨_,(.int .u8 v66),false,0,0,[8,9],[(76,(.pointer (some p64)))]⟩ :: ⟨_,(.bool (v66 == 1)),false,0,0,[8,9,10],[(77,(.int .u8 v66))]⟩ :: ⟨_,(.int .i64 (IntKind.wrap .i64 v60)),false,0,0,(rn 0 4),[(70,(.int .i64 (IntKind.wrap .i64 v60)))]⟩ :: ⟨_,(Sl.v s62),false,0,0,(rn 0 8 ++ [12]),[(74,(Sl.v s62))]⟩ :: ⟨_,(.bool (v66 == 1)),false,0,0,(rn 0 14),[(78,(.bool (v66 == 1)))]⟩ :: [])) (W:=(fun _=>w56)) (by kernel_rfl) ha (dr_w e57) (by kernel_rfl) ?_ (reads_of (by kernel_rfl)) (by kernel_rfl) (m:=0) (by kernel_rfl) (fun a ha=>?_)
    ·refine ⟨?_,?_,?_,?_,?_,?_,?_,?_,?_,?_,?_,?_,?_,?_,?_,trivial⟩
     ·exact oa fun j a ha=>d_move ha rfl
     ·exact oa fun j a ha=>d_ix ha rfl rfl Try.runUnderlying72 Try.sizeOf5 e59
     ·exact oc (e:=false) 0 (ok_do rfl fun a ha=>d_ld ha rfl Try.isAgg5 (ldI_c e61))
     ·exact oa fun j a ha=>d_conv ha rfl Try.runUnderlying5 Try.runUnderlying3
     ·exact oa fun j a ha=>d_move ha rfl
     ·exact oa fun j a ha=>d_move ha rfl
     ·exact oa fun j a ha=>d_move ha rfl
     ·exact oa fun j a ha=>d_slS ha rfl Try.runUnderlying72 Try.sizeOf5 ⟨_,rfl⟩ ⟨_,rfl⟩ ⟨_,rfl⟩ (fun _=>rfl) e63
     ·exact oa fun j a ha=>d_move ha rfl
     ·exact oa fun j a ha=>d_ix ha rfl rfl Try.runUnderlying72 Try.sizeOf5 e65
     ·exact oc (e:=false) 0 (ok_do rfl fun a ha=>d_ld ha rfl Try.isAgg5 (ldI_c e67))
     ·exact oa fun j a ha=>d_eq ha rfl rfl
     ·exact oa fun j a ha=>d_assign ha rfl
     ·exact oa fun j a ha=>d_assign ha rfl
     ·exact oa fun j a ha=>d_assign ha rfl
    ·have ha : Has 79 [(2,(.int .i64 (IntKind.wrap .i64 v60))),(3,(Sl.v s62)),(4,(.bool (v66 == 1)))] a:=ha.sub ⟨rfl,rfl,rfl,trivial⟩
     refine t_n<|wp_ret<|?_
     have hS:=ha
     cases h
     exact ret3 Try.results140 hS rfl rfl rfl ⟨rfl,rfl⟩
 ·clear h
  have h:=e3
  refine region_lit<|qm ha rfl fun a ha=>q ha (d_lenS ha rfl Try.runUnderlying72) fun a ha=>q ha (d_ne ha rfl rfl) fun a ha=>qm ha rfl fun a ha=>?_
  refine ite_s h (fun b5 h=>?_) (fun b5 h=>?_)
  ·refine qn ha 9 (tn b5) fun a ha=>qn ha 9 (tn b5) fun a ha=>qn ha 9 (tn b5) fun a ha=>qn ha 9 (tn b5) fun a ha=>q ha (d_pick_t ha rfl b5 rfl) fun a ha=>qm ha rfl fun a ha=>qn ha 15 (tn rfl) fun a ha=>qn ha 15 (tn rfl) fun a ha=>qn ha 15 (tn rfl) fun a ha=>qn ha 15 (tn rfl) fun a ha=>q ha (d_pick_t ha rfl rfl rfl) fun a ha=>qm ha rfl fun a ha=>qn ha 21 (tn rfl) fun a ha=>qn ha 21 (tn rfl) fun a ha=>qn ha 21 (tn rfl) fun a ha=>qn ha 21 (tn rfl) fun a ha=>q ha (d_pick_t ha rfl rfl rfl) fun a ha=>qm ha rfl fun a ha=>qn ha 27 (tn rfl) fun a ha=>qn ha 27 (tn rfl) fun a ha=>qn ha 27 (tn rfl) fun a ha=>qn ha 27 (tn rfl) fun a ha=>q ha (d_pick_t ha rfl rfl rfl) fun a ha=>qm ha rfl fun a ha=>qn ha 33 (tn rfl) fun a ha=>qn ha 33 (tn rfl) fun a ha=>qn ha 33 (tn rfl) fun a ha=>qn ha 33 (tn rfl) fun a ha=>q ha (d_pick_t ha rfl rfl rfl) fun a ha=>qm ha rfl fun a ha=>qn ha 39 (tn rfl) fun a ha=>qn ha 39 (tn rfl) fun a ha=>qn ha 39 (tn rfl) fun a ha=>qn ha 39 (tn rfl) fun a ha=>q ha (d_pick_t ha rfl rfl rfl) fun a ha=>qm ha rfl fun a ha=>qn ha 45 (tn rfl) fun a ha=>qn ha 45 (tn rfl) fun a ha=>qn ha 45 (tn rfl) fun a ha=>qn ha 45 (tn rfl) fun a ha=>qn ha 45 (tn rfl) fun a ha=>qu ha 50 fun a ha=>qu ha 50 fun a ha=>qu ha 50 fun a ha=>qu ha 50 fun a ha=>qn ha 45 (tn rfl) fun a ha=>q ha (d_pick_t ha rfl rfl rfl) fun a ha=>s_nil<|?_
   have hS : Has 79 [(56,(.bool true)),(0,(Sl.v a0))] _:=ha.sub ⟨rfl,rfl,trivial⟩
   cases h
   exact hk4 _ hS
  ·refine qg ha 9 (nt b5) (d_move ha rfl) fun a ha=>?_
   obtain ⟨p6,e7,h⟩:=bs1 h
   refine qg ha 9 (nt b5) (d_ix ha rfl rfl Try.runUnderlying72 Try.sizeOf5 e7) fun a ha=>?_
   obtain ⟨v8,e9,h⟩:=bs1 h
   refine qg ha 9 (nt b5) (d_ld ha rfl Try.isAgg5 (ldI_c e9)) fun a ha=>qg ha 9 (nt b5) (d_ne ha rfl rfl) fun a ha=>q ha (d_pick_f ha rfl b5 rfl) fun a ha=>qm ha rfl fun a ha=>?_
   refine ite_s h (fun b10 h=>?_) (fun b10 h=>?_)
   ·refine qn ha 15 (tn b10) fun a ha=>qn ha 15 (tn b10) fun a ha=>qn ha 15 (tn b10) fun a ha=>qn ha 15 (tn b10) fun a ha=>q ha (d_pick_t ha rfl b10 rfl) fun a ha=>qm ha rfl fun a ha=>qn ha 21 (tn rfl) fun a ha=>qn ha 21 (tn rfl) fun a ha=>qn ha 21 (tn rfl) fun a ha=>qn ha 21 (tn rfl) fun a ha=>q ha (d_pick_t ha rfl rfl rfl) fun a ha=>qm ha rfl fun a ha=>qn ha 27 (tn rfl) fun a ha=>qn ha 27 (tn rfl) fun a ha=>qn ha 27 (tn rfl) fun a ha=>qn ha 27 (tn rfl) fun a ha=>q ha (d_pick_t ha rfl rfl rfl) fun a ha=>qm ha rfl fun a ha=>qn ha 33 (tn rfl) fun a ha=>qn ha 33 (tn rfl) fun a ha=>qn ha 33 (tn rfl) fun a ha=>qn ha 33 (tn rfl) fun a ha=>q ha (d_pick_t ha rfl rfl rfl) fun a ha=>qm ha rfl fun a ha=>qn ha 39 (tn rfl) fun a ha=>qn ha 39 (tn rfl) fun a ha=>qn ha 39 (tn rfl) fun a ha=>qn ha 39 (tn rfl) fun a ha=>q ha (d_pick_t ha rfl rfl rfl) fun a ha=>qm ha rfl fun a ha=>qn ha 45 (tn rfl) fun a ha=>qn ha 45 (tn rfl) fun a ha=>qn ha 45 (tn rfl) fun a ha=>qn ha 45 (tn rfl) fun a ha=>qn ha 45 (tn rfl) fun a ha=>qu ha 50 fun a ha=>qu ha 50 fun a ha=>qu ha 50 fun a ha=>qu ha 50 fun a ha=>qn ha 45 (tn rfl) fun a ha=>q ha (d_pick_t ha rfl rfl rfl) fun a ha=>s_nil<|?_
    have hS : Has 79 [(56,(.bool true)),(0,(Sl.v a0))] _:=ha.sub ⟨rfl,rfl,trivial⟩
    cases h
    exact hk4 _ hS
   ·refine qg ha 15 (nt b10) (d_move ha rfl) fun a ha=>?_
    obtain ⟨p11,e12,h⟩:=bs1 h
    refine qg ha 15 (nt b10) (d_ix ha rfl rfl Try.runUnderlying72 Try.sizeOf5 e12) fun a ha=>?_
    obtain ⟨v13,e14,h⟩:=bs1 h
    refine qg ha 15 (nt b10) (d_ld ha rfl Try.isAgg5 (ldI_c e14)) fun a ha=>qg ha 15 (nt b10) (d_ne ha rfl rfl) fun a ha=>q ha (d_pick_f ha rfl b10 rfl) fun a ha=>qm ha rfl fun a ha=>?_
    refine ite_s h (fun b15 h=>?_) (fun b15 h=>?_)
    ·refine qn ha 21 (tn b15) fun a ha=>qn ha 21 (tn b15) fun a ha=>qn ha 21 (tn b15) fun a ha=>qn ha 21 (tn b15) fun a ha=>q ha (d_pick_t ha rfl b15 rfl) fun a ha=>qm ha rfl fun a ha=>qn ha 27 (tn rfl) fun a ha=>qn ha 27 (tn rfl) fun a ha=>qn ha 27 (tn rfl) fun a ha=>qn ha 27 (tn rfl) fun a ha=>q ha (d_pick_t ha rfl rfl rfl) fun a ha=>qm ha rfl fun a ha=>qn ha 33 (tn rfl) fun a ha=>qn ha 33 (tn rfl) fun a ha=>qn ha 33 (tn rfl) fun a ha=>qn ha 33 (tn rfl) fun a ha=>q ha (d_pick_t ha rfl rfl rfl) fun a ha=>qm ha rfl fun a ha=>qn ha 39 (tn rfl) fun a ha=>qn ha 39 (tn rfl) fun a ha=>qn ha 39 (tn rfl) fun a ha=>qn ha 39 (tn rfl) fun a ha=>q ha (d_pick_t ha rfl rfl rfl) fun a ha=>qm ha rfl fun a ha=>qn ha 45 (tn rfl) fun a ha=>qn ha 45 (tn rfl) fun a ha=>qn ha 45 (tn rfl) fun a ha=>qn ha 45 (tn rfl) fun a ha=>qn ha 45 (tn rfl) fun a ha=>qu ha 50 fun a ha=>qu ha 50 fun a ha=>qu ha 50 fun a ha=>qu ha 50 fun a ha=>qn ha 45 (tn rfl) fun a ha=>q ha (d_pick_t ha rfl rfl rfl) fun a ha=>s_nil<|?_
     have hS : Has 79 [(56,(.bool true)),(0,(Sl.v a0))] _:=ha.sub ⟨rfl,rfl,trivial⟩
     cases h
     exact hk4 _ hS
    ·refine qg ha 21 (nt b15) (d_move ha rfl) fun a ha=>?_
     obtain ⟨p16,e17,h⟩:=bs1 h
     refine qg ha 21 (nt b15) (d_ix ha rfl rfl Try.runUnderlying72 Try.sizeOf5 e17) fun a ha=>?_
     obtain ⟨v18,e19,h⟩:=bs1 h
     refine qg ha 21 (nt b15) (d_ld ha rfl Try.isAgg5 (ldI_c e19)) fun a ha=>qg ha 21 (nt b15) (d_lt ha rfl rfl) fun a ha=>q ha (d_pick_f ha rfl b15 rfl) fun a ha=>qm ha rfl fun a ha=>?_
     refine ite_s h (fun b20 h=>?_) (fun b20 h=>?_)
     ·refine qn ha 27 (tn b20) fun a ha=>qn ha 27 (tn b20) fun a ha=>qn ha 27 (tn b20) fun a ha=>qn ha 27 (tn b20) fun a ha=>q ha (d_pick_t ha rfl b20 rfl) fun a ha=>qm ha rfl fun a ha=>qn ha 33 (tn rfl) fun a ha=>qn ha 33 (tn rfl) fun a ha=>qn ha 33 (tn rfl) fun a ha=>qn ha 33 (tn rfl) fun a ha=>q ha (d_pick_t ha rfl rfl rfl) fun a ha=>qm ha rfl fun a ha=>qn ha 39 (tn rfl) fun a ha=>qn ha 39 (tn rfl) fun a ha=>qn ha 39 (tn rfl) fun a ha=>qn ha 39 (tn rfl) fun a ha=>q ha (d_pick_t ha rfl rfl rfl) fun a ha=>qm ha rfl fun a ha=>qn ha 45 (tn rfl) fun a ha=>qn ha 45 (tn rfl) fun a ha=>qn ha 45 (tn rfl) fun a ha=>qn ha 45 (tn rfl) fun a ha=>qn ha 45 (tn rfl) fun a ha=>qu ha 50 fun a ha=>qu ha 50 fun a ha=>qu ha 50 fun a ha=>qu ha 50 fun a ha=>qn ha 45 (tn rfl) fun a ha=>q ha (d_pick_t ha rfl rfl rfl) fun a ha=>s_nil<|?_
      have hS : Has 79 [(56,(.bool true)),(0,(Sl.v a0))] _:=ha.sub ⟨rfl,rfl,trivial⟩
      cases h
      exact hk4 _ hS
     ·refine qg ha 27 (nt b20) (d_move ha rfl) fun a ha=>?_
      obtain ⟨p21,e22,h⟩:=bs1 h
      refine qg ha 27 (nt b20) (d_ix ha rfl rfl Try.runUnderlying72 Try.sizeOf5 e22) fun a ha=>?_
      obtain ⟨v23,e24,h⟩:=bs1 h
      refine qg ha 27 (nt b20) (d_ld ha rfl Try.isAgg5 (ldI_c e24)) fun a ha=>qg ha 27 (nt b20) (d_gt ha rfl rfl) fun a ha=>q ha (d_pick_f ha rfl b20 rfl) fun a ha=>qm ha rfl fun a ha=>?_
      refine ite_s h (fun b25 h=>?_) (fun b25 h=>?_)
      ·refine qn ha 33 (tn b25) fun a ha=>qn ha 33 (tn b25) fun a ha=>qn ha 33 (tn b25) fun a ha=>qn ha 33 (tn b25) fun a ha=>q ha (d_pick_t ha rfl b25 rfl) fun a ha=>qm ha rfl fun a ha=>qn ha 39 (tn rfl) fun a ha=>qn ha 39 (tn rfl) fun a ha=>qn ha 39 (tn rfl) fun a ha=>qn ha 39 (tn rfl) fun a ha=>q ha (d_pick_t ha rfl rfl rfl) fun a ha=>qm ha rfl fun a ha=>qn ha 45 (tn rfl) fun a ha=>qn ha 45 (tn rfl) fun a ha=>qn ha 45 (tn rfl) fun a ha=>qn ha 45 (tn rfl) fun a ha=>qn ha 45 (tn rfl) fun a ha=>qu ha 50 fun a ha=>qu ha 50 fun a ha=>qu ha 50 fun a ha=>qu ha 50 fun a ha=>qn ha 45 (tn rfl) fun a ha=>q ha (d_pick_t ha rfl rfl rfl) fun a ha=>s_nil<|?_
       have hS : Has 79 [(56,(.bool true)),(0,(Sl.v a0))] _:=ha.sub ⟨rfl,rfl,trivial⟩
       cases h
       exact hk4 _ hS
      ·refine qg ha 33 (nt b25) (d_move ha rfl) fun a ha=>?_
       obtain ⟨p26,e27,h⟩:=bs1 h
       refine qg ha 33 (nt b25) (d_ix ha rfl rfl Try.runUnderlying72 Try.sizeOf5 e27) fun a ha=>?_
       obtain ⟨v28,e29,h⟩:=bs1 h
       refine qg ha 33 (nt b25) (d_ld ha rfl Try.isAgg5 (ldI_c e29)) fun a ha=>qg ha 33 (nt b25) (d_gt ha rfl rfl) fun a ha=>q ha (d_pick_f ha rfl b25 rfl) fun a ha=>qm ha rfl fun a ha=>?_
       refine ite_s h (fun b30 h=>?_) (fun b30 h=>?_)
       ·refine qn ha 39 (tn b30) fun a ha=>qn ha 39 (tn b30) fun a ha=>qn ha 39 (tn b30) fun a ha=>qn ha 39 (tn b30) fun a ha=>q ha (d_pick_t ha rfl b30 rfl) fun a ha=>qm ha rfl fun a ha=>qn ha 45 (tn rfl) fun a ha=>qn ha 45 (tn rfl) fun a ha=>qn ha 45 (tn rfl) fun a ha=>qn ha 45 (tn rfl) fun a ha=>qn ha 45 (tn rfl) fun a ha=>qu ha 50 fun a ha=>qu ha 50 fun a ha=>qu ha 50 fun a ha=>qu ha 50 fun a ha=>qn ha 45 (tn rfl) fun a ha=>q ha (d_pick_t ha rfl rfl rfl) fun a ha=>s_nil<|?_
        have hS : Has 79 [(56,(.bool true)),(0,(Sl.v a0))] _:=ha.sub ⟨rfl,rfl,trivial⟩
        cases h
        exact hk4 _ hS
       ·refine qg ha 39 (nt b30) (d_move ha rfl) fun a ha=>?_
        obtain ⟨p31,e32,h⟩:=bs1 h
        refine qg ha 39 (nt b30) (d_ix ha rfl rfl Try.runUnderlying72 Try.sizeOf5 e32) fun a ha=>?_
        obtain ⟨v33,e34,h⟩:=bs1 h
        refine qg ha 39 (nt b30) (d_ld ha rfl Try.isAgg5 (ldI_c e34)) fun a ha=>qg ha 39 (nt b30) (d_gt ha rfl rfl) fun a ha=>q ha (d_pick_f ha rfl b30 rfl) fun a ha=>qm ha rfl fun a ha=>?_
        refine ite_s h (fun b35 h=>?_) (fun b35 h=>?_)
        ·refine qn ha 45 (tn b35) fun a ha=>qn ha 45 (tn b35) fun a ha=>qn ha 45 (tn b35) fun a ha=>qn ha 45 (tn b35) fun a ha=>qn ha 45 (tn b35) fun a ha=>qu ha 50 fun a ha=>qu ha 50 fun a ha=>qu ha 50 fun a ha=>qu ha 50 fun a ha=>qn ha 45 (tn b35) fun a ha=>q ha (d_pick_t ha rfl b35 rfl) fun a ha=>s_nil<|?_
         have hS : Has 79 [(56,(.bool true)),(0,(Sl.v a0))] _:=ha.sub ⟨rfl,rfl,trivial⟩
         cases h
         exact hk4 _ hS
        ·refine qg ha 45 (nt b35) (d_move ha rfl) fun a ha=>?_
         obtain ⟨p36,e37,h⟩:=bs1 h
         refine qg ha 45 (nt b35) (d_ix ha rfl rfl Try.runUnderlying72 Try.sizeOf5 e37) fun a ha=>?_
         obtain ⟨v38,e39,h⟩:=bs1 h
         refine qg ha 45 (nt b35) (d_ld ha rfl Try.isAgg5 (ldI_c e39)) fun a ha=>qg ha 45 (nt b35) (d_eq ha rfl rfl) fun a ha=>qg ha 45 (nt b35) (d_move ha rfl) fun a ha=>?_
         refine ite_s h (fun b40 h=>?_) (fun b40 h=>?_)
         ·refine qg ha 50 b40 (d_move ha rfl) fun a ha=>?_
          obtain ⟨p41,e42,h⟩:=bs1 h
          refine qg ha 50 b40 (d_ix ha rfl rfl Try.runUnderlying72 Try.sizeOf5 e42) fun a ha=>?_
          obtain ⟨v43,e44,h⟩:=bs1 h
          refine qg ha 50 b40 (d_ld ha rfl Try.isAgg5 (ldI_c e44)) fun a ha=>qg ha 50 b40 (d_ne ha rfl rfl) fun a ha=>qg ha 45 (nt b35) (d_pick_t ha rfl b40 rfl) fun a ha=>q ha (d_pick_f ha rfl b35 rfl) fun a ha=>s_nil<|?_
          have hS : Has 79 [(56,(.bool (v43 != 59))),(0,(Sl.v a0))] _:=ha.sub ⟨rfl,rfl,trivial⟩
          cases h
          exact hk4 _ hS
         ·refine qn ha 50 (nn b40 _ rfl) fun a ha=>qn ha 50 (nn b40 _ rfl) fun a ha=>qn ha 50 (nn b40 _ rfl) fun a ha=>qn ha 50 (nn b40 _ rfl) fun a ha=>qg ha 45 (nt b35) (d_pick_f ha rfl b40 rfl) fun a ha=>q ha (d_pick_f ha rfl b35 rfl) fun a ha=>s_nil<|?_
          have hS : Has 79 [(56,(.bool false)),(0,(Sl.v a0))] _:=ha.sub ⟨rfl,rfl,trivial⟩
          cases h
          exact hk4 _ hS
noncomputable def evlog_Log_header (a0 : Option Addr) (a1 : Int) (w : World) : Option ((List Value)×Bool×World) :=
 bind2 (mk w 125 (List.replicate 4 (.int .i64 0) ++ [.slice none 0 0])) fun p1 w2 =>
 bind2 (evlog_Log_look a0 a1 0 w2) fun v4 w5 =>
 bind4 (evlog_good v4 w5) fun v7 v8 v9 w10 =>
 bind2 (if (v7 != 1) = true then
 (some (true,w10))
 else
 (if (!v9) = true then
 (some (true,w10))
 else
 (some (((v8.n : Int) != 16),w10)))) fun v12 w13 =>
 if v12 = true then
 ((stA w13 p1 0 (List.replicate 4 (.int .i64 0) ++ [.slice none 0 0])).bind fun w19 =>
 (ldA 5 w19 p1 0).bind fun v21 =>
 some (v21,false,w19))
 else
 (bind4 (octet_TakeKey v8 0 w13) fun v23 v24 v25 w26 =>
 bind4 (octet_TakeKey v8 8 w26) fun v28 v29 v30 w31 =>
 bind2 (if (decide (v23 < 1)) = true then
 (some (true,w31))
 else
 (if (decide (4611686018427387904 < v23)) = true then
 (some (true,w31))
 else
 (if (decide (v28 < 0)) = true then
 (some (true,w31))
 else
 (some ((decide (1099511627776 < v28)),w31))))) fun v33 w34 =>
 if v33 = true then
 ((stA w34 p1 0 (List.replicate 4 (.int .i64 0) ++ [.slice none 0 0])).bind fun w41 =>
 (ldA 5 w41 p1 0).bind fun v43 =>
 some (v43,false,w41))
 else
 ((stA w34 p1 0 ([.int .i64 a1,.int .i64 v23,.int .i64 1,.int .i64 v28,.slice none 0 0])).bind fun w45 =>
 (ldA 5 w45 p1 0).bind fun v47 =>
 some (v47,true,w45)))
set_option maxHeartbeats 1000000 in
set_option maxRecDepth 100000 in
theorem evlog_Log_header_ok {a0 : Option Addr} {a1 : Int} {w w' : World} {r0 : List Value} {r1 : Bool} (h : evlog_Log_header a0 a1 w = some (r0,r1,w')) : Calls Try.prog 105 #[(.pointer a0),(.int .i64 a1)] w fun e w''=>e = .returned (.tuple #[(.agg (List.toArray r0)),(.bool r1)])∧w'' = w':=by
 refine calls_dec (n:=66) Try.func105 rfl Try.ntmps105 (by simp) fun a ha=>?_
 unfold evlog_Log_header at h
 refine wp_seq<|region_lit<|?_
 obtain ⟨p1,w2,e3,h⟩:=bs2 h
 refine q ha (d_alloc Try.zeroValue125 (by kernel_rfl) e3) fun a ha=>qa ha rfl fun a ha=>s_nil<|t_n<|wp_seq<|region_lit<|qm ha rfl fun a ha=>qm ha rfl fun a ha=>?_
 obtain ⟨v4,w5,e6,h⟩:=bs2 h
 refine q ha (d_call (xs:=[_,_,_]) (vs:=[(.pointer a0),(.int .i64 a1),(.int .i64 0)]) ha ⟨rfl,rfl,rfl,trivial⟩ Try.call111 (evlog_Log_look_ok e6)) fun a ha=>?_
 obtain ⟨v7,v8,v9,w10,e11,h⟩:=bs4 h
 refine q ha (d_call (xs:=[_]) (vs:=[(Sl.v v4)]) ha ⟨rfl,trivial⟩ Try.call140 (evlog_good_ok e11)) fun a ha=>qm ha rfl fun a ha=>q ha (d_ext ha rfl rfl) fun a ha=>q ha (d_ext ha rfl rfl) fun a ha=>q ha (d_ext ha rfl rfl) fun a ha=>qa ha rfl fun a ha=>qa ha rfl fun a ha=>qa ha rfl fun a ha=>s_nil<|t_n<|wp_seq<|wp_seq<|?_
 obtain ⟨v12,w13,e14,h⟩:=bs2 h
 refine reg_join (n:=66) (L:=[(33,(.bool v12)),(1,(.int .i64 a1)),(4,(.pointer (some p1))),(7,(Sl.v v8))]) (w':=w13) (fun a ha=>?_) (fun hk15=>?_)
 ·refine t_n<|?_
  refine s_cond ha rfl h (fun b18 h=>?_) (fun b18 h=>?_)
  ·refine wp_seq<|region_lit<|q ha (d_build (vs:=[]) (pl:=#[(0,1),(1,1),(2,1),(3,1),(4,1)]) (cs:=(List.replicate 4 (.int .i64 0) ++ [.slice none 0 0])) ha trivial Try.zeroValue125 Try.runUnderlying125 (by intro w; kernel_rfl) (by kernel_rfl)) fun a ha=>?_
   obtain ⟨w19,e20,h⟩:=bs1 h
   refine q ha (d_stA ha rfl rfl Try.sizeOf125 rfl e20) fun a ha=>qa ha rfl fun a ha=>s_nil<|t_n<|wp_ret<|t_r<|?_
   obtain ⟨v21,e22,h⟩:=bs1 h
   have hS:=ha
   cases h
   exact retG (vs:=[_,_]) Try.results105 hS ⟨⟨_,rfl,lv_A Try.isAgg125 Try.sizeOf125 e22⟩,rfl,trivial⟩ ⟨rfl,rfl⟩
  ·refine wp_skip<|t_n<|wp_seq<|region_lit<|qm ha rfl fun a ha=>?_
   obtain ⟨v23,v24,v25,w26,e27,h⟩:=bs4 h
   refine q ha (d_call (xs:=[_,_]) (vs:=[(Sl.v v8),(.int .i64 0)]) ha ⟨rfl,rfl,trivial⟩ Try.call141 (octet_TakeKey_ok e27)) fun a ha=>qm ha rfl fun a ha=>q ha (d_ext ha rfl rfl) fun a ha=>q ha (d_ext ha rfl rfl) fun a ha=>q ha (d_ext ha rfl rfl) fun a ha=>qa ha rfl fun a ha=>qa ha rfl fun a ha=>qa ha rfl fun a ha=>s_nil<|t_n<|wp_seq<|region_lit<|qm ha rfl fun a ha=>?_
   obtain ⟨v28,v29,v30,w31,e32,h⟩:=bs4 h
   refine q ha (d_call (xs:=[_,_]) (vs:=[(Sl.v v8),(.int .i64 8)]) ha ⟨rfl,rfl,trivial⟩ Try.call141 (octet_TakeKey_ok e32)) fun a ha=>qm ha rfl fun a ha=>q ha (d_ext ha rfl rfl) fun a ha=>q ha (d_ext ha rfl rfl) fun a ha=>q ha (d_ext ha rfl rfl) fun a ha=>qa ha rfl fun a ha=>qa ha rfl fun a ha=>qa ha rfl fun a ha=>s_nil<|t_n<|wp_seq<|wp_seq<|?_
   obtain ⟨v33,w34,e35,h⟩:=bs2 h
   refine reg_join (n:=66) (L:=[(60,(.bool v33)),(1,(.int .i64 a1)),(4,(.pointer (some p1))),(9,(.int .i64 v23)),(12,(.int .i64 v28))]) (w':=w34) (fun a ha=>?_) (fun hk36=>?_)
   ·refine t_n<|?_
    refine s_cond ha rfl h (fun b40 h=>?_) (fun b40 h=>?_)
    ·refine wp_seq<|region_lit<|q ha (d_build (vs:=[]) (pl:=#[(0,1),(1,1),(2,1),(3,1),(4,1)]) (cs:=(List.replicate 4 (.int .i64 0) ++ [.slice none 0 0])) ha trivial Try.zeroValue125 Try.runUnderlying125 (by intro w; kernel_rfl) (by kernel_rfl)) fun a ha=>?_
     obtain ⟨w41,e42,h⟩:=bs1 h
     refine q ha (d_stA ha rfl rfl Try.sizeOf125 rfl e42) fun a ha=>qa ha rfl fun a ha=>s_nil<|t_n<|wp_ret<|t_r<|?_
     obtain ⟨v43,e44,h⟩:=bs1 h
     have hS:=ha
     cases h
     exact retG (vs:=[_,_]) Try.results105 hS ⟨⟨_,rfl,lv_A Try.isAgg125 Try.sizeOf125 e44⟩,rfl,trivial⟩ ⟨rfl,rfl⟩
    ·refine wp_skip<|t_n<|wp_seq<|region_lit<|qm ha rfl fun a ha=>qm ha rfl fun a ha=>qm ha rfl fun a ha=>q ha (d_build (vs:=[(0,(.int .i64 a1)),(1,(.int .i64 v23)),(2,(.int .i64 1)),(3,(.int .i64 v28))]) (pl:=#[(0,1),(1,1),(2,1),(3,1),(4,1)]) (cs:=([.int .i64 a1,.int .i64 v23,.int .i64 1,.int .i64 v28,.slice none 0 0])) ha ⟨rfl,rfl,rfl,rfl,rfl,rfl,rfl,rfl,trivial⟩ Try.zeroValue125 Try.runUnderlying125 (by intro w; kernel_rfl) (by kernel_rfl)) fun a ha=>?_
     obtain ⟨w45,e46,h⟩:=bs1 h
     refine q ha (d_stA ha rfl rfl Try.sizeOf125 rfl e46) fun a ha=>qa ha rfl fun a ha=>s_nil<|t_n<|wp_ret<|?_
     obtain ⟨v47,e48,h⟩:=bs1 h
     have hS:=ha
     cases h
     exact retG (vs:=[_,_]) Try.results105 hS ⟨⟨_,rfl,lv_A Try.isAgg125 Try.sizeOf125 e48⟩,rfl,trivial⟩ ⟨rfl,rfl⟩
   ·clear h
    have h:=e35
    refine region_lit<|qm ha rfl fun a ha=>q ha (d_lt ha rfl rfl) fun a ha=>qm ha rfl fun a ha=>?_
    refine ite_s h (fun b37 h=>?_) (fun b37 h=>?_)
    ·refine qn ha 49 (tn b37) fun a ha=>qn ha 49 (tn b37) fun a ha=>q ha (d_pick_t ha rfl b37 rfl) fun a ha=>qm ha rfl fun a ha=>qn ha 53 (tn rfl) fun a ha=>qn ha 53 (tn rfl) fun a ha=>q ha (d_pick_t ha rfl rfl rfl) fun a ha=>qm ha rfl fun a ha=>qn ha 57 (tn rfl) fun a ha=>qn ha 57 (tn rfl) fun a ha=>q ha (d_pick_t ha rfl rfl rfl) fun a ha=>s_nil<|?_
     have hS : Has 66 [(60,(.bool true)),(1,(.int .i64 a1)),(4,(.pointer (some p1))),(9,(.int .i64 v23)),(12,(.int .i64 v28))] _:=ha.sub ⟨rfl,rfl,rfl,rfl,rfl,trivial⟩
     cases h
     exact hk36 _ hS
    ·refine qg ha 49 (nt b37) (d_move ha rfl) fun a ha=>qg ha 49 (nt b37) (d_gt ha rfl rfl) fun a ha=>q ha (d_pick_f ha rfl b37 rfl) fun a ha=>qm ha rfl fun a ha=>?_
     refine ite_s h (fun b38 h=>?_) (fun b38 h=>?_)
     ·refine qn ha 53 (tn b38) fun a ha=>qn ha 53 (tn b38) fun a ha=>q ha (d_pick_t ha rfl b38 rfl) fun a ha=>qm ha rfl fun a ha=>qn ha 57 (tn rfl) fun a ha=>qn ha 57 (tn rfl) fun a ha=>q ha (d_pick_t ha rfl rfl rfl) fun a ha=>s_nil<|?_
      have hS : Has 66 [(60,(.bool true)),(1,(.int .i64 a1)),(4,(.pointer (some p1))),(9,(.int .i64 v23)),(12,(.int .i64 v28))] _:=ha.sub ⟨rfl,rfl,rfl,rfl,rfl,trivial⟩
      cases h
      exact hk36 _ hS
     ·refine qg ha 53 (nt b38) (d_move ha rfl) fun a ha=>qg ha 53 (nt b38) (d_lt ha rfl rfl) fun a ha=>q ha (d_pick_f ha rfl b38 rfl) fun a ha=>qm ha rfl fun a ha=>?_
      refine ite_s h (fun b39 h=>?_) (fun b39 h=>?_)
      ·refine qn ha 57 (tn b39) fun a ha=>qn ha 57 (tn b39) fun a ha=>q ha (d_pick_t ha rfl b39 rfl) fun a ha=>s_nil<|?_
       have hS : Has 66 [(60,(.bool true)),(1,(.int .i64 a1)),(4,(.pointer (some p1))),(9,(.int .i64 v23)),(12,(.int .i64 v28))] _:=ha.sub ⟨rfl,rfl,rfl,rfl,rfl,trivial⟩
       cases h
       exact hk36 _ hS
      ·refine qg ha 57 (nt b39) (d_move ha rfl) fun a ha=>qg ha 57 (nt b39) (d_gt ha rfl rfl) fun a ha=>q ha (d_pick_f ha rfl b39 rfl) fun a ha=>s_nil<|?_
       have hS : Has 66 [(60,(.bool (decide (1099511627776 < v28)))),(1,(.int .i64 a1)),(4,(.pointer (some p1))),(9,(.int .i64 v23)),(12,(.int .i64 v28))] _:=ha.sub ⟨rfl,rfl,rfl,rfl,rfl,trivial⟩
       cases h
       exact hk36 _ hS
 ·clear h
  have h:=e14
  refine region_lit<|qm ha rfl fun a ha=>q ha (d_ne ha rfl rfl) fun a ha=>qm ha rfl fun a ha=>?_
  refine ite_s h (fun b16 h=>?_) (fun b16 h=>?_)
  ·refine qn ha 25 (tn b16) fun a ha=>qn ha 25 (tn b16) fun a ha=>q ha (d_pick_t ha rfl b16 rfl) fun a ha=>qm ha rfl fun a ha=>qn ha 29 (tn rfl) fun a ha=>qn ha 29 (tn rfl) fun a ha=>qn ha 29 (tn rfl) fun a ha=>q ha (d_pick_t ha rfl rfl rfl) fun a ha=>s_nil<|?_
   have hS : Has 66 [(33,(.bool true)),(1,(.int .i64 a1)),(4,(.pointer (some p1))),(7,(Sl.v v8))] _:=ha.sub ⟨rfl,rfl,rfl,rfl,trivial⟩
   cases h
   exact hk15 _ hS
  ·refine qg ha 25 (nt b16) (d_move ha rfl) fun a ha=>qg ha 25 (nt b16) (d_not ha rfl) fun a ha=>q ha (d_pick_f ha rfl b16 rfl) fun a ha=>qm ha rfl fun a ha=>?_
   refine ite_s h (fun b17 h=>?_) (fun b17 h=>?_)
   ·refine qn ha 29 (tn b17) fun a ha=>qn ha 29 (tn b17) fun a ha=>qn ha 29 (tn b17) fun a ha=>q ha (d_pick_t ha rfl b17 rfl) fun a ha=>s_nil<|?_
    have hS : Has 66 [(33,(.bool true)),(1,(.int .i64 a1)),(4,(.pointer (some p1))),(7,(Sl.v v8))] _:=ha.sub ⟨rfl,rfl,rfl,rfl,trivial⟩
    cases h
    exact hk15 _ hS
   ·refine qg ha 29 (nt b17) (d_move ha rfl) fun a ha=>qg ha 29 (nt b17) (d_lenS ha rfl Try.runUnderlying72) fun a ha=>qg ha 29 (nt b17) (d_ne ha rfl rfl) fun a ha=>q ha (d_pick_f ha rfl b17 rfl) fun a ha=>s_nil<|?_
    have hS : Has 66 [(33,(.bool ((v8.n : Int) != 16))),(1,(.int .i64 a1)),(4,(.pointer (some p1))),(7,(Sl.v v8))] _:=ha.sub ⟨rfl,rfl,rfl,rfl,trivial⟩
    cases h
    exact hk15 _ hS
noncomputable def evlog_Log_read_1 (a0 : List Value) (a1 : List Value) (w : World) : Option (Int×World) :=
 bind2 (mk w 125 a0) fun p1 w2 =>
 bind2 (mk w2 125 a1) fun p4 w5 =>
 (ldI .i64 w5 (p1.add 1)).bind fun v7 =>
 (ldI .i64 w5 (p4.add 1)).bind fun v9 =>
 some ((IntKind.wrap .i64 (v7 - v9)),w5)
set_option maxHeartbeats 1000000 in
set_option maxRecDepth 100000 in
theorem evlog_Log_read_1_ok {a0 : List Value} {a1 : List Value} {w w' : World} {r0 : Int} (h : evlog_Log_read_1 a0 a1 w = some (r0,w')) : Calls Try.prog 107 #[(.agg (List.toArray a0)),(.agg (List.toArray a1))] w fun e w''=>e = .returned (.int .i64 r0)∧w'' = w':=by
 refine calls_dec (n:=10) Try.func107 rfl Try.ntmps107 (by simp) fun a ha=>?_
 unfold evlog_Log_read_1 at h
 refine wp_seq<|region_lit<|?_
 obtain ⟨p1,w2,e3,h⟩:=bs2 h
 refine q ha (d_box ha rfl rfl e3) fun a ha=>?_
 obtain ⟨p4,w5,e6,h⟩:=bs2 h
 refine q ha (d_box ha rfl rfl e6) fun a ha=>qa ha rfl fun a ha=>s_nil<|t_n<|wp_seq<|region_lit<|q ha (d_fa ha rfl Try.runUnderlying125 rfl rfl Try.sizeOf3 (by decide)) fun a ha=>?_
 obtain ⟨v7,e8,h⟩:=bs1 h
 refine q ha (d_ld ha rfl Try.isAgg3 (ldI_c e8)) fun a ha=>q ha (d_fa ha rfl Try.runUnderlying125 rfl rfl Try.sizeOf3 (by decide)) fun a ha=>?_
 obtain ⟨v9,e10,h⟩:=bs1 h
 refine q ha (d_ld ha rfl Try.isAgg3 (ldI_c e10)) fun a ha=>q ha (d_sub ha rfl rfl) fun a ha=>qa ha rfl fun a ha=>s_nil<|t_n<|wp_ret<|?_
 have hS:=ha
 cases h
 exact ret1 Try.results107 hS rfl ⟨rfl,rfl⟩
noncomputable def slices_insertionSortCmpFunc_evlog_seg_107_l2 (a1 : Int) (a0 : Sl) (x9 : Int) (w10 : World) : Option ((Int×World)⊕(World)) :=
 bind2 ((dr w10).bind fun w20 =>
 if (decide (a1 < x9)) = true then
 ((ix a0 x9 5).bind fun p23 =>
 (ldA 5 w20 p23 0).bind fun c25 =>
 (ix a0 (IntKind.wrap .i64 (x9 - 1)) 5).bind fun p27 =>
 (ldA 5 w20 p27 0).bind fun c29 =>
 bind2 (evlog_Log_read_1 c25 c29 w20) fun v31 w32 =>
 some ((decide (v31 < 0)),w32))
 else
 (some (false,w20))) fun v16 w17 =>
 if v16 = true then
 ((dr w17).bind fun w35 =>
 (ix a0 (IntKind.wrap .i64 (x9 - 1)) 5).bind fun p37 =>
 (ldA 5 w35 p37 0).bind fun c39 =>
 (ix a0 x9 5).bind fun p41 =>
 (ldA 5 w35 p41 0).bind fun c43 =>
 (ix a0 x9 5).bind fun p45 =>
 (stA w35 p45 0 c39).bind fun w47 =>
 (ix a0 (IntKind.wrap .i64 (x9 - 1)) 5).bind fun p49 =>
 (stA w47 p49 0 c43).bind fun w51 =>
 some (.inl ((IntKind.wrap .i64 (x9 - 1)),w51)))
 else
 (some (.inr w17))
noncomputable def slices_insertionSortCmpFunc_evlog_seg_107_l1 (a2 : Int) (a1 : Int) (a0 : Sl) (x1 : Int) (w2 : World) : Option ((Int×World)⊕(World)) :=
 if (decide (x1 < a2)) = true then
 ((loopF (fun s : Int×World=>slices_insertionSortCmpFunc_evlog_seg_107_l2 a1 a0 s.1 s.2) (x1,w2)).bind fun w13 =>
 some (.inl ((IntKind.wrap .i64 (x1 + 1)),w13)))
 else
 (some (.inr w2))
noncomputable def slices_insertionSortCmpFunc_evlog_seg_107 (a0 : Sl) (a1 : Int) (a2 : Int) (w : World) : Option (World) :=
 (loopF (fun s : Int×World=>slices_insertionSortCmpFunc_evlog_seg_107_l1 a2 a1 a0 s.1 s.2) ((IntKind.wrap .i64 (a1 + 1)),w)).bind fun w5 =>
 some w5
set_option maxHeartbeats 1000000 in
set_option maxRecDepth 100000 in
theorem slices_insertionSortCmpFunc_evlog_seg_107_ok {a0 : Sl} {a1 : Int} {a2 : Int} {w w' : World} (h : slices_insertionSortCmpFunc_evlog_seg_107 a0 a1 a2 w = some w') : Calls Try.prog 155 #[(Sl.v a0),(.int .i64 a1),(.int .i64 a2),(.func (.func 107) #[] #[])] w fun e w''=>e = .returned (.tuple #[])∧w'' = w':=by
 refine calls_dec (n:=53) Try.func155 rfl Try.ntmps155 (by simp) fun a ha=>?_
 unfold slices_insertionSortCmpFunc_evlog_seg_107 at h
 refine wp_seq<|region_lit<|qm ha rfl fun a ha=>q ha (d_add ha rfl rfl) fun a ha=>qa ha rfl fun a ha=>s_nil<|t_n<|wp_block<|?_
 obtain ⟨w5,e4,h⟩:=bs1 h
 refine s_loop1 (n:=53) (L:=[]) (w':=w5) (e:=.exit 0) (I:=fun (s : Int×World) a w=>Has 53 [(8,(.int .i64 s.1)),(0,(Sl.v a0)),(1,(.int .i64 a1)),(2,(.int .i64 a2)),(3,(.func (.func 107) #[] #[]))] a∧w = s.2) ⟨ha.sub ⟨rfl,rfl,rfl,rfl,rfl,trivial⟩,rfl⟩ e4 (fun a ha=>?_) (fun hk6=>?_)
 ·refine b_hit<|?_
  have hS:=ha
  cases h
  exact end0 Try.results155 hS ⟨rfl,rfl⟩
 ·clear h
  rintro ⟨x1,w2⟩ a wq o ⟨ha,hwq⟩ h hr7
  obtain rfl : w2 = wq:=hwq.symm
  have ha : Has 53 [(8,(.int .i64 x1)),(0,(Sl.v a0)),(1,(.int .i64 a1)),(2,(.int .i64 a2)),(3,(.func (.func 107) #[] #[]))] a:=ha
  have h : slices_insertionSortCmpFunc_evlog_seg_107_l1 a2 a1 a0 x1 w2 = some o:=h
  unfold slices_insertionSortCmpFunc_evlog_seg_107_l1 at h
  refine wp_seq<|wp_seq<|region_lit<|qm ha rfl fun a ha=>qm ha rfl fun a ha=>q ha (d_lt ha rfl rfl) fun a ha=>s_nil<|t_n<|?_
  refine s_cond ha rfl h (fun b8 h=>?_) (fun b8 h=>?_)
  ·refine wp_skip<|t_n<|wp_seq<|wp_block<|wp_seq<|region_lit<|qm ha rfl fun a ha=>qa ha rfl fun a ha=>s_nil<|t_n<|wp_block<|?_
   obtain ⟨w13,e12,h⟩:=bs1 h
   refine s_loop1 (n:=53) (L:=[(0,(Sl.v a0)),(1,(.int .i64 a1)),(2,(.int .i64 a2)),(3,(.func (.func 107) #[] #[])),(8,(.int .i64 x1))]) (w':=w13) (e:=.exit 2) (I:=fun (s : Int×World) a w=>Has 53 [(9,(.int .i64 s.1)),(0,(Sl.v a0)),(1,(.int .i64 a1)),(2,(.int .i64 a2)),(3,(.func (.func 107) #[] #[])),(8,(.int .i64 x1))] a∧w = s.2) ⟨ha.sub ⟨rfl,rfl,rfl,rfl,rfl,rfl,trivial⟩,rfl⟩ e12 (fun a ha=>?_) (fun hk14=>?_)
   ·refine b_hit<|b_n<|t_n<|region_lit<|qm ha rfl fun a ha=>q ha (d_add ha rfl rfl) fun a ha=>qa ha rfl fun a ha=>s_nil<|?_
    have hS : Has 53 [(8,(.int .i64 (IntKind.wrap .i64 (x1 + 1)))),(0,(Sl.v a0)),(1,(.int .i64 a1)),(2,(.int .i64 a2)),(3,(.func (.func 107) #[] #[]))] _:=ha.sub ⟨rfl,rfl,rfl,rfl,rfl,trivial⟩
    cases h
    exact lp_next ⟨hS,rfl⟩
   ·clear h
    rintro ⟨x9,w10⟩ a wq o ⟨ha,hwq⟩ h hr15
    obtain rfl : w10 = wq:=hwq.symm
    have ha : Has 53 [(9,(.int .i64 x9)),(0,(Sl.v a0)),(1,(.int .i64 a1)),(2,(.int .i64 a2)),(3,(.func (.func 107) #[] #[])),(8,(.int .i64 x1))] a:=ha
    have h : slices_insertionSortCmpFunc_evlog_seg_107_l2 a1 a0 x9 w10 = some o:=h
    unfold slices_insertionSortCmpFunc_evlog_seg_107_l2 at h
    refine wp_seq<|wp_seq<|?_
    obtain ⟨v16,w17,e18,h⟩:=bs2 h
    refine reg_join (n:=53) (L:=[(34,(.bool v16)),(0,(Sl.v a0)),(1,(.int .i64 a1)),(2,(.int .i64 a2)),(3,(.func (.func 107) #[] #[])),(8,(.int .i64 x1)),(9,(.int .i64 x9))]) (w':=w17) (fun a ha=>?_) (fun hk19=>?_)
    ·refine t_n<|?_
     refine s_cond ha rfl h (fun b34 h=>?_) (fun b34 h=>?_)
     ·refine wp_skip<|t_n<|wp_seq<|wp_block<|?_
      obtain ⟨w35,e36,h⟩:=bs1 h
      obtain ⟨p37,e38,h⟩:=bs1 h
      obtain ⟨c39,e40,h⟩:=bs1 h
      obtain ⟨p41,e42,h⟩:=bs1 h
      obtain ⟨c43,e44,h⟩:=bs1 h
      obtain ⟨p45,e46,h⟩:=bs1 h
      obtain ⟨w47,e48,h⟩:=bs1 h
      obtain ⟨p49,e50,h⟩:=bs1 h
      obtain ⟨w51,e52,h⟩:=bs1 h
      have ha : Has 53 [(0,(Sl.v a0)),(1,(.int .i64 a1)),(2,(.int .i64 a2)),(3,(.func (.func 107) #[] #[])),(8,(.int .i64 x1)),(9,(.int .i64 x9))] a:=ha.sub ⟨rfl,rfl,rfl,rfl,rfl,rfl,trivial⟩
      refine region_draw (n:=53) (ds:=(⟨_,(Sl.v a0),false,0,0,[],[(0,(Sl.v a0))]⟩ :: ⟨_,(.int .i64 x9),false,0,0,[],[(9,(.int .i64 x9))]⟩ :: ⟨_,(Sl.v a0),false,0,1,[],[(0,(Sl.v a0))]⟩ :: ⟨_,(.int .i64 x9),false,0,1,[],[(9,(.int .i64 x9))]⟩ :: ⟨_,(.int .i64 (IntKind.wrap .i64 (x9 - 1))),false,0,1,[3],[(40,(.int .i64 x9))]⟩ :: ⟨_,(Sl.v a0),false,0,0,[],[(0,(Sl.v a0))]⟩ :: ⟨_,(.int .i64 x9),false,0,0,[],[(9,(.int .i64 x9))]⟩ :: ⟨_,(.int .i64 (IntKind.wrap .i64 (x9 - 1))),false,0,0,[6],[(43,(.int .i64 x9))]⟩ :: ⟨_,(.pointer (some p37)),false,0,0,[5,6,7],[(42,(Sl.v a0)),(44,(.int .i64 (IntKind.wrap .i64 (x9 - 1))))]⟩ :: ⟨_,(.agg (List.toArray c39)),false,0,0,(rn 5 4),[(45,(.pointer (some p37)))]⟩ :: ⟨_,(Sl.v a0),false,0,0,[],[(0,(Sl.v a0))]⟩ :: ⟨_,(.int .i64 x9),false,0,0,[],[(9,(.int .i64 x9))]⟩ :: ⟨_,(.pointer (some p41)),false,0,0,[10,11],[(47,(Sl.v a0)),(48,(.int .i64 x9))]⟩ :: ⟨_,(.agg (List.toArray c43)),false,0,0,[10,11,12],[(49,(.pointer (some p41)))]⟩ :: ⟨_,(.pointer (some p45)),false,0,0,([0,1] ++ rn 5 9),[(37,(Sl.v a0)),(38,(.int .i64 x9))]⟩ :: ⟨_,undef,true,0,0,([0,1] ++ rn 5 10),[(51,(.pointer (some p45))),(46,(.agg (List.toArray c39)))]⟩ :: ⟨_,(.pointer (some p49)),false,1,1,(rn 0 16),[(39,(Sl.v a0)),(41,(.int .i64 (IntKind.wrap .i64 (x9 - 1))))]⟩ :: ⟨_,undef,true,1,1,(rn 0 17),[(52,(.pointer (some p49))),(50,(.agg (List.toArray c43)))]⟩ :: [])) (W:=(fun j=>match j with | 0=>w35 | 1=>w47 | 2=>w51 | _=>w51)) (by kernel_rfl) ha (dr_w e36) (by kernel_rfl) ?_ (reads_of (by kernel_rfl)) (by kernel_rfl) (m:=2) (by kernel_rfl) (fun a ha=>?_)
      ·refine ⟨?_,?_,?_,?_,?_,?_,?_,?_,?_,?_,?_,?_,?_,?_,?_,?_,?_,?_,trivial⟩
       ·exact oa fun j a ha=>d_move ha rfl
       ·exact oa fun j a ha=>d_move ha rfl
       ·exact oa fun j a ha=>d_move ha rfl
       ·exact oa fun j a ha=>d_move ha rfl
       ·exact oa fun j a ha=>d_sub ha rfl rfl
       ·exact oa fun j a ha=>d_move ha rfl
       ·exact oa fun j a ha=>d_move ha rfl
       ·exact oa fun j a ha=>d_sub ha rfl rfl
       ·exact oa fun j a ha=>d_ix ha rfl rfl Try.runUnderlying117 Try.sizeOf125 e38
       ·exact oc 0 (ok_do rfl fun a ha=>d_ldA ha rfl Try.isAgg125 Try.sizeOf125 e40)
       ·exact oa fun j a ha=>d_move ha rfl
       ·exact oa fun j a ha=>d_move ha rfl
       ·exact oa fun j a ha=>d_ix ha rfl rfl Try.runUnderlying117 Try.sizeOf125 e42
       ·exact oc 0 (ok_do rfl fun a ha=>d_ldA ha rfl Try.isAgg125 Try.sizeOf125 e44)
       ·exact oa fun j a ha=>d_ix ha rfl rfl Try.runUnderlying117 Try.sizeOf125 e46
       ·exact oc 0 (ok_do rfl fun a ha=>d_stA ha rfl rfl Try.sizeOf125 ((ldA_c e40).1) e48)
       ·exact oa fun j a ha=>d_ix ha rfl rfl Try.runUnderlying117 Try.sizeOf125 e50
       ·exact oc 1 (ok_do rfl fun a ha=>d_stA ha rfl rfl Try.sizeOf125 ((ldA_c e44).1) e52)
      ·have ha : Has 53 [(0,(Sl.v a0)),(1,(.int .i64 a1)),(2,(.int .i64 a2)),(3,(.func (.func 107) #[] #[])),(8,(.int .i64 x1)),(9,(.int .i64 x9))] a:=ha.sub ⟨rfl,rfl,rfl,rfl,rfl,rfl,trivial⟩
       refine b_n<|t_n<|region_lit<|qm ha rfl fun a ha=>q ha (d_sub ha rfl rfl) fun a ha=>qa ha rfl fun a ha=>s_nil<|?_
       have hS : Has 53 [(9,(.int .i64 (IntKind.wrap .i64 (x9 - 1)))),(0,(Sl.v a0)),(1,(.int .i64 a1)),(2,(.int .i64 a2)),(3,(.func (.func 107) #[] #[])),(8,(.int .i64 x1))] _:=ha.sub ⟨rfl,rfl,rfl,rfl,rfl,rfl,trivial⟩
       cases h
       exact lp_next ⟨hS,rfl⟩
     ·refine wp_exit<|t_x<|?_
      have hS : Has 53 [(0,(Sl.v a0)),(1,(.int .i64 a1)),(2,(.int .i64 a2)),(3,(.func (.func 107) #[] #[])),(8,(.int .i64 x1))] _:=ha.sub ⟨rfl,rfl,rfl,rfl,rfl,trivial⟩
      cases h
      cases hr15 _ rfl
      refine lp_x<|?_
      exact hk14 _ hS
    ·clear h
     have h:=e18
     obtain ⟨w20,e21,h⟩:=bs1 h
     refine ite_s h (fun b22 h=>?_) (fun b22 h=>?_)
     ·obtain ⟨p23,e24,h⟩:=bs1 h
      obtain ⟨c25,e26,h⟩:=bs1 h
      obtain ⟨p27,e28,h⟩:=bs1 h
      obtain ⟨c29,e30,h⟩:=bs1 h
      obtain ⟨v31,w32,e33,h⟩:=bs2 h
      have ha : Has 53 [(0,(Sl.v a0)),(1,(.int .i64 a1)),(2,(.int .i64 a2)),(3,(.func (.func 107) #[] #[])),(8,(.int .i64 x1)),(9,(.int .i64 x9))] a:=ha.sub ⟨rfl,rfl,rfl,rfl,rfl,rfl,trivial⟩
      refine region_draw (n:=53) (ds:=(⟨_,(.int .i64 x9),false,0,0,[],[(9,(.int .i64 x9))]⟩ :: ⟨_,(.int .i64 a1),false,0,0,[],[(1,(.int .i64 a1))]⟩ :: ⟨_,(.bool (decide (a1 < x9))),false,0,0,[0,1],[(18,(.int .i64 x9)),(19,(.int .i64 a1))]⟩ :: ⟨_,(.bool (decide (a1 < x9))),false,0,0,[0,1,2],[(20,(.bool (decide (a1 < x9))))]⟩ :: ⟨_,(.func (.func 107) #[] #[]),false,0,0,(rn 0 4),[(3,(.func (.func 107) #[] #[])),(21,(.bool (decide (a1 < x9))))]⟩ :: ⟨_,(Sl.v a0),false,0,0,(rn 0 4),[(0,(Sl.v a0)),(21,(.bool (decide (a1 < x9))))]⟩ :: ⟨_,(.int .i64 x9),false,0,0,(rn 0 4),[(9,(.int .i64 x9)),(21,(.bool (decide (a1 < x9))))]⟩ :: ⟨_,(.pointer (some p23)),false,0,0,(rn 0 4 ++ [5,6]),[(23,(Sl.v a0)),(24,(.int .i64 x9)),(21,(.bool (decide (a1 < x9))))]⟩ :: ⟨_,(.agg (List.toArray c25)),false,0,0,(rn 0 4 ++ [5,6,7]),[(25,(.pointer (some p23))),(21,(.bool (decide (a1 < x9))))]⟩ :: ⟨_,(Sl.v a0),false,0,0,(rn 0 4),[(0,(Sl.v a0)),(21,(.bool (decide (a1 < x9))))]⟩ :: ⟨_,(.int .i64 x9),false,0,0,(rn 0 4),[(9,(.int .i64 x9)),(21,(.bool (decide (a1 < x9))))]⟩ :: ⟨_,(.int .i64 (IntKind.wrap .i64 (x9 - 1))),false,0,0,(rn 0 4 ++ [10]),[(28,(.int .i64 x9)),(21,(.bool (decide (a1 < x9))))]⟩ :: ⟨_,(.pointer (some p27)),false,0,0,(rn 0 4 ++ [9,10,11]),[(27,(Sl.v a0)),(29,(.int .i64 (IntKind.wrap .i64 (x9 - 1)))),(21,(.bool (decide (a1 < x9))))]⟩ :: ⟨_,(.agg (List.toArray c29)),false,0,0,(rn 0 4 ++ rn 9 4),[(30,(.pointer (some p27))),(21,(.bool (decide (a1 < x9))))]⟩ :: ⟨_,(.int .i64 v31),true,0,0,(rn 0 14),[(22,(.func (.func 107) #[] #[])),(26,(.agg (List.toArray c25))),(31,(.agg (List.toArray c29))),(21,(.bool (decide (a1 < x9))))]⟩ :: ⟨_,(.bool (decide (v31 < 0))),false,1,1,(rn 0 15),[(32,(.int .i64 v31)),(21,(.bool (decide (a1 < x9))))]⟩ :: ⟨_,(.bool (decide (v31 < 0))),false,1,1,(rn 0 16),[(21,(.bool (decide (a1 < x9)))),(33,(.bool (decide (v31 < 0))))]⟩ :: [])) (W:=(fun j=>match j with | 0=>w20 | 1=>w32 | _=>w32)) (by kernel_rfl) ha (dr_w e21) (by kernel_rfl) ?_ (reads_of (by kernel_rfl)) (by kernel_rfl) (m:=1) (by kernel_rfl) (fun a ha=>?_)
      ·refine ⟨?_,?_,?_,?_,?_,?_,?_,?_,?_,?_,?_,?_,?_,?_,?_,?_,?_,trivial⟩
       ·exact oa fun j a ha=>d_move ha rfl
       ·exact oa fun j a ha=>d_move ha rfl
       ·exact oa fun j a ha=>d_gt ha rfl rfl
       ·exact oa fun j a ha=>d_move ha rfl
       ·exact oag 21 b22 fun j a ha=>d_move ha rfl
       ·exact oag 21 b22 fun j a ha=>d_move ha rfl
       ·exact oag 21 b22 fun j a ha=>d_move ha rfl
       ·exact oag 21 b22 fun j a ha=>d_ix ha rfl rfl Try.runUnderlying117 Try.sizeOf125 e24
       ·exact oc 0 (ok_do_g rfl rfl (rfl : List.lookup 21 _ = _) b22 fun a ha=>d_ldA ha rfl Try.isAgg125 Try.sizeOf125 e26)
       ·exact oag 21 b22 fun j a ha=>d_move ha rfl
       ·exact oag 21 b22 fun j a ha=>d_move ha rfl
       ·exact oag 21 b22 fun j a ha=>d_sub ha rfl rfl
       ·exact oag 21 b22 fun j a ha=>d_ix ha rfl rfl Try.runUnderlying117 Try.sizeOf125 e28
       ·exact oc 0 (ok_do_g rfl rfl (rfl : List.lookup 21 _ = _) b22 fun a ha=>d_ldA ha rfl Try.isAgg125 Try.sizeOf125 e30)
       ·exact oc 0 (ok_do_g rfl rfl (rfl : List.lookup 21 _ = _) b22 fun a ha=>d_callF (xs:=[_,_]) (vs:=[(.agg (List.toArray c25)),(.agg (List.toArray c29))]) (cv:=[]) ha rfl ⟨rfl,rfl,trivial⟩ Try.call107 (evlog_Log_read_1_ok e33))
       ·exact oag 21 b22 fun j a ha=>d_lt ha rfl rfl
       ·exact oa fun j a ha=>d_pick_t ha rfl b22 rfl
      ·have ha : Has 53 [(0,(Sl.v a0)),(1,(.int .i64 a1)),(2,(.int .i64 a2)),(3,(.func (.func 107) #[] #[])),(8,(.int .i64 x1)),(9,(.int .i64 x9)),(34,(.bool (decide (v31 < 0))))] a:=ha.sub ⟨rfl,rfl,rfl,rfl,rfl,rfl,rfl,trivial⟩
       have hS : Has 53 [(34,(.bool (decide (v31 < 0)))),(0,(Sl.v a0)),(1,(.int .i64 a1)),(2,(.int .i64 a2)),(3,(.func (.func 107) #[] #[])),(8,(.int .i64 x1)),(9,(.int .i64 x9))] _:=ha.sub ⟨rfl,rfl,rfl,rfl,rfl,rfl,rfl,trivial⟩
       cases h
       exact hk19 _ hS
     ·have ha : Has 53 [(0,(Sl.v a0)),(1,(.int .i64 a1)),(2,(.int .i64 a2)),(3,(.func (.func 107) #[] #[])),(8,(.int .i64 x1)),(9,(.int .i64 x9))] a:=ha.sub ⟨rfl,rfl,rfl,rfl,rfl,rfl,trivial⟩
      refine region_draw (n:=53) (ds:=(⟨_,(.int .i64 x9),false,0,0,[],[(9,(.int .i64 x9))]⟩ :: ⟨_,(.int .i64 a1),false,0,0,[],[(1,(.int .i64 a1))]⟩ :: ⟨_,(.bool (decide (a1 < x9))),false,0,0,[0,1],[(18,(.int .i64 x9)),(19,(.int .i64 a1))]⟩ :: ⟨_,(.bool (decide (a1 < x9))),false,0,0,[0,1,2],[(20,(.bool (decide (a1 < x9))))]⟩ :: ⟨_,undef,false,0,0,(rn 0 4),[(21,(.bool (decide (a1 < x9))))]⟩ :: ⟨_,undef,false,0,0,(rn 0 4),[(21,(.bool (decide (a1 < x9))))]⟩ :: ⟨_,undef,false,0,0,(rn 0 4),[(21,(.bool (decide (a1 < x9))))]⟩ :: ⟨_,undef,false,0,0,(rn 0 4 ++ [5,6]),[(21,(.bool (decide (a1 < x9))))]⟩ :: ⟨_,undef,false,0,0,(rn 0 4 ++ [5,6,7]),[(21,(.bool (decide (a1 < x9))))]⟩ :: ⟨_,undef,false,0,0,(rn 0 4),[(21,(.bool (decide (a1 < x9))))]⟩ :: ⟨_,undef,false,0,0,(rn 0 4),[(21,(.bool (decide (a1 < x9))))]⟩ :: ⟨_,undef,false,0,0,(rn 0 4 ++ [10]),[(21,(.bool (decide (a1 < x9))))]⟩ :: ⟨_,undef,false,0,0,(rn 0 4 ++ [9,10,11]),[(21,(.bool (decide (a1 < x9))))]⟩ :: ⟨_,undef,false,0,0,(rn 0 4 ++ rn 9 4),[(21,(.bool (decide (a1 < x9))))]⟩ :: ⟨_,undef,false,0,0,(rn 0 14),[(21,(.bool (decide (a1 < x9))))]⟩ :: ⟨_,undef,false,0,0,(rn 0 15),[(21,(.bool (decide (a1 < x9))))]⟩ :: ⟨_,(.bool false),false,0,0,(rn 0 16),[(21,(.bool (decide (a1 < x9)))),(33,undef)]⟩ :: [])) (W:=(fun _=>w20)) (by kernel_rfl) ha (dr_w e21) (by kernel_rfl) ?_ (reads_of (by kernel_rfl)) (by kernel_rfl) (m:=0) (by kernel_rfl) (fun a ha=>?_)
      ·refine ⟨?_,?_,?_,?_,?_,?_,?_,?_,?_,?_,?_,?_,?_,?_,?_,?_,?_,trivial⟩
       ·exact oa fun j a ha=>d_move ha rfl
       ·exact oa fun j a ha=>d_move ha rfl
       ·exact oa fun j a ha=>d_gt ha rfl rfl
       ·exact oa fun j a ha=>d_move ha rfl
       ·exact on 21 (nn b22 _ rfl)
       ·exact on 21 (nn b22 _ rfl)
       ·exact on 21 (nn b22 _ rfl)
       ·exact on 21 (nn b22 _ rfl)
       ·exact on 21 (nn b22 _ rfl)
       ·exact on 21 (nn b22 _ rfl)
       ·exact on 21 (nn b22 _ rfl)
       ·exact on 21 (nn b22 _ rfl)
       ·exact on 21 (nn b22 _ rfl)
       ·exact on 21 (nn b22 _ rfl)
       ·exact on 21 (nn b22 _ rfl)
       ·exact on 21 (nn b22 _ rfl)
       ·exact oa fun j a ha=>d_pick_f ha rfl b22 rfl
      ·have ha : Has 53 [(0,(Sl.v a0)),(1,(.int .i64 a1)),(2,(.int .i64 a2)),(3,(.func (.func 107) #[] #[])),(8,(.int .i64 x1)),(9,(.int .i64 x9)),(34,(.bool false))] a:=ha.sub ⟨rfl,rfl,rfl,rfl,rfl,rfl,rfl,trivial⟩
       have hS : Has 53 [(34,(.bool false)),(0,(Sl.v a0)),(1,(.int .i64 a1)),(2,(.int .i64 a2)),(3,(.func (.func 107) #[] #[])),(8,(.int .i64 x1)),(9,(.int .i64 x9))] _:=ha.sub ⟨rfl,rfl,rfl,rfl,rfl,rfl,rfl,trivial⟩
       cases h
       exact hk19 _ hS
  ·refine wp_exit<|t_x<|?_
   have hS : Has 53 [] _:=ha.sub trivial
   cases h
   cases hr7 _ rfl
   refine lp_x<|?_
   exact hk6 _ hS
noncomputable def slices_stableCmpFunc_evlog_seg_107_l1 (a1 : Int) (a0 : Sl) (x1 : Int) (x2 : Int) (w3 : World) : Option ((Int×Int×World)⊕(Int×World)) :=
 if (decide (x2≤a1)) = true then
 ((slices_insertionSortCmpFunc_evlog_seg_107 a0 x1 x2 w3).bind fun w11 =>
 some (.inl (x2,(IntKind.wrap .i64 (x2 + 20)),w11)))
 else
 (some (.inr (x1,w3)))
noncomputable def slices_stableCmpFunc_evlog_seg_107_l3 (a1 : Int) (x23 : Int) (x24 : Int) (w25 : World) : Option ((Int×Int×World)⊕(Int×World)) :=
 if (decide (x24≤a1)) = true then
 none
 else
 (some (.inr (x23,w25)))
noncomputable def slices_stableCmpFunc_evlog_seg_107_l2 (a1 : Int) (x15 : Int) (w16 : World) : Option ((Int×World)⊕(World)) :=
 if (decide (x15 < a1)) = true then
 (bind2 (loopF (fun s : Int×Int×World=>slices_stableCmpFunc_evlog_seg_107_l3 a1 s.1 s.2.1 s.2.2) (0,(IntKind.wrap .i64 (2 * x15)),w16)) fun v28 w29 =>
 (if (decide ((IntKind.wrap .i64 (v28 + x15)) < a1)) = true then
 none
 else
 (some w29)).bind fun w33 =>
 some (.inl ((IntKind.wrap .i64 (x15 * 2)),w33)))
 else
 (some (.inr w16))
noncomputable def slices_stableCmpFunc_evlog_seg_107 (a0 : Sl) (a1 : Int) (w : World) : Option (World) :=
 bind2 (loopF (fun s : Int×Int×World=>slices_stableCmpFunc_evlog_seg_107_l1 a1 a0 s.1 s.2.1 s.2.2) (0,20,w)) fun v6 w7 =>
 (slices_insertionSortCmpFunc_evlog_seg_107 a0 v6 a1 w7).bind fun w13 =>
 (loopF (fun s : Int×World=>slices_stableCmpFunc_evlog_seg_107_l2 a1 s.1 s.2) (20,w13)).bind fun w19 =>
 some w19
set_option maxHeartbeats 1000000 in
set_option maxRecDepth 100000 in
theorem slices_stableCmpFunc_evlog_seg_107_ok {a0 : Sl} {a1 : Int} {w w' : World} (h : slices_stableCmpFunc_evlog_seg_107 a0 a1 w = some w') : Calls Try.prog 142 #[(Sl.v a0),(.int .i64 a1),(.func (.func 107) #[] #[])] w fun e w''=>e = .returned (.tuple #[])∧w'' = w':=by
 refine calls_dec (n:=63) Try.func142 rfl Try.ntmps142 (by simp) fun a ha=>?_
 unfold slices_stableCmpFunc_evlog_seg_107 at h
 refine wp_seq<|region_lit<|qa ha rfl fun a ha=>s_nil<|t_n<|wp_seq<|region_lit<|qm ha rfl fun a ha=>qa ha rfl fun a ha=>qa ha rfl fun a ha=>s_nil<|t_n<|wp_seq<|wp_block<|?_
 obtain ⟨v6,w7,e5,h⟩:=bs2 h
 refine s_loop1 (n:=63) (L:=[(7,(.int .i64 v6)),(0,(Sl.v a0)),(1,(.int .i64 a1)),(2,(.func (.func 107) #[] #[])),(6,(.int .i64 20))]) (w':=w7) (e:=.exit 0) (I:=fun (s : Int×Int×World) a w=>Has 63 [(7,(.int .i64 s.1)),(8,(.int .i64 s.2.1)),(0,(Sl.v a0)),(1,(.int .i64 a1)),(2,(.func (.func 107) #[] #[])),(6,(.int .i64 20))] a∧w = s.2.2) ⟨ha.sub ⟨rfl,rfl,rfl,rfl,rfl,rfl,trivial⟩,rfl⟩ e5 (fun a ha=>?_) (fun hk8=>?_)
 ·refine b_hit<|t_n<|wp_seq<|region_lit<|qm ha rfl fun a ha=>qm ha rfl fun a ha=>qm ha rfl fun a ha=>qm ha rfl fun a ha=>?_
  obtain ⟨w13,e14,h⟩:=bs1 h
  refine q ha (d_call (xs:=[_,_,_,_]) (vs:=[(Sl.v a0),(.int .i64 v6),(.int .i64 a1),(.func (.func 107) #[] #[])]) ha ⟨rfl,rfl,rfl,rfl,trivial⟩ Try.call155 (slices_insertionSortCmpFunc_evlog_seg_107_ok e14)) fun a ha=>s_nil<|t_n<|wp_block<|?_
  obtain ⟨w19,e18,h⟩:=bs1 h
  refine s_loop1 (n:=63) (L:=[]) (w':=w19) (e:=.exit 2) (I:=fun (s : Int×World) a w=>Has 63 [(6,(.int .i64 s.1)),(0,(Sl.v a0)),(1,(.int .i64 a1)),(2,(.func (.func 107) #[] #[]))] a∧w = s.2) ⟨ha.sub ⟨rfl,rfl,rfl,rfl,trivial⟩,rfl⟩ e18 (fun a ha=>?_) (fun hk20=>?_)
  ·refine b_hit<|?_
   have hS:=ha
   cases h
   exact end0 Try.results142 hS ⟨rfl,rfl⟩
  ·clear h
   rintro ⟨x15,w16⟩ a wq o ⟨ha,hwq⟩ h hr21
   obtain rfl : w16 = wq:=hwq.symm
   have ha : Has 63 [(6,(.int .i64 x15)),(0,(Sl.v a0)),(1,(.int .i64 a1)),(2,(.func (.func 107) #[] #[]))] a:=ha
   have h : slices_stableCmpFunc_evlog_seg_107_l2 a1 x15 w16 = some o:=h
   unfold slices_stableCmpFunc_evlog_seg_107_l2 at h
   refine wp_seq<|wp_seq<|region_lit<|qm ha rfl fun a ha=>qm ha rfl fun a ha=>q ha (d_lt ha rfl rfl) fun a ha=>s_nil<|t_n<|?_
   refine s_cond ha rfl h (fun b22 h=>?_) (fun b22 h=>?_)
   ·refine wp_skip<|t_n<|wp_block<|wp_seq<|region_lit<|qm ha rfl fun a ha=>q ha (d_mul ha rfl rfl) fun a ha=>qa ha rfl fun a ha=>qa ha rfl fun a ha=>s_nil<|t_n<|wp_seq<|wp_block<|?_
    obtain ⟨v28,w29,e27,h⟩:=bs2 h
    refine s_loop1 (n:=63) (L:=[(7,(.int .i64 v28)),(0,(Sl.v a0)),(1,(.int .i64 a1)),(2,(.func (.func 107) #[] #[])),(6,(.int .i64 x15))]) (w':=w29) (e:=.exit 4) (I:=fun (s : Int×Int×World) a w=>Has 63 [(7,(.int .i64 s.1)),(8,(.int .i64 s.2.1)),(0,(Sl.v a0)),(1,(.int .i64 a1)),(2,(.func (.func 107) #[] #[])),(6,(.int .i64 x15))] a∧w = s.2.2) ⟨ha.sub ⟨rfl,rfl,rfl,rfl,rfl,rfl,trivial⟩,rfl⟩ e27 (fun a ha=>?_) (fun hk30=>?_)
    ·refine b_hit<|t_n<|?_
     obtain ⟨w33,e34,h⟩:=bs1 h
     refine seq_join (n:=63) (L:=[(0,(Sl.v a0)),(1,(.int .i64 a1)),(2,(.func (.func 107) #[] #[])),(6,(.int .i64 x15))]) (w':=w33) (fun a ha=>?_) (fun hk35=>?_)
     ·refine region_lit<|qm ha rfl fun a ha=>q ha (d_mul ha rfl rfl) fun a ha=>qa ha rfl fun a ha=>s_nil<|b_n<|?_
      have hS : Has 63 [(6,(.int .i64 (IntKind.wrap .i64 (x15 * 2)))),(0,(Sl.v a0)),(1,(.int .i64 a1)),(2,(.func (.func 107) #[] #[]))] _:=ha.sub ⟨rfl,rfl,rfl,rfl,trivial⟩
      cases h
      exact lp_next ⟨hS,rfl⟩
     ·clear h
      have h:=e34
      refine wp_seq<|region_lit<|qm ha rfl fun a ha=>qm ha rfl fun a ha=>q ha (d_add ha rfl rfl) fun a ha=>qa ha rfl fun a ha=>s_nil<|t_n<|wp_seq<|region_lit<|qm ha rfl fun a ha=>qm ha rfl fun a ha=>q ha (d_lt ha rfl rfl) fun a ha=>s_nil<|t_n<|?_
      refine s_cond ha rfl h (fun b36 h=>?_) (fun b36 h=>?_)
      ·cases h
      ·refine wp_skip<|?_
       have hS : Has 63 [(0,(Sl.v a0)),(1,(.int .i64 a1)),(2,(.func (.func 107) #[] #[])),(6,(.int .i64 x15))] _:=ha.sub ⟨rfl,rfl,rfl,rfl,trivial⟩
       cases h
       exact hk35 _ hS
    ·clear h
     rintro ⟨x23,x24,w25⟩ a wq o ⟨ha,hwq⟩ h hr31
     obtain rfl : w25 = wq:=hwq.symm
     have ha : Has 63 [(7,(.int .i64 x23)),(8,(.int .i64 x24)),(0,(Sl.v a0)),(1,(.int .i64 a1)),(2,(.func (.func 107) #[] #[])),(6,(.int .i64 x15))] a:=ha
     have h : slices_stableCmpFunc_evlog_seg_107_l3 a1 x23 x24 w25 = some o:=h
     unfold slices_stableCmpFunc_evlog_seg_107_l3 at h
     refine wp_seq<|wp_seq<|region_lit<|qm ha rfl fun a ha=>qm ha rfl fun a ha=>q ha (d_le ha rfl rfl) fun a ha=>s_nil<|t_n<|?_
     refine s_cond ha rfl h (fun b32 h=>?_) (fun b32 h=>?_)
     ·refine wp_skip<|t_n<|wp_block<|wp_seq<|?_
      cases h
     ·refine wp_exit<|t_x<|?_
      have hS : Has 63 [(7,(.int .i64 x23)),(0,(Sl.v a0)),(1,(.int .i64 a1)),(2,(.func (.func 107) #[] #[])),(6,(.int .i64 x15))] _:=ha.sub ⟨rfl,rfl,rfl,rfl,rfl,trivial⟩
      cases h
      cases hr31 _ rfl
      refine lp_x<|?_
      exact hk30 _ hS
   ·refine wp_exit<|t_x<|?_
    have hS : Has 63 [] _:=ha.sub trivial
    cases h
    cases hr21 _ rfl
    refine lp_x<|?_
    exact hk20 _ hS
 ·clear h
  rintro ⟨x1,x2,w3⟩ a wq o ⟨ha,hwq⟩ h hr9
  obtain rfl : w3 = wq:=hwq.symm
  have ha : Has 63 [(7,(.int .i64 x1)),(8,(.int .i64 x2)),(0,(Sl.v a0)),(1,(.int .i64 a1)),(2,(.func (.func 107) #[] #[])),(6,(.int .i64 20))] a:=ha
  have h : slices_stableCmpFunc_evlog_seg_107_l1 a1 a0 x1 x2 w3 = some o:=h
  unfold slices_stableCmpFunc_evlog_seg_107_l1 at h
  refine wp_seq<|wp_seq<|region_lit<|qm ha rfl fun a ha=>qm ha rfl fun a ha=>q ha (d_le ha rfl rfl) fun a ha=>s_nil<|t_n<|?_
  refine s_cond ha rfl h (fun b10 h=>?_) (fun b10 h=>?_)
  ·refine wp_skip<|t_n<|wp_block<|wp_seq<|region_lit<|qm ha rfl fun a ha=>qm ha rfl fun a ha=>qm ha rfl fun a ha=>qm ha rfl fun a ha=>?_
   obtain ⟨w11,e12,h⟩:=bs1 h
   refine q ha (d_call (xs:=[_,_,_,_]) (vs:=[(Sl.v a0),(.int .i64 x1),(.int .i64 x2),(.func (.func 107) #[] #[])]) ha ⟨rfl,rfl,rfl,rfl,trivial⟩ Try.call155 (slices_insertionSortCmpFunc_evlog_seg_107_ok e12)) fun a ha=>s_nil<|t_n<|wp_seq<|region_lit<|qm ha rfl fun a ha=>qa ha rfl fun a ha=>s_nil<|t_n<|region_lit<|qm ha rfl fun a ha=>qm ha rfl fun a ha=>q ha (d_add ha rfl rfl) fun a ha=>qa ha rfl fun a ha=>s_nil<|b_n<|?_
   have hS : Has 63 [(7,(.int .i64 x2)),(8,(.int .i64 (IntKind.wrap .i64 (x2 + 20)))),(0,(Sl.v a0)),(1,(.int .i64 a1)),(2,(.func (.func 107) #[] #[])),(6,(.int .i64 20))] _:=ha.sub ⟨rfl,rfl,rfl,rfl,rfl,rfl,trivial⟩
   cases h
   exact lp_next ⟨hS,rfl⟩
  ·refine wp_exit<|t_x<|?_
   have hS : Has 63 [(7,(.int .i64 x1)),(0,(Sl.v a0)),(1,(.int .i64 a1)),(2,(.func (.func 107) #[] #[])),(6,(.int .i64 20))] _:=ha.sub ⟨rfl,rfl,rfl,rfl,rfl,trivial⟩
   cases h
   cases hr9 _ rfl
   refine lp_x<|?_
   exact hk8 _ hS
noncomputable def slices_SortStableFunc_evlog_seg_evlog_seg_107 (a0 : Sl) (w : World) : Option (World) :=
 (slices_stableCmpFunc_evlog_seg_107 a0 (a0.n : Int) w).bind fun w1 =>
 some w1
set_option maxHeartbeats 1000000 in
set_option maxRecDepth 100000 in
theorem slices_SortStableFunc_evlog_seg_evlog_seg_107_ok {a0 : Sl} {w w' : World} (h : slices_SortStableFunc_evlog_seg_evlog_seg_107 a0 w = some w') : Calls Try.prog 106 #[(Sl.v a0),(.func (.func 107) #[] #[])] w fun e w''=>e = .returned (.tuple #[])∧w'' = w':=by
 refine calls_dec (n:=9) Try.func106 rfl Try.ntmps106 (by simp) fun a ha=>?_
 unfold slices_SortStableFunc_evlog_seg_evlog_seg_107 at h
 refine region_lit<|qm ha rfl fun a ha=>qm ha rfl fun a ha=>q ha (d_lenS ha rfl Try.runUnderlying117) fun a ha=>qm ha rfl fun a ha=>?_
 obtain ⟨w1,e2,h⟩:=bs1 h
 refine q ha (d_call (xs:=[_,_,_]) (vs:=[(Sl.v a0),(.int .i64 (a0.n : Int)),(.func (.func 107) #[] #[])]) ha ⟨rfl,rfl,rfl,trivial⟩ Try.call142 (slices_stableCmpFunc_evlog_seg_107_ok e2)) fun a ha=>s_nil<|?_
 have hS:=ha
 cases h
 exact end0 Try.results106 hS ⟨rfl,rfl⟩
noncomputable def evlog_Log_record_l1 (a0 : Option Addr) (a1 : Int) (p1 : Addr) (x4 : Int) (x5 : Sl) (x6 : Int) (w7 : World) : Option ((Int×Sl×Int×World)⊕((World)⊕(Int×Bool×World))) :=
 if (decide (x4 < 16)) = true then
 (bind2 (evlog_Log_look a0 a1 x4 w7) fun v18 w19 =>
 bind4 (evlog_good v18 w19) fun v21 v22 v23 w24 =>
 if (v21 != x6) = true then
 (some (.inr (.inl w24)))
 else
 (bind2 (apS Try.prog 72 x5 v22 w24) fun s27 w28 =>
 if v23 = true then
 (bind4 (octet_TakeKey s27 0 w28) fun v31 v32 v33 w34 =>
 bind2 (if (v33 != 0) = true then
 (some (true,w34))
 else
 (if (decide (v31 < 0)) = true then
 (some (true,w34))
 else
 (some ((decide (1099511627776 < v31)),w34)))) fun v36 w37 =>
 if v36 = true then
 (some (.inr (.inl w37)))
 else
 ((slS s27 8 (s27.n : Int) (s27.c : Int) 1).bind fun s43 =>
 (stA w37 p1 0 ([.int .i64 v31,Sl.v s43])).bind fun w45 =>
 some (.inr (.inr ((IntKind.wrap .i64 (x4 + 1)),true,w45)))))
 else
 (some (.inl ((IntKind.wrap .i64 (x4 + 1)),s27,3,w28)))))
 else
 (some (.inr (.inl w7)))
noncomputable def evlog_Log_record (a0 : Option Addr) (a1 : Int) (a2 : Int) (w : World) : Option ((List Value)×Int×Bool×World) :=
 bind2 (mk w 87 ([.int .i64 0,.slice none 0 0])) fun p1 w2 =>
 (loopF (fun s : Int×Sl×Int×World=>evlog_Log_record_l1 a0 a1 p1 s.1 s.2.1 s.2.2.1 s.2.2.2) (a2,Sl.nil,2,w2)).bind fun r8=>Sum.elim (fun (i : World)=>u1 i fun w10 =>
 (stA w10 p1 0 ([.int .i64 0,.slice none 0 0])).bind fun w47 =>
 (ldA 2 w47 p1 0).bind fun v49 =>
 some (v49,0,false,w47)) (fun (i : Int×Bool×World)=>u3 i fun v11 v12 w13 =>
 (ldA 2 w13 p1 0).bind fun v51 =>
 some (v51,v11,v12,w13)) r8
set_option maxHeartbeats 1000000 in
set_option maxRecDepth 100000 in
theorem evlog_Log_record_ok {a0 : Option Addr} {a1 : Int} {a2 : Int} {w w' : World} {r0 : List Value} {r1 : Int} {r2 : Bool} (h : evlog_Log_record a0 a1 a2 w = some (r0,r1,r2,w')) : Calls Try.prog 108 #[(.pointer a0),(.int .i64 a1),(.int .i64 a2)] w fun e w''=>e = .returned (.tuple #[(.agg (List.toArray r0)),(.int .i64 r1),(.bool r2)])∧w'' = w':=by
 refine calls_dec (n:=59) Try.func108 rfl Try.ntmps108 (by simp) fun a ha=>?_
 unfold evlog_Log_record at h
 refine wp_seq<|region_lit<|?_
 obtain ⟨p1,w2,e3,h⟩:=bs2 h
 refine q ha (d_alloc Try.zeroValue87 (by kernel_rfl) e3) fun a ha=>qa ha rfl fun a ha=>qa ha rfl fun a ha=>s_nil<|t_n<|wp_seq<|region_lit<|qa ha rfl fun a ha=>s_nil<|t_n<|wp_seq<|wp_seq<|region_lit<|qa ha rfl fun a ha=>s_nil<|t_n<|wp_block<|?_
 obtain ⟨r8,e9,h⟩:=bs1 h
 refine s_loop2 (n:=59) (L1:=fun i=>[(6,(.pointer (some p1)))]) (w1:=fun i=>i) (L2:=fun i=>[(7,(.int .i64 i.1)),(8,(.bool i.2.1)),(6,(.pointer (some p1)))]) (w2:=fun i=>i.2.2) (e1:=.exit 0) (e2:=.ret) (I:=fun (s : Int×Sl×Int×World) a w=>Has 59 [(2,(.int .i64 s.1)),(9,(Sl.v s.2.1)),(10,(.int .i64 s.2.2.1)),(0,(.pointer a0)),(1,(.int .i64 a1)),(6,(.pointer (some p1)))] a∧w = s.2.2.2) ⟨ha.sub ⟨rfl,rfl,rfl,rfl,rfl,rfl,trivial⟩,rfl⟩ e9 (fun i hi a ha=>?_) (fun i hi a ha=>?_) (fun hk14 hk15=>?_)
 ·subst hi
  obtain ⟨w10,rfl⟩ : ∃ x,x = i:=⟨i,rfl⟩
  dsimp only [Sum.elim_inl,Sum.elim_inr,u1,u2,u3,u4,u5,u6] at h
  have ha : Has 59 [(6,(.pointer (some p1)))] a:=ha
  refine b_hit<|t_n<|wp_seq<|region_lit<|q ha (d_build (vs:=[]) (pl:=#[(0,1),(1,1)]) (cs:=([.int .i64 0,.slice none 0 0])) ha trivial Try.zeroValue87 Try.runUnderlying87 (by intro w; kernel_rfl) (by kernel_rfl)) fun a ha=>?_
  obtain ⟨w47,e48,h⟩:=bs1 h
  refine q ha (d_stA ha rfl rfl Try.sizeOf87 rfl e48) fun a ha=>qa ha rfl fun a ha=>qa ha rfl fun a ha=>s_nil<|t_n<|wp_ret<|?_
  obtain ⟨v49,e50,h⟩:=bs1 h
  have hS:=ha
  cases h
  exact retG (vs:=[_,_,_]) Try.results108 hS ⟨⟨_,rfl,lv_A Try.isAgg87 Try.sizeOf87 e50⟩,rfl,rfl,trivial⟩ ⟨rfl,rfl⟩
 ·subst hi
  obtain ⟨v11,v12,w13⟩:=i
  dsimp only [Sum.elim_inl,Sum.elim_inr,u1,u2,u3,u4,u5,u6] at h
  have ha : Has 59 [(7,(.int .i64 v11)),(8,(.bool v12)),(6,(.pointer (some p1)))] a:=ha
  refine b_r<|t_r<|?_
  obtain ⟨v51,e52,h⟩:=bs1 h
  have hS:=ha
  cases h
  exact retG (vs:=[_,_,_]) Try.results108 hS ⟨⟨_,rfl,lv_A Try.isAgg87 Try.sizeOf87 e52⟩,rfl,rfl,trivial⟩ ⟨rfl,rfl⟩
 ·clear h
  rintro ⟨x4,x5,x6,w7⟩ a wq o ⟨ha,hwq⟩ h hr16
  obtain rfl : w7 = wq:=hwq.symm
  have ha : Has 59 [(2,(.int .i64 x4)),(9,(Sl.v x5)),(10,(.int .i64 x6)),(0,(.pointer a0)),(1,(.int .i64 a1)),(6,(.pointer (some p1)))] a:=ha
  have h : evlog_Log_record_l1 a0 a1 p1 x4 x5 x6 w7 = some o:=h
  unfold evlog_Log_record_l1 at h
  refine wp_seq<|wp_seq<|region_lit<|qm ha rfl fun a ha=>q ha (d_lt ha rfl rfl) fun a ha=>s_nil<|t_n<|?_
  refine s_cond ha rfl h (fun b17 h=>?_) (fun b17 h=>?_)
  ·refine wp_skip<|t_n<|wp_seq<|wp_block<|wp_seq<|region_lit<|qm ha rfl fun a ha=>qm ha rfl fun a ha=>qm ha rfl fun a ha=>?_
   obtain ⟨v18,w19,e20,h⟩:=bs2 h
   refine q ha (d_call (xs:=[_,_,_]) (vs:=[(.pointer a0),(.int .i64 a1),(.int .i64 x4)]) ha ⟨rfl,rfl,rfl,trivial⟩ Try.call111 (evlog_Log_look_ok e20)) fun a ha=>?_
   obtain ⟨v21,v22,v23,w24,e25,h⟩:=bs4 h
   refine q ha (d_call (xs:=[_]) (vs:=[(Sl.v v18)]) ha ⟨rfl,trivial⟩ Try.call140 (evlog_good_ok e25)) fun a ha=>qm ha rfl fun a ha=>q ha (d_ext ha rfl rfl) fun a ha=>q ha (d_ext ha rfl rfl) fun a ha=>q ha (d_ext ha rfl rfl) fun a ha=>qa ha rfl fun a ha=>qa ha rfl fun a ha=>qa ha rfl fun a ha=>s_nil<|t_n<|wp_seq<|wp_seq<|region_lit<|qm ha rfl fun a ha=>qm ha rfl fun a ha=>q ha (d_ne ha rfl rfl) fun a ha=>s_nil<|t_n<|?_
   refine s_cond ha rfl h (fun b26 h=>?_) (fun b26 h=>?_)
   ·refine wp_exit<|t_x<|b_x (by decide)<|t_x<|?_
    have hS : Has 59 [(6,(.pointer (some p1)))] _:=ha.sub ⟨rfl,trivial⟩
    cases h
    cases hr16 _ rfl
    refine lp_x<|?_
    exact hk14 _ rfl _ hS
   ·refine wp_skip<|t_n<|wp_seq<|region_lit<|qm ha rfl fun a ha=>qm ha rfl fun a ha=>?_
    obtain ⟨s27,w28,e29,h⟩:=bs2 h
    refine q ha (d_apS ha rfl rfl e29) fun a ha=>qa ha rfl fun a ha=>s_nil<|t_n<|wp_seq<|region_lit<|qm ha rfl fun a ha=>q ha (d_add ha rfl rfl) fun a ha=>qa ha rfl fun a ha=>s_nil<|t_n<|wp_seq<|region_lit<|qm ha rfl fun a ha=>s_nil<|t_n<|?_
    refine s_cond ha rfl h (fun b30 h=>?_) (fun b30 h=>?_)
    ·refine wp_seq<|region_lit<|qm ha rfl fun a ha=>?_
     obtain ⟨v31,v32,v33,w34,e35,h⟩:=bs4 h
     refine q ha (d_call (xs:=[_,_]) (vs:=[(Sl.v s27),(.int .i64 0)]) ha ⟨rfl,rfl,trivial⟩ Try.call141 (octet_TakeKey_ok e35)) fun a ha=>qm ha rfl fun a ha=>q ha (d_ext ha rfl rfl) fun a ha=>q ha (d_ext ha rfl rfl) fun a ha=>q ha (d_ext ha rfl rfl) fun a ha=>qa ha rfl fun a ha=>qa ha rfl fun a ha=>qa ha rfl fun a ha=>s_nil<|t_n<|wp_seq<|wp_seq<|?_
     obtain ⟨v36,w37,e38,h⟩:=bs2 h
     refine reg_join (n:=59) (L:=[(52,(.bool v36)),(2,(.int .i64 (IntKind.wrap .i64 (x4 + 1)))),(6,(.pointer (some p1))),(9,(Sl.v s27)),(14,(.int .i64 v31))]) (w':=w37) (fun a ha=>?_) (fun hk39=>?_)
     ·refine t_n<|?_
      refine s_cond ha rfl h (fun b42 h=>?_) (fun b42 h=>?_)
      ·refine wp_exit<|t_x<|b_x (by decide)<|t_x<|?_
       have hS : Has 59 [(6,(.pointer (some p1)))] _:=ha.sub ⟨rfl,trivial⟩
       cases h
       cases hr16 _ rfl
       refine lp_x<|?_
       exact hk14 _ rfl _ hS
      ·refine wp_skip<|t_n<|wp_seq<|region_lit<|qm ha rfl fun a ha=>qm ha rfl fun a ha=>?_
       obtain ⟨s43,e44,h⟩:=bs1 h
       refine q ha (d_slS ha rfl Try.runUnderlying72 Try.sizeOf5 ⟨_,rfl⟩ rfl rfl (by simp) e44) fun a ha=>q ha (d_build (vs:=[(0,(.int .i64 v31)),(1,(Sl.v s43))]) (pl:=#[(0,1),(1,1)]) (cs:=([.int .i64 v31,Sl.v s43])) ha ⟨rfl,rfl,rfl,rfl,trivial⟩ Try.zeroValue87 Try.runUnderlying87 (by intro w; kernel_rfl) (by kernel_rfl)) fun a ha=>qm ha rfl fun a ha=>?_
       obtain ⟨w45,e46,h⟩:=bs1 h
       refine q ha (d_stA ha rfl rfl Try.sizeOf87 rfl e46) fun a ha=>qa ha rfl fun a ha=>qa ha rfl fun a ha=>s_nil<|t_n<|wp_ret<|b_r<|t_r<|?_
       have hS : Has 59 [(7,(.int .i64 (IntKind.wrap .i64 (x4 + 1)))),(8,(.bool true)),(6,(.pointer (some p1)))] _:=ha.sub ⟨rfl,rfl,rfl,trivial⟩
       cases h
       cases hr16 _ rfl
       refine lp_r<|?_
       exact hk15 _ rfl _ hS
     ·clear h
      have h:=e38
      refine region_lit<|qm ha rfl fun a ha=>q ha (d_ne ha rfl rfl) fun a ha=>qm ha rfl fun a ha=>?_
      refine ite_s h (fun b40 h=>?_) (fun b40 h=>?_)
      ·refine qn ha 45 (tn b40) fun a ha=>qn ha 45 (tn b40) fun a ha=>q ha (d_pick_t ha rfl b40 rfl) fun a ha=>qm ha rfl fun a ha=>qn ha 49 (tn rfl) fun a ha=>qn ha 49 (tn rfl) fun a ha=>q ha (d_pick_t ha rfl rfl rfl) fun a ha=>s_nil<|?_
       have hS : Has 59 [(52,(.bool true)),(2,(.int .i64 (IntKind.wrap .i64 (x4 + 1)))),(6,(.pointer (some p1))),(9,(Sl.v s27)),(14,(.int .i64 v31))] _:=ha.sub ⟨rfl,rfl,rfl,rfl,rfl,trivial⟩
       cases h
       exact hk39 _ hS
      ·refine qg ha 45 (nt b40) (d_move ha rfl) fun a ha=>qg ha 45 (nt b40) (d_lt ha rfl rfl) fun a ha=>q ha (d_pick_f ha rfl b40 rfl) fun a ha=>qm ha rfl fun a ha=>?_
       refine ite_s h (fun b41 h=>?_) (fun b41 h=>?_)
       ·refine qn ha 49 (tn b41) fun a ha=>qn ha 49 (tn b41) fun a ha=>q ha (d_pick_t ha rfl b41 rfl) fun a ha=>s_nil<|?_
        have hS : Has 59 [(52,(.bool true)),(2,(.int .i64 (IntKind.wrap .i64 (x4 + 1)))),(6,(.pointer (some p1))),(9,(Sl.v s27)),(14,(.int .i64 v31))] _:=ha.sub ⟨rfl,rfl,rfl,rfl,rfl,trivial⟩
        cases h
        exact hk39 _ hS
       ·refine qg ha 49 (nt b41) (d_move ha rfl) fun a ha=>qg ha 49 (nt b41) (d_gt ha rfl rfl) fun a ha=>q ha (d_pick_f ha rfl b41 rfl) fun a ha=>s_nil<|?_
        have hS : Has 59 [(52,(.bool (decide (1099511627776 < v31)))),(2,(.int .i64 (IntKind.wrap .i64 (x4 + 1)))),(6,(.pointer (some p1))),(9,(Sl.v s27)),(14,(.int .i64 v31))] _:=ha.sub ⟨rfl,rfl,rfl,rfl,rfl,trivial⟩
        cases h
        exact hk39 _ hS
    ·refine wp_skip<|b_n<|t_n<|region_lit<|qa ha rfl fun a ha=>s_nil<|?_
     have hS : Has 59 [(2,(.int .i64 (IntKind.wrap .i64 (x4 + 1)))),(9,(Sl.v s27)),(10,(.int .i64 3)),(0,(.pointer a0)),(1,(.int .i64 a1)),(6,(.pointer (some p1)))] _:=ha.sub ⟨rfl,rfl,rfl,rfl,rfl,rfl,trivial⟩
     cases h
     exact lp_next ⟨hS,rfl⟩
  ·refine wp_exit<|t_x<|?_
   have hS : Has 59 [(6,(.pointer (some p1)))] _:=ha.sub ⟨rfl,trivial⟩
   cases h
   cases hr16 _ rfl
   refine lp_x<|?_
   exact hk14 _ rfl _ hS
noncomputable def evlog_Log_read_l1 (v3 : Int) (a0 : Option Addr) (x5 : Int) (w6 : World) : ND ((Int×World)⊕(World)) :=
 if (decide (x5 < v3)) = true then
 (cb1 (lb3 (evlog_Log_header a0 x5 w6) fun v16 v17 w18 =>
 lb2 (mk w18 125 (List.replicate 4 (.int .i64 0) ++ [.slice none 0 0])) fun p20 w21 =>
 lb1 (stA w21 p20 0 v16) fun w24 =>
 nck ((v16).length = 5) <|
 if v17 = true then
 (lb1 (dr w24) fun w27 =>
 lb1 (a0) fun p29 =>
 lb1 (ldL w27 (p29.add 7)) fun v31 =>
 lb1 (ldA 5 w27 p20 0) fun c33 =>
 lb2 (bsl w27 125 5 [c33]) fun s35 w36 =>
 lb2 (apS Try.prog 117 v31 s35 w36) fun s38 w39 =>
 lb1 (stV w39 (p29.add 7) (Sl.v s38)) fun w41 =>
 nck (ldL w36 (p29.add 7) = some v31) <|
 nret w41)
 else
 (nret w24)) fun w13 =>
 nret (.inl ((IntKind.wrap .i64 (x5 + 1)),w13)))
 else
 (nret (.inr w6))
noncomputable def evlog_Log_read_l3 (p62 : Addr) (a0 : Option Addr)  (w72 : World) : ND ((World)⊕(World)) :=
 cb4 (lb1 (dr w72) fun w84 =>
 lb1 (ldI .i64 w84 (p62.add 0)) fun v86 =>
 lb1 (ldI .i64 w84 (p62.add 2)) fun v88 =>
 nand (lb4 (evlog_Log_record a0 v86 v88 w84) fun v90 v91 v92 w93 =>
 lb2 (mk w93 87 ([.int .i64 0,.slice none 0 0])) fun p95 w96 =>
 lb1 (stA w96 p95 0 v90) fun w99 =>
 nck ((v90).length = 2) <|
 nret (p95,v91,v92,w99)) (lb2 (mk w84 87 ([.int .i64 0,.slice none 0 0])) fun p101 w102 =>
 lb4 (evlog_Log_record a0 v86 v88 w102) fun v104 v105 v106 w107 =>
 lb1 (stA w107 p101 0 v104) fun w110 =>
 nck ((v104).length = 2) <|
 nck (ldI .i64 w102 (p62.add 0) = some v86) <|
 nck (ldI .i64 w102 (p62.add 2) = some v88) <|
 nret (p101,v105,v106,w110))) fun v78 v79 v80 w81 =>
 cb2 (lb1 (dr w81) fun w118 =>
 if (!v80) = true then
 (nret (true,w118))
 else
 (lb1 (ldI .i64 w118 (v78.add 0)) fun v121 =>
 lb1 (a0) fun p123 =>
 lb1 (ldI .i64 w118 (p123.add 5)) fun v125 =>
 nret ((decide (v121≤v125)),w118))) fun v114 w115 =>
 if v114 = true then
 (nret (.inr w115))
 else
 (lb1 (dr w115) fun w128 =>
 lb1 (ldL w128 (p62.add 4)) fun v130 =>
 lb1 (ldA 2 w128 v78 0) fun c132 =>
 lb2 (bsl w128 87 2 [c132]) fun s134 w135 =>
 lb2 (apS Try.prog 74 v130 s134 w135) fun s137 w138 =>
 lb1 (stV w138 (p62.add 4) (Sl.v s137)) fun w140 =>
 nck (ldL w135 (p62.add 4) = some v130) <|
 lb1 (dr w140) fun w143 =>
 lb1 (ldI .i64 w143 (v78.add 0)) fun v145 =>
 lb1 (stV w143 (p62.add 2) (.int .i64 v79)) fun w147 =>
 lb1 (a0) fun p149 =>
 lb1 (stV w147 (p149.add 5) (.int .i64 v145)) fun w151 =>
 nck (ldI .i64 w147 (v78.add 0) = some v145) <|
 nret (.inl w151))
noncomputable def evlog_Log_read_l2 (v48 : Sl) (a0 : Option Addr) (x50 : Int) (w51 : World) : ND ((Int×World)⊕(World)) :=
 if (decide (x50 < (v48.n : Int))) = true then
 (lb1 (a0) fun p58 =>
 lb1 (ldL w51 (p58.add 7)) fun v60 =>
 lb1 (ix v60 x50 5) fun p62 =>
 lb1 (dr w51) fun w64 =>
 lb1 (ldI .i64 w64 (p58.add 5)) fun v66 =>
 lb1 (ldI .i64 w64 (p62.add 3)) fun v68 =>
 lb1 (stV w64 (p58.add 5) (.int .i64 (mxI v66 v68))) fun w70 =>
 cb1 (nloop (fun s : World=>evlog_Log_read_l3 p62 a0 s) w70) fun w75 =>
 lb1 (ldI .i64 w75 (p58.add 5)) fun v154 =>
 lb1 (stV w75 (p62.add 3) (.int .i64 v154)) fun w156 =>
 nret (.inl ((IntKind.wrap .i64 (x50 + 1)),w156)))
 else
 (nret (.inr w51))
noncomputable def evlog_Log_read (a0 : Option Addr) (w : World) : ND (World) :=
 lb1 (a0) fun p1 =>
 lb1 (ldI .i64 w (p1.add 3)) fun v3 =>
 cb1 (nloop (fun s : Int×World=>evlog_Log_read_l1 v3 a0 s.1 s.2) (0,w)) fun w9 =>
 lb1 (ldL w9 (p1.add 7)) fun v44 =>
 lb1 (slices_SortStableFunc_evlog_seg_evlog_seg_107 v44 w9) fun w46 =>
 lb1 (ldL w46 (p1.add 7)) fun v48 =>
 cb1 (nloop (fun s : Int×World=>evlog_Log_read_l2 v48 a0 s.1 s.2) (0,w46)) fun w54 =>
 lb1 (ldP w54 (p1.add 1)) fun v159 =>
 lb3 (mark_Cells_Get v159 0 w54) fun v161 v162 w163 =>
 lb1 (stV w163 (p1.add 6) (.int .i64 v161)) fun w165 =>
 lb1 (dr w165) fun w167 =>
 lb1 (ldI .i64 w167 (p1.add 5)) fun v169 =>
 lb1 (ldI .i64 w167 (p1.add 6)) fun v171 =>
 lb1 (stV w167 (p1.add 5) (.int .i64 (mxI v169 v171))) fun w173 =>
 nret w173
set_option maxHeartbeats 1000000 in
set_option maxRecDepth 100000 in
theorem evlog_Log_read_ok {a0 : Option Addr} {w : World} {Q : World→Prop} (h : (evlog_Log_read a0 w).t Q) : Calls Try.prog 70 #[(.pointer a0)] w fun e w''=>∃ i,e = .returned (.tuple #[])∧Q i∧w'' = i:=by
 refine calls_dec (n:=141) Try.func70 rfl Try.ntmps70 (by simp) fun a ha=>?_
 unfold evlog_Log_read at h
 refine wp_seq<|wp_seq<|region_lit<|qm ha rfl fun a ha=>?_
 obtain ⟨p1,e2,h⟩:=h
 refine q ha (d_nilp ha rfl e2) fun a ha=>q ha (d_fa ha rfl Try.runUnderlying119 rfl rfl Try.sizeOf3 (by decide)) fun a ha=>?_
 obtain ⟨v3,e4,h⟩:=h
 refine q ha (d_ld ha rfl Try.isAgg3 (ldI_c e4)) fun a ha=>qm ha rfl fun a ha=>s_nil<|t_n<|wp_block<|?_
 refine s_loopN1 (n:=141) (Lr:=fun i=>[(0,(.pointer a0))]) (wr:=fun i=>i) (e:=.exit 0) (I:=fun (s : Int×World) a w=>Has 141 [(14,(.int .i64 s.1)),(0,(.pointer a0)),(13,(.int .i64 v3))] a∧w = s.2) (un1 h) ⟨ha.sub ⟨rfl,rfl,rfl,trivial⟩,rfl⟩ (fun i h a ha=>?_) (fun hk10=>?_)
 ·obtain ⟨w9,rfl⟩ : ∃ x,x = i:=⟨i,rfl⟩
  have ha : Has 141 [(0,(.pointer a0))] a:=ha
  refine b_hit<|t_n<|wp_seq<|region_lit<|qm ha rfl fun a ha=>q ha (d_nilp ha rfl e2) fun a ha=>q ha (d_fa ha rfl Try.runUnderlying119 rfl rfl Try.sizeOf117 (by decide)) fun a ha=>?_
  obtain ⟨v44,e45,h⟩:=h
  refine q ha (d_ld ha rfl Try.isAgg117 (ldL_c e45)) fun a ha=>?_
  obtain ⟨w46,e47,h⟩:=h
  refine q ha (d_call (xs:=[_,_]) (vs:=[(Sl.v v44),(.func (.func 107) #[] #[])]) ha ⟨rfl,rfl,trivial⟩ Try.call106 (slices_SortStableFunc_evlog_seg_evlog_seg_107_ok e47)) fun a ha=>s_nil<|t_n<|wp_seq<|wp_seq<|region_lit<|qm ha rfl fun a ha=>q ha (d_nilp ha rfl e2) fun a ha=>q ha (d_fa ha rfl Try.runUnderlying119 rfl rfl Try.sizeOf117 (by decide)) fun a ha=>?_
  obtain ⟨v48,e49,h⟩:=h
  refine q ha (d_ld ha rfl Try.isAgg117 (ldL_c e49)) fun a ha=>q ha (d_lenS ha rfl Try.runUnderlying117) fun a ha=>qm ha rfl fun a ha=>s_nil<|t_n<|wp_block<|?_
  refine s_loopN1 (n:=141) (Lr:=fun i=>[(0,(.pointer a0))]) (wr:=fun i=>i) (e:=.exit 2) (I:=fun (s : Int×World) a w=>Has 141 [(45,(.int .i64 s.1)),(0,(.pointer a0)),(44,(.int .i64 (v48.n : Int)))] a∧w = s.2) (un1 h) ⟨ha.sub ⟨rfl,rfl,rfl,trivial⟩,rfl⟩ (fun i h a ha=>?_) (fun hk55=>?_)
  ·obtain ⟨w54,rfl⟩ : ∃ x,x = i:=⟨i,rfl⟩
   have ha : Has 141 [(0,(.pointer a0))] a:=ha
   refine b_hit<|t_n<|wp_seq<|region_lit<|qm ha rfl fun a ha=>qm ha rfl fun a ha=>q ha (d_nilp ha rfl e2) fun a ha=>q ha (d_fa ha rfl Try.runUnderlying119 rfl rfl Try.sizeOf116 (by decide)) fun a ha=>?_
   obtain ⟨v159,e160,h⟩:=h
   refine q ha (d_ld ha rfl Try.isAgg116 (ldP_c e160)) fun a ha=>?_
   obtain ⟨v161,v162,w163,e164,h⟩:=h
   refine q ha (d_call (xs:=[_,_]) (vs:=[(.pointer v159),(.int .i64 0)]) ha ⟨rfl,rfl,trivial⟩ Try.call109 (mark_Cells_Get_ok e164)) fun a ha=>qm ha rfl fun a ha=>q ha (d_ext ha rfl rfl) fun a ha=>q ha (d_ext ha rfl rfl) fun a ha=>q ha (d_nilp ha rfl e2) fun a ha=>q ha (d_fa ha rfl Try.runUnderlying119 rfl rfl Try.sizeOf3 (by decide)) fun a ha=>?_
   obtain ⟨w165,e166,h⟩:=h
   refine q ha (d_st ha rfl rfl Try.sizeOf3 e166) fun a ha=>s_nil<|t_n<|?_
   obtain ⟨w167,e168,h⟩:=h
   obtain ⟨v169,e170,h⟩:=h
   obtain ⟨v171,e172,h⟩:=h
   obtain ⟨w173,e174,h⟩:=h
   have ha : Has 141 [(0,(.pointer a0))] a:=ha.sub ⟨rfl,trivial⟩
   refine region_draw (n:=141) (ds:=(⟨_,(.pointer a0),false,0,0,[],[(0,(.pointer a0))]⟩ :: ⟨_,(.pointer a0),false,0,0,[],[(0,(.pointer a0))]⟩ :: ⟨_,(.pointer (some p1)),false,0,0,[1],[(130,(.pointer a0))]⟩ :: ⟨_,(.pointer (some (p1.add 5))),false,0,0,[1,2],[(131,(.pointer (some p1)))]⟩ :: ⟨_,(.int .i64 v169),false,0,0,[1,2,3],[(132,(.pointer (some (p1.add 5))))]⟩ :: ⟨_,(.pointer a0),false,0,0,[],[(0,(.pointer a0))]⟩ :: ⟨_,(.pointer (some p1)),false,0,0,[5],[(134,(.pointer a0))]⟩ :: ⟨_,(.pointer (some (p1.add 6))),false,0,0,[5,6],[(135,(.pointer (some p1)))]⟩ :: ⟨_,(.int .i64 v171),false,0,0,[5,6,7],[(136,(.pointer (some (p1.add 6))))]⟩ :: ⟨_,(.int .i64 (mxI v169 v171)),false,0,0,(rn 1 8),[(133,(.int .i64 v169)),(137,(.int .i64 v171))]⟩ :: ⟨_,(.pointer (some p1)),false,0,0,(rn 0 10),[(129,(.pointer a0))]⟩ :: ⟨_,(.pointer (some (p1.add 5))),false,0,0,(rn 0 11),[(139,(.pointer (some p1)))]⟩ :: ⟨_,undef,true,0,0,(rn 0 12),[(140,(.pointer (some (p1.add 5)))),(138,(.int .i64 (mxI v169 v171)))]⟩ :: [])) (W:=(fun j=>match j with | 0=>w167 | 1=>w173 | _=>w173)) (by kernel_rfl) ha (dr_w e168) (by kernel_rfl) ?_ (reads_of (by kernel_rfl)) (by kernel_rfl) (m:=1) (by kernel_rfl) (fun a ha=>?_)
   ·refine ⟨?_,?_,?_,?_,?_,?_,?_,?_,?_,?_,?_,?_,?_,trivial⟩
    ·exact oa fun j a ha=>d_move ha rfl
    ·exact oa fun j a ha=>d_move ha rfl
    ·exact oa fun j a ha=>d_nilp ha rfl e2
    ·exact oa fun j a ha=>d_fa ha rfl Try.runUnderlying119 rfl rfl Try.sizeOf3 (by decide)
    ·exact oc 0 (ok_do rfl fun a ha=>d_ld ha rfl Try.isAgg3 (ldI_c e170))
    ·exact oa fun j a ha=>d_move ha rfl
    ·exact oa fun j a ha=>d_nilp ha rfl e2
    ·exact oa fun j a ha=>d_fa ha rfl Try.runUnderlying119 rfl rfl Try.sizeOf3 (by decide)
    ·exact oc 0 (ok_do rfl fun a ha=>d_ld ha rfl Try.isAgg3 (ldI_c e172))
    ·exact oa fun j a ha=>d_max ha rfl rfl
    ·exact oa fun j a ha=>d_nilp ha rfl e2
    ·exact oa fun j a ha=>d_fa ha rfl Try.runUnderlying119 rfl rfl Try.sizeOf3 (by decide)
    ·exact oc 0 (ok_do rfl fun a ha=>d_st ha rfl rfl Try.sizeOf3 e174)
   ·have ha : Has 141 [] a:=ha.sub trivial
    have hS:=ha
    exact end0 Try.results70 hS ⟨w173,rfl,h,rfl⟩
  ·clear h
   intro hX175
   rintro ⟨x50,w51⟩ a wq ⟨ha,hwq⟩ h
   obtain rfl : w51 = wq:=hwq.symm
   have ha : Has 141 [(45,(.int .i64 x50)),(0,(.pointer a0)),(44,(.int .i64 (v48.n : Int)))] a:=ha
   have h : (evlog_Log_read_l2 v48 a0 x50 w51).t _:=h
   unfold evlog_Log_read_l2 at h
   refine wp_seq<|region_lit<|q ha (d_lt ha rfl rfl) fun a ha=>s_nil<|t_n<|wp_seq<|?_
   refine s_condN ha rfl h (fun b57 h=>?_) (fun b57 h=>?_)
   ·refine wp_skip<|t_n<|wp_seq<|wp_block<|wp_seq<|region_lit<|qm ha rfl fun a ha=>qa ha rfl fun a ha=>s_nil<|t_n<|wp_seq<|region_lit<|qm ha rfl fun a ha=>?_
    obtain ⟨p58,e59,h⟩:=h
    refine q ha (d_nilp ha rfl e59) fun a ha=>q ha (d_fa ha rfl Try.runUnderlying119 rfl rfl Try.sizeOf117 (by decide)) fun a ha=>?_
    obtain ⟨v60,e61,h⟩:=h
    refine q ha (d_ld ha rfl Try.isAgg117 (ldL_c e61)) fun a ha=>qm ha rfl fun a ha=>?_
    obtain ⟨p62,e63,h⟩:=h
    refine q ha (d_ix ha rfl rfl Try.runUnderlying117 Try.sizeOf125 e63) fun a ha=>qa ha rfl fun a ha=>s_nil<|t_n<|wp_seq<|?_
    obtain ⟨w64,e65,h⟩:=h
    obtain ⟨v66,e67,h⟩:=h
    obtain ⟨v68,e69,h⟩:=h
    obtain ⟨w70,e71,h⟩:=h
    have ha : Has 141 [(0,(.pointer a0)),(6,(.pointer (some p62))),(44,(.int .i64 (v48.n : Int))),(45,(.int .i64 x50))] a:=ha.sub ⟨rfl,rfl,rfl,rfl,trivial⟩
    refine region_draw (n:=141) (ds:=(⟨_,(.pointer a0),false,0,0,[],[(0,(.pointer a0))]⟩ :: ⟨_,(.pointer a0),false,0,0,[],[(0,(.pointer a0))]⟩ :: ⟨_,(.pointer (some p58)),false,0,0,[1],[(55,(.pointer a0))]⟩ :: ⟨_,(.pointer (some (p58.add 5))),false,0,0,[1,2],[(56,(.pointer (some p58)))]⟩ :: ⟨_,(.int .i64 v66),false,0,0,[1,2,3],[(57,(.pointer (some (p58.add 5))))]⟩ :: ⟨_,(.pointer (some p62)),false,0,0,[],[(6,(.pointer (some p62)))]⟩ :: ⟨_,(.pointer (some p62)),false,0,0,[5],[(59,(.pointer (some p62)))]⟩ :: ⟨_,(.pointer (some (p62.add 3))),false,0,0,[5,6],[(60,(.pointer (some p62)))]⟩ :: ⟨_,(.int .i64 v68),false,0,0,[5,6,7],[(61,(.pointer (some (p62.add 3))))]⟩ :: ⟨_,(.int .i64 (mxI v66 v68)),false,0,0,(rn 1 8),[(58,(.int .i64 v66)),(62,(.int .i64 v68))]⟩ :: ⟨_,(.pointer (some p58)),false,0,0,(rn 0 10),[(54,(.pointer a0))]⟩ :: ⟨_,(.pointer (some (p58.add 5))),false,0,0,(rn 0 11),[(64,(.pointer (some p58)))]⟩ :: ⟨_,undef,true,0,0,(rn 0 12),[(65,(.pointer (some (p58.add 5)))),(63,(.int .i64 (mxI v66 v68)))]⟩ :: [])) (W:=(fun j=>match j with | 0=>w64 | 1=>w70 | _=>w70)) (by kernel_rfl) ha (dr_w e65) (by kernel_rfl) ?_ (reads_of (by kernel_rfl)) (by kernel_rfl) (m:=1) (by kernel_rfl) (fun a ha=>?_)
    ·refine ⟨?_,?_,?_,?_,?_,?_,?_,?_,?_,?_,?_,?_,?_,trivial⟩
     ·exact oa fun j a ha=>d_move ha rfl
     ·exact oa fun j a ha=>d_move ha rfl
     ·exact oa fun j a ha=>d_nilp ha rfl e59
     ·exact oa fun j a ha=>d_fa ha rfl Try.runUnderlying119 rfl rfl Try.sizeOf3 (by decide)
     ·exact oc 0 (ok_do rfl fun a ha=>d_ld ha rfl Try.isAgg3 (ldI_c e67))
     ·exact oa fun j a ha=>d_move ha rfl
     ·exact oa fun j a ha=>d_nil ha rfl
     ·exact oa fun j a ha=>d_fa ha rfl Try.runUnderlying125 rfl rfl Try.sizeOf3 (by decide)
     ·exact oc 0 (ok_do rfl fun a ha=>d_ld ha rfl Try.isAgg3 (ldI_c e69))
     ·exact oa fun j a ha=>d_max ha rfl rfl
     ·exact oa fun j a ha=>d_nilp ha rfl e59
     ·exact oa fun j a ha=>d_fa ha rfl Try.runUnderlying119 rfl rfl Try.sizeOf3 (by decide)
     ·exact oc 0 (ok_do rfl fun a ha=>d_st ha rfl rfl Try.sizeOf3 e71)
    ·have ha : Has 141 [(0,(.pointer a0)),(6,(.pointer (some p62))),(44,(.int .i64 (v48.n : Int))),(45,(.int .i64 x50))] a:=ha.sub ⟨rfl,rfl,rfl,rfl,trivial⟩
     refine t_n<|wp_seq<|wp_block<|?_
     refine s_loopN1 (n:=141) (Lr:=fun i=>[(0,(.pointer a0)),(6,(.pointer (some p62))),(44,(.int .i64 (v48.n : Int))),(45,(.int .i64 x50))]) (wr:=fun i=>i) (e:=.exit 4) (I:=fun (s : World) a w=>Has 141 [(0,(.pointer a0)),(6,(.pointer (some p62))),(44,(.int .i64 (v48.n : Int))),(45,(.int .i64 x50))] a∧w = s) (un1 h) ⟨ha.sub ⟨rfl,rfl,rfl,rfl,trivial⟩,rfl⟩ (fun i h a ha=>?_) (fun hk76=>?_)
     ·obtain ⟨w75,rfl⟩ : ∃ x,x = i:=⟨i,rfl⟩
      have ha : Has 141 [(0,(.pointer a0)),(6,(.pointer (some p62))),(44,(.int .i64 (v48.n : Int))),(45,(.int .i64 x50))] a:=ha
      refine b_hit<|t_n<|region_lit<|qm ha rfl fun a ha=>qm ha rfl fun a ha=>q ha (d_nilp ha rfl e59) fun a ha=>q ha (d_fa ha rfl Try.runUnderlying119 rfl rfl Try.sizeOf3 (by decide)) fun a ha=>?_
      obtain ⟨v154,e155,h⟩:=h
      refine q ha (d_ld ha rfl Try.isAgg3 (ldI_c e155)) fun a ha=>q ha (d_nil ha rfl) fun a ha=>q ha (d_fa ha rfl Try.runUnderlying125 rfl rfl Try.sizeOf3 (by decide)) fun a ha=>?_
      obtain ⟨w156,e157,h⟩:=h
      refine q ha (d_st ha rfl rfl Try.sizeOf3 e157) fun a ha=>s_nil<|b_n<|t_n<|region_lit<|q ha (d_add ha rfl rfl) fun a ha=>qm ha rfl fun a ha=>s_nil<|?_
      have hS : Has 141 [(45,(.int .i64 (IntKind.wrap .i64 (x50 + 1)))),(0,(.pointer a0)),(44,(.int .i64 (v48.n : Int)))] _:=ha.sub ⟨rfl,rfl,rfl,trivial⟩
      exact ⟨((IntKind.wrap .i64 (x50 + 1)),w156),⟨hS,rfl⟩,h⟩
     ·clear h
      intro hX158
      rintro w72 a wq ⟨ha,hwq⟩ h
      obtain rfl : w72 = wq:=hwq.symm
      have ha : Has 141 [(0,(.pointer a0)),(6,(.pointer (some p62))),(44,(.int .i64 (v48.n : Int))),(45,(.int .i64 x50))] a:=ha
      have h : (evlog_Log_read_l3 p62 a0 w72).t _:=h
      unfold evlog_Log_read_l3 at h
      refine wp_block<|wp_seq<|?_
      refine reg_joinN (n:=141) (ι:=Addr×Int×Bool×World) (Lf:=fun i=>[(7,(.pointer (some i.1))),(8,(.int .i64 i.2.1)),(9,(.bool i.2.2.1)),(0,(.pointer a0)),(6,(.pointer (some p62))),(44,(.int .i64 (v48.n : Int))),(45,(.int .i64 x50))]) (wf:=fun i=>i.2.2.2) (un4 h) (fun i h a ha=>?_) (fun h hk83=>?_)
      ·obtain ⟨v78,v79,v80,w81⟩:=i
       have ha : Has 141 [(7,(.pointer (some v78))),(8,(.int .i64 v79)),(9,(.bool v80)),(0,(.pointer a0)),(6,(.pointer (some p62))),(44,(.int .i64 (v48.n : Int))),(45,(.int .i64 x50))] a:=ha
       refine t_n<|wp_seq<|wp_seq<|?_
       refine reg_joinN (n:=141) (ι:=Bool×World) (Lf:=fun i=>[(90,(.bool i.1)),(0,(.pointer a0)),(6,(.pointer (some p62))),(7,(.pointer (some v78))),(8,(.int .i64 v79)),(44,(.int .i64 (v48.n : Int))),(45,(.int .i64 x50))]) (wf:=fun i=>i.2) (un2 h) (fun i h a ha=>?_) (fun h hk117=>?_)
       ·obtain ⟨v114,w115⟩:=i
        have ha : Has 141 [(90,(.bool v114)),(0,(.pointer a0)),(6,(.pointer (some p62))),(7,(.pointer (some v78))),(8,(.int .i64 v79)),(44,(.int .i64 (v48.n : Int))),(45,(.int .i64 x50))] a:=ha
        refine t_n<|?_
        refine s_condN ha rfl h (fun b127 h=>?_) (fun b127 h=>?_)
        ·refine wp_exit<|t_x<|b_x (by decide)<|?_
         have hS : Has 141 [(0,(.pointer a0)),(6,(.pointer (some p62))),(44,(.int .i64 (v48.n : Int))),(45,(.int .i64 x50))] _:=ha.sub ⟨rfl,rfl,rfl,rfl,trivial⟩
         refine t_x<|?_
         exact hk76 w115 h _ hS
        ·refine wp_skip<|t_n<|wp_seq<|?_
         obtain ⟨w128,e129,h⟩:=h
         obtain ⟨v130,e131,h⟩:=h
         obtain ⟨c132,e133,h⟩:=h
         obtain ⟨s134,w135,e136,h⟩:=h
         obtain ⟨s137,w138,e139,h⟩:=h
         obtain ⟨w140,e141,h⟩:=h
         obtain ⟨e142,h⟩:=h
         have ha : Has 141 [(0,(.pointer a0)),(6,(.pointer (some p62))),(7,(.pointer (some v78))),(8,(.int .i64 v79)),(44,(.int .i64 (v48.n : Int))),(45,(.int .i64 x50))] a:=ha.sub ⟨rfl,rfl,rfl,rfl,rfl,rfl,trivial⟩
         refine region_draw (n:=141) (ds:=(⟨_,(.pointer (some p62)),false,0,2,[],[(6,(.pointer (some p62)))]⟩ :: ⟨_,(.pointer (some p62)),false,0,1,[],[(6,(.pointer (some p62)))]⟩ :: ⟨_,(.pointer (some p62)),false,0,1,[1],[(92,(.pointer (some p62)))]⟩ :: ⟨_,(.pointer (some (p62.add 4))),false,0,1,[1,2],[(93,(.pointer (some p62)))]⟩ :: ⟨_,(Sl.v v130),false,0,1,[1,2,3],[(94,(.pointer (some (p62.add 4))))]⟩ :: ⟨_,(.agg (List.toArray c132)),false,0,0,[],[(7,(.pointer (some v78)))]⟩ :: ⟨_,(Sl.v s134),true,0,0,[5],[(96,(.agg (List.toArray c132)))]⟩ :: ⟨_,(Sl.v s137),true,1,1,(rn 1 6),[(95,(Sl.v v130)),(97,(Sl.v s134))]⟩ :: ⟨_,(.pointer (some p62)),false,2,2,(rn 0 8),[(91,(.pointer (some p62)))]⟩ :: ⟨_,(.pointer (some (p62.add 4))),false,2,2,(rn 0 9),[(99,(.pointer (some p62)))]⟩ :: ⟨_,undef,true,2,2,(rn 0 10),[(100,(.pointer (some (p62.add 4)))),(98,(Sl.v s137))]⟩ :: [])) (W:=(fun j=>match j with | 0=>w128 | 1=>w135 | 2=>w138 | 3=>w140 | _=>w140)) (by kernel_rfl) ha (dr_w e129) (by kernel_rfl) ?_ (reads_of (by kernel_rfl)) (by kernel_rfl) (m:=3) (by kernel_rfl) (fun a ha=>?_)
         ·refine ⟨?_,?_,?_,?_,?_,?_,?_,?_,?_,?_,?_,trivial⟩
          ·exact oa fun j a ha=>d_move ha rfl
          ·exact oa fun j a ha=>d_move ha rfl
          ·exact oa fun j a ha=>d_nil ha rfl
          ·exact oa fun j a ha=>d_fa ha rfl Try.runUnderlying125 rfl rfl Try.sizeOf74 (by decide)
          ·intro j h1 h2; have h1 : 0≤j:=h1; have h2 : j≤1:=h2; rcases (by omega : j = 0∨j = 1) with rfl | rfl
           ·exact ok_do rfl fun a ha=>d_ld ha rfl Try.isAgg74 (ldL_c e131)
           ·exact ok_do rfl fun a ha=>d_ld ha rfl Try.isAgg74 (ldL_c e142)
          ·exact oc 0 (ok_do rfl fun a ha=>d_ldA ha rfl Try.isAgg87 Try.sizeOf87 e133)
          ·exact oc 0 (ok_do rfl fun a ha=>d_bsl (vs:=[(0,(.agg (List.toArray c132)))]) (ps:=[c132]) ha ⟨rfl,rfl,trivial⟩ ⟨rfl,rfl,trivial⟩ rfl Try.runUnderlying74 Try.sizeOf87 Try.zeroValue87 (by decide) e136)
          ·exact oc 1 (ok_do rfl fun a ha=>d_apS ha rfl rfl e139)
          ·exact oa fun j a ha=>d_nil ha rfl
          ·exact oa fun j a ha=>d_fa ha rfl Try.runUnderlying125 rfl rfl Try.sizeOf74 (by decide)
          ·exact oc 2 (ok_do rfl fun a ha=>d_st ha rfl rfl Try.sizeOf74 e141)
         ·have ha : Has 141 [(0,(.pointer a0)),(6,(.pointer (some p62))),(7,(.pointer (some v78))),(8,(.int .i64 v79)),(44,(.int .i64 (v48.n : Int))),(45,(.int .i64 x50))] a:=ha.sub ⟨rfl,rfl,rfl,rfl,rfl,rfl,trivial⟩
          refine t_n<|?_
          obtain ⟨w143,e144,h⟩:=h
          obtain ⟨v145,e146,h⟩:=h
          obtain ⟨w147,e148,h⟩:=h
          obtain ⟨p149,e150,h⟩:=h
          obtain ⟨w151,e152,h⟩:=h
          obtain ⟨e153,h⟩:=h
          have ha : Has 141 [(0,(.pointer a0)),(6,(.pointer (some p62))),(7,(.pointer (some v78))),(8,(.int .i64 v79)),(44,(.int .i64 (v48.n : Int))),(45,(.int .i64 x50))] a:=ha.sub ⟨rfl,rfl,rfl,rfl,rfl,rfl,trivial⟩
          refine region_draw (n:=141) (ds:=(⟨_,(.pointer (some p62)),false,0,0,[],[(6,(.pointer (some p62)))]⟩ :: ⟨_,(.pointer a0),false,0,1,[],[(0,(.pointer a0))]⟩ :: ⟨_,(.int .i64 v79),false,0,0,[],[(8,(.int .i64 v79))]⟩ :: ⟨_,(.pointer (some (v78.add 0))),false,0,1,[],[(7,(.pointer (some v78)))]⟩ :: ⟨_,(.int .i64 v145),false,0,1,[3],[(104,(.pointer (some (v78.add 0))))]⟩ :: ⟨_,(.pointer (some p62)),false,0,0,[0,2],[(101,(.pointer (some p62)))]⟩ :: ⟨_,(.pointer (some (p62.add 2))),false,0,0,[0,2,5],[(106,(.pointer (some p62)))]⟩ :: ⟨_,undef,true,0,0,[0,2,5,6],[(107,(.pointer (some (p62.add 2)))),(103,(.int .i64 v79))]⟩ :: ⟨_,(.pointer (some p149)),false,1,1,(rn 0 8),[(102,(.pointer a0))]⟩ :: ⟨_,(.pointer (some (p149.add 5))),false,1,1,(rn 0 9),[(108,(.pointer (some p149)))]⟩ :: ⟨_,undef,true,1,1,(rn 0 10),[(109,(.pointer (some (p149.add 5)))),(105,(.int .i64 v145))]⟩ :: [])) (W:=(fun j=>match j with | 0=>w143 | 1=>w147 | 2=>w151 | _=>w151)) (by kernel_rfl) ha (dr_w e144) (by kernel_rfl) ?_ (reads_of (by kernel_rfl)) (by kernel_rfl) (m:=2) (by kernel_rfl) (fun a ha=>?_)
          ·refine ⟨?_,?_,?_,?_,?_,?_,?_,?_,?_,?_,?_,trivial⟩
           ·exact oa fun j a ha=>d_move ha rfl
           ·exact oa fun j a ha=>d_move ha rfl
           ·exact oa fun j a ha=>d_move ha rfl
           ·exact oa fun j a ha=>d_fa ha rfl Try.runUnderlying87 rfl rfl Try.sizeOf3 (by decide)
           ·intro j h1 h2; have h1 : 0≤j:=h1; have h2 : j≤1:=h2; rcases (by omega : j = 0∨j = 1) with rfl | rfl
            ·exact ok_do rfl fun a ha=>d_ld ha rfl Try.isAgg3 (ldI_c e146)
            ·exact ok_do rfl fun a ha=>d_ld ha rfl Try.isAgg3 (ldI_c e153)
           ·exact oa fun j a ha=>d_nil ha rfl
           ·exact oa fun j a ha=>d_fa ha rfl Try.runUnderlying125 rfl rfl Try.sizeOf3 (by decide)
           ·exact oc 0 (ok_do rfl fun a ha=>d_st ha rfl rfl Try.sizeOf3 e148)
           ·exact oa fun j a ha=>d_nilp ha rfl e150
           ·exact oa fun j a ha=>d_fa ha rfl Try.runUnderlying119 rfl rfl Try.sizeOf3 (by decide)
           ·exact oc 1 (ok_do rfl fun a ha=>d_st ha rfl rfl Try.sizeOf3 e152)
          ·have ha : Has 141 [(0,(.pointer a0)),(6,(.pointer (some p62))),(44,(.int .i64 (v48.n : Int))),(45,(.int .i64 x50))] a:=ha.sub ⟨rfl,rfl,rfl,rfl,trivial⟩
           refine b_n<|?_
           have hS : Has 141 [(0,(.pointer a0)),(6,(.pointer (some p62))),(44,(.int .i64 (v48.n : Int))),(45,(.int .i64 x50))] _:=ha.sub ⟨rfl,rfl,rfl,rfl,trivial⟩
           exact ⟨w151,⟨hS,rfl⟩,h⟩
       ·obtain ⟨w118,e119,h⟩:=h
        refine ite_n h (fun b120 h=>?_) (fun b120 h=>?_)
        ·have ha : Has 141 [(0,(.pointer a0)),(6,(.pointer (some p62))),(7,(.pointer (some v78))),(8,(.int .i64 v79)),(9,(.bool v80)),(44,(.int .i64 (v48.n : Int))),(45,(.int .i64 x50))] a:=ha.sub ⟨rfl,rfl,rfl,rfl,rfl,rfl,rfl,trivial⟩
         refine region_draw (n:=141) (ds:=(⟨_,(.bool v80),false,0,0,[],[(9,(.bool v80))]⟩ :: ⟨_,(.bool (!v80)),false,0,0,[0],[(80,(.bool v80))]⟩ :: ⟨_,(.bool (!v80)),false,0,0,[0,1],[(81,(.bool (!v80)))]⟩ :: ⟨_,undef,false,0,0,[0,1,2],[(82,(.bool (!v80)))]⟩ :: ⟨_,undef,false,0,0,(rn 0 4),[(82,(.bool (!v80)))]⟩ :: ⟨_,undef,false,0,0,[0,1,2],[(82,(.bool (!v80)))]⟩ :: ⟨_,undef,false,0,0,[0,1,2,5],[(82,(.bool (!v80)))]⟩ :: ⟨_,undef,false,0,0,[0,1,2,5,6],[(82,(.bool (!v80)))]⟩ :: ⟨_,undef,false,0,0,[0,1,2,5,6,7],[(82,(.bool (!v80)))]⟩ :: ⟨_,undef,false,0,0,(rn 0 9),[(82,(.bool (!v80)))]⟩ :: ⟨_,(.bool true),false,0,0,(rn 0 10),[(82,(.bool (!v80))),(89,undef)]⟩ :: [])) (W:=(fun _=>w118)) (by kernel_rfl) ha (dr_w e119) (by kernel_rfl) ?_ (reads_of (by kernel_rfl)) (by kernel_rfl) (m:=0) (by kernel_rfl) (fun a ha=>?_)
         ·refine ⟨?_,?_,?_,?_,?_,?_,?_,?_,?_,?_,?_,trivial⟩
          ·exact oa fun j a ha=>d_move ha rfl
          ·exact oa fun j a ha=>d_not ha rfl
          ·exact oa fun j a ha=>d_move ha rfl
          ·exact on 82 (tn b120)
          ·exact on 82 (tn b120)
          ·exact on 82 (tn b120)
          ·exact on 82 (tn b120)
          ·exact on 82 (tn b120)
          ·exact on 82 (tn b120)
          ·exact on 82 (tn b120)
          ·exact oa fun j a ha=>d_pick_t ha rfl b120 rfl
         ·have ha : Has 141 [(0,(.pointer a0)),(6,(.pointer (some p62))),(7,(.pointer (some v78))),(8,(.int .i64 v79)),(44,(.int .i64 (v48.n : Int))),(45,(.int .i64 x50)),(90,(.bool true))] a:=ha.sub ⟨rfl,rfl,rfl,rfl,rfl,rfl,rfl,trivial⟩
          have hS : Has 141 [(90,(.bool true)),(0,(.pointer a0)),(6,(.pointer (some p62))),(7,(.pointer (some v78))),(8,(.int .i64 v79)),(44,(.int .i64 (v48.n : Int))),(45,(.int .i64 x50))] _:=ha.sub ⟨rfl,rfl,rfl,rfl,rfl,rfl,rfl,trivial⟩
          exact hk117 (true,w118) h _ hS
        ·obtain ⟨v121,e122,h⟩:=h
         obtain ⟨p123,e124,h⟩:=h
         obtain ⟨v125,e126,h⟩:=h
         have ha : Has 141 [(0,(.pointer a0)),(6,(.pointer (some p62))),(7,(.pointer (some v78))),(8,(.int .i64 v79)),(9,(.bool v80)),(44,(.int .i64 (v48.n : Int))),(45,(.int .i64 x50))] a:=ha.sub ⟨rfl,rfl,rfl,rfl,rfl,rfl,rfl,trivial⟩
         refine region_draw (n:=141) (ds:=(⟨_,(.bool v80),false,0,0,[],[(9,(.bool v80))]⟩ :: ⟨_,(.bool (!v80)),false,0,0,[0],[(80,(.bool v80))]⟩ :: ⟨_,(.bool (!v80)),false,0,0,[0,1],[(81,(.bool (!v80)))]⟩ :: ⟨_,(.pointer (some (v78.add 0))),false,0,0,[0,1,2],[(7,(.pointer (some v78))),(82,(.bool (!v80)))]⟩ :: ⟨_,(.int .i64 v121),false,0,0,(rn 0 4),[(83,(.pointer (some (v78.add 0)))),(82,(.bool (!v80)))]⟩ :: ⟨_,(.pointer a0),false,0,0,[0,1,2],[(0,(.pointer a0)),(82,(.bool (!v80)))]⟩ :: ⟨_,(.pointer (some p123)),false,0,0,[0,1,2,5],[(85,(.pointer a0)),(82,(.bool (!v80)))]⟩ :: ⟨_,(.pointer (some (p123.add 5))),false,0,0,[0,1,2,5,6],[(86,(.pointer (some p123))),(82,(.bool (!v80)))]⟩ :: ⟨_,(.int .i64 v125),false,0,0,[0,1,2,5,6,7],[(87,(.pointer (some (p123.add 5)))),(82,(.bool (!v80)))]⟩ :: ⟨_,(.bool (decide (v121≤v125))),false,0,0,(rn 0 9),[(84,(.int .i64 v121)),(88,(.int .i64 v125)),(82,(.bool (!v80)))]⟩ :: ⟨_,(.bool (decide (v121≤v125))),false,0,0,(rn 0 10),[(82,(.bool (!v80))),(89,(.bool (decide (v121≤v125))))]⟩ :: [])) (W:=(fun _=>w118)) (by kernel_rfl) ha (dr_w e119) (by kernel_rfl) ?_ (reads_of (by kernel_rfl)) (by kernel_rfl) (m:=0) (by kernel_rfl) (fun a ha=>?_)
         ·refine ⟨?_,?_,?_,?_,?_,?_,?_,?_,?_,?_,?_,trivial⟩
          ·exact oa fun j a ha=>d_move ha rfl
          ·exact oa fun j a ha=>d_not ha rfl
          ·exact oa fun j a ha=>d_move ha rfl
          ·exact oag 82 (nt b120) fun j a ha=>d_fa ha rfl Try.runUnderlying87 rfl rfl Try.sizeOf3 (by decide)
          ·exact oc (e:=false) 0 (ok_do_g rfl rfl (rfl : List.lookup 82 _ = _) (nt b120) fun a ha=>d_ld ha rfl Try.isAgg3 (ldI_c e122))
          ·exact oag 82 (nt b120) fun j a ha=>d_move ha rfl
          ·exact oag 82 (nt b120) fun j a ha=>d_nilp ha rfl e124
          ·exact oag 82 (nt b120) fun j a ha=>d_fa ha rfl Try.runUnderlying119 rfl rfl Try.sizeOf3 (by decide)
          ·exact oc (e:=false) 0 (ok_do_g rfl rfl (rfl : List.lookup 82 _ = _) (nt b120) fun a ha=>d_ld ha rfl Try.isAgg3 (ldI_c e126))
          ·exact oag 82 (nt b120) fun j a ha=>d_le ha rfl rfl
          ·exact oa fun j a ha=>d_pick_f ha rfl b120 rfl
         ·have ha : Has 141 [(0,(.pointer a0)),(6,(.pointer (some p62))),(7,(.pointer (some v78))),(8,(.int .i64 v79)),(44,(.int .i64 (v48.n : Int))),(45,(.int .i64 x50)),(90,(.bool (decide (v121≤v125))))] a:=ha.sub ⟨rfl,rfl,rfl,rfl,rfl,rfl,rfl,trivial⟩
          have hS : Has 141 [(90,(.bool (decide (v121≤v125)))),(0,(.pointer a0)),(6,(.pointer (some p62))),(7,(.pointer (some v78))),(8,(.int .i64 v79)),(44,(.int .i64 (v48.n : Int))),(45,(.int .i64 x50))] _:=ha.sub ⟨rfl,rfl,rfl,rfl,rfl,rfl,rfl,trivial⟩
          exact hk117 ((decide (v121≤v125)),w118) h _ hS
      ·obtain ⟨w84,e85,h⟩:=h
       obtain ⟨v86,e87,h⟩:=h
       obtain ⟨v88,e89,h⟩:=h
       obtain ⟨h,hB⟩:=h
       obtain ⟨v90,v91,v92,w93,e94,h⟩:=h
       obtain ⟨p95,w96,e97,h⟩:=h
       obtain ⟨w99,e100,h⟩:=h
       obtain ⟨e98,h⟩:=h
       have hA:=h
       have h:=hB
       obtain ⟨p101,w102,e103,h⟩:=h
       obtain ⟨v104,v105,v106,w107,e108,h⟩:=h
       obtain ⟨w110,e111,h⟩:=h
       obtain ⟨e109,h⟩:=h
       obtain ⟨e112,h⟩:=h
       obtain ⟨e113,h⟩:=h
       have hB:=h
       have ha : Has 141 [(0,(.pointer a0)),(6,(.pointer (some p62))),(44,(.int .i64 (v48.n : Int))),(45,(.int .i64 x50))] a:=ha.sub ⟨rfl,rfl,rfl,rfl,trivial⟩
       refine region_two (n:=141) (i:=9) (j:=14) (Dp:=[9,10,11,12,13,14,15,16,17]) (ds1:=(⟨_,(.pointer a0),false,0,0,[],[(0,(.pointer a0))]⟩ :: ⟨_,(.pointer (some p62)),false,0,0,[],[(6,(.pointer (some p62)))]⟩ :: ⟨_,(.pointer (some p62)),false,0,0,[1],[(68,(.pointer (some p62)))]⟩ :: ⟨_,(.pointer (some (p62.add 0))),false,0,0,[2,1],[(69,(.pointer (some p62)))]⟩ :: ⟨_,(.int .i64 v86),false,0,0,[3,2,1],[(70,(.pointer (some (p62.add 0))))]⟩ :: ⟨_,(.pointer (some p62)),false,0,0,[],[(6,(.pointer (some p62)))]⟩ :: ⟨_,(.pointer (some p62)),false,0,0,[5],[(72,(.pointer (some p62)))]⟩ :: ⟨_,(.pointer (some (p62.add 2))),false,0,0,[6,5],[(73,(.pointer (some p62)))]⟩ :: ⟨_,(.int .i64 v88),false,0,0,[7,6,5],[(74,(.pointer (some (p62.add 2))))]⟩ :: ⟨_,(.tuple #[(.agg (List.toArray v90)),(.int .i64 v91),(.bool v92)]),true,0,0,(rn 0 9),[(67,(.pointer a0)),(71,(.int .i64 v86)),(75,(.int .i64 v88))]⟩ :: ⟨_,(.tuple #[(.agg (List.toArray v90)),(.int .i64 v91),(.bool v92)]),false,1,2,(rn 0 10),[(76,(.tuple #[(.agg (List.toArray v90)),(.int .i64 v91),(.bool v92)]))]⟩ :: ⟨_,(.agg (List.toArray v90)),false,1,2,(rn 0 11),[(66,(.tuple #[(.agg (List.toArray v90)),(.int .i64 v91),(.bool v92)]))]⟩ :: ⟨_,(.int .i64 v91),false,1,3,(rn 0 11),[(66,(.tuple #[(.agg (List.toArray v90)),(.int .i64 v91),(.bool v92)]))]⟩ :: ⟨_,(.bool v92),false,1,3,(rn 0 11),[(66,(.tuple #[(.agg (List.toArray v90)),(.int .i64 v91),(.bool v92)]))]⟩ :: ⟨_,(.pointer (some p95)),true,1,1,(rn 0 10),[]⟩ :: ⟨_,undef,true,2,2,(rn 0 12 ++ [14]),[(7,(.pointer (some p95))),(77,(.agg (List.toArray v90)))]⟩ :: ⟨_,(.int .i64 v91),false,3,3,(rn 0 13 ++ [14,15]),[(78,(.int .i64 v91))]⟩ :: ⟨_,(.bool v92),false,3,3,(rn 0 17),[(79,(.bool v92))]⟩ :: [])) (ds2:=(⟨_,(.pointer a0),false,0,1,[],[(0,(.pointer a0))]⟩ :: ⟨_,(.pointer (some p62)),false,0,1,[],[(6,(.pointer (some p62)))]⟩ :: ⟨_,(.pointer (some p62)),false,0,1,[1],[(68,(.pointer (some p62)))]⟩ :: ⟨_,(.pointer (some (p62.add 0))),false,0,1,[2,1],[(69,(.pointer (some p62)))]⟩ :: ⟨_,(.int .i64 v86),false,0,1,[3,2,1],[(70,(.pointer (some (p62.add 0))))]⟩ :: ⟨_,(.pointer (some p62)),false,0,1,[],[(6,(.pointer (some p62)))]⟩ :: ⟨_,(.pointer (some p62)),false,0,1,[5],[(72,(.pointer (some p62)))]⟩ :: ⟨_,(.pointer (some (p62.add 2))),false,0,1,[6,5],[(73,(.pointer (some p62)))]⟩ :: ⟨_,(.int .i64 v88),false,0,1,[7,6,5],[(74,(.pointer (some (p62.add 2))))]⟩ :: ⟨_,(.tuple #[(.agg (List.toArray v104)),(.int .i64 v105),(.bool v106)]),true,1,1,(rn 0 9 ++ [14]),[(67,(.pointer a0)),(71,(.int .i64 v86)),(75,(.int .i64 v88))]⟩ :: ⟨_,(.tuple #[(.agg (List.toArray v104)),(.int .i64 v105),(.bool v106)]),false,2,2,(rn 0 10 ++ [14]),[(76,(.tuple #[(.agg (List.toArray v104)),(.int .i64 v105),(.bool v106)]))]⟩ :: ⟨_,(.agg (List.toArray v104)),false,2,2,(rn 0 11 ++ [14]),[(66,(.tuple #[(.agg (List.toArray v104)),(.int .i64 v105),(.bool v106)]))]⟩ :: ⟨_,(.int .i64 v105),false,2,3,(rn 0 11 ++ [14]),[(66,(.tuple #[(.agg (List.toArray v104)),(.int .i64 v105),(.bool v106)]))]⟩ :: ⟨_,(.bool v106),false,2,3,(rn 0 11 ++ [14]),[(66,(.tuple #[(.agg (List.toArray v104)),(.int .i64 v105),(.bool v106)]))]⟩ :: ⟨_,(.pointer (some p101)),true,0,0,[],[]⟩ :: ⟨_,undef,true,2,2,(rn 0 12 ++ [14]),[(7,(.pointer (some p101))),(77,(.agg (List.toArray v104)))]⟩ :: ⟨_,(.int .i64 v105),false,3,3,(rn 0 13 ++ [14,15]),[(78,(.int .i64 v105))]⟩ :: ⟨_,(.bool v106),false,3,3,(rn 0 17),[(79,(.bool v106))]⟩ :: [])) (W1:=(fun j=>match j with | 0=>w84 | 1=>w93 | 2=>w96 | 3=>w99 | _=>w99)) (W2:=(fun j=>match j with | 0=>w84 | 1=>w102 | 2=>w107 | 3=>w110 | _=>w110)) (m1:=3) (m2:=3) (by kernel_rfl) ha (dr_w e85) (dr_w e85) rfl (by kernel_rfl) (by kernel_rfl) rfl rfl (by decide) (reads_of (by kernel_rfl)) (reads_of (by kernel_rfl)) ?_ ?_ (by kernel_rfl) (by kernel_rfl) (fun a ha=>?_) (fun a ha=>?_)
       ·refine ⟨?_,?_,?_,?_,?_,?_,?_,?_,?_,?_,?_,?_,?_,?_,?_,?_,?_,?_,trivial⟩
        ·exact oa fun j a ha=>d_move ha rfl
        ·exact oa fun j a ha=>d_move ha rfl
        ·exact oa fun j a ha=>d_nil ha rfl
        ·exact oa fun j a ha=>d_fa ha rfl Try.runUnderlying125 rfl rfl Try.sizeOf3 (by decide)
        ·exact oc 0 (ok_do rfl fun a ha=>d_ld ha rfl Try.isAgg3 (ldI_c e87))
        ·exact oa fun j a ha=>d_move ha rfl
        ·exact oa fun j a ha=>d_nil ha rfl
        ·exact oa fun j a ha=>d_fa ha rfl Try.runUnderlying125 rfl rfl Try.sizeOf3 (by decide)
        ·exact oc 0 (ok_do rfl fun a ha=>d_ld ha rfl Try.isAgg3 (ldI_c e89))
        ·exact oc 0 (ok_do rfl fun a ha=>d_call (xs:=[_,_,_]) (vs:=[(.pointer a0),(.int .i64 v86),(.int .i64 v88)]) ha ⟨rfl,rfl,rfl,trivial⟩ Try.call108 (evlog_Log_record_ok e94))
        ·exact oa fun j a ha=>d_move ha rfl
        ·exact oa fun j a ha=>d_ext ha rfl rfl
        ·exact oa fun j a ha=>d_ext ha rfl rfl
        ·exact oa fun j a ha=>d_ext ha rfl rfl
        ·exact oc 1 (ok_do rfl fun a ha=>d_alloc Try.zeroValue87 (by kernel_rfl) e97)
        ·exact oc 2 (ok_do rfl fun a ha=>d_stA ha rfl rfl Try.sizeOf87 e98 e100)
        ·exact oa fun j a ha=>d_assign ha rfl
        ·exact oa fun j a ha=>d_assign ha rfl
       ·refine ⟨?_,?_,?_,?_,?_,?_,?_,?_,?_,?_,?_,?_,?_,?_,?_,?_,?_,?_,trivial⟩
        ·exact oa fun j a ha=>d_move ha rfl
        ·exact oa fun j a ha=>d_move ha rfl
        ·exact oa fun j a ha=>d_nil ha rfl
        ·exact oa fun j a ha=>d_fa ha rfl Try.runUnderlying125 rfl rfl Try.sizeOf3 (by decide)
        ·intro j h1 h2; have h1 : 0≤j:=h1; have h2 : j≤1:=h2; rcases (by omega : j = 0∨j = 1) with rfl | rfl
         ·exact ok_do rfl fun a ha=>d_ld ha rfl Try.isAgg3 (ldI_c e87)
         ·exact ok_do rfl fun a ha=>d_ld ha rfl Try.isAgg3 (ldI_c e112)
        ·exact oa fun j a ha=>d_move ha rfl
        ·exact oa fun j a ha=>d_nil ha rfl
        ·exact oa fun j a ha=>d_fa ha rfl Try.runUnderlying125 rfl rfl Try.sizeOf3 (by decide)
        ·intro j h1 h2; have h1 : 0≤j:=h1; have h2 : j≤1:=h2; rcases (by omega : j = 0∨j = 1) with rfl | rfl
         ·exact ok_do rfl fun a ha=>d_ld ha rfl Try.isAgg3 (ldI_c e89)
         ·exact ok_do rfl fun a ha=>d_ld ha rfl Try.isAgg3 (ldI_c e113)
        ·exact oc 1 (ok_do rfl fun a ha=>d_call (xs:=[_,_,_]) (vs:=[(.pointer a0),(.int .i64 v86),(.int .i64 v88)]) ha ⟨rfl,rfl,rfl,trivial⟩ Try.call108 (evlog_Log_record_ok e108))
        ·exact oa fun j a ha=>d_move ha rfl
        ·exact oa fun j a ha=>d_ext ha rfl rfl
        ·exact oa fun j a ha=>d_ext ha rfl rfl
        ·exact oa fun j a ha=>d_ext ha rfl rfl
        ·exact oc 0 (ok_do rfl fun a ha=>d_alloc Try.zeroValue87 (by kernel_rfl) e103)
        ·exact oc 2 (ok_do rfl fun a ha=>d_stA ha rfl rfl Try.sizeOf87 e109 e111)
        ·exact oa fun j a ha=>d_assign ha rfl
        ·exact oa fun j a ha=>d_assign ha rfl
       ·have h:=hA
        have ha : Has 141 [(0,(.pointer a0)),(6,(.pointer (some p62))),(7,(.pointer (some p95))),(8,(.int .i64 v91)),(9,(.bool v92)),(44,(.int .i64 (v48.n : Int))),(45,(.int .i64 x50))] a:=ha.sub ⟨rfl,rfl,rfl,rfl,rfl,rfl,rfl,trivial⟩
        have hS : Has 141 [(7,(.pointer (some p95))),(8,(.int .i64 v91)),(9,(.bool v92)),(0,(.pointer a0)),(6,(.pointer (some p62))),(44,(.int .i64 (v48.n : Int))),(45,(.int .i64 x50))] _:=ha.sub ⟨rfl,rfl,rfl,rfl,rfl,rfl,rfl,trivial⟩
        exact hk83 (p95,v91,v92,w99) h _ hS
       ·have h:=hB
        have ha : Has 141 [(0,(.pointer a0)),(6,(.pointer (some p62))),(7,(.pointer (some p101))),(8,(.int .i64 v105)),(9,(.bool v106)),(44,(.int .i64 (v48.n : Int))),(45,(.int .i64 x50))] a:=ha.sub ⟨rfl,rfl,rfl,rfl,rfl,rfl,rfl,trivial⟩
        have hS : Has 141 [(7,(.pointer (some p101))),(8,(.int .i64 v105)),(9,(.bool v106)),(0,(.pointer a0)),(6,(.pointer (some p62))),(44,(.int .i64 (v48.n : Int))),(45,(.int .i64 x50))] _:=ha.sub ⟨rfl,rfl,rfl,rfl,rfl,rfl,rfl,trivial⟩
        exact hk83 (p101,v105,v106,w110) h _ hS
   ·refine wp_exit<|t_x<|?_
    have hS : Has 141 [(0,(.pointer a0))] _:=ha.sub ⟨rfl,trivial⟩
    refine t_x<|?_
    exact hk55 w51 h _ hS
 ·clear h
  intro hX176
  rintro ⟨x5,w6⟩ a wq ⟨ha,hwq⟩ h
  obtain rfl : w6 = wq:=hwq.symm
  have ha : Has 141 [(14,(.int .i64 x5)),(0,(.pointer a0)),(13,(.int .i64 v3))] a:=ha
  have h : (evlog_Log_read_l1 v3 a0 x5 w6).t _:=h
  unfold evlog_Log_read_l1 at h
  refine wp_seq<|region_lit<|q ha (d_lt ha rfl rfl) fun a ha=>s_nil<|t_n<|wp_seq<|?_
  refine s_condN ha rfl h (fun b12 h=>?_) (fun b12 h=>?_)
  ·refine wp_skip<|t_n<|?_
   refine seq_joinN (n:=141) (ι:=World) (Lf:=fun i=>[(0,(.pointer a0)),(13,(.int .i64 v3)),(14,(.int .i64 x5))]) (wf:=fun i=>i) (un1 h) (fun i h a ha=>?_) (fun h hk15=>?_)
   ·obtain ⟨w13,rfl⟩ : ∃ x,x = i:=⟨i,rfl⟩
    have ha : Has 141 [(0,(.pointer a0)),(13,(.int .i64 v3)),(14,(.int .i64 x5))] a:=ha
    refine region_lit<|q ha (d_add ha rfl rfl) fun a ha=>qm ha rfl fun a ha=>s_nil<|?_
    have hS : Has 141 [(14,(.int .i64 (IntKind.wrap .i64 (x5 + 1)))),(0,(.pointer a0)),(13,(.int .i64 v3))] _:=ha.sub ⟨rfl,rfl,rfl,trivial⟩
    exact ⟨((IntKind.wrap .i64 (x5 + 1)),w13),⟨hS,rfl⟩,h⟩
   ·refine wp_block<|wp_seq<|region_lit<|qm ha rfl fun a ha=>qa ha rfl fun a ha=>s_nil<|t_n<|wp_seq<|region_lit<|qm ha rfl fun a ha=>qm ha rfl fun a ha=>?_
    obtain ⟨v16,v17,w18,e19,h⟩:=h
    refine q ha (d_call (xs:=[_,_]) (vs:=[(.pointer a0),(.int .i64 x5)]) ha ⟨rfl,rfl,trivial⟩ Try.call105 (evlog_Log_header_ok e19)) fun a ha=>qm ha rfl fun a ha=>q ha (d_ext ha rfl rfl) fun a ha=>q ha (d_ext ha rfl rfl) fun a ha=>?_
    obtain ⟨p20,w21,e22,h⟩:=h
    refine q ha (d_alloc Try.zeroValue125 (by kernel_rfl) e22) fun a ha=>?_
    obtain ⟨w24,e25,h⟩:=h
    obtain ⟨e23,h⟩:=h
    refine q ha (d_stA ha rfl rfl Try.sizeOf125 e23 e25) fun a ha=>qa ha rfl fun a ha=>s_nil<|t_n<|wp_seq<|region_lit<|qm ha rfl fun a ha=>s_nil<|t_n<|?_
    refine s_condN ha rfl h (fun b26 h=>?_) (fun b26 h=>?_)
    ·obtain ⟨w27,e28,h⟩:=h
     obtain ⟨p29,e30,h⟩:=h
     obtain ⟨v31,e32,h⟩:=h
     obtain ⟨c33,e34,h⟩:=h
     obtain ⟨s35,w36,e37,h⟩:=h
     obtain ⟨s38,w39,e40,h⟩:=h
     obtain ⟨w41,e42,h⟩:=h
     obtain ⟨e43,h⟩:=h
     have ha : Has 141 [(0,(.pointer a0)),(3,(.pointer (some p20))),(13,(.int .i64 v3)),(14,(.int .i64 x5)),(23,(.bool v17))] a:=ha.sub ⟨rfl,rfl,rfl,rfl,rfl,trivial⟩
     refine region_draw (n:=141) (ds:=(⟨_,(.pointer a0),false,0,2,[],[(0,(.pointer a0))]⟩ :: ⟨_,(.pointer a0),false,0,1,[],[(0,(.pointer a0))]⟩ :: ⟨_,(.pointer (some p29)),false,0,1,[1],[(25,(.pointer a0))]⟩ :: ⟨_,(.pointer (some (p29.add 7))),false,0,1,[1,2],[(26,(.pointer (some p29)))]⟩ :: ⟨_,(Sl.v v31),false,0,1,[1,2,3],[(27,(.pointer (some (p29.add 7))))]⟩ :: ⟨_,(.agg (List.toArray c33)),false,0,0,[],[(3,(.pointer (some p20)))]⟩ :: ⟨_,(Sl.v s35),true,0,0,[5],[(29,(.agg (List.toArray c33)))]⟩ :: ⟨_,(Sl.v s38),true,1,1,(rn 1 6),[(28,(Sl.v v31)),(30,(Sl.v s35))]⟩ :: ⟨_,(.pointer (some p29)),false,2,2,(rn 0 8),[(24,(.pointer a0))]⟩ :: ⟨_,(.pointer (some (p29.add 7))),false,2,2,(rn 0 9),[(32,(.pointer (some p29)))]⟩ :: ⟨_,undef,true,2,2,(rn 0 10),[(33,(.pointer (some (p29.add 7)))),(31,(Sl.v s38))]⟩ :: [])) (W:=(fun j=>match j with | 0=>w27 | 1=>w36 | 2=>w39 | 3=>w41 | _=>w41)) (by kernel_rfl) ha (dr_w e28) (by kernel_rfl) ?_ (reads_of (by kernel_rfl)) (by kernel_rfl) (m:=3) (by kernel_rfl) (fun a ha=>?_)
     ·refine ⟨?_,?_,?_,?_,?_,?_,?_,?_,?_,?_,?_,trivial⟩
      ·exact oa fun j a ha=>d_move ha rfl
      ·exact oa fun j a ha=>d_move ha rfl
      ·exact oa fun j a ha=>d_nilp ha rfl e30
      ·exact oa fun j a ha=>d_fa ha rfl Try.runUnderlying119 rfl rfl Try.sizeOf117 (by decide)
      ·intro j h1 h2; have h1 : 0≤j:=h1; have h2 : j≤1:=h2; rcases (by omega : j = 0∨j = 1) with rfl | rfl
       ·exact ok_do rfl fun a ha=>d_ld ha rfl Try.isAgg117 (ldL_c e32)
       ·exact ok_do rfl fun a ha=>d_ld ha rfl Try.isAgg117 (ldL_c e43)
      ·exact oc 0 (ok_do rfl fun a ha=>d_ldA ha rfl Try.isAgg125 Try.sizeOf125 e34)
      ·exact oc 0 (ok_do rfl fun a ha=>d_bsl (vs:=[(0,(.agg (List.toArray c33)))]) (ps:=[c33]) ha ⟨rfl,rfl,trivial⟩ ⟨rfl,rfl,trivial⟩ rfl Try.runUnderlying117 Try.sizeOf125 Try.zeroValue125 (by decide) e37)
      ·exact oc 1 (ok_do rfl fun a ha=>d_apS ha rfl rfl e40)
      ·exact oa fun j a ha=>d_nilp ha rfl e30
      ·exact oa fun j a ha=>d_fa ha rfl Try.runUnderlying119 rfl rfl Try.sizeOf117 (by decide)
      ·exact oc 2 (ok_do rfl fun a ha=>d_st ha rfl rfl Try.sizeOf117 e42)
     ·have ha : Has 141 [(0,(.pointer a0)),(13,(.int .i64 v3)),(14,(.int .i64 x5))] a:=ha.sub ⟨rfl,rfl,rfl,trivial⟩
      refine b_n<|?_
      have hS : Has 141 [(0,(.pointer a0)),(13,(.int .i64 v3)),(14,(.int .i64 x5))] _:=ha.sub ⟨rfl,rfl,rfl,trivial⟩
      exact hk15 w41 h _ hS
    ·refine wp_skip<|b_n<|?_
     have hS : Has 141 [(0,(.pointer a0)),(13,(.int .i64 v3)),(14,(.int .i64 x5))] _:=ha.sub ⟨rfl,rfl,rfl,trivial⟩
     exact hk15 w24 h _ hS
  ·refine wp_exit<|t_x<|?_
   have hS : Has 141 [(0,(.pointer a0))] _:=ha.sub ⟨rfl,trivial⟩
   refine t_x<|?_
   exact hk10 w6 h _ hS
end Go.Proofs.Ytejkaciimmfgcaa.D
