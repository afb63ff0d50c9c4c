/- Texts of this project that the claim of EvlogOpens uses, put together by pack.py: FnF0, RGood, Ref, RDisk, RDk, ROct, RWhole, RCell, RMPut, RRec, RRead. -/
import Derived.Test.YtejkaciimmfgcaaPEvlogOpensA
import Derived.Test.YtejkaciimmfgcaaPEvlogOpensB
import Derived.Test.YtejkaciimmfgcaaPEvlogOpensC
import Derived.Test.YtejkaciimmfgcaaPEvlogOpensD
namespace Go.Proofs.Ytejkaciimmfgcaa.D
open Go
set_option linter.unusedVariables false
set_option linter.unusedSimpArgs false
noncomputable def grapevineref11_Log_place (a0 : Option Addr) (a1 : Int) (a2 : Int) (w : World) : Option (Int×World) :=
 (a0).bind fun p1 =>
 (ldI .i64 w (p1.add 1)).bind fun v3 =>
 some ((IntKind.wrap .i64 ((IntKind.wrap .i64 ((IntKind.wrap .i64 (v3 + 2)) + (IntKind.wrap .i64 (16 * a1)))) + a2)),w)
set_option maxHeartbeats 1000000 in
set_option maxRecDepth 100000 in
theorem grapevineref11_Log_place_ok {a0 : Option Addr} {a1 : Int} {a2 : Int} {w w' : World} {r0 : Int} (h : grapevineref11_Log_place a0 a1 a2 w = some (r0,w')) : Calls Try.prog 116 #[(.pointer a0),(.int .i64 a1),(.int .i64 a2)] w fun e w''=>e = .returned (.int .i64 r0)∧w'' = w':=by
 refine calls_dec (n:=17) Try.func116 rfl Try.ntmps116 (by simp) fun a ha=>?_
 unfold grapevineref11_Log_place at h
 refine wp_seq<|region_lit<|qa ha rfl fun a ha=>s_nil<|t_n<|wp_seq<|region_lit<|qm ha rfl fun a ha=>?_
 obtain ⟨p1,e2,h⟩:=bs1 h
 refine q ha (d_nilp ha rfl e2) fun a ha=>q ha (d_fa ha rfl Try.runUnderlying132 rfl rfl Try.sizeOf3 (by decide)) fun a ha=>?_
 obtain ⟨v3,e4,h⟩:=bs1 h
 refine q ha (d_ld ha rfl Try.isAgg3 (ldI_c e4)) fun a ha=>q ha (d_add ha rfl rfl) fun a ha=>qm ha rfl fun a ha=>q ha (d_mul ha rfl rfl) fun a ha=>q ha (d_add ha rfl rfl) fun a ha=>qm ha rfl fun a ha=>q ha (d_add ha rfl rfl) fun a ha=>qa ha rfl fun a ha=>s_nil<|t_n<|wp_ret<|?_
 have hS:=ha
 cases h
 exact ret1 Try.results116 hS rfl ⟨rfl,rfl⟩
noncomputable def grapevineref11_Log_sector (a0 : Option Addr) (a1 : Int) (a2 : Int) (w : World) : Option (Sl×World) :=
 (dr w).bind fun w1 =>
 (a0).bind fun p3 =>
 (ldP w1 (p3.add 0)).bind fun v5 =>
 bind2 (grapevineref11_Log_place a0 a1 a2 w1) fun v7 w8 =>
 bind3 (grapevineref09_Disk_Read v5 v7 w8) fun v10 v11 w12 =>
 chk (ldP w8 (p3.add 0) = some v5) <|
 some (v10,w12)
set_option maxHeartbeats 1000000 in
set_option maxRecDepth 100000 in
theorem grapevineref11_Log_sector_ok {a0 : Option Addr} {a1 : Int} {a2 : Int} {w w' : World} {r0 : Sl} (h : grapevineref11_Log_sector a0 a1 a2 w = some (r0,w')) : Calls Try.prog 117 #[(.pointer a0),(.int .i64 a1),(.int .i64 a2)] w fun e w''=>e = .returned (Sl.v r0)∧w'' = w':=by
 refine calls_dec (n:=22) Try.func117 rfl Try.ntmps117 (by simp) fun a ha=>?_
 unfold grapevineref11_Log_sector at h
 refine wp_seq<|region_lit<|qa ha rfl fun a ha=>s_nil<|t_n<|wp_seq<|?_
 obtain ⟨w1,e2,h⟩:=bs1 h
 obtain ⟨p3,e4,h⟩:=bs1 h
 obtain ⟨v5,e6,h⟩:=bs1 h
 obtain ⟨v7,w8,e9,h⟩:=bs2 h
 obtain ⟨v10,v11,w12,e13,h⟩:=bs3 h
 obtain ⟨e14,h⟩:=chk_some h
 have ha : Has 22 [(0,(.pointer a0)),(1,(.int .i64 a1)),(2,(.int .i64 a2))] a:=ha.sub ⟨rfl,rfl,rfl,trivial⟩
 refine region_draw (n:=22) (ds:=(⟨_,(.pointer a0),false,0,1,[],[(0,(.pointer a0))]⟩ :: ⟨_,(.pointer (some p3)),false,0,1,[0],[(10,(.pointer a0))]⟩ :: ⟨_,(.pointer (some (p3.add 0))),false,0,1,[0,1],[(11,(.pointer (some p3)))]⟩ :: ⟨_,(.pointer v5),false,0,1,[0,1,2],[(12,(.pointer (some (p3.add 0))))]⟩ :: ⟨_,(.pointer a0),false,0,0,[],[(0,(.pointer a0))]⟩ :: ⟨_,(.int .i64 a1),false,0,0,[],[(1,(.int .i64 a1))]⟩ :: ⟨_,(.int .i64 a2),false,0,0,[],[(2,(.int .i64 a2))]⟩ :: ⟨_,(.int .i64 v7),true,0,0,[4,5,6],[(14,(.pointer a0)),(15,(.int .i64 a1)),(16,(.int .i64 a2))]⟩ :: ⟨_,(.tuple #[(Sl.v v10),(.int .i64 v11)]),true,1,1,(rn 0 8),[(13,(.pointer v5)),(17,(.int .i64 v7))]⟩ :: ⟨_,(.tuple #[(Sl.v v10),(.int .i64 v11)]),false,2,2,(rn 0 9),[(18,(.tuple #[(Sl.v v10),(.int .i64 v11)]))]⟩ :: ⟨_,(Sl.v v10),false,2,2,(rn 0 10),[(9,(.tuple #[(Sl.v v10),(.int .i64 v11)]))]⟩ :: ⟨_,(.int .i64 v11),false,2,2,(rn 0 10),[(9,(.tuple #[(Sl.v v10),(.int .i64 v11)]))]⟩ :: ⟨_,(Sl.v v10),false,2,2,(rn 0 11),[(19,(Sl.v v10))]⟩ :: ⟨_,(.int .i64 v11),false,2,2,(rn 0 13),[(20,(.int .i64 v11))]⟩ :: [])) (W:=(fun j=>match j with | 0=>w1 | 1=>w8 | 2=>w12 | _=>w12)) (by kernel_rfl) ha (dr_w e2) (by kernel_rfl) ?_ (reads_of (by kernel_rfl)) (by kernel_rfl) (m:=2) (by kernel_rfl) (fun a ha=>?_)
 ·refine ⟨?_,?_,?_,?_,?_,?_,?_,?_,?_,?_,?_,?_,?_,?_,trivial⟩
  ·exact oa fun j a ha=>d_move ha rfl
  ·exact oa fun j a ha=>d_nilp ha rfl e4
  ·exact oa fun j a ha=>d_fa ha rfl Try.runUnderlying132 rfl rfl Try.sizeOf61 (by decide)
  ·intro j h1 h2; have h1 : 0≤j:=h1; have h2 : j≤1:=h2; rcases (by omega : j = 0∨j = 1) with rfl | rfl
   ·exact ok_do rfl fun a ha=>d_ld ha rfl Try.isAgg61 (ldP_c e6)
   ·exact ok_do rfl fun a ha=>d_ld ha rfl Try.isAgg61 (ldP_c e14)
  ·exact oa fun j a ha=>d_move ha rfl
  ·exact oa fun j a ha=>d_move ha rfl
  ·exact oa fun j a ha=>d_move ha rfl
  ·exact oc 0 (ok_do rfl fun a ha=>d_call (xs:=[_,_,_]) (vs:=[(.pointer a0),(.int .i64 a1),(.int .i64 a2)]) ha ⟨rfl,rfl,rfl,trivial⟩ Try.call116 (grapevineref11_Log_place_ok e9))
  ·exact oc 1 (ok_do rfl fun a ha=>d_call (xs:=[_,_]) (vs:=[(.pointer v5),(.int .i64 v7)]) ha ⟨rfl,rfl,trivial⟩ Try.call100 (grapevineref09_Disk_Read_ok e13))
  ·exact oa fun j a ha=>d_move ha rfl
  ·exact oa fun j a ha=>d_ext ha rfl rfl
  ·exact oa fun j a ha=>d_ext ha rfl rfl
  ·exact oa fun j a ha=>d_assign ha rfl
  ·exact oa fun j a ha=>d_assign ha rfl
 ·have ha : Has 22 [(7,(Sl.v v10))] a:=ha.sub ⟨rfl,trivial⟩
  refine t_n<|wp_seq<|region_lit<|qm ha rfl fun a ha=>qa ha rfl fun a ha=>s_nil<|t_n<|wp_ret<|?_
  have hS:=ha
  cases h
  exact ret1 Try.results117 hS rfl ⟨rfl,rfl⟩
noncomputable def grapevineref11_Laid_l1 (x15 : Sl) (w16 : World) : Option ((Sl×World)⊕(Sl×World)) :=
 if (decide ((x15.n : Int) < 63)) = true then
 (bind2 (bsl w16 5 1 [[(.int .u8 0)]]) fun s24 w25 =>
 bind2 (apS Try.prog 72 x15 s24 w25) fun s27 w28 =>
 some (.inl (s27,w28)))
 else
 (some (.inr (x15,w16)))
noncomputable def grapevineref11_Laid (a0 : Int) (a1 : Sl) (a2 : Bool) (w : World) : Option (Sl×World) :=
 bind2 (bsl w 5 1 [[(.int .u8 231)],[(.int .u8 (IntKind.wrap .u8 a0))],[(.int .u8 (IntKind.wrap .u8 (a1.n : Int)))],[(.int .u8 0)]]) fun s1 w2 =>
 bind2 (apS Try.prog 72 s1 a1 w2) fun s4 w5 =>
 (if a2 = true then
 ((ix s4 3 1).bind fun p11 =>
 (stV w5 p11 (.int .u8 1)).bind fun w13 =>
 some w13)
 else
 (some w5)).bind fun w7 =>
 bind2 (loopF (fun s : Sl×World=>grapevineref11_Laid_l1 s.1 s.2) (s4,w7)) fun v19 w20 =>
 bind2 (bsl w20 5 1 [[(.int .u8 231)]]) fun s30 w31 =>
 bind2 (apS Try.prog 72 v19 s30 w31) fun s33 w34 =>
 some (s33,w34)
set_option maxHeartbeats 1000000 in
set_option maxRecDepth 100000 in
theorem grapevineref11_Laid_ok {a0 : Int} {a1 : Sl} {a2 : Bool} {w w' : World} {r0 : Sl} (h : grapevineref11_Laid a0 a1 a2 w = some (r0,w')) : Calls Try.prog 127 #[(.int .i64 a0),(Sl.v a1),(.bool a2)] w fun e w''=>e = .returned (Sl.v r0)∧w'' = w':=by
 refine calls_dec (n:=28) Try.func127 rfl Try.ntmps127 (by simp) fun a ha=>?_
 unfold grapevineref11_Laid at h
 refine wp_seq<|region_lit<|qa ha rfl fun a ha=>s_nil<|t_n<|wp_seq<|region_lit<|qm ha rfl fun a ha=>q ha (d_conv ha rfl Try.runUnderlying3 Try.runUnderlying5) fun a ha=>qm ha rfl fun a ha=>q ha (d_lenS ha rfl Try.runUnderlying72) fun a ha=>q ha (d_conv ha rfl Try.runUnderlying3 Try.runUnderlying5) fun a ha=>?_
 obtain ⟨s1,w2,e3,h⟩:=bs2 h
 refine q ha (d_bsl (vs:=[(0,(.int .u8 231)),(1,(.int .u8 (IntKind.wrap .u8 a0))),(2,(.int .u8 (IntKind.wrap .u8 (a1.n : Int)))),(3,(.int .u8 0))]) (ps:=[[(.int .u8 231)],[(.int .u8 (IntKind.wrap .u8 a0))],[(.int .u8 (IntKind.wrap .u8 (a1.n : Int)))],[(.int .u8 0)]]) ha ⟨rfl,rfl,rfl,rfl,rfl,rfl,rfl,rfl,trivial⟩ ⟨rfl,rfl,rfl,rfl,rfl,rfl,rfl,rfl,trivial⟩ rfl Try.runUnderlying72 Try.sizeOf5 Try.zeroValue5 (by decide) e3) fun a ha=>qm ha rfl fun a ha=>?_
 obtain ⟨s4,w5,e6,h⟩:=bs2 h
 refine q ha (d_apS ha rfl rfl e6) fun a ha=>qa ha rfl fun a ha=>s_nil<|t_n<|?_
 obtain ⟨w7,e8,h⟩:=bs1 h
 refine seq_join (n:=28) (L:=[(7,(Sl.v s4))]) (w':=w7) (fun a ha=>?_) (fun hk9=>?_)
 ·refine wp_seq<|wp_block<|?_
  obtain ⟨v19,w20,e18,h⟩:=bs2 h
  refine s_loop1 (n:=28) (L:=[(7,(Sl.v v19))]) (w':=w20) (e:=.exit 0) (I:=fun (s : Sl×World) a w=>Has 28 [(7,(Sl.v s.1))] a∧w = s.2) ⟨ha.sub ⟨rfl,trivial⟩,rfl⟩ e18 (fun a ha=>?_) (fun hk21=>?_)
  ·refine b_hit<|t_n<|wp_seq<|region_lit<|qm ha rfl fun a ha=>?_
   obtain ⟨s30,w31,e32,h⟩:=bs2 h
   refine q ha (d_bsl (vs:=[(0,(.int .u8 231))]) (ps:=[[(.int .u8 231)]]) ha ⟨rfl,rfl,trivial⟩ ⟨rfl,rfl,trivial⟩ rfl Try.runUnderlying72 Try.sizeOf5 Try.zeroValue5 (by decide) e32) fun a ha=>?_
   obtain ⟨s33,w34,e35,h⟩:=bs2 h
   refine q ha (d_apS ha rfl rfl e35) fun a ha=>qa ha rfl fun a ha=>s_nil<|t_n<|wp_ret<|?_
   have hS:=ha
   cases h
   exact ret1 Try.results127 hS rfl ⟨rfl,rfl⟩
  ·clear h
   rintro ⟨x15,w16⟩ a wq o ⟨ha,hwq⟩ h hr22
   obtain rfl : w16 = wq:=hwq.symm
   have ha : Has 28 [(7,(Sl.v x15))] a:=ha
   have h : grapevineref11_Laid_l1 x15 w16 = some o:=h
   unfold grapevineref11_Laid_l1 at h
   refine wp_seq<|wp_seq<|region_lit<|qm ha rfl fun a ha=>q ha (d_lenS ha rfl Try.runUnderlying72) fun a ha=>q ha (d_lt ha rfl rfl) fun a ha=>s_nil<|t_n<|?_
   refine s_cond ha rfl h (fun b23 h=>?_) (fun b23 h=>?_)
   ·refine wp_skip<|t_n<|wp_block<|region_lit<|qm ha rfl fun a ha=>?_
    obtain ⟨s24,w25,e26,h⟩:=bs2 h
    refine q ha (d_bsl (vs:=[(0,(.int .u8 0))]) (ps:=[[(.int .u8 0)]]) ha ⟨rfl,rfl,trivial⟩ ⟨rfl,rfl,trivial⟩ rfl Try.runUnderlying72 Try.sizeOf5 Try.zeroValue5 (by decide) e26) fun a ha=>?_
    obtain ⟨s27,w28,e29,h⟩:=bs2 h
    refine q ha (d_apS ha rfl rfl e29) fun a ha=>qa ha rfl fun a ha=>s_nil<|b_n<|?_
    have hS : Has 28 [(7,(Sl.v s27))] _:=ha.sub ⟨rfl,trivial⟩
    cases h
    exact lp_next ⟨hS,rfl⟩
   ·refine wp_exit<|t_x<|?_
    have hS : Has 28 [(7,(Sl.v x15))] _:=ha.sub ⟨rfl,trivial⟩
    cases h
    cases hr22 _ rfl
    refine lp_x<|?_
    exact hk21 _ hS
 ·clear h
  have h:=e8
  refine wp_seq<|region_lit<|qm ha rfl fun a ha=>s_nil<|t_n<|?_
  refine s_cond ha rfl h (fun b10 h=>?_) (fun b10 h=>?_)
  ·refine region_lit<|qm ha rfl fun a ha=>?_
   obtain ⟨p11,e12,h⟩:=bs1 h
   refine q ha (d_ix ha rfl rfl Try.runUnderlying72 Try.sizeOf5 e12) fun a ha=>?_
   obtain ⟨w13,e14,h⟩:=bs1 h
   refine q ha (d_st ha rfl rfl Try.sizeOf5 e14) fun a ha=>s_nil<|?_
   have hS : Has 28 [(7,(Sl.v s4))] _:=ha.sub ⟨rfl,trivial⟩
   cases h
   exact hk9 _ hS
  ·refine wp_skip<|?_
   have hS : Has 28 [(7,(Sl.v s4))] _:=ha.sub ⟨rfl,trivial⟩
   cases h
   exact hk9 _ hS
noncomputable def grapevineref11_Good (a0 : Sl) (w : World) : Option (Int×Sl×Bool×World) :=
 bind2 (if ((a0.n : Int) != 64) = true then
 (some (true,w))
 else
 ((ix a0 1 1).bind fun p6 =>
 (ldI .u8 w p6).bind fun v8 =>
 if (decide (v8 < 1)) = true then
 (some (true,w))
 else
 ((ix a0 1 1).bind fun p11 =>
 (ldI .u8 w p11).bind fun v13 =>
 if (decide (3 < v13)) = true then
 (some (true,w))
 else
 ((ix a0 2 1).bind fun p16 =>
 (ldI .u8 w p16).bind fun v18 =>
 some ((decide (59 < v18)),w))))) fun v1 w2 =>
 if v1 = true then
 (some (0,Sl.nil,false,w2))
 else
 ((ix a0 2 1).bind fun p21 =>
 (ldI .u8 w2 p21).bind fun v23 =>
 (slS a0 4 (IntKind.wrap .i64 (4 + (IntKind.wrap .i64 v23))) (a0.c : Int) 1).bind fun s25 =>
 (ix a0 3 1).bind fun p27 =>
 (ldI .u8 w2 p27).bind fun v29 =>
 bind2 ((dr w2).bind fun w35 =>
 (ix a0 1 1).bind fun p37 =>
 (ldI .u8 w35 p37).bind fun v39 =>
 bind2 (grapevineref11_Laid (IntKind.wrap .i64 v39) s25 (v29 == 1) w35) fun v41 w42 =>
 (b2s v41 w42).bind fun s44 =>
 (b2s a0 w42).bind fun s46 =>
 if (!sEq s44 s46) = true then
 (chk (b2s a0 w35 = some s46) <|
 some (true,w42))
 else
 (if (!(v29 == 1)) = true then
 (chk (b2s a0 w35 = some s46) <|
 some (((s25.n : Int) != 59),w42))
 else
 (chk (b2s a0 w35 = some s46) <|
 some (false,w42)))) fun v31 w32 =>
 if v31 = true then
 (some (0,Sl.nil,false,w32))
 else
 ((ix a0 1 1).bind fun p54 =>
 (ldI .u8 w32 p54).bind fun v56 =>
 some ((IntKind.wrap .i64 v56),s25,(v29 == 1),w32)))
set_option maxHeartbeats 1000000 in
set_option maxRecDepth 100000 in
theorem grapevineref11_Good_ok {a0 : Sl} {w w' : World} {r0 : Int} {r1 : Sl} {r2 : Bool} (h : grapevineref11_Good a0 w = some (r0,r1,r2,w')) : Calls Try.prog 145 #[(Sl.v a0)] w fun e w''=>e = .returned (.tuple #[(.int .i64 r0),(Sl.v r1),(.bool r2)])∧w'' = w':=by
 refine calls_dec (n:=65) Try.func145 rfl Try.ntmps145 (by simp) fun a ha=>?_
 unfold grapevineref11_Good at h
 refine wp_seq<|region_lit<|qa ha rfl fun a ha=>qa ha rfl fun a ha=>qa ha rfl fun a ha=>s_nil<|t_n<|wp_seq<|wp_seq<|?_
 obtain ⟨v1,w2,e3,h⟩:=bs2 h
 refine reg_join (n:=65) (L:=[(27,(.bool v1)),(0,(Sl.v a0))]) (w':=w2) (fun a ha=>?_) (fun hk4=>?_)
 ·refine t_n<|?_
  refine s_cond ha rfl h (fun b20 h=>?_) (fun b20 h=>?_)
  ·refine wp_seq<|region_lit<|qa ha rfl fun a ha=>qa ha rfl fun a ha=>qa ha rfl fun a ha=>s_nil<|t_n<|wp_ret<|t_r<|?_
   have hS:=ha
   cases h
   exact ret3 Try.results145 hS rfl rfl rfl ⟨rfl,rfl⟩
  ·refine wp_skip<|t_n<|wp_seq<|region_lit<|qm ha rfl fun a ha=>qm ha rfl fun a ha=>?_
   obtain ⟨p21,e22,h⟩:=bs1 h
   refine q ha (d_ix ha rfl rfl Try.runUnderlying72 Try.sizeOf5 e22) fun a ha=>?_
   obtain ⟨v23,e24,h⟩:=bs1 h
   refine q ha (d_ld ha rfl Try.isAgg5 (ldI_c e24)) fun a ha=>q ha (d_conv ha rfl Try.runUnderlying5 Try.runUnderlying3) fun a ha=>q ha (d_add ha rfl rfl) fun a ha=>?_
   obtain ⟨s25,e26,h⟩:=bs1 h
   refine q ha (d_slS ha rfl Try.runUnderlying72 Try.sizeOf5 ⟨_,rfl⟩ ⟨_,rfl⟩ rfl (by simp) e26) fun a ha=>qa ha rfl fun a ha=>s_nil<|t_n<|wp_seq<|region_lit<|qm ha rfl fun a ha=>?_
   obtain ⟨p27,e28,h⟩:=bs1 h
   refine q ha (d_ix ha rfl rfl Try.runUnderlying72 Try.sizeOf5 e28) fun a ha=>?_
   obtain ⟨v29,e30,h⟩:=bs1 h
   refine q ha (d_ld ha rfl Try.isAgg5 (ldI_c e30)) fun a ha=>q ha (d_eq ha rfl rfl) fun a ha=>qa ha rfl fun a ha=>s_nil<|t_n<|wp_seq<|wp_seq<|?_
   obtain ⟨v31,w32,e33,h⟩:=bs2 h
   refine reg_join (n:=65) (L:=[(58,(.bool v31)),(0,(Sl.v a0)),(5,(Sl.v s25)),(6,(.bool (v29 == 1)))]) (w':=w32) (fun a ha=>?_) (fun hk34=>?_)
   ·refine t_n<|?_
    refine s_cond ha rfl h (fun b53 h=>?_) (fun b53 h=>?_)
    ·refine wp_seq<|region_lit<|qa ha rfl fun a ha=>qa ha rfl fun a ha=>qa ha rfl fun a ha=>s_nil<|t_n<|wp_ret<|t_r<|?_
     have hS:=ha
     cases h
     exact ret3 Try.results145 hS rfl rfl rfl ⟨rfl,rfl⟩
    ·refine wp_skip<|t_n<|wp_seq<|region_lit<|qm ha rfl fun a ha=>?_
     obtain ⟨p54,e55,h⟩:=bs1 h
     refine q ha (d_ix ha rfl rfl Try.runUnderlying72 Try.sizeOf5 e55) fun a ha=>?_
     obtain ⟨v56,e57,h⟩:=bs1 h
     refine q ha (d_ld ha rfl Try.isAgg5 (ldI_c e57)) fun a ha=>q ha (d_conv ha rfl Try.runUnderlying5 Try.runUnderlying3) fun a ha=>qm ha rfl fun a ha=>qm ha rfl fun a ha=>qa ha rfl fun a ha=>qa ha rfl fun a ha=>qa ha rfl fun a ha=>s_nil<|t_n<|wp_ret<|?_
     have hS:=ha
     cases h
     exact ret3 Try.results145 hS rfl rfl rfl ⟨rfl,rfl⟩
   ·clear h
    have h:=e33
    obtain ⟨w35,e36,h⟩:=bs1 h
    obtain ⟨p37,e38,h⟩:=bs1 h
    obtain ⟨v39,e40,h⟩:=bs1 h
    obtain ⟨v41,w42,e43,h⟩:=bs2 h
    obtain ⟨s44,e45,h⟩:=bs1 h
    obtain ⟨s46,e47,h⟩:=bs1 h
    refine ite_s h (fun b48 h=>?_) (fun b48 h=>?_)
    ·obtain ⟨e49,h⟩:=chk_some h
     have ha : Has 65 [(0,(Sl.v a0)),(5,(Sl.v s25)),(6,(.bool (v29 == 1)))] a:=ha.sub ⟨rfl,rfl,rfl,trivial⟩
     refine region_draw (n:=65) (ds:=(⟨_,(Sl.v a0),false,0,0,[],[(0,(Sl.v a0))]⟩ :: ⟨_,(.pointer (some p37)),false,0,0,[0],[(39,(Sl.v a0))]⟩ :: ⟨_,(.int .u8 v39),false,0,0,[0,1],[(40,(.pointer (some p37)))]⟩ :: ⟨_,(.int .i64 (IntKind.wrap .i64 v39)),false,0,0,[0,1,2],[(41,(.int .u8 v39))]⟩ :: ⟨_,(Sl.v s25),false,0,0,[],[(5,(Sl.v s25))]⟩ :: ⟨_,(.bool (v29 == 1)),false,0,0,[],[(6,(.bool (v29 == 1)))]⟩ :: ⟨_,(Sl.v v41),true,0,0,(rn 0 6),[(42,(.int .i64 (IntKind.wrap .i64 v39))),(43,(Sl.v s25)),(44,(.bool (v29 == 1)))]⟩ :: ⟨_,(.string s44),false,1,1,(rn 0 7),[(45,(Sl.v v41))]⟩ :: ⟨_,(Sl.v a0),false,0,1,[],[(0,(Sl.v a0))]⟩ :: ⟨_,(.string s46),false,0,1,[8],[(47,(Sl.v a0))]⟩ :: ⟨_,(.bool (!sEq s44 s46)),false,1,1,(rn 0 10),[(46,(.string s44)),(48,(.string s46))]⟩ :: ⟨_,(.bool (!sEq s44 s46)),false,1,1,(rn 0 11),[(49,(.bool (!sEq s44 s46)))]⟩ :: ⟨_,undef,false,1,1,(rn 0 12),[(50,(.bool (!sEq s44 s46)))]⟩ :: ⟨_,undef,false,1,1,(rn 0 13),[(50,(.bool (!sEq s44 s46)))]⟩ :: ⟨_,undef,false,1,1,(rn 0 14),[(50,(.bool (!sEq s44 s46)))]⟩ :: ⟨_,undef,false,1,1,(rn 0 15),[(53,undef)]⟩ :: ⟨_,undef,false,1,1,(rn 0 16),[(53,undef)]⟩ :: ⟨_,undef,false,1,1,(rn 0 17),[(53,undef)]⟩ :: ⟨_,undef,false,1,1,(rn 0 18),[(50,(.bool (!sEq s44 s46)))]⟩ :: ⟨_,(.bool true),false,1,1,(rn 0 19),[(50,(.bool (!sEq s44 s46))),(57,undef)]⟩ :: [])) (W:=(fun j=>match j with | 0=>w35 | 1=>w42 | _=>w42)) (by kernel_rfl) ha (dr_w e36) (by kernel_rfl) ?_ (reads_of (by kernel_rfl)) (by kernel_rfl) (m:=1) (by kernel_rfl) (fun a ha=>?_)
     ·refine ⟨?_,?_,?_,?_,?_,?_,?_,?_,?_,?_,?_,?_,?_,?_,?_,?_,?_,?_,?_,?_,trivial⟩
      ·exact oa fun j a ha=>d_move ha rfl
      ·exact oa fun j a ha=>d_ix ha rfl rfl Try.runUnderlying72 Try.sizeOf5 e38
      ·exact oc 0 (ok_do rfl fun a ha=>d_ld ha rfl Try.isAgg5 (ldI_c e40))
      ·exact oa fun j a ha=>d_conv ha rfl Try.runUnderlying5 Try.runUnderlying3
      ·exact oa fun j a ha=>d_move ha rfl
      ·exact oa fun j a ha=>d_move ha rfl
      ·exact oc 0 (ok_do rfl fun a ha=>d_call (xs:=[_,_,_]) (vs:=[(.int .i64 (IntKind.wrap .i64 v39)),(Sl.v s25),(.bool (v29 == 1))]) ha ⟨rfl,rfl,rfl,trivial⟩ Try.call127 (grapevineref11_Laid_ok e43))
      ·exact oc 1 (ok_do rfl fun a ha=>d_b2s ha rfl Try.runUnderlying72 Try.runUnderlying9 Try.runUnderlying5 e45)
      ·exact oa fun j a ha=>d_move ha rfl
      ·intro j h1 h2; have h1 : 0≤j:=h1; have h2 : j≤1:=h2; rcases (by omega : j = 0∨j = 1) with rfl | rfl
       ·exact ok_do rfl fun a ha=>d_b2s ha rfl Try.runUnderlying72 Try.runUnderlying9 Try.runUnderlying5 e49
       ·exact ok_do rfl fun a ha=>d_b2s ha rfl Try.runUnderlying72 Try.runUnderlying9 Try.runUnderlying5 e47
      ·exact oa fun j a ha=>d_neT ha rfl rfl
      ·exact oa fun j a ha=>d_move ha rfl
      ·exact on 50 (tn b48)
      ·exact on 50 (tn b48)
      ·exact on 50 (tn b48)
      ·intro j _ _; exact ok_no_u rfl rfl (rfl : List.lookup 53 _ = _)
      ·intro j _ _; exact ok_no_u rfl rfl (rfl : List.lookup 53 _ = _)
      ·intro j _ _; exact ok_no_u rfl rfl (rfl : List.lookup 53 _ = _)
      ·exact on 50 (tn b48)
      ·exact oa fun j a ha=>d_pick_t ha rfl b48 rfl
     ·have ha : Has 65 [(0,(Sl.v a0)),(5,(Sl.v s25)),(6,(.bool (v29 == 1))),(58,(.bool true))] a:=ha.sub ⟨rfl,rfl,rfl,rfl,trivial⟩
      have hS : Has 65 [(58,(.bool true)),(0,(Sl.v a0)),(5,(Sl.v s25)),(6,(.bool (v29 == 1)))] _:=ha.sub ⟨rfl,rfl,rfl,rfl,trivial⟩
      cases h
      exact hk34 _ hS
    ·refine ite_s h (fun b50 h=>?_) (fun b50 h=>?_)
     ·obtain ⟨e51,h⟩:=chk_some h
      have ha : Has 65 [(0,(Sl.v a0)),(5,(Sl.v s25)),(6,(.bool (v29 == 1)))] a:=ha.sub ⟨rfl,rfl,rfl,trivial⟩
      refine region_draw (n:=65) (ds:=(⟨_,(Sl.v a0),false,0,0,[],[(0,(Sl.v a0))]⟩ :: ⟨_,(.pointer (some p37)),false,0,0,[0],[(39,(Sl.v a0))]⟩ :: ⟨_,(.int .u8 v39),false,0,0,[0,1],[(40,(.pointer (some p37)))]⟩ :: ⟨_,(.int .i64 (IntKind.wrap .i64 v39)),false,0,0,[0,1,2],[(41,(.int .u8 v39))]⟩ :: ⟨_,(Sl.v s25),false,0,0,[],[(5,(Sl.v s25))]⟩ :: ⟨_,(.bool (v29 == 1)),false,0,0,[],[(6,(.bool (v29 == 1)))]⟩ :: ⟨_,(Sl.v v41),true,0,0,(rn 0 6),[(42,(.int .i64 (IntKind.wrap .i64 v39))),(43,(Sl.v s25)),(44,(.bool (v29 == 1)))]⟩ :: ⟨_,(.string s44),false,1,1,(rn 0 7),[(45,(Sl.v v41))]⟩ :: ⟨_,(Sl.v a0),false,0,1,[],[(0,(Sl.v a0))]⟩ :: ⟨_,(.string s46),false,0,1,[8],[(47,(Sl.v a0))]⟩ :: ⟨_,(.bool (!sEq s44 s46)),false,1,1,(rn 0 10),[(46,(.string s44)),(48,(.string s46))]⟩ :: ⟨_,(.bool (!sEq s44 s46)),false,1,1,(rn 0 11),[(49,(.bool (!sEq s44 s46)))]⟩ :: ⟨_,(.bool (v29 == 1)),false,1,1,(rn 0 12),[(6,(.bool (v29 == 1))),(50,(.bool (!sEq s44 s46)))]⟩ :: ⟨_,(.bool (!(v29 == 1))),false,1,1,(rn 0 13),[(51,(.bool (v29 == 1))),(50,(.bool (!sEq s44 s46)))]⟩ :: ⟨_,(.bool (!(v29 == 1))),false,1,1,(rn 0 14),[(52,(.bool (!(v29 == 1)))),(50,(.bool (!sEq s44 s46)))]⟩ :: ⟨_,(Sl.v s25),false,1,1,(rn 0 15),[(5,(Sl.v s25)),(53,(.bool (!(v29 == 1))))]⟩ :: ⟨_,(.int .i64 (s25.n : Int)),false,1,1,(rn 0 16),[(54,(Sl.v s25)),(53,(.bool (!(v29 == 1))))]⟩ :: ⟨_,(.bool ((s25.n : Int) != 59)),false,1,1,(rn 0 17),[(55,(.int .i64 (s25.n : Int))),(53,(.bool (!(v29 == 1))))]⟩ :: ⟨_,(.bool ((s25.n : Int) != 59)),false,1,1,(rn 0 18),[(53,(.bool (!(v29 == 1)))),(56,(.bool ((s25.n : Int) != 59))),(50,(.bool (!sEq s44 s46)))]⟩ :: ⟨_,(.bool ((s25.n : Int) != 59)),false,1,1,(rn 0 19),[(50,(.bool (!sEq s44 s46))),(57,(.bool ((s25.n : Int) != 59)))]⟩ :: [])) (W:=(fun j=>match j with | 0=>w35 | 1=>w42 | _=>w42)) (by kernel_rfl) ha (dr_w e36) (by kernel_rfl) ?_ (reads_of (by kernel_rfl)) (by kernel_rfl) (m:=1) (by kernel_rfl) (fun a ha=>?_)
      ·refine ⟨?_,?_,?_,?_,?_,?_,?_,?_,?_,?_,?_,?_,?_,?_,?_,?_,?_,?_,?_,?_,trivial⟩
       ·exact oa fun j a ha=>d_move ha rfl
       ·exact oa fun j a ha=>d_ix ha rfl rfl Try.runUnderlying72 Try.sizeOf5 e38
       ·exact oc 0 (ok_do rfl fun a ha=>d_ld ha rfl Try.isAgg5 (ldI_c e40))
       ·exact oa fun j a ha=>d_conv ha rfl Try.runUnderlying5 Try.runUnderlying3
       ·exact oa fun j a ha=>d_move ha rfl
       ·exact oa fun j a ha=>d_move ha rfl
       ·exact oc 0 (ok_do rfl fun a ha=>d_call (xs:=[_,_,_]) (vs:=[(.int .i64 (IntKind.wrap .i64 v39)),(Sl.v s25),(.bool (v29 == 1))]) ha ⟨rfl,rfl,rfl,trivial⟩ Try.call127 (grapevineref11_Laid_ok e43))
       ·exact oc 1 (ok_do rfl fun a ha=>d_b2s ha rfl Try.runUnderlying72 Try.runUnderlying9 Try.runUnderlying5 e45)
       ·exact oa fun j a ha=>d_move ha rfl
       ·intro j h1 h2; have h1 : 0≤j:=h1; have h2 : j≤1:=h2; rcases (by omega : j = 0∨j = 1) with rfl | rfl
        ·exact ok_do rfl fun a ha=>d_b2s ha rfl Try.runUnderlying72 Try.runUnderlying9 Try.runUnderlying5 e51
        ·exact ok_do rfl fun a ha=>d_b2s ha rfl Try.runUnderlying72 Try.runUnderlying9 Try.runUnderlying5 e47
       ·exact oa fun j a ha=>d_neT ha rfl rfl
       ·exact oa fun j a ha=>d_move ha rfl
       ·exact oag 50 (nt b48) fun j a ha=>d_move ha rfl
       ·exact oag 50 (nt b48) fun j a ha=>d_not ha rfl
       ·exact oag 50 (nt b48) fun j a ha=>d_move ha rfl
       ·exact oag 53 b50 fun j a ha=>d_move ha rfl
       ·exact oag 53 b50 fun j a ha=>d_lenS ha rfl Try.runUnderlying72
       ·exact oag 53 b50 fun j a ha=>d_ne ha rfl rfl
       ·exact oag 50 (nt b48) fun j a ha=>d_pick_t ha rfl b50 rfl
       ·exact oa fun j a ha=>d_pick_f ha rfl b48 rfl
      ·have ha : Has 65 [(0,(Sl.v a0)),(5,(Sl.v s25)),(6,(.bool (v29 == 1))),(58,(.bool ((s25.n : Int) != 59)))] a:=ha.sub ⟨rfl,rfl,rfl,rfl,trivial⟩
       have hS : Has 65 [(58,(.bool ((s25.n : Int) != 59))),(0,(Sl.v a0)),(5,(Sl.v s25)),(6,(.bool (v29 == 1)))] _:=ha.sub ⟨rfl,rfl,rfl,rfl,trivial⟩
       cases h
       exact hk34 _ hS
     ·obtain ⟨e52,h⟩:=chk_some h
      have ha : Has 65 [(0,(Sl.v a0)),(5,(Sl.v s25)),(6,(.bool (v29 == 1)))] a:=ha.sub ⟨rfl,rfl,rfl,trivial⟩
      refine region_draw (n:=65) (ds:=(⟨_,(Sl.v a0),false,0,0,[],[(0,(Sl.v a0))]⟩ :: ⟨_,(.pointer (some p37)),false,0,0,[0],[(39,(Sl.v a0))]⟩ :: ⟨_,(.int .u8 v39),false,0,0,[0,1],[(40,(.pointer (some p37)))]⟩ :: ⟨_,(.int .i64 (IntKind.wrap .i64 v39)),false,0,0,[0,1,2],[(41,(.int .u8 v39))]⟩ :: ⟨_,(Sl.v s25),false,0,0,[],[(5,(Sl.v s25))]⟩ :: ⟨_,(.bool (v29 == 1)),false,0,0,[],[(6,(.bool (v29 == 1)))]⟩ :: ⟨_,(Sl.v v41),true,0,0,(rn 0 6),[(42,(.int .i64 (IntKind.wrap .i64 v39))),(43,(Sl.v s25)),(44,(.bool (v29 == 1)))]⟩ :: ⟨_,(.string s44),false,1,1,(rn 0 7),[(45,(Sl.v v41))]⟩ :: ⟨_,(Sl.v a0),false,0,1,[],[(0,(Sl.v a0))]⟩ :: ⟨_,(.string s46),false,0,1,[8],[(47,(Sl.v a0))]⟩ :: ⟨_,(.bool (!sEq s44 s46)),false,1,1,(rn 0 10),[(46,(.string s44)),(48,(.string s46))]⟩ :: ⟨_,(.bool (!sEq s44 s46)),false,1,1,(rn 0 11),[(49,(.bool (!sEq s44 s46)))]⟩ :: ⟨_,(.bool (v29 == 1)),false,1,1,(rn 0 12),[(6,(.bool (v29 == 1))),(50,(.bool (!sEq s44 s46)))]⟩ :: ⟨_,(.bool (!(v29 == 1))),false,1,1,(rn 0 13),[(51,(.bool (v29 == 1))),(50,(.bool (!sEq s44 s46)))]⟩ :: ⟨_,(.bool (!(v29 == 1))),false,1,1,(rn 0 14),[(52,(.bool (!(v29 == 1)))),(50,(.bool (!sEq s44 s46)))]⟩ :: ⟨_,undef,false,1,1,(rn 0 15),[(53,(.bool (!(v29 == 1))))]⟩ :: ⟨_,undef,false,1,1,(rn 0 16),[(53,(.bool (!(v29 == 1))))]⟩ :: ⟨_,undef,false,1,1,(rn 0 17),[(53,(.bool (!(v29 == 1))))]⟩ :: ⟨_,(.bool false),false,1,1,(rn 0 18),[(53,(.bool (!(v29 == 1)))),(56,undef),(50,(.bool (!sEq s44 s46)))]⟩ :: ⟨_,(.bool false),false,1,1,(rn 0 19),[(50,(.bool (!sEq s44 s46))),(57,(.bool false))]⟩ :: [])) (W:=(fun j=>match j with | 0=>w35 | 1=>w42 | _=>w42)) (by kernel_rfl) ha (dr_w e36) (by kernel_rfl) ?_ (reads_of (by kernel_rfl)) (by kernel_rfl) (m:=1) (by kernel_rfl) (fun a ha=>?_)
      ·refine ⟨?_,?_,?_,?_,?_,?_,?_,?_,?_,?_,?_,?_,?_,?_,?_,?_,?_,?_,?_,?_,trivial⟩
       ·exact oa fun j a ha=>d_move ha rfl
       ·exact oa fun j a ha=>d_ix ha rfl rfl Try.runUnderlying72 Try.sizeOf5 e38
       ·exact oc 0 (ok_do rfl fun a ha=>d_ld ha rfl Try.isAgg5 (ldI_c e40))
       ·exact oa fun j a ha=>d_conv ha rfl Try.runUnderlying5 Try.runUnderlying3
       ·exact oa fun j a ha=>d_move ha rfl
       ·exact oa fun j a ha=>d_move ha rfl
       ·exact oc 0 (ok_do rfl fun a ha=>d_call (xs:=[_,_,_]) (vs:=[(.int .i64 (IntKind.wrap .i64 v39)),(Sl.v s25),(.bool (v29 == 1))]) ha ⟨rfl,rfl,rfl,trivial⟩ Try.call127 (grapevineref11_Laid_ok e43))
       ·exact oc 1 (ok_do rfl fun a ha=>d_b2s ha rfl Try.runUnderlying72 Try.runUnderlying9 Try.runUnderlying5 e45)
       ·exact oa fun j a ha=>d_move ha rfl
       ·intro j h1 h2; have h1 : 0≤j:=h1; have h2 : j≤1:=h2; rcases (by omega : j = 0∨j = 1) with rfl | rfl
        ·exact ok_do rfl fun a ha=>d_b2s ha rfl Try.runUnderlying72 Try.runUnderlying9 Try.runUnderlying5 e52
        ·exact ok_do rfl fun a ha=>d_b2s ha rfl Try.runUnderlying72 Try.runUnderlying9 Try.runUnderlying5 e47
       ·exact oa fun j a ha=>d_neT ha rfl rfl
       ·exact oa fun j a ha=>d_move ha rfl
       ·exact oag 50 (nt b48) fun j a ha=>d_move ha rfl
       ·exact oag 50 (nt b48) fun j a ha=>d_not ha rfl
       ·exact oag 50 (nt b48) fun j a ha=>d_move ha rfl
       ·exact on 53 (nn b50 _ rfl)
       ·exact on 53 (nn b50 _ rfl)
       ·exact on 53 (nn b50 _ rfl)
       ·exact oag 50 (nt b48) fun j a ha=>d_pick_f ha rfl b50 rfl
       ·exact oa fun j a ha=>d_pick_f ha rfl b48 rfl
      ·have ha : Has 65 [(0,(Sl.v a0)),(5,(Sl.v s25)),(6,(.bool (v29 == 1))),(58,(.bool false))] a:=ha.sub ⟨rfl,rfl,rfl,rfl,trivial⟩
       have hS : Has 65 [(58,(.bool false)),(0,(Sl.v a0)),(5,(Sl.v s25)),(6,(.bool (v29 == 1)))] _:=ha.sub ⟨rfl,rfl,rfl,rfl,trivial⟩
       cases h
       exact hk34 _ hS
 ·clear h
  have h:=e3
  refine region_lit<|qm ha rfl fun a ha=>q ha (d_lenS ha rfl Try.runUnderlying72) fun a ha=>q ha (d_ne ha rfl rfl) fun a ha=>qm ha rfl fun a ha=>?_
  refine ite_s h (fun b5 h=>?_) (fun b5 h=>?_)
  ·refine qn ha 10 (tn b5) fun a ha=>qn ha 10 (tn b5) fun a ha=>qn ha 10 (tn b5) fun a ha=>qn ha 10 (tn b5) fun a ha=>q ha (d_pick_t ha rfl b5 rfl) fun a ha=>qm ha rfl fun a ha=>qn ha 16 (tn rfl) fun a ha=>qn ha 16 (tn rfl) fun a ha=>qn ha 16 (tn rfl) fun a ha=>qn ha 16 (tn rfl) fun a ha=>q ha (d_pick_t ha rfl rfl rfl) fun a ha=>qm ha rfl fun a ha=>qn ha 22 (tn rfl) fun a ha=>qn ha 22 (tn rfl) fun a ha=>qn ha 22 (tn rfl) fun a ha=>qn ha 22 (tn rfl) fun a ha=>q ha (d_pick_t ha rfl rfl rfl) fun a ha=>s_nil<|?_
   have hS : Has 65 [(27,(.bool true)),(0,(Sl.v a0))] _:=ha.sub ⟨rfl,rfl,trivial⟩
   cases h
   exact hk4 _ hS
  ·refine qg ha 10 (nt b5) (d_move ha rfl) fun a ha=>?_
   obtain ⟨p6,e7,h⟩:=bs1 h
   refine qg ha 10 (nt b5) (d_ix ha rfl rfl Try.runUnderlying72 Try.sizeOf5 e7) fun a ha=>?_
   obtain ⟨v8,e9,h⟩:=bs1 h
   refine qg ha 10 (nt b5) (d_ld ha rfl Try.isAgg5 (ldI_c e9)) fun a ha=>qg ha 10 (nt b5) (d_lt ha rfl rfl) fun a ha=>q ha (d_pick_f ha rfl b5 rfl) fun a ha=>qm ha rfl fun a ha=>?_
   refine ite_s h (fun b10 h=>?_) (fun b10 h=>?_)
   ·refine qn ha 16 (tn b10) fun a ha=>qn ha 16 (tn b10) fun a ha=>qn ha 16 (tn b10) fun a ha=>qn ha 16 (tn b10) fun a ha=>q ha (d_pick_t ha rfl b10 rfl) fun a ha=>qm ha rfl fun a ha=>qn ha 22 (tn rfl) fun a ha=>qn ha 22 (tn rfl) fun a ha=>qn ha 22 (tn rfl) fun a ha=>qn ha 22 (tn rfl) fun a ha=>q ha (d_pick_t ha rfl rfl rfl) fun a ha=>s_nil<|?_
    have hS : Has 65 [(27,(.bool true)),(0,(Sl.v a0))] _:=ha.sub ⟨rfl,rfl,trivial⟩
    cases h
    exact hk4 _ hS
   ·refine qg ha 16 (nt b10) (d_move ha rfl) fun a ha=>?_
    obtain ⟨p11,e12,h⟩:=bs1 h
    refine qg ha 16 (nt b10) (d_ix ha rfl rfl Try.runUnderlying72 Try.sizeOf5 e12) fun a ha=>?_
    obtain ⟨v13,e14,h⟩:=bs1 h
    refine qg ha 16 (nt b10) (d_ld ha rfl Try.isAgg5 (ldI_c e14)) fun a ha=>qg ha 16 (nt b10) (d_gt ha rfl rfl) fun a ha=>q ha (d_pick_f ha rfl b10 rfl) fun a ha=>qm ha rfl fun a ha=>?_
    refine ite_s h (fun b15 h=>?_) (fun b15 h=>?_)
    ·refine qn ha 22 (tn b15) fun a ha=>qn ha 22 (tn b15) fun a ha=>qn ha 22 (tn b15) fun a ha=>qn ha 22 (tn b15) fun a ha=>q ha (d_pick_t ha rfl b15 rfl) fun a ha=>s_nil<|?_
     have hS : Has 65 [(27,(.bool true)),(0,(Sl.v a0))] _:=ha.sub ⟨rfl,rfl,trivial⟩
     cases h
     exact hk4 _ hS
    ·refine qg ha 22 (nt b15) (d_move ha rfl) fun a ha=>?_
     obtain ⟨p16,e17,h⟩:=bs1 h
     refine qg ha 22 (nt b15) (d_ix ha rfl rfl Try.runUnderlying72 Try.sizeOf5 e17) fun a ha=>?_
     obtain ⟨v18,e19,h⟩:=bs1 h
     refine qg ha 22 (nt b15) (d_ld ha rfl Try.isAgg5 (ldI_c e19)) fun a ha=>qg ha 22 (nt b15) (d_gt ha rfl rfl) fun a ha=>q ha (d_pick_f ha rfl b15 rfl) fun a ha=>s_nil<|?_
     have hS : Has 65 [(27,(.bool (decide (59 < v18)))),(0,(Sl.v a0))] _:=ha.sub ⟨rfl,rfl,trivial⟩
     cases h
     exact hk4 _ hS
noncomputable def grapevineref11_Log_header (a0 : Option Addr) (a1 : Int) (w : World) : Option (Int×Int×Bool×World) :=
 bind2 (grapevineref11_Log_sector a0 a1 0 w) fun v1 w2 =>
 bind4 (grapevineref11_Good v1 w2) fun v4 v5 v6 w7 =>
 bind2 (if (v4 != 1) = true then
 (some (true,w7))
 else
 (if (!v6) = true then
 (some (true,w7))
 else
 (some (((v5.n : Int) != 16),w7)))) fun v9 w10 =>
 if v9 = true then
 (some (0,0,false,w10))
 else
 (bind4 (grapevineref02_TakeKey v5 0 w10) fun v16 v17 v18 w19 =>
 bind4 (grapevineref02_TakeKey v5 8 w19) fun v21 v22 v23 w24 =>
 bind4 (if (decide (1≤v16)) = true then
 (if (decide (v16≤4611686018427387904)) = true then
 (if (decide (0≤v21)) = true then
 (some (v16,v21,(decide (v21≤1099511627776)),w24))
 else
 (some (v16,v21,false,w24)))
 else
 (some (v16,v21,false,w24)))
 else
 (some (v16,v21,false,w24))) fun v26 v27 v28 w29 =>
 some (v26,v27,v28,w29))
set_option maxHeartbeats 1000000 in
set_option maxRecDepth 100000 in
theorem grapevineref11_Log_header_ok {a0 : Option Addr} {a1 : Int} {w w' : World} {r0 : Int} {r1 : Int} {r2 : Bool} (h : grapevineref11_Log_header a0 a1 w = some (r0,r1,r2,w')) : Calls Try.prog 112 #[(.pointer a0),(.int .i64 a1)] w fun e w''=>e = .returned (.tuple #[(.int .i64 r0),(.int .i64 r1),(.bool r2)])∧w'' = w':=by
 refine calls_dec (n:=63) Try.func112 rfl Try.ntmps112 (by simp) fun a ha=>?_
 unfold grapevineref11_Log_header at h
 refine wp_seq<|region_lit<|qa ha rfl fun a ha=>qa ha rfl fun a ha=>qa ha rfl fun a ha=>s_nil<|t_n<|wp_seq<|region_lit<|qm ha rfl fun a ha=>qm ha rfl fun a ha=>?_
 obtain ⟨v1,w2,e3,h⟩:=bs2 h
 refine q ha (d_call (xs:=[_,_,_]) (vs:=[(.pointer a0),(.int .i64 a1),(.int .i64 0)]) ha ⟨rfl,rfl,rfl,trivial⟩ Try.call117 (grapevineref11_Log_sector_ok e3)) fun a ha=>?_
 obtain ⟨v4,v5,v6,w7,e8,h⟩:=bs4 h
 refine q ha (d_call (xs:=[_]) (vs:=[(Sl.v v1)]) ha ⟨rfl,trivial⟩ Try.call145 (grapevineref11_Good_ok e8)) fun a ha=>qm ha rfl fun a ha=>q ha (d_ext ha rfl rfl) fun a ha=>q ha (d_ext ha rfl rfl) fun a ha=>q ha (d_ext ha rfl rfl) fun a ha=>qa ha rfl fun a ha=>qa ha rfl fun a ha=>qa ha rfl fun a ha=>s_nil<|t_n<|wp_seq<|wp_seq<|?_
 obtain ⟨v9,w10,e11,h⟩:=bs2 h
 refine reg_join (n:=63) (L:=[(34,(.bool v9)),(8,(Sl.v v5))]) (w':=w10) (fun a ha=>?_) (fun hk12=>?_)
 ·refine t_n<|?_
  refine s_cond ha rfl h (fun b15 h=>?_) (fun b15 h=>?_)
  ·refine wp_seq<|region_lit<|qa ha rfl fun a ha=>qa ha rfl fun a ha=>qa ha rfl fun a ha=>s_nil<|t_n<|wp_ret<|t_r<|?_
   have hS:=ha
   cases h
   exact ret3 Try.results112 hS rfl rfl rfl ⟨rfl,rfl⟩
  ·refine wp_skip<|t_n<|wp_seq<|region_lit<|qm ha rfl fun a ha=>?_
   obtain ⟨v16,v17,v18,w19,e20,h⟩:=bs4 h
   refine q ha (d_call (xs:=[_,_]) (vs:=[(Sl.v v5),(.int .i64 0)]) ha ⟨rfl,rfl,trivial⟩ Try.call146 (grapevineref02_TakeKey_ok e20)) fun a ha=>qm ha rfl fun a ha=>q ha (d_ext ha rfl rfl) fun a ha=>q ha (d_ext ha rfl rfl) fun a ha=>q ha (d_ext ha rfl rfl) fun a ha=>qa ha rfl fun a ha=>qa ha rfl fun a ha=>qa ha rfl fun a ha=>s_nil<|t_n<|wp_seq<|region_lit<|qm ha rfl fun a ha=>?_
   obtain ⟨v21,v22,v23,w24,e25,h⟩:=bs4 h
   refine q ha (d_call (xs:=[_,_]) (vs:=[(Sl.v v5),(.int .i64 8)]) ha ⟨rfl,rfl,trivial⟩ Try.call146 (grapevineref02_TakeKey_ok e25)) fun a ha=>qm ha rfl fun a ha=>q ha (d_ext ha rfl rfl) fun a ha=>q ha (d_ext ha rfl rfl) fun a ha=>q ha (d_ext ha rfl rfl) fun a ha=>qa ha rfl fun a ha=>qa ha rfl fun a ha=>qa ha rfl fun a ha=>s_nil<|t_n<|wp_seq<|?_
   obtain ⟨v26,v27,v28,w29,e30,h⟩:=bs4 h
   refine reg_join (n:=63) (L:=[(4,(.int .i64 v26)),(5,(.int .i64 v27)),(6,(.bool v28))]) (w':=w29) (fun a ha=>?_) (fun hk31=>?_)
   ·refine t_n<|wp_ret<|?_
    have hS:=ha
    cases h
    exact ret3 Try.results112 hS rfl rfl rfl ⟨rfl,rfl⟩
   ·clear h
    have h:=e30
    refine region_lit<|qm ha rfl fun a ha=>qm ha rfl fun a ha=>qm ha rfl fun a ha=>q ha (d_ge ha rfl rfl) fun a ha=>qm ha rfl fun a ha=>?_
    refine ite_s h (fun b32 h=>?_) (fun b32 h=>?_)
    ·refine qg ha 51 b32 (d_move ha rfl) fun a ha=>qg ha 51 b32 (d_le ha rfl rfl) fun a ha=>q ha (d_pick_t ha rfl b32 rfl) fun a ha=>qm ha rfl fun a ha=>?_
     refine ite_s h (fun b33 h=>?_) (fun b33 h=>?_)
     ·refine qg ha 55 b33 (d_move ha rfl) fun a ha=>qg ha 55 b33 (d_ge ha rfl rfl) fun a ha=>q ha (d_pick_t ha rfl b33 rfl) fun a ha=>qm ha rfl fun a ha=>?_
      refine ite_s h (fun b34 h=>?_) (fun b34 h=>?_)
      ·refine qg ha 59 b34 (d_move ha rfl) fun a ha=>qg ha 59 b34 (d_le ha rfl rfl) fun a ha=>q ha (d_pick_t ha rfl b34 rfl) fun a ha=>qa ha rfl fun a ha=>qa ha rfl fun a ha=>qa ha rfl fun a ha=>s_nil<|?_
       have hS : Has 63 [(4,(.int .i64 v16)),(5,(.int .i64 v21)),(6,(.bool (decide (v21≤1099511627776))))] _:=ha.sub ⟨rfl,rfl,rfl,trivial⟩
       cases h
       exact hk31 _ hS
      ·refine qn ha 59 (nn b34 _ rfl) fun a ha=>qn ha 59 (nn b34 _ rfl) fun a ha=>q ha (d_pick_f ha rfl b34 rfl) fun a ha=>qa ha rfl fun a ha=>qa ha rfl fun a ha=>qa ha rfl fun a ha=>s_nil<|?_
       have hS : Has 63 [(4,(.int .i64 v16)),(5,(.int .i64 v21)),(6,(.bool false))] _:=ha.sub ⟨rfl,rfl,rfl,trivial⟩
       cases h
       exact hk31 _ hS
     ·refine qn ha 55 (nn b33 _ rfl) fun a ha=>qn ha 55 (nn b33 _ rfl) fun a ha=>q ha (d_pick_f ha rfl b33 rfl) fun a ha=>qm ha rfl fun a ha=>qn ha 59 (nn Bool.false_ne_true _ rfl) fun a ha=>qn ha 59 (nn Bool.false_ne_true _ rfl) fun a ha=>q ha (d_pick_f ha rfl Bool.false_ne_true rfl) fun a ha=>qa ha rfl fun a ha=>qa ha rfl fun a ha=>qa ha rfl fun a ha=>s_nil<|?_
      have hS : Has 63 [(4,(.int .i64 v16)),(5,(.int .i64 v21)),(6,(.bool false))] _:=ha.sub ⟨rfl,rfl,rfl,trivial⟩
      cases h
      exact hk31 _ hS
    ·refine qn ha 51 (nn b32 _ rfl) fun a ha=>qn ha 51 (nn b32 _ rfl) fun a ha=>q ha (d_pick_f ha rfl b32 rfl) fun a ha=>qm ha rfl fun a ha=>qn ha 55 (nn Bool.false_ne_true _ rfl) fun a ha=>qn ha 55 (nn Bool.false_ne_true _ rfl) fun a ha=>q ha (d_pick_f ha rfl Bool.false_ne_true rfl) fun a ha=>qm ha rfl fun a ha=>qn ha 59 (nn Bool.false_ne_true _ rfl) fun a ha=>qn ha 59 (nn Bool.false_ne_true _ rfl) fun a ha=>q ha (d_pick_f ha rfl Bool.false_ne_true rfl) fun a ha=>qa ha rfl fun a ha=>qa ha rfl fun a ha=>qa ha rfl fun a ha=>s_nil<|?_
     have hS : Has 63 [(4,(.int .i64 v16)),(5,(.int .i64 v21)),(6,(.bool false))] _:=ha.sub ⟨rfl,rfl,rfl,trivial⟩
     cases h
     exact hk31 _ hS
 ·clear h
  have h:=e11
  refine region_lit<|qm ha rfl fun a ha=>q ha (d_ne ha rfl rfl) fun a ha=>qm ha rfl fun a ha=>?_
  refine ite_s h (fun b13 h=>?_) (fun b13 h=>?_)
  ·refine qn ha 26 (tn b13) fun a ha=>qn ha 26 (tn b13) fun a ha=>q ha (d_pick_t ha rfl b13 rfl) fun a ha=>qm ha rfl fun a ha=>qn ha 30 (tn rfl) fun a ha=>qn ha 30 (tn rfl) fun a ha=>qn ha 30 (tn rfl) fun a ha=>q ha (d_pick_t ha rfl rfl rfl) fun a ha=>s_nil<|?_
   have hS : Has 63 [(34,(.bool true)),(8,(Sl.v v5))] _:=ha.sub ⟨rfl,rfl,trivial⟩
   cases h
   exact hk12 _ hS
  ·refine qg ha 26 (nt b13) (d_move ha rfl) fun a ha=>qg ha 26 (nt b13) (d_not ha rfl) fun a ha=>q ha (d_pick_f ha rfl b13 rfl) fun a ha=>qm ha rfl fun a ha=>?_
   refine ite_s h (fun b14 h=>?_) (fun b14 h=>?_)
   ·refine qn ha 30 (tn b14) fun a ha=>qn ha 30 (tn b14) fun a ha=>qn ha 30 (tn b14) fun a ha=>q ha (d_pick_t ha rfl b14 rfl) fun a ha=>s_nil<|?_
    have hS : Has 63 [(34,(.bool true)),(8,(Sl.v v5))] _:=ha.sub ⟨rfl,rfl,trivial⟩
    cases h
    exact hk12 _ hS
   ·refine qg ha 30 (nt b14) (d_move ha rfl) fun a ha=>qg ha 30 (nt b14) (d_lenS ha rfl Try.runUnderlying72) fun a ha=>qg ha 30 (nt b14) (d_ne ha rfl rfl) fun a ha=>q ha (d_pick_f ha rfl b14 rfl) fun a ha=>s_nil<|?_
    have hS : Has 63 [(34,(.bool ((v5.n : Int) != 16))),(8,(Sl.v v5))] _:=ha.sub ⟨rfl,rfl,trivial⟩
    cases h
    exact hk12 _ hS
noncomputable def grapevineref11_Log_record_l1 (a0 : Option Addr) (a1 : Int) (a2 : Int) (p1 : Addr) (x7 : Sl) (x8 : Int) (w9 : World) : Option ((Sl×Int×World)⊕((World)⊕(Int×Bool×World))) :=
 if (decide (x8 < 16)) = true then
 (bind2 (grapevineref11_Log_sector a0 a1 x8 w9) fun v20 w21 =>
 bind4 (grapevineref11_Good v20 w21) fun v23 v24 v25 w26 =>
 bind2 (if (x8 == a2) = true then
 (if (v23 != 2) = true then
 (some (true,w26))
 else
 (if (decide (a2 < x8)) = true then
 (some ((v23 != 3),w26))
 else
 (some (false,w26))))
 else
 (if (decide (a2 < x8)) = true then
 (some ((v23 != 3),w26))
 else
 (some (false,w26)))) fun v28 w29 =>
 if v28 = true then
 ((stA w29 p1 0 ([.int .i64 0,.slice none 0 0])).bind fun w37 =>
 some (.inr (.inr (0,false,w37))))
 else
 (bind2 (apS Try.prog 72 x7 v24 w29) fun s39 w40 =>
 bind2 (if v25 = true then
 (some ((decide ((s39.n : Int) < 8)),w40))
 else
 (some (false,w40))) fun v42 w43 =>
 if v42 = true then
 ((stA w43 p1 0 ([.int .i64 0,.slice none 0 0])).bind fun w48 =>
 some (.inr (.inr (0,false,w48))))
 else
 (if v25 = true then
 (bind4 (grapevineref02_TakeKey s39 0 w43) fun v51 v52 v53 w54 =>
 (slS s39 8 (s39.n : Int) (s39.c : Int) 1).bind fun s56 =>
 (stA w54 p1 0 ([.int .i64 v51,Sl.v s56])).bind fun w58 =>
 some (.inr (.inr ((IntKind.wrap .i64 (x8 + 1)),(decide (v51≤1099511627776)),w58))))
 else
 (some (.inl (s39,(IntKind.wrap .i64 (x8 + 1)),w43))))))
 else
 (some (.inr (.inl w9)))
noncomputable def grapevineref11_Log_record (a0 : Option Addr) (a1 : Int) (a2 : Int) (w : World) : Option ((List Value)×Int×Bool×World) :=
 bind2 (mk w 87 ([.int .i64 0,.slice none 0 0])) fun p1 w2 =>
 bind2 (bsl w2 5 1 []) fun s4 w5 =>
 (loopF (fun s : Sl×Int×World=>grapevineref11_Log_record_l1 a0 a1 a2 p1 s.1 s.2.1 s.2.2) (s4,a2,w5)).bind fun r10=>Sum.elim (fun (i : World)=>u1 i fun w12 =>
 (stA w12 p1 0 ([.int .i64 0,.slice none 0 0])).bind fun w60 =>
 (ldA 2 w60 p1 0).bind fun v62 =>
 some (v62,0,false,w60)) (fun (i : Int×Bool×World)=>u3 i fun v13 v14 w15 =>
 (ldA 2 w15 p1 0).bind fun v64 =>
 some (v64,v13,v14,w15)) r10
set_option maxHeartbeats 1000000 in
set_option maxRecDepth 100000 in
theorem grapevineref11_Log_record_ok {a0 : Option Addr} {a1 : Int} {a2 : Int} {w w' : World} {r0 : List Value} {r1 : Int} {r2 : Bool} (h : grapevineref11_Log_record a0 a1 a2 w = some (r0,r1,r2,w')) : Calls Try.prog 113 #[(.pointer a0),(.int .i64 a1),(.int .i64 a2)] w fun e w''=>e = .returned (.tuple #[(.agg (List.toArray r0)),(.int .i64 r1),(.bool r2)])∧w'' = w':=by
 refine calls_dec (n:=75) Try.func113 rfl Try.ntmps113 (by simp) fun a ha=>?_
 unfold grapevineref11_Log_record at h
 refine wp_seq<|region_lit<|?_
 obtain ⟨p1,w2,e3,h⟩:=bs2 h
 refine q ha (d_alloc Try.zeroValue87 (by kernel_rfl) e3) fun a ha=>qa ha rfl fun a ha=>qa ha rfl fun a ha=>s_nil<|t_n<|wp_seq<|region_lit<|?_
 obtain ⟨s4,w5,e6,h⟩:=bs2 h
 refine q ha (d_bsl (vs:=[]) (ps:=[]) ha trivial trivial rfl Try.runUnderlying72 Try.sizeOf5 Try.zeroValue5 (by decide) e6) fun a ha=>qa ha rfl fun a ha=>s_nil<|t_n<|wp_seq<|wp_seq<|region_lit<|qm ha rfl fun a ha=>qa ha rfl fun a ha=>s_nil<|t_n<|wp_block<|?_
 obtain ⟨r10,e11,h⟩:=bs1 h
 refine s_loop2 (n:=75) (L1:=fun i=>[(6,(.pointer (some p1)))]) (w1:=fun i=>i) (L2:=fun i=>[(7,(.int .i64 i.1)),(8,(.bool i.2.1)),(6,(.pointer (some p1)))]) (w2:=fun i=>i.2.2) (e1:=.exit 0) (e2:=.ret) (I:=fun (s : Sl×Int×World) a w=>Has 75 [(9,(Sl.v s.1)),(10,(.int .i64 s.2.1)),(0,(.pointer a0)),(1,(.int .i64 a1)),(2,(.int .i64 a2)),(6,(.pointer (some p1)))] a∧w = s.2.2) ⟨ha.sub ⟨rfl,rfl,rfl,rfl,rfl,rfl,trivial⟩,rfl⟩ e11 (fun i hi a ha=>?_) (fun i hi a ha=>?_) (fun hk16 hk17=>?_)
 ·subst hi
  obtain ⟨w12,rfl⟩ : ∃ x,x = i:=⟨i,rfl⟩
  dsimp only [Sum.elim_inl,Sum.elim_inr,u1,u2,u3,u4,u5,u6] at h
  have ha : Has 75 [(6,(.pointer (some p1)))] a:=ha
  refine b_hit<|t_n<|wp_seq<|region_lit<|q ha (d_build (vs:=[]) (pl:=#[(0,1),(1,1)]) (cs:=([.int .i64 0,.slice none 0 0])) ha trivial Try.zeroValue87 Try.runUnderlying87 (by intro w; kernel_rfl) (by kernel_rfl)) fun a ha=>?_
  obtain ⟨w60,e61,h⟩:=bs1 h
  refine q ha (d_stA ha rfl rfl Try.sizeOf87 rfl e61) fun a ha=>qa ha rfl fun a ha=>qa ha rfl fun a ha=>s_nil<|t_n<|wp_ret<|?_
  obtain ⟨v62,e63,h⟩:=bs1 h
  have hS:=ha
  cases h
  exact retG (vs:=[_,_,_]) Try.results113 hS ⟨⟨_,rfl,lv_A Try.isAgg87 Try.sizeOf87 e63⟩,rfl,rfl,trivial⟩ ⟨rfl,rfl⟩
 ·subst hi
  obtain ⟨v13,v14,w15⟩:=i
  dsimp only [Sum.elim_inl,Sum.elim_inr,u1,u2,u3,u4,u5,u6] at h
  have ha : Has 75 [(7,(.int .i64 v13)),(8,(.bool v14)),(6,(.pointer (some p1)))] a:=ha
  refine b_r<|t_r<|?_
  obtain ⟨v64,e65,h⟩:=bs1 h
  have hS:=ha
  cases h
  exact retG (vs:=[_,_,_]) Try.results113 hS ⟨⟨_,rfl,lv_A Try.isAgg87 Try.sizeOf87 e65⟩,rfl,rfl,trivial⟩ ⟨rfl,rfl⟩
 ·clear h
  rintro ⟨x7,x8,w9⟩ a wq o ⟨ha,hwq⟩ h hr18
  obtain rfl : w9 = wq:=hwq.symm
  have ha : Has 75 [(9,(Sl.v x7)),(10,(.int .i64 x8)),(0,(.pointer a0)),(1,(.int .i64 a1)),(2,(.int .i64 a2)),(6,(.pointer (some p1)))] a:=ha
  have h : grapevineref11_Log_record_l1 a0 a1 a2 p1 x7 x8 w9 = some o:=h
  unfold grapevineref11_Log_record_l1 at h
  refine wp_seq<|wp_seq<|region_lit<|qm ha rfl fun a ha=>q ha (d_lt ha rfl rfl) fun a ha=>s_nil<|t_n<|?_
  refine s_cond ha rfl h (fun b19 h=>?_) (fun b19 h=>?_)
  ·refine wp_skip<|t_n<|wp_seq<|wp_block<|wp_seq<|region_lit<|qm ha rfl fun a ha=>qm ha rfl fun a ha=>qm ha rfl fun a ha=>?_
   obtain ⟨v20,w21,e22,h⟩:=bs2 h
   refine q ha (d_call (xs:=[_,_,_]) (vs:=[(.pointer a0),(.int .i64 a1),(.int .i64 x8)]) ha ⟨rfl,rfl,rfl,trivial⟩ Try.call117 (grapevineref11_Log_sector_ok e22)) fun a ha=>?_
   obtain ⟨v23,v24,v25,w26,e27,h⟩:=bs4 h
   refine q ha (d_call (xs:=[_]) (vs:=[(Sl.v v20)]) ha ⟨rfl,trivial⟩ Try.call145 (grapevineref11_Good_ok e27)) fun a ha=>qm ha rfl fun a ha=>q ha (d_ext ha rfl rfl) fun a ha=>q ha (d_ext ha rfl rfl) fun a ha=>q ha (d_ext ha rfl rfl) fun a ha=>qa ha rfl fun a ha=>qa ha rfl fun a ha=>qa ha rfl fun a ha=>s_nil<|t_n<|wp_seq<|wp_seq<|?_
   obtain ⟨v28,w29,e30,h⟩:=bs2 h
   refine reg_join (n:=75) (L:=[(47,(.bool v28)),(0,(.pointer a0)),(1,(.int .i64 a1)),(2,(.int .i64 a2)),(6,(.pointer (some p1))),(9,(Sl.v x7)),(10,(.int .i64 x8)),(12,(Sl.v v24)),(13,(.bool v25))]) (w':=w29) (fun a ha=>?_) (fun hk31=>?_)
   ·refine t_n<|?_
    refine s_cond ha rfl h (fun b36 h=>?_) (fun b36 h=>?_)
    ·refine wp_seq<|region_lit<|q ha (d_build (vs:=[]) (pl:=#[(0,1),(1,1)]) (cs:=([.int .i64 0,.slice none 0 0])) ha trivial Try.zeroValue87 Try.runUnderlying87 (by intro w; kernel_rfl) (by kernel_rfl)) fun a ha=>?_
     obtain ⟨w37,e38,h⟩:=bs1 h
     refine q ha (d_stA ha rfl rfl Try.sizeOf87 rfl e38) fun a ha=>qa ha rfl fun a ha=>qa ha rfl fun a ha=>s_nil<|t_n<|wp_ret<|t_r<|b_r<|t_r<|?_
     have hS : Has 75 [(7,(.int .i64 0)),(8,(.bool false)),(6,(.pointer (some p1)))] _:=ha.sub ⟨rfl,rfl,rfl,trivial⟩
     cases h
     cases hr18 _ rfl
     refine lp_r<|?_
     exact hk17 _ rfl _ hS
    ·refine wp_skip<|t_n<|wp_seq<|region_lit<|qm ha rfl fun a ha=>qm ha rfl fun a ha=>?_
     obtain ⟨s39,w40,e41,h⟩:=bs2 h
     refine q ha (d_apS ha rfl rfl e41) fun a ha=>qa ha rfl fun a ha=>s_nil<|t_n<|wp_seq<|wp_seq<|?_
     obtain ⟨v42,w43,e44,h⟩:=bs2 h
     refine reg_join (n:=75) (L:=[(57,(.bool v42)),(0,(.pointer a0)),(1,(.int .i64 a1)),(2,(.int .i64 a2)),(6,(.pointer (some p1))),(9,(Sl.v s39)),(10,(.int .i64 x8)),(13,(.bool v25))]) (w':=w43) (fun a ha=>?_) (fun hk45=>?_)
     ·refine t_n<|?_
      refine s_cond ha rfl h (fun b47 h=>?_) (fun b47 h=>?_)
      ·refine wp_seq<|region_lit<|q ha (d_build (vs:=[]) (pl:=#[(0,1),(1,1)]) (cs:=([.int .i64 0,.slice none 0 0])) ha trivial Try.zeroValue87 Try.runUnderlying87 (by intro w; kernel_rfl) (by kernel_rfl)) fun a ha=>?_
       obtain ⟨w48,e49,h⟩:=bs1 h
       refine q ha (d_stA ha rfl rfl Try.sizeOf87 rfl e49) fun a ha=>qa ha rfl fun a ha=>qa ha rfl fun a ha=>s_nil<|t_n<|wp_ret<|t_r<|b_r<|t_r<|?_
       have hS : Has 75 [(7,(.int .i64 0)),(8,(.bool false)),(6,(.pointer (some p1)))] _:=ha.sub ⟨rfl,rfl,rfl,trivial⟩
       cases h
       cases hr18 _ rfl
       refine lp_r<|?_
       exact hk17 _ rfl _ hS
      ·refine wp_skip<|t_n<|wp_seq<|region_lit<|qm ha rfl fun a ha=>s_nil<|t_n<|?_
       refine s_cond ha rfl h (fun b50 h=>?_) (fun b50 h=>?_)
       ·refine wp_seq<|region_lit<|qm ha rfl fun a ha=>?_
        obtain ⟨v51,v52,v53,w54,e55,h⟩:=bs4 h
        refine q ha (d_call (xs:=[_,_]) (vs:=[(Sl.v s39),(.int .i64 0)]) ha ⟨rfl,rfl,trivial⟩ Try.call146 (grapevineref02_TakeKey_ok e55)) fun a ha=>qm ha rfl fun a ha=>q ha (d_ext ha rfl rfl) fun a ha=>q ha (d_ext ha rfl rfl) fun a ha=>q ha (d_ext ha rfl rfl) fun a ha=>qa ha rfl fun a ha=>qa ha rfl fun a ha=>qa ha rfl fun a ha=>s_nil<|t_n<|wp_seq<|region_lit<|qm ha rfl fun a ha=>qm ha rfl fun a ha=>?_
        obtain ⟨s56,e57,h⟩:=bs1 h
        refine q ha (d_slS ha rfl Try.runUnderlying72 Try.sizeOf5 ⟨_,rfl⟩ rfl rfl (by simp) e57) fun a ha=>q ha (d_build (vs:=[(0,(.int .i64 v51)),(1,(Sl.v s56))]) (pl:=#[(0,1),(1,1)]) (cs:=([.int .i64 v51,Sl.v s56])) ha ⟨rfl,rfl,rfl,rfl,trivial⟩ Try.zeroValue87 Try.runUnderlying87 (by intro w; kernel_rfl) (by kernel_rfl)) fun a ha=>qm ha rfl fun a ha=>q ha (d_add ha rfl rfl) fun a ha=>qm ha rfl fun a ha=>q ha (d_le ha rfl rfl) fun a ha=>?_
        obtain ⟨w58,e59,h⟩:=bs1 h
        refine q ha (d_stA ha rfl rfl Try.sizeOf87 rfl e59) fun a ha=>qa ha rfl fun a ha=>qa ha rfl fun a ha=>s_nil<|t_n<|wp_ret<|b_r<|t_r<|?_
        have hS : Has 75 [(7,(.int .i64 (IntKind.wrap .i64 (x8 + 1)))),(8,(.bool (decide (v51≤1099511627776)))),(6,(.pointer (some p1)))] _:=ha.sub ⟨rfl,rfl,rfl,trivial⟩
        cases h
        cases hr18 _ rfl
        refine lp_r<|?_
        exact hk17 _ rfl _ hS
       ·refine wp_skip<|b_n<|t_n<|region_lit<|qm ha rfl fun a ha=>q ha (d_add ha rfl rfl) fun a ha=>qa ha rfl fun a ha=>s_nil<|?_
        have hS : Has 75 [(9,(Sl.v s39)),(10,(.int .i64 (IntKind.wrap .i64 (x8 + 1)))),(0,(.pointer a0)),(1,(.int .i64 a1)),(2,(.int .i64 a2)),(6,(.pointer (some p1)))] _:=ha.sub ⟨rfl,rfl,rfl,rfl,rfl,rfl,trivial⟩
        cases h
        exact lp_next ⟨hS,rfl⟩
     ·clear h
      have h:=e44
      refine region_lit<|qm ha rfl fun a ha=>qm ha rfl fun a ha=>?_
      refine ite_s h (fun b46 h=>?_) (fun b46 h=>?_)
      ·refine qg ha 53 b46 (d_move ha rfl) fun a ha=>qg ha 53 b46 (d_lenS ha rfl Try.runUnderlying72) fun a ha=>qg ha 53 b46 (d_lt ha rfl rfl) fun a ha=>q ha (d_pick_t ha rfl b46 rfl) fun a ha=>s_nil<|?_
       have hS : Has 75 [(57,(.bool (decide ((s39.n : Int) < 8)))),(0,(.pointer a0)),(1,(.int .i64 a1)),(2,(.int .i64 a2)),(6,(.pointer (some p1))),(9,(Sl.v s39)),(10,(.int .i64 x8)),(13,(.bool v25))] _:=ha.sub ⟨rfl,rfl,rfl,rfl,rfl,rfl,rfl,rfl,trivial⟩
       cases h
       exact hk45 _ hS
      ·refine qn ha 53 (nn b46 _ rfl) fun a ha=>qn ha 53 (nn b46 _ rfl) fun a ha=>qn ha 53 (nn b46 _ rfl) fun a ha=>q ha (d_pick_f ha rfl b46 rfl) fun a ha=>s_nil<|?_
       have hS : Has 75 [(57,(.bool false)),(0,(.pointer a0)),(1,(.int .i64 a1)),(2,(.int .i64 a2)),(6,(.pointer (some p1))),(9,(Sl.v s39)),(10,(.int .i64 x8)),(13,(.bool v25))] _:=ha.sub ⟨rfl,rfl,rfl,rfl,rfl,rfl,rfl,rfl,trivial⟩
       cases h
       exact hk45 _ hS
   ·clear h
    have h:=e30
    refine region_lit<|qm ha rfl fun a ha=>qm ha rfl fun a ha=>q ha (d_eq ha rfl rfl) fun a ha=>qm ha rfl fun a ha=>?_
    refine ite_s h (fun b32 h=>?_) (fun b32 h=>?_)
    ·refine qg ha 35 b32 (d_move ha rfl) fun a ha=>qg ha 35 b32 (d_ne ha rfl rfl) fun a ha=>q ha (d_pick_t ha rfl b32 rfl) fun a ha=>qm ha rfl fun a ha=>?_
     refine ite_s h (fun b33 h=>?_) (fun b33 h=>?_)
     ·refine qn ha 39 (tn b33) fun a ha=>qn ha 39 (tn b33) fun a ha=>qn ha 39 (tn b33) fun a ha=>qn ha 39 (tn b33) fun a ha=>qu ha 43 fun a ha=>qu ha 43 fun a ha=>qn ha 39 (tn b33) fun a ha=>q ha (d_pick_t ha rfl b33 rfl) fun a ha=>s_nil<|?_
      have hS : Has 75 [(47,(.bool true)),(0,(.pointer a0)),(1,(.int .i64 a1)),(2,(.int .i64 a2)),(6,(.pointer (some p1))),(9,(Sl.v x7)),(10,(.int .i64 x8)),(12,(Sl.v v24)),(13,(.bool v25))] _:=ha.sub ⟨rfl,rfl,rfl,rfl,rfl,rfl,rfl,rfl,rfl,trivial⟩
      cases h
      exact hk31 _ hS
     ·refine qg ha 39 (nt b33) (d_move ha rfl) fun a ha=>qg ha 39 (nt b33) (d_move ha rfl) fun a ha=>qg ha 39 (nt b33) (d_gt ha rfl rfl) fun a ha=>qg ha 39 (nt b33) (d_move ha rfl) fun a ha=>?_
      refine ite_s h (fun b34 h=>?_) (fun b34 h=>?_)
      ·refine qg ha 43 b34 (d_move ha rfl) fun a ha=>qg ha 43 b34 (d_ne ha rfl rfl) fun a ha=>qg ha 39 (nt b33) (d_pick_t ha rfl b34 rfl) fun a ha=>q ha (d_pick_f ha rfl b33 rfl) fun a ha=>s_nil<|?_
       have hS : Has 75 [(47,(.bool (v23 != 3))),(0,(.pointer a0)),(1,(.int .i64 a1)),(2,(.int .i64 a2)),(6,(.pointer (some p1))),(9,(Sl.v x7)),(10,(.int .i64 x8)),(12,(Sl.v v24)),(13,(.bool v25))] _:=ha.sub ⟨rfl,rfl,rfl,rfl,rfl,rfl,rfl,rfl,rfl,trivial⟩
       cases h
       exact hk31 _ hS
      ·refine qn ha 43 (nn b34 _ rfl) fun a ha=>qn ha 43 (nn b34 _ rfl) fun a ha=>qg ha 39 (nt b33) (d_pick_f ha rfl b34 rfl) fun a ha=>q ha (d_pick_f ha rfl b33 rfl) fun a ha=>s_nil<|?_
       have hS : Has 75 [(47,(.bool false)),(0,(.pointer a0)),(1,(.int .i64 a1)),(2,(.int .i64 a2)),(6,(.pointer (some p1))),(9,(Sl.v x7)),(10,(.int .i64 x8)),(12,(Sl.v v24)),(13,(.bool v25))] _:=ha.sub ⟨rfl,rfl,rfl,rfl,rfl,rfl,rfl,rfl,rfl,trivial⟩
       cases h
       exact hk31 _ hS
    ·refine qn ha 35 (nn b32 _ rfl) fun a ha=>qn ha 35 (nn b32 _ rfl) fun a ha=>q ha (d_pick_f ha rfl b32 rfl) fun a ha=>qm ha rfl fun a ha=>qg ha 39 (nt Bool.false_ne_true) (d_move ha rfl) fun a ha=>qg ha 39 (nt Bool.false_ne_true) (d_move ha rfl) fun a ha=>qg ha 39 (nt Bool.false_ne_true) (d_gt ha rfl rfl) fun a ha=>qg ha 39 (nt Bool.false_ne_true) (d_move ha rfl) fun a ha=>?_
     refine ite_s h (fun b35 h=>?_) (fun b35 h=>?_)
     ·refine qg ha 43 b35 (d_move ha rfl) fun a ha=>qg ha 43 b35 (d_ne ha rfl rfl) fun a ha=>qg ha 39 (nt Bool.false_ne_true) (d_pick_t ha rfl b35 rfl) fun a ha=>q ha (d_pick_f ha rfl Bool.false_ne_true rfl) fun a ha=>s_nil<|?_
      have hS : Has 75 [(47,(.bool (v23 != 3))),(0,(.pointer a0)),(1,(.int .i64 a1)),(2,(.int .i64 a2)),(6,(.pointer (some p1))),(9,(Sl.v x7)),(10,(.int .i64 x8)),(12,(Sl.v v24)),(13,(.bool v25))] _:=ha.sub ⟨rfl,rfl,rfl,rfl,rfl,rfl,rfl,rfl,rfl,trivial⟩
      cases h
      exact hk31 _ hS
     ·refine qn ha 43 (nn b35 _ rfl) fun a ha=>qn ha 43 (nn b35 _ rfl) fun a ha=>qg ha 39 (nt Bool.false_ne_true) (d_pick_f ha rfl b35 rfl) fun a ha=>q ha (d_pick_f ha rfl Bool.false_ne_true rfl) fun a ha=>s_nil<|?_
      have hS : Has 75 [(47,(.bool false)),(0,(.pointer a0)),(1,(.int .i64 a1)),(2,(.int .i64 a2)),(6,(.pointer (some p1))),(9,(Sl.v x7)),(10,(.int .i64 x8)),(12,(Sl.v v24)),(13,(.bool v25))] _:=ha.sub ⟨rfl,rfl,rfl,rfl,rfl,rfl,rfl,rfl,rfl,trivial⟩
      cases h
      exact hk31 _ hS
  ·refine wp_exit<|t_x<|?_
   have hS : Has 75 [(6,(.pointer (some p1)))] _:=ha.sub ⟨rfl,trivial⟩
   cases h
   cases hr18 _ rfl
   refine lp_x<|?_
   exact hk16 _ rfl _ hS
noncomputable def grapevineref11_Log_Read_l2 (p4 : Addr) (x42 : Int) (w43 : World) : ND ((Int×World)⊕(World)) :=
 cb2 (lb1 (dr w43) fun w53 =>
 if (decide (0 < x42)) = true then
 (lb1 (ldL w53 (p4.add 2)) fun v56 =>
 lb1 (ix v56 x42 4) fun p58 =>
 lb1 (ldI .i64 w53 (p58.add 1)) fun v60 =>
 lb1 (ldL w53 (p4.add 2)) fun v62 =>
 lb1 (ix v62 (IntKind.wrap .i64 (x42 - 1)) 4) fun p64 =>
 lb1 (ldI .i64 w53 (p64.add 1)) fun v66 =>
 nret ((decide (v60 < v66)),w53))
 else
 (nret (false,w53))) fun v49 w50 =>
 if v49 = true then
 (lb1 (ldL w50 (p4.add 2)) fun v69 =>
 lb1 (ix v69 x42 4) fun p71 =>
 lb1 (ldA 4 w50 p71 0) fun c73 =>
 lb2 (mk w50 136 (List.replicate 4 (.int .i64 0))) fun p75 w76 =>
 lb1 (stA w76 p75 0 c73) fun w78 =>
 lb1 (dr w78) fun w80 =>
 lb1 (ldL w80 (p4.add 2)) fun v82 =>
 lb1 (ldL w80 (p4.add 2)) fun v84 =>
 lb1 (ix v84 (IntKind.wrap .i64 (x42 - 1)) 4) fun p86 =>
 lb1 (ldA 4 w80 p86 0) fun c88 =>
 lb1 (ix v82 x42 4) fun p90 =>
 lb1 (stA w80 p90 0 c88) fun w92 =>
 lb1 (ldL w92 (p4.add 2)) fun v94 =>
 lb1 (ldA 4 w92 p75 0) fun c96 =>
 lb1 (ix v94 (IntKind.wrap .i64 (x42 - 1)) 4) fun p98 =>
 lb1 (stA w92 p98 0 c96) fun w100 =>
 nret (.inl ((IntKind.wrap .i64 (x42 - 1)),w100)))
 else
 (nret (.inr w50))
noncomputable def grapevineref11_Log_Read_l1 (a0 : Option Addr) (p4 : Addr) (x9 : Int) (w10 : World) : ND ((Int×World)⊕(World)) :=
 lb1 (a0) fun p16 =>
 lb1 (ldI .i64 w10 (p16.add 2)) fun v18 =>
 if (decide (x9 < v18)) = true then
 (cb1 (lb4 (grapevineref11_Log_header a0 x9 w10) fun v24 v25 v26 w27 =>
 if (!v26) = true then
 (nret w27)
 else
 (lb1 (ldL w27 (p4.add 2)) fun v30 =>
 lb2 (bsl w27 136 4 [([.int .i64 x9,.int .i64 v24,.int .i64 1,.int .i64 v25])]) fun s32 w33 =>
 lb2 (apS Try.prog 128 v30 s32 w33) fun s35 w36 =>
 lb1 (stV w36 (p4.add 2) (Sl.v s35)) fun w38 =>
 lb1 (ldL w38 (p4.add 2)) fun v40 =>
 cb1 (nloop (fun s : Int×World=>grapevineref11_Log_Read_l2 p4 s.1 s.2) ((IntKind.wrap .i64 ((v40.n : Int) - 1)),w38)) fun w46 =>
 nret w46)) fun w21 =>
 nret (.inl ((IntKind.wrap .i64 (x9 + 1)),w21)))
 else
 (nret (.inr w10))
noncomputable def grapevineref11_Log_Read_l4 (p4 : Addr) (x107 : Int) (a0 : Option Addr) (x140 : Sl) (x141 : Bool) (w142 : World) : ND ((Sl×Bool×World)⊕(Sl×World)) :=
 if x141 = true then
 (cb4 (lb1 (dr w142) fun w156 =>
 lb1 (ldL w156 (p4.add 2)) fun v158 =>
 lb1 (ix v158 x107 4) fun p160 =>
 lb1 (ldI .i64 w156 (p160.add 0)) fun v162 =>
 lb1 (ldL w156 (p4.add 2)) fun v164 =>
 lb1 (ix v164 x107 4) fun p166 =>
 lb1 (ldI .i64 w156 (p166.add 2)) fun v168 =>
 nand (lb4 (grapevineref11_Log_record a0 v162 v168 w156) fun v170 v171 v172 w173 =>
 lb2 (mk w173 87 ([.int .i64 0,.slice none 0 0])) fun p175 w176 =>
 lb1 (stA w176 p175 0 v170) fun w179 =>
 nck ((v170).length = 2) <|
 nret (p175,v171,v172,w179)) (lb2 (mk w156 87 ([.int .i64 0,.slice none 0 0])) fun p181 w182 =>
 lb4 (grapevineref11_Log_record a0 v162 v168 w182) fun v184 v185 v186 w187 =>
 lb1 (stA w187 p181 0 v184) fun w190 =>
 nck ((v184).length = 2) <|
 nck (ldL w182 (p4.add 2) = some v158) <|
 nck (ldI .i64 w182 (p160.add 0) = some v162) <|
 nck (ldL w182 (p4.add 2) = some v164) <|
 nck (ldI .i64 w182 (p166.add 2) = some v168) <|
 nret (p181,v185,v186,w190))) fun v150 v151 v152 w153 =>
 cb2 (if v152 = true then
 (lb1 (ldI .i64 w153 (v150.add 0)) fun v201 =>
 lb1 (ldI .i64 w153 (p4.add 0)) fun v203 =>
 nret ((decide (v203 < v201)),w153))
 else
 (nret (false,w153))) fun v196 w197 =>
 if v196 = true then
 (lb1 (ldA 2 w197 v150 0) fun c206 =>
 lb2 (bsl w197 87 2 [c206]) fun s208 w209 =>
 lb2 (apS Try.prog 74 x140 s208 w209) fun s211 w212 =>
 lb1 (ldI .i64 w212 (v150.add 0)) fun v214 =>
 lb1 (stV w212 (p4.add 0) (.int .i64 v214)) fun w216 =>
 lb1 (ldL w216 (p4.add 2)) fun v218 =>
 lb1 (ix v218 x107 4) fun p220 =>
 lb1 (stV w216 (p220.add 2) (.int .i64 v151)) fun w222 =>
 nret (.inl (s211,v196,w222)))
 else
 (nret (.inl (x140,v196,w197))))
 else
 (nret (.inr (x140,w142)))
noncomputable def grapevineref11_Log_Read_l3 (p4 : Addr) (a0 : Option Addr) (x106 : Sl) (x107 : Int) (w108 : World) : ND ((Sl×Int×World)⊕(Sl×World)) :=
 lb1 (ldL w108 (p4.add 2)) fun v115 =>
 if (decide (x107 < (v115.n : Int))) = true then
 (cb1 (lb1 (dr w108) fun w121 =>
 lb1 (ldL w121 (p4.add 2)) fun v123 =>
 lb1 (ix v123 x107 4) fun p125 =>
 lb1 (ldI .i64 w121 (p125.add 3)) fun v127 =>
 lb1 (ldI .i64 w121 (p4.add 0)) fun v129 =>
 if (decide (v129 < v127)) = true then
 (lb1 (ldL w121 (p4.add 2)) fun v132 =>
 lb1 (ix v132 x107 4) fun p134 =>
 lb1 (ldI .i64 w121 (p134.add 3)) fun v136 =>
 lb1 (stV w121 (p4.add 0) (.int .i64 v136)) fun w138 =>
 nret w138)
 else
 (nret w121)) fun w118 =>
 cb2 (nloop (fun s : Sl×Bool×World=>grapevineref11_Log_Read_l4 p4 x107 a0 s.1 s.2.1 s.2.2) (x106,true,w118)) fun v145 w146 =>
 lb1 (ldL w146 (p4.add 2)) fun v224 =>
 lb1 (ldI .i64 w146 (p4.add 0)) fun v226 =>
 lb1 (ix v224 x107 4) fun p228 =>
 lb1 (stV w146 (p228.add 3) (.int .i64 v226)) fun w230 =>
 nret (.inl (v145,(IntKind.wrap .i64 (x107 + 1)),w230)))
 else
 (nret (.inr (x106,w108)))
noncomputable def grapevineref11_Log_Read_l5 (v111 : Sl) (p4 : Addr) (x263 : Int) (w264 : World) : ND ((Int×World)⊕(World)) :=
 if (decide (x263 < (v111.n : Int))) = true then
 (cb1 (lb1 (dr w264) fun w274 =>
 lb1 (ix v111 x263 2) fun p276 =>
 lb1 (ldI .i64 w274 (p276.add 0)) fun v278 =>
 lb1 (ldI .i64 w274 (p4.add 1)) fun v280 =>
 if (decide (v280 < v278)) = true then
 (lb1 (dr w274) fun w283 =>
 lb1 (ldL w283 (p4.add 3)) fun v285 =>
 lb1 (ix v111 x263 2) fun p287 =>
 lb1 (ldA 2 w283 p287 0) fun c289 =>
 lb2 (bsl w283 87 2 [c289]) fun s291 w292 =>
 lb2 (apS Try.prog 74 v285 s291 w292) fun s294 w295 =>
 lb1 (stV w295 (p4.add 3) (Sl.v s294)) fun w297 =>
 nck (ldL w292 (p4.add 3) = some v285) <|
 nret w297)
 else
 (nret w274)) fun w271 =>
 nret (.inl ((IntKind.wrap .i64 (x263 + 1)),w271)))
 else
 (nret (.inr w264))
noncomputable def grapevineref11_Log_Read (a0 : Option Addr) (w : World) : ND ((List Value)×World) :=
 lb2 (mk w 130 ([.int .i64 0,.int .i64 0,.slice none 0 0,.slice none 0 0])) fun p1 w2 =>
 lb2 (mk w2 130 ([.int .i64 0,.int .i64 0,.slice none 0 0,.slice none 0 0])) fun p4 w5 =>
 lb1 (stA w5 p4 0 ([.int .i64 0,.int .i64 0,.slice none 0 0,.slice none 0 0])) fun w7 =>
 cb1 (nloop (fun s : Int×World=>grapevineref11_Log_Read_l1 a0 p4 s.1 s.2) (0,w7)) fun w13 =>
 lb2 (bsl w13 87 2 []) fun s103 w104 =>
 cb2 (nloop (fun s : Sl×Int×World=>grapevineref11_Log_Read_l3 p4 a0 s.1 s.2.1 s.2.2) (s103,0,w104)) fun v111 w112 =>
 lb1 (dr w112) fun w233 =>
 lb1 (a0) fun p235 =>
 lb1 (ldP w233 (p235.add 0)) fun v237 =>
 lb1 (ldI .i64 w233 (p235.add 1)) fun v239 =>
 lb3 (grapevineref10_Open v237 v239 1 w233) fun v241 v242 w243 =>
 lb3 (grapevineref10_Cells_Get v241 0 w243) fun v245 v246 w247 =>
 lb1 (stV w247 (p4.add 1) (.int .i64 v245)) fun w249 =>
 cb1 (lb1 (ldI .i64 w249 (p4.add 1)) fun v254 =>
 lb1 (ldI .i64 w249 (p4.add 0)) fun v256 =>
 if (decide (v256 < v254)) = true then
 (lb1 (ldI .i64 w249 (p4.add 1)) fun v259 =>
 lb1 (stV w249 (p4.add 0) (.int .i64 v259)) fun w261 =>
 nret w261)
 else
 (nret w249)) fun w251 =>
 cb1 (nloop (fun s : Int×World=>grapevineref11_Log_Read_l5 v111 p4 s.1 s.2) (0,w251)) fun w267 =>
 lb1 (ldA 4 w267 p4 0) fun c300 =>
 lb1 (stA w267 p1 0 c300) fun w302 =>
 lb1 (ldA 4 w302 p1 0) fun v304 =>
 nret (v304,w302)
set_option maxHeartbeats 1000000 in
set_option maxRecDepth 100000 in
theorem grapevineref11_Log_Read_ok {a0 : Option Addr} {w : World} {Q : (List Value)×World→Prop} (h : (grapevineref11_Log_Read a0 w).t Q) : Calls Try.prog 73 #[(.pointer a0)] w fun e w''=>∃ i,e = .returned (.agg (List.toArray i.1))∧Q i∧w'' = i.2:=by
 refine calls_dec (n:=213) Try.func73 rfl Try.ntmps73 (by simp) fun a ha=>?_
 unfold grapevineref11_Log_Read at h
 refine wp_seq<|region_lit<|?_
 obtain ⟨p1,w2,e3,h⟩:=h
 refine q ha (d_alloc Try.zeroValue130 (by kernel_rfl) e3) fun a ha=>s_nil<|t_n<|wp_seq<|region_lit<|q ha (d_build (vs:=[]) (pl:=#[(0,1),(1,1),(2,1),(3,1)]) (cs:=([.int .i64 0,.int .i64 0,.slice none 0 0,.slice none 0 0])) ha trivial Try.zeroValue130 Try.runUnderlying130 (by intro w; kernel_rfl) (by kernel_rfl)) fun a ha=>?_
 obtain ⟨p4,w5,e6,h⟩:=h
 refine q ha (d_alloc Try.zeroValue130 (by kernel_rfl) e6) fun a ha=>?_
 obtain ⟨w7,e8,h⟩:=h
 refine q ha (d_stA ha rfl rfl Try.sizeOf130 rfl e8) fun a ha=>s_nil<|t_n<|wp_seq<|wp_seq<|region_lit<|qa ha rfl fun a ha=>s_nil<|t_n<|wp_block<|?_
 refine s_loopN1 (n:=213) (Lr:=fun i=>[(0,(.pointer a0)),(2,(.pointer (some p1))),(3,(.pointer (some p4)))]) (wr:=fun i=>i) (e:=.exit 0) (I:=fun (s : Int×World) a w=>Has 213 [(4,(.int .i64 s.1)),(0,(.pointer a0)),(2,(.pointer (some p1))),(3,(.pointer (some p4)))] a∧w = s.2) (un1 h) ⟨ha.sub ⟨rfl,rfl,rfl,rfl,trivial⟩,rfl⟩ (fun i h a ha=>?_) (fun hk14=>?_)
 ·obtain ⟨w13,rfl⟩ : ∃ x,x = i:=⟨i,rfl⟩
  have ha : Has 213 [(0,(.pointer a0)),(2,(.pointer (some p1))),(3,(.pointer (some p4)))] a:=ha
  refine b_hit<|t_n<|wp_seq<|region_lit<|?_
  obtain ⟨s103,w104,e105,h⟩:=h
  refine q ha (d_bsl (vs:=[]) (ps:=[]) ha trivial trivial rfl Try.runUnderlying74 Try.sizeOf87 Try.zeroValue87 (by decide) e105) fun a ha=>qa ha rfl fun a ha=>s_nil<|t_n<|wp_seq<|wp_seq<|region_lit<|qa ha rfl fun a ha=>s_nil<|t_n<|wp_block<|?_
  refine s_loopN1 (n:=213) (Lr:=fun i=>[(10,(Sl.v i.1)),(0,(.pointer a0)),(2,(.pointer (some p1))),(3,(.pointer (some p4)))]) (wr:=fun i=>i.2) (e:=.exit 4) (I:=fun (s : Sl×Int×World) a w=>Has 213 [(10,(Sl.v s.1)),(11,(.int .i64 s.2.1)),(0,(.pointer a0)),(2,(.pointer (some p1))),(3,(.pointer (some p4)))] a∧w = s.2.2) (un2 h) ⟨ha.sub ⟨rfl,rfl,rfl,rfl,rfl,trivial⟩,rfl⟩ (fun i h a ha=>?_) (fun hk113=>?_)
  ·obtain ⟨v111,w112⟩:=i
   have ha : Has 213 [(10,(Sl.v v111)),(0,(.pointer a0)),(2,(.pointer (some p1))),(3,(.pointer (some p4)))] a:=ha
   refine b_hit<|t_n<|wp_seq<|?_
   obtain ⟨w233,e234,h⟩:=h
   obtain ⟨p235,e236,h⟩:=h
   obtain ⟨v237,e238,h⟩:=h
   obtain ⟨v239,e240,h⟩:=h
   obtain ⟨v241,v242,w243,e244,h⟩:=h
   have ha : Has 213 [(0,(.pointer a0)),(2,(.pointer (some p1))),(3,(.pointer (some p4))),(10,(Sl.v v111))] a:=ha.sub ⟨rfl,rfl,rfl,rfl,trivial⟩
   refine region_draw (n:=213) (ds:=(⟨_,(.pointer a0),false,0,0,[],[(0,(.pointer a0))]⟩ :: ⟨_,(.pointer (some p235)),false,0,0,[0],[(164,(.pointer a0))]⟩ :: ⟨_,(.pointer (some (p235.add 0))),false,0,0,[0,1],[(165,(.pointer (some p235)))]⟩ :: ⟨_,(.pointer v237),false,0,0,[0,1,2],[(166,(.pointer (some (p235.add 0))))]⟩ :: ⟨_,(.pointer a0),false,0,0,[],[(0,(.pointer a0))]⟩ :: ⟨_,(.pointer (some p235)),false,0,0,[4],[(168,(.pointer a0))]⟩ :: ⟨_,(.pointer (some (p235.add 1))),false,0,0,[4,5],[(169,(.pointer (some p235)))]⟩ :: ⟨_,(.int .i64 v239),false,0,0,[4,5,6],[(170,(.pointer (some (p235.add 1))))]⟩ :: ⟨_,(.tuple #[(.pointer v241),(.int .i64 v242)]),true,0,0,(rn 0 8),[(167,(.pointer v237)),(171,(.int .i64 v239))]⟩ :: ⟨_,(.tuple #[(.pointer v241),(.int .i64 v242)]),false,1,1,(rn 0 9),[(172,(.tuple #[(.pointer v241),(.int .i64 v242)]))]⟩ :: ⟨_,(.pointer v241),false,1,1,(rn 0 10),[(163,(.tuple #[(.pointer v241),(.int .i64 v242)]))]⟩ :: ⟨_,(.int .i64 v242),false,1,1,(rn 0 10),[(163,(.tuple #[(.pointer v241),(.int .i64 v242)]))]⟩ :: ⟨_,(.pointer v241),false,1,1,(rn 0 11),[(173,(.pointer v241))]⟩ :: ⟨_,(.int .i64 v242),false,1,1,(rn 0 13),[(174,(.int .i64 v242))]⟩ :: [])) (W:=(fun j=>match j with | 0=>w233 | 1=>w243 | _=>w243)) (by kernel_rfl) ha (dr_w e234) (by kernel_rfl) ?_ (reads_of (by kernel_rfl)) (by kernel_rfl) (m:=1) (by kernel_rfl) (fun a ha=>?_)
   ·refine ⟨?_,?_,?_,?_,?_,?_,?_,?_,?_,?_,?_,?_,?_,?_,trivial⟩
    ·exact oa fun j a ha=>d_move ha rfl
    ·exact oa fun j a ha=>d_nilp ha rfl e236
    ·exact oa fun j a ha=>d_fa ha rfl Try.runUnderlying132 rfl rfl Try.sizeOf61 (by decide)
    ·exact oc 0 (ok_do rfl fun a ha=>d_ld ha rfl Try.isAgg61 (ldP_c e238))
    ·exact oa fun j a ha=>d_move ha rfl
    ·exact oa fun j a ha=>d_nilp ha rfl e236
    ·exact oa fun j a ha=>d_fa ha rfl Try.runUnderlying132 rfl rfl Try.sizeOf3 (by decide)
    ·exact oc 0 (ok_do rfl fun a ha=>d_ld ha rfl Try.isAgg3 (ldI_c e240))
    ·exact oc 0 (ok_do rfl fun a ha=>d_call (xs:=[_,_,_]) (vs:=[(.pointer v237),(.int .i64 v239),(.int .i64 1)]) ha ⟨rfl,rfl,rfl,trivial⟩ Try.call114 (grapevineref10_Open_ok e244))
    ·exact oa fun j a ha=>d_move ha rfl
    ·exact oa fun j a ha=>d_ext ha rfl rfl
    ·exact oa fun j a ha=>d_ext ha rfl rfl
    ·exact oa fun j a ha=>d_assign ha rfl
    ·exact oa fun j a ha=>d_assign ha rfl
   ·have ha : Has 213 [(2,(.pointer (some p1))),(3,(.pointer (some p4))),(10,(Sl.v v111)),(16,(.pointer v241))] a:=ha.sub ⟨rfl,rfl,rfl,rfl,trivial⟩
    refine t_n<|wp_seq<|region_lit<|qm ha rfl fun a ha=>?_
    obtain ⟨v245,v246,w247,e248,h⟩:=h
    refine q ha (d_call (xs:=[_,_]) (vs:=[(.pointer v241),(.int .i64 0)]) ha ⟨rfl,rfl,trivial⟩ Try.call115 (grapevineref10_Cells_Get_ok e248)) fun a ha=>qm ha rfl fun a ha=>q ha (d_ext ha rfl rfl) fun a ha=>q ha (d_ext ha rfl rfl) fun a ha=>q ha (d_fa ha rfl Try.runUnderlying130 rfl rfl Try.sizeOf3 (by decide)) fun a ha=>?_
    obtain ⟨w249,e250,h⟩:=h
    refine q ha (d_st ha rfl rfl Try.sizeOf3 e250) fun a ha=>s_nil<|t_n<|?_
    refine seq_joinN (n:=213) (ι:=World) (Lf:=fun i=>[(2,(.pointer (some p1))),(3,(.pointer (some p4))),(10,(Sl.v v111))]) (wf:=fun i=>i) (un1 h) (fun i h a ha=>?_) (fun h hk253=>?_)
    ·obtain ⟨w251,rfl⟩ : ∃ x,x = i:=⟨i,rfl⟩
     have ha : Has 213 [(2,(.pointer (some p1))),(3,(.pointer (some p4))),(10,(Sl.v v111))] a:=ha
     refine wp_seq<|wp_seq<|region_lit<|qa ha rfl fun a ha=>s_nil<|t_n<|wp_block<|?_
     refine s_loopN1 (n:=213) (Lr:=fun i=>[(2,(.pointer (some p1))),(3,(.pointer (some p4)))]) (wr:=fun i=>i) (e:=.exit 8) (I:=fun (s : Int×World) a w=>Has 213 [(18,(.int .i64 s.1)),(2,(.pointer (some p1))),(3,(.pointer (some p4))),(10,(Sl.v v111))] a∧w = s.2) (un1 h) ⟨ha.sub ⟨rfl,rfl,rfl,rfl,trivial⟩,rfl⟩ (fun i h a ha=>?_) (fun hk268=>?_)
     ·obtain ⟨w267,rfl⟩ : ∃ x,x = i:=⟨i,rfl⟩
      have ha : Has 213 [(2,(.pointer (some p1))),(3,(.pointer (some p4)))] a:=ha
      refine b_hit<|t_n<|wp_seq<|region_lit<|?_
      obtain ⟨c300,e301,h⟩:=h
      refine q ha (d_ldA ha rfl Try.isAgg130 Try.sizeOf130 e301) fun a ha=>?_
      obtain ⟨w302,e303,h⟩:=h
      refine q ha (d_stA ha rfl rfl Try.sizeOf130 ((ldA_c e301).1) e303) fun a ha=>s_nil<|t_n<|wp_ret<|?_
      obtain ⟨v304,e305,h⟩:=h
      have hS:=ha
      exact retG (vs:=[_]) Try.results73 hS ⟨⟨_,rfl,lv_A Try.isAgg130 Try.sizeOf130 e305⟩,trivial⟩ ⟨(v304,w302),rfl,h,rfl⟩
     ·clear h
      intro hX306
      rintro ⟨x263,w264⟩ a wq ⟨ha,hwq⟩ h
      obtain rfl : w264 = wq:=hwq.symm
      have ha : Has 213 [(18,(.int .i64 x263)),(2,(.pointer (some p1))),(3,(.pointer (some p4))),(10,(Sl.v v111))] a:=ha
      have h : (grapevineref11_Log_Read_l5 v111 p4 x263 w264).t _:=h
      unfold grapevineref11_Log_Read_l5 at h
      refine wp_seq<|wp_seq<|region_lit<|qm ha rfl fun a ha=>qm ha rfl fun a ha=>q ha (d_lenS ha rfl Try.runUnderlying74) fun a ha=>q ha (d_lt ha rfl rfl) fun a ha=>s_nil<|t_n<|?_
      refine s_condN ha rfl h (fun b270 h=>?_) (fun b270 h=>?_)
      ·refine wp_skip<|t_n<|?_
       refine seq_joinN (n:=213) (ι:=World) (Lf:=fun i=>[(2,(.pointer (some p1))),(3,(.pointer (some p4))),(10,(Sl.v v111)),(18,(.int .i64 x263))]) (wf:=fun i=>i) (un1 h) (fun i h a ha=>?_) (fun h hk273=>?_)
       ·obtain ⟨w271,rfl⟩ : ∃ x,x = i:=⟨i,rfl⟩
        have ha : Has 213 [(2,(.pointer (some p1))),(3,(.pointer (some p4))),(10,(Sl.v v111)),(18,(.int .i64 x263))] a:=ha
        refine region_lit<|qm ha rfl fun a ha=>q ha (d_add ha rfl rfl) fun a ha=>qa ha rfl fun a ha=>s_nil<|?_
        have hS : Has 213 [(18,(.int .i64 (IntKind.wrap .i64 (x263 + 1)))),(2,(.pointer (some p1))),(3,(.pointer (some p4))),(10,(Sl.v v111))] _:=ha.sub ⟨rfl,rfl,rfl,rfl,trivial⟩
        exact ⟨((IntKind.wrap .i64 (x263 + 1)),w271),⟨hS,rfl⟩,h⟩
       ·refine wp_block<|wp_seq<|?_
        obtain ⟨w274,e275,h⟩:=h
        obtain ⟨p276,e277,h⟩:=h
        obtain ⟨v278,e279,h⟩:=h
        obtain ⟨v280,e281,h⟩:=h
        have ha : Has 213 [(2,(.pointer (some p1))),(3,(.pointer (some p4))),(10,(Sl.v v111)),(18,(.int .i64 x263))] a:=ha.sub ⟨rfl,rfl,rfl,rfl,trivial⟩
        refine region_draw (n:=213) (ds:=(⟨_,(Sl.v v111),false,0,0,[],[(10,(Sl.v v111))]⟩ :: ⟨_,(.int .i64 x263),false,0,0,[],[(18,(.int .i64 x263))]⟩ :: ⟨_,(.pointer (some p276)),false,0,0,[0,1],[(195,(Sl.v v111)),(196,(.int .i64 x263))]⟩ :: ⟨_,(.pointer (some (p276.add 0))),false,0,0,[0,1,2],[(197,(.pointer (some p276)))]⟩ :: ⟨_,(.int .i64 v278),false,0,0,(rn 0 4),[(198,(.pointer (some (p276.add 0))))]⟩ :: ⟨_,(.pointer (some (p4.add 1))),false,0,0,[],[(3,(.pointer (some p4)))]⟩ :: ⟨_,(.int .i64 v280),false,0,0,[5],[(200,(.pointer (some (p4.add 1))))]⟩ :: ⟨_,(.bool (decide (v280 < v278))),false,0,0,(rn 0 7),[(199,(.int .i64 v278)),(201,(.int .i64 v280))]⟩ :: [])) (W:=(fun _=>w274)) (by kernel_rfl) ha (dr_w e275) (by kernel_rfl) ?_ (reads_of (by kernel_rfl)) (by kernel_rfl) (m:=0) (by kernel_rfl) (fun a ha=>?_)
        ·refine ⟨?_,?_,?_,?_,?_,?_,?_,?_,trivial⟩
         ·exact oa fun j a ha=>d_move ha rfl
         ·exact oa fun j a ha=>d_move ha rfl
         ·exact oa fun j a ha=>d_ix ha rfl rfl Try.runUnderlying74 Try.sizeOf87 e277
         ·exact oa fun j a ha=>d_fa ha rfl Try.runUnderlying87 rfl rfl Try.sizeOf3 (by decide)
         ·exact oc (e:=false) 0 (ok_do rfl fun a ha=>d_ld ha rfl Try.isAgg3 (ldI_c e279))
         ·exact oa fun j a ha=>d_fa ha rfl Try.runUnderlying130 rfl rfl Try.sizeOf3 (by decide)
         ·exact oc (e:=false) 0 (ok_do rfl fun a ha=>d_ld ha rfl Try.isAgg3 (ldI_c e281))
         ·exact oa fun j a ha=>d_gt ha rfl rfl
        ·have ha : Has 213 [(2,(.pointer (some p1))),(3,(.pointer (some p4))),(10,(Sl.v v111)),(18,(.int .i64 x263)),(202,(.bool (decide (v280 < v278))))] a:=ha.sub ⟨rfl,rfl,rfl,rfl,rfl,trivial⟩
         refine t_n<|?_
         refine s_condN ha rfl h (fun b282 h=>?_) (fun b282 h=>?_)
         ·obtain ⟨w283,e284,h⟩:=h
          obtain ⟨v285,e286,h⟩:=h
          obtain ⟨p287,e288,h⟩:=h
          obtain ⟨c289,e290,h⟩:=h
          obtain ⟨s291,w292,e293,h⟩:=h
          obtain ⟨s294,w295,e296,h⟩:=h
          obtain ⟨w297,e298,h⟩:=h
          obtain ⟨e299,h⟩:=h
          have ha : Has 213 [(2,(.pointer (some p1))),(3,(.pointer (some p4))),(10,(Sl.v v111)),(18,(.int .i64 x263)),(202,(.bool (decide (v280 < v278))))] a:=ha.sub ⟨rfl,rfl,rfl,rfl,rfl,trivial⟩
          refine region_draw (n:=213) (ds:=(⟨_,(.pointer (some (p4.add 3))),false,0,1,[],[(3,(.pointer (some p4)))]⟩ :: ⟨_,(Sl.v v285),false,0,1,[0],[(203,(.pointer (some (p4.add 3))))]⟩ :: ⟨_,(Sl.v v111),false,0,0,[],[(10,(Sl.v v111))]⟩ :: ⟨_,(.int .i64 x263),false,0,0,[],[(18,(.int .i64 x263))]⟩ :: ⟨_,(.pointer (some p287)),false,0,0,[2,3],[(205,(Sl.v v111)),(206,(.int .i64 x263))]⟩ :: ⟨_,(.agg (List.toArray c289)),false,0,0,[2,3,4],[(207,(.pointer (some p287)))]⟩ :: ⟨_,(Sl.v s291),true,0,0,(rn 2 4),[(208,(.agg (List.toArray c289)))]⟩ :: ⟨_,(Sl.v s294),true,1,1,(rn 0 7),[(204,(Sl.v v285)),(209,(Sl.v s291))]⟩ :: ⟨_,(.pointer (some (p4.add 3))),false,2,2,(rn 0 8),[(3,(.pointer (some p4)))]⟩ :: ⟨_,undef,true,2,2,(rn 0 9),[(211,(.pointer (some (p4.add 3)))),(210,(Sl.v s294))]⟩ :: [])) (W:=(fun j=>match j with | 0=>w283 | 1=>w292 | 2=>w295 | 3=>w297 | _=>w297)) (by kernel_rfl) ha (dr_w e284) (by kernel_rfl) ?_ (reads_of (by kernel_rfl)) (by kernel_rfl) (m:=3) (by kernel_rfl) (fun a ha=>?_)
          ·refine ⟨?_,?_,?_,?_,?_,?_,?_,?_,?_,?_,trivial⟩
           ·exact oa fun j a ha=>d_fa ha rfl Try.runUnderlying130 rfl rfl Try.sizeOf74 (by decide)
           ·intro j h1 h2; have h1 : 0≤j:=h1; have h2 : j≤1:=h2; rcases (by omega : j = 0∨j = 1) with rfl | rfl
            ·exact ok_do rfl fun a ha=>d_ld ha rfl Try.isAgg74 (ldL_c e286)
            ·exact ok_do rfl fun a ha=>d_ld ha rfl Try.isAgg74 (ldL_c e299)
           ·exact oa fun j a ha=>d_move ha rfl
           ·exact oa fun j a ha=>d_move ha rfl
           ·exact oa fun j a ha=>d_ix ha rfl rfl Try.runUnderlying74 Try.sizeOf87 e288
           ·exact oc 0 (ok_do rfl fun a ha=>d_ldA ha rfl Try.isAgg87 Try.sizeOf87 e290)
           ·exact oc 0 (ok_do rfl fun a ha=>d_bsl (vs:=[(0,(.agg (List.toArray c289)))]) (ps:=[c289]) ha ⟨rfl,rfl,trivial⟩ ⟨rfl,rfl,trivial⟩ rfl Try.runUnderlying74 Try.sizeOf87 Try.zeroValue87 (by decide) e293)
           ·exact oc 1 (ok_do rfl fun a ha=>d_apS ha rfl rfl e296)
           ·exact oa fun j a ha=>d_fa ha rfl Try.runUnderlying130 rfl rfl Try.sizeOf74 (by decide)
           ·exact oc 2 (ok_do rfl fun a ha=>d_st ha rfl rfl Try.sizeOf74 e298)
          ·have ha : Has 213 [(2,(.pointer (some p1))),(3,(.pointer (some p4))),(10,(Sl.v v111)),(18,(.int .i64 x263))] a:=ha.sub ⟨rfl,rfl,rfl,rfl,trivial⟩
           refine b_n<|?_
           have hS : Has 213 [(2,(.pointer (some p1))),(3,(.pointer (some p4))),(10,(Sl.v v111)),(18,(.int .i64 x263))] _:=ha.sub ⟨rfl,rfl,rfl,rfl,trivial⟩
           exact hk273 w297 h _ hS
         ·refine wp_skip<|b_n<|?_
          have hS : Has 213 [(2,(.pointer (some p1))),(3,(.pointer (some p4))),(10,(Sl.v v111)),(18,(.int .i64 x263))] _:=ha.sub ⟨rfl,rfl,rfl,rfl,trivial⟩
          exact hk273 w274 h _ hS
      ·refine wp_exit<|t_x<|?_
       have hS : Has 213 [(2,(.pointer (some p1))),(3,(.pointer (some p4)))] _:=ha.sub ⟨rfl,rfl,trivial⟩
       refine t_x<|?_
       exact hk268 w264 h _ hS
    ·refine wp_seq<|region_lit<|q ha (d_fa ha rfl Try.runUnderlying130 rfl rfl Try.sizeOf3 (by decide)) fun a ha=>?_
     obtain ⟨v254,e255,h⟩:=h
     refine q ha (d_ld ha rfl Try.isAgg3 (ldI_c e255)) fun a ha=>q ha (d_fa ha rfl Try.runUnderlying130 rfl rfl Try.sizeOf3 (by decide)) fun a ha=>?_
     obtain ⟨v256,e257,h⟩:=h
     refine q ha (d_ld ha rfl Try.isAgg3 (ldI_c e257)) fun a ha=>q ha (d_gt ha rfl rfl) fun a ha=>s_nil<|t_n<|?_
     refine s_condN ha rfl h (fun b258 h=>?_) (fun b258 h=>?_)
     ·refine region_lit<|q ha (d_fa ha rfl Try.runUnderlying130 rfl rfl Try.sizeOf3 (by decide)) fun a ha=>?_
      obtain ⟨v259,e260,h⟩:=h
      refine q ha (d_ld ha rfl Try.isAgg3 (ldI_c e260)) fun a ha=>q ha (d_fa ha rfl Try.runUnderlying130 rfl rfl Try.sizeOf3 (by decide)) fun a ha=>?_
      obtain ⟨w261,e262,h⟩:=h
      refine q ha (d_st ha rfl rfl Try.sizeOf3 e262) fun a ha=>s_nil<|?_
      have hS : Has 213 [(2,(.pointer (some p1))),(3,(.pointer (some p4))),(10,(Sl.v v111))] _:=ha.sub ⟨rfl,rfl,rfl,trivial⟩
      exact hk253 w261 h _ hS
     ·refine wp_skip<|?_
      have hS : Has 213 [(2,(.pointer (some p1))),(3,(.pointer (some p4))),(10,(Sl.v v111))] _:=ha.sub ⟨rfl,rfl,rfl,trivial⟩
      exact hk253 w249 h _ hS
  ·clear h
   intro hX307
   rintro ⟨x106,x107,w108⟩ a wq ⟨ha,hwq⟩ h
   obtain rfl : w108 = wq:=hwq.symm
   have ha : Has 213 [(10,(Sl.v x106)),(11,(.int .i64 x107)),(0,(.pointer a0)),(2,(.pointer (some p1))),(3,(.pointer (some p4)))] a:=ha
   have h : (grapevineref11_Log_Read_l3 p4 a0 x106 x107 w108).t _:=h
   unfold grapevineref11_Log_Read_l3 at h
   refine wp_seq<|wp_seq<|region_lit<|qm ha rfl fun a ha=>q ha (d_fa ha rfl Try.runUnderlying130 rfl rfl Try.sizeOf128 (by decide)) fun a ha=>?_
   obtain ⟨v115,e116,h⟩:=h
   refine q ha (d_ld ha rfl Try.isAgg128 (ldL_c e116)) fun a ha=>q ha (d_lenS ha rfl Try.runUnderlying128) fun a ha=>q ha (d_lt ha rfl rfl) fun a ha=>s_nil<|t_n<|?_
   refine s_condN ha rfl h (fun b117 h=>?_) (fun b117 h=>?_)
   ·refine wp_skip<|t_n<|wp_seq<|wp_block<|?_
    refine seq_joinN (n:=213) (ι:=World) (Lf:=fun i=>[(0,(.pointer a0)),(2,(.pointer (some p1))),(3,(.pointer (some p4))),(10,(Sl.v x106)),(11,(.int .i64 x107))]) (wf:=fun i=>i) (un1 h) (fun i h a ha=>?_) (fun h hk120=>?_)
    ·obtain ⟨w118,rfl⟩ : ∃ x,x = i:=⟨i,rfl⟩
     have ha : Has 213 [(0,(.pointer a0)),(2,(.pointer (some p1))),(3,(.pointer (some p4))),(10,(Sl.v x106)),(11,(.int .i64 x107))] a:=ha
     refine wp_seq<|region_lit<|qa ha rfl fun a ha=>s_nil<|t_n<|wp_seq<|wp_block<|?_
     refine s_loopN1 (n:=213) (Lr:=fun i=>[(10,(Sl.v i.1)),(0,(.pointer a0)),(2,(.pointer (some p1))),(3,(.pointer (some p4))),(11,(.int .i64 x107))]) (wr:=fun i=>i.2) (e:=.exit 6) (I:=fun (s : Sl×Bool×World) a w=>Has 213 [(10,(Sl.v s.1)),(12,(.bool s.2.1)),(0,(.pointer a0)),(2,(.pointer (some p1))),(3,(.pointer (some p4))),(11,(.int .i64 x107))] a∧w = s.2.2) (un2 h) ⟨ha.sub ⟨rfl,rfl,rfl,rfl,rfl,rfl,trivial⟩,rfl⟩ (fun i h a ha=>?_) (fun hk147=>?_)
     ·obtain ⟨v145,w146⟩:=i
      have ha : Has 213 [(10,(Sl.v v145)),(0,(.pointer a0)),(2,(.pointer (some p1))),(3,(.pointer (some p4))),(11,(.int .i64 x107))] a:=ha
      refine b_hit<|t_n<|region_lit<|q ha (d_fa ha rfl Try.runUnderlying130 rfl rfl Try.sizeOf128 (by decide)) fun a ha=>?_
      obtain ⟨v224,e225,h⟩:=h
      refine q ha (d_ld ha rfl Try.isAgg128 (ldL_c e225)) fun a ha=>qm ha rfl fun a ha=>q ha (d_fa ha rfl Try.runUnderlying130 rfl rfl Try.sizeOf3 (by decide)) fun a ha=>?_
      obtain ⟨v226,e227,h⟩:=h
      refine q ha (d_ld ha rfl Try.isAgg3 (ldI_c e227)) fun a ha=>?_
      obtain ⟨p228,e229,h⟩:=h
      refine q ha (d_ix ha rfl rfl Try.runUnderlying128 Try.sizeOf136 e229) fun a ha=>q ha (d_fa ha rfl Try.runUnderlying136 rfl rfl Try.sizeOf3 (by decide)) fun a ha=>?_
      obtain ⟨w230,e231,h⟩:=h
      refine q ha (d_st ha rfl rfl Try.sizeOf3 e231) fun a ha=>s_nil<|b_n<|t_n<|region_lit<|qm ha rfl fun a ha=>q ha (d_add ha rfl rfl) fun a ha=>qa ha rfl fun a ha=>s_nil<|?_
      have hS : Has 213 [(10,(Sl.v v145)),(11,(.int .i64 (IntKind.wrap .i64 (x107 + 1)))),(0,(.pointer a0)),(2,(.pointer (some p1))),(3,(.pointer (some p4)))] _:=ha.sub ⟨rfl,rfl,rfl,rfl,rfl,trivial⟩
      exact ⟨(v145,(IntKind.wrap .i64 (x107 + 1)),w230),⟨hS,rfl⟩,h⟩
     ·clear h
      intro hX232
      rintro ⟨x140,x141,w142⟩ a wq ⟨ha,hwq⟩ h
      obtain rfl : w142 = wq:=hwq.symm
      have ha : Has 213 [(10,(Sl.v x140)),(12,(.bool x141)),(0,(.pointer a0)),(2,(.pointer (some p1))),(3,(.pointer (some p4))),(11,(.int .i64 x107))] a:=ha
      have h : (grapevineref11_Log_Read_l4 p4 x107 a0 x140 x141 w142).t _:=h
      unfold grapevineref11_Log_Read_l4 at h
      refine wp_seq<|wp_seq<|region_lit<|qm ha rfl fun a ha=>s_nil<|t_n<|?_
      refine s_condN ha rfl h (fun b149 h=>?_) (fun b149 h=>?_)
      ·refine wp_skip<|t_n<|wp_block<|wp_seq<|?_
       refine reg_joinN (n:=213) (ι:=Addr×Int×Bool×World) (Lf:=fun i=>[(13,(.pointer (some i.1))),(14,(.int .i64 i.2.1)),(15,(.bool i.2.2.1)),(0,(.pointer a0)),(2,(.pointer (some p1))),(3,(.pointer (some p4))),(10,(Sl.v x140)),(11,(.int .i64 x107))]) (wf:=fun i=>i.2.2.2) (un4 h) (fun i h a ha=>?_) (fun h hk155=>?_)
       ·obtain ⟨v150,v151,v152,w153⟩:=i
        have ha : Has 213 [(13,(.pointer (some v150))),(14,(.int .i64 v151)),(15,(.bool v152)),(0,(.pointer a0)),(2,(.pointer (some p1))),(3,(.pointer (some p4))),(10,(Sl.v x140)),(11,(.int .i64 x107))] a:=ha
        refine t_n<|wp_seq<|?_
        refine reg_joinN (n:=213) (ι:=Bool×World) (Lf:=fun i=>[(12,(.bool i.1)),(0,(.pointer a0)),(2,(.pointer (some p1))),(3,(.pointer (some p4))),(10,(Sl.v x140)),(11,(.int .i64 x107)),(13,(.pointer (some v150))),(14,(.int .i64 v151))]) (wf:=fun i=>i.2) (un2 h) (fun i h a ha=>?_) (fun h hk199=>?_)
        ·obtain ⟨v196,w197⟩:=i
         have ha : Has 213 [(12,(.bool v196)),(0,(.pointer a0)),(2,(.pointer (some p1))),(3,(.pointer (some p4))),(10,(Sl.v x140)),(11,(.int .i64 x107)),(13,(.pointer (some v150))),(14,(.int .i64 v151))] a:=ha
         refine t_n<|wp_seq<|region_lit<|qm ha rfl fun a ha=>s_nil<|t_n<|?_
         refine s_condN ha rfl h (fun b205 h=>?_) (fun b205 h=>?_)
         ·refine wp_seq<|region_lit<|qm ha rfl fun a ha=>?_
          obtain ⟨c206,e207,h⟩:=h
          refine q ha (d_ldA ha rfl Try.isAgg87 Try.sizeOf87 e207) fun a ha=>?_
          obtain ⟨s208,w209,e210,h⟩:=h
          refine q ha (d_bsl (vs:=[(0,(.agg (List.toArray c206)))]) (ps:=[c206]) ha ⟨rfl,rfl,trivial⟩ ⟨rfl,rfl,trivial⟩ rfl Try.runUnderlying74 Try.sizeOf87 Try.zeroValue87 (by decide) e210) fun a ha=>?_
          obtain ⟨s211,w212,e213,h⟩:=h
          refine q ha (d_apS ha rfl rfl e213) fun a ha=>qa ha rfl fun a ha=>s_nil<|t_n<|wp_seq<|region_lit<|q ha (d_fa ha rfl Try.runUnderlying87 rfl rfl Try.sizeOf3 (by decide)) fun a ha=>?_
          obtain ⟨v214,e215,h⟩:=h
          refine q ha (d_ld ha rfl Try.isAgg3 (ldI_c e215)) fun a ha=>q ha (d_fa ha rfl Try.runUnderlying130 rfl rfl Try.sizeOf3 (by decide)) fun a ha=>?_
          obtain ⟨w216,e217,h⟩:=h
          refine q ha (d_st ha rfl rfl Try.sizeOf3 e217) fun a ha=>s_nil<|t_n<|region_lit<|q ha (d_fa ha rfl Try.runUnderlying130 rfl rfl Try.sizeOf128 (by decide)) fun a ha=>?_
          obtain ⟨v218,e219,h⟩:=h
          refine q ha (d_ld ha rfl Try.isAgg128 (ldL_c e219)) fun a ha=>qm ha rfl fun a ha=>qm ha rfl fun a ha=>?_
          obtain ⟨p220,e221,h⟩:=h
          refine q ha (d_ix ha rfl rfl Try.runUnderlying128 Try.sizeOf136 e221) fun a ha=>q ha (d_fa ha rfl Try.runUnderlying136 rfl rfl Try.sizeOf3 (by decide)) fun a ha=>?_
          obtain ⟨w222,e223,h⟩:=h
          refine q ha (d_st ha rfl rfl Try.sizeOf3 e223) fun a ha=>s_nil<|b_n<|?_
          have hS : Has 213 [(10,(Sl.v s211)),(12,(.bool v196)),(0,(.pointer a0)),(2,(.pointer (some p1))),(3,(.pointer (some p4))),(11,(.int .i64 x107))] _:=ha.sub ⟨rfl,rfl,rfl,rfl,rfl,rfl,trivial⟩
          exact ⟨(s211,v196,w222),⟨hS,rfl⟩,h⟩
         ·refine wp_skip<|b_n<|?_
          have hS : Has 213 [(10,(Sl.v x140)),(12,(.bool v196)),(0,(.pointer a0)),(2,(.pointer (some p1))),(3,(.pointer (some p4))),(11,(.int .i64 x107))] _:=ha.sub ⟨rfl,rfl,rfl,rfl,rfl,rfl,trivial⟩
          exact ⟨(x140,v196,w197),⟨hS,rfl⟩,h⟩
        ·refine region_lit<|qm ha rfl fun a ha=>qm ha rfl fun a ha=>?_
         refine ite_n h (fun b200 h=>?_) (fun b200 h=>?_)
         ·refine qg ha 135 b200 (d_fa ha rfl Try.runUnderlying87 rfl rfl Try.sizeOf3 (by decide)) fun a ha=>?_
          obtain ⟨v201,e202,h⟩:=h
          refine qg ha 135 b200 (d_ld ha rfl Try.isAgg3 (ldI_c e202)) fun a ha=>qg ha 135 b200 (d_fa ha rfl Try.runUnderlying130 rfl rfl Try.sizeOf3 (by decide)) fun a ha=>?_
          obtain ⟨v203,e204,h⟩:=h
          refine qg ha 135 b200 (d_ld ha rfl Try.isAgg3 (ldI_c e204)) fun a ha=>qg ha 135 b200 (d_gt ha rfl rfl) fun a ha=>q ha (d_pick_t ha rfl b200 rfl) fun a ha=>qa ha rfl fun a ha=>s_nil<|?_
          have hS : Has 213 [(12,(.bool (decide (v203 < v201)))),(0,(.pointer a0)),(2,(.pointer (some p1))),(3,(.pointer (some p4))),(10,(Sl.v x140)),(11,(.int .i64 x107)),(13,(.pointer (some v150))),(14,(.int .i64 v151))] _:=ha.sub ⟨rfl,rfl,rfl,rfl,rfl,rfl,rfl,rfl,trivial⟩
          exact hk199 ((decide (v203 < v201)),w153) h _ hS
         ·refine qn ha 135 (nn b200 _ rfl) fun a ha=>qn ha 135 (nn b200 _ rfl) fun a ha=>qn ha 135 (nn b200 _ rfl) fun a ha=>qn ha 135 (nn b200 _ rfl) fun a ha=>qn ha 135 (nn b200 _ rfl) fun a ha=>q ha (d_pick_f ha rfl b200 rfl) fun a ha=>qa ha rfl fun a ha=>s_nil<|?_
          have hS : Has 213 [(12,(.bool false)),(0,(.pointer a0)),(2,(.pointer (some p1))),(3,(.pointer (some p4))),(10,(Sl.v x140)),(11,(.int .i64 x107)),(13,(.pointer (some v150))),(14,(.int .i64 v151))] _:=ha.sub ⟨rfl,rfl,rfl,rfl,rfl,rfl,rfl,rfl,trivial⟩
          exact hk199 (false,w153) h _ hS
       ·obtain ⟨w156,e157,h⟩:=h
        obtain ⟨v158,e159,h⟩:=h
        obtain ⟨p160,e161,h⟩:=h
        obtain ⟨v162,e163,h⟩:=h
        obtain ⟨v164,e165,h⟩:=h
        obtain ⟨p166,e167,h⟩:=h
        obtain ⟨v168,e169,h⟩:=h
        obtain ⟨h,hB⟩:=h
        obtain ⟨v170,v171,v172,w173,e174,h⟩:=h
        obtain ⟨p175,w176,e177,h⟩:=h
        obtain ⟨w179,e180,h⟩:=h
        obtain ⟨e178,h⟩:=h
        have hA:=h
        have h:=hB
        obtain ⟨p181,w182,e183,h⟩:=h
        obtain ⟨v184,v185,v186,w187,e188,h⟩:=h
        obtain ⟨w190,e191,h⟩:=h
        obtain ⟨e189,h⟩:=h
        obtain ⟨e192,h⟩:=h
        obtain ⟨e193,h⟩:=h
        obtain ⟨e194,h⟩:=h
        obtain ⟨e195,h⟩:=h
        have hB:=h
        have ha : Has 213 [(0,(.pointer a0)),(2,(.pointer (some p1))),(3,(.pointer (some p4))),(10,(Sl.v x140)),(11,(.int .i64 x107))] a:=ha.sub ⟨rfl,rfl,rfl,rfl,rfl,trivial⟩
        refine region_two (n:=213) (i:=13) (j:=18) (Dp:=[13,14,15,16,17,18,19,20,21]) (ds1:=(⟨_,(.pointer a0),false,0,0,[],[(0,(.pointer a0))]⟩ :: ⟨_,(.pointer (some (p4.add 2))),false,0,0,[],[(3,(.pointer (some p4)))]⟩ :: ⟨_,(Sl.v v158),false,0,0,[1],[(118,(.pointer (some (p4.add 2))))]⟩ :: ⟨_,(.int .i64 x107),false,0,0,[],[(11,(.int .i64 x107))]⟩ :: ⟨_,(.pointer (some p160)),false,0,0,[2,1,3],[(119,(Sl.v v158)),(120,(.int .i64 x107))]⟩ :: ⟨_,(.pointer (some (p160.add 0))),false,0,0,[4,2,1,3],[(121,(.pointer (some p160)))]⟩ :: ⟨_,(.int .i64 v162),false,0,0,[5,4,2,1,3],[(122,(.pointer (some (p160.add 0))))]⟩ :: ⟨_,(.pointer (some (p4.add 2))),false,0,0,[],[(3,(.pointer (some p4)))]⟩ :: ⟨_,(Sl.v v164),false,0,0,[7],[(124,(.pointer (some (p4.add 2))))]⟩ :: ⟨_,(.int .i64 x107),false,0,0,[],[(11,(.int .i64 x107))]⟩ :: ⟨_,(.pointer (some p166)),false,0,0,[8,7,9],[(125,(Sl.v v164)),(126,(.int .i64 x107))]⟩ :: ⟨_,(.pointer (some (p166.add 2))),false,0,0,[10,8,7,9],[(127,(.pointer (some p166)))]⟩ :: ⟨_,(.int .i64 v168),false,0,0,[11,10,8,7,9],[(128,(.pointer (some (p166.add 2))))]⟩ :: ⟨_,(.tuple #[(.agg (List.toArray v170)),(.int .i64 v171),(.bool v172)]),true,0,0,(rn 0 13),[(117,(.pointer a0)),(123,(.int .i64 v162)),(129,(.int .i64 v168))]⟩ :: ⟨_,(.tuple #[(.agg (List.toArray v170)),(.int .i64 v171),(.bool v172)]),false,1,2,(rn 0 14),[(130,(.tuple #[(.agg (List.toArray v170)),(.int .i64 v171),(.bool v172)]))]⟩ :: ⟨_,(.agg (List.toArray v170)),false,1,2,(rn 0 15),[(116,(.tuple #[(.agg (List.toArray v170)),(.int .i64 v171),(.bool v172)]))]⟩ :: ⟨_,(.int .i64 v171),false,1,3,(rn 0 15),[(116,(.tuple #[(.agg (List.toArray v170)),(.int .i64 v171),(.bool v172)]))]⟩ :: ⟨_,(.bool v172),false,1,3,(rn 0 15),[(116,(.tuple #[(.agg (List.toArray v170)),(.int .i64 v171),(.bool v172)]))]⟩ :: ⟨_,(.pointer (some p175)),true,1,1,(rn 0 14),[]⟩ :: ⟨_,undef,true,2,2,(rn 0 16 ++ [18]),[(13,(.pointer (some p175))),(131,(.agg (List.toArray v170)))]⟩ :: ⟨_,(.int .i64 v171),false,3,3,(rn 0 17 ++ [18,19]),[(132,(.int .i64 v171))]⟩ :: ⟨_,(.bool v172),false,3,3,(rn 0 21),[(133,(.bool v172))]⟩ :: [])) (ds2:=(⟨_,(.pointer a0),false,0,1,[],[(0,(.pointer a0))]⟩ :: ⟨_,(.pointer (some (p4.add 2))),false,0,1,[],[(3,(.pointer (some p4)))]⟩ :: ⟨_,(Sl.v v158),false,0,1,[1],[(118,(.pointer (some (p4.add 2))))]⟩ :: ⟨_,(.int .i64 x107),false,0,1,[],[(11,(.int .i64 x107))]⟩ :: ⟨_,(.pointer (some p160)),false,0,1,[2,1,3],[(119,(Sl.v v158)),(120,(.int .i64 x107))]⟩ :: ⟨_,(.pointer (some (p160.add 0))),false,0,1,[4,2,1,3],[(121,(.pointer (some p160)))]⟩ :: ⟨_,(.int .i64 v162),false,0,1,[5,4,2,1,3],[(122,(.pointer (some (p160.add 0))))]⟩ :: ⟨_,(.pointer (some (p4.add 2))),false,0,1,[],[(3,(.pointer (some p4)))]⟩ :: ⟨_,(Sl.v v164),false,0,1,[7],[(124,(.pointer (some (p4.add 2))))]⟩ :: ⟨_,(.int .i64 x107),false,0,1,[],[(11,(.int .i64 x107))]⟩ :: ⟨_,(.pointer (some p166)),false,0,1,[8,7,9],[(125,(Sl.v v164)),(126,(.int .i64 x107))]⟩ :: ⟨_,(.pointer (some (p166.add 2))),false,0,1,[10,8,7,9],[(127,(.pointer (some p166)))]⟩ :: ⟨_,(.int .i64 v168),false,0,1,[11,10,8,7,9],[(128,(.pointer (some (p166.add 2))))]⟩ :: ⟨_,(.tuple #[(.agg (List.toArray v184)),(.int .i64 v185),(.bool v186)]),true,1,1,(rn 0 13 ++ [18]),[(117,(.pointer a0)),(123,(.int .i64 v162)),(129,(.int .i64 v168))]⟩ :: ⟨_,(.tuple #[(.agg (List.toArray v184)),(.int .i64 v185),(.bool v186)]),false,2,2,(rn 0 14 ++ [18]),[(130,(.tuple #[(.agg (List.toArray v184)),(.int .i64 v185),(.bool v186)]))]⟩ :: ⟨_,(.agg (List.toArray v184)),false,2,2,(rn 0 15 ++ [18]),[(116,(.tuple #[(.agg (List.toArray v184)),(.int .i64 v185),(.bool v186)]))]⟩ :: ⟨_,(.int .i64 v185),false,2,3,(rn 0 15 ++ [18]),[(116,(.tuple #[(.agg (List.toArray v184)),(.int .i64 v185),(.bool v186)]))]⟩ :: ⟨_,(.bool v186),false,2,3,(rn 0 15 ++ [18]),[(116,(.tuple #[(.agg (List.toArray v184)),(.int .i64 v185),(.bool v186)]))]⟩ :: ⟨_,(.pointer (some p181)),true,0,0,[],[]⟩ :: ⟨_,undef,true,2,2,(rn 0 16 ++ [18]),[(13,(.pointer (some p181))),(131,(.agg (List.toArray v184)))]⟩ :: ⟨_,(.int .i64 v185),false,3,3,(rn 0 17 ++ [18,19]),[(132,(.int .i64 v185))]⟩ :: ⟨_,(.bool v186),false,3,3,(rn 0 21),[(133,(.bool v186))]⟩ :: [])) (W1:=(fun j=>match j with | 0=>w156 | 1=>w173 | 2=>w176 | 3=>w179 | _=>w179)) (W2:=(fun j=>match j with | 0=>w156 | 1=>w182 | 2=>w187 | 3=>w190 | _=>w190)) (m1:=3) (m2:=3) (by kernel_rfl) ha (dr_w e157) (dr_w e157) rfl (by kernel_rfl) (by kernel_rfl) rfl rfl (by decide) (reads_of (by kernel_rfl)) (reads_of (by kernel_rfl)) ?_ ?_ (by kernel_rfl) (by kernel_rfl) (fun a ha=>?_) (fun a ha=>?_)
        ·refine ⟨?_,?_,?_,?_,?_,?_,?_,?_,?_,?_,?_,?_,?_,?_,?_,?_,?_,?_,?_,?_,?_,?_,trivial⟩
         ·exact oa fun j a ha=>d_move ha rfl
         ·exact oa fun j a ha=>d_fa ha rfl Try.runUnderlying130 rfl rfl Try.sizeOf128 (by decide)
         ·exact oc 0 (ok_do rfl fun a ha=>d_ld ha rfl Try.isAgg128 (ldL_c e159))
         ·exact oa fun j a ha=>d_move ha rfl
         ·exact oa fun j a ha=>d_ix ha rfl rfl Try.runUnderlying128 Try.sizeOf136 e161
         ·exact oa fun j a ha=>d_fa ha rfl Try.runUnderlying136 rfl rfl Try.sizeOf3 (by decide)
         ·exact oc 0 (ok_do rfl fun a ha=>d_ld ha rfl Try.isAgg3 (ldI_c e163))
         ·exact oa fun j a ha=>d_fa ha rfl Try.runUnderlying130 rfl rfl Try.sizeOf128 (by decide)
         ·exact oc 0 (ok_do rfl fun a ha=>d_ld ha rfl Try.isAgg128 (ldL_c e165))
         ·exact oa fun j a ha=>d_move ha rfl
         ·exact oa fun j a ha=>d_ix ha rfl rfl Try.runUnderlying128 Try.sizeOf136 e167
         ·exact oa fun j a ha=>d_fa ha rfl Try.runUnderlying136 rfl rfl Try.sizeOf3 (by decide)
         ·exact oc 0 (ok_do rfl fun a ha=>d_ld ha rfl Try.isAgg3 (ldI_c e169))
         ·exact oc 0 (ok_do rfl fun a ha=>d_call (xs:=[_,_,_]) (vs:=[(.pointer a0),(.int .i64 v162),(.int .i64 v168)]) ha ⟨rfl,rfl,rfl,trivial⟩ Try.call113 (grapevineref11_Log_record_ok e174))
         ·exact oa fun j a ha=>d_move ha rfl
         ·exact oa fun j a ha=>d_ext ha rfl rfl
         ·exact oa fun j a ha=>d_ext ha rfl rfl
         ·exact oa fun j a ha=>d_ext ha rfl rfl
         ·exact oc 1 (ok_do rfl fun a ha=>d_alloc Try.zeroValue87 (by kernel_rfl) e177)
         ·exact oc 2 (ok_do rfl fun a ha=>d_stA ha rfl rfl Try.sizeOf87 e178 e180)
         ·exact oa fun j a ha=>d_assign ha rfl
         ·exact oa fun j a ha=>d_assign ha rfl
        ·refine ⟨?_,?_,?_,?_,?_,?_,?_,?_,?_,?_,?_,?_,?_,?_,?_,?_,?_,?_,?_,?_,?_,?_,trivial⟩
         ·exact oa fun j a ha=>d_move ha rfl
         ·exact oa fun j a ha=>d_fa ha rfl Try.runUnderlying130 rfl rfl Try.sizeOf128 (by decide)
         ·intro j h1 h2; have h1 : 0≤j:=h1; have h2 : j≤1:=h2; rcases (by omega : j = 0∨j = 1) with rfl | rfl
          ·exact ok_do rfl fun a ha=>d_ld ha rfl Try.isAgg128 (ldL_c e159)
          ·exact ok_do rfl fun a ha=>d_ld ha rfl Try.isAgg128 (ldL_c e192)
         ·exact oa fun j a ha=>d_move ha rfl
         ·exact oa fun j a ha=>d_ix ha rfl rfl Try.runUnderlying128 Try.sizeOf136 e161
         ·exact oa fun j a ha=>d_fa ha rfl Try.runUnderlying136 rfl rfl Try.sizeOf3 (by decide)
         ·intro j h1 h2; have h1 : 0≤j:=h1; have h2 : j≤1:=h2; rcases (by omega : j = 0∨j = 1) with rfl | rfl
          ·exact ok_do rfl fun a ha=>d_ld ha rfl Try.isAgg3 (ldI_c e163)
          ·exact ok_do rfl fun a ha=>d_ld ha rfl Try.isAgg3 (ldI_c e193)
         ·exact oa fun j a ha=>d_fa ha rfl Try.runUnderlying130 rfl rfl Try.sizeOf128 (by decide)
         ·intro j h1 h2; have h1 : 0≤j:=h1; have h2 : j≤1:=h2; rcases (by omega : j = 0∨j = 1) with rfl | rfl
          ·exact ok_do rfl fun a ha=>d_ld ha rfl Try.isAgg128 (ldL_c e165)
          ·exact ok_do rfl fun a ha=>d_ld ha rfl Try.isAgg128 (ldL_c e194)
         ·exact oa fun j a ha=>d_move ha rfl
         ·exact oa fun j a ha=>d_ix ha rfl rfl Try.runUnderlying128 Try.sizeOf136 e167
         ·exact oa fun j a ha=>d_fa ha rfl Try.runUnderlying136 rfl rfl Try.sizeOf3 (by decide)
         ·intro j h1 h2; have h1 : 0≤j:=h1; have h2 : j≤1:=h2; rcases (by omega : j = 0∨j = 1) with rfl | rfl
          ·exact ok_do rfl fun a ha=>d_ld ha rfl Try.isAgg3 (ldI_c e169)
          ·exact ok_do rfl fun a ha=>d_ld ha rfl Try.isAgg3 (ldI_c e195)
         ·exact oc 1 (ok_do rfl fun a ha=>d_call (xs:=[_,_,_]) (vs:=[(.pointer a0),(.int .i64 v162),(.int .i64 v168)]) ha ⟨rfl,rfl,rfl,trivial⟩ Try.call113 (grapevineref11_Log_record_ok e188))
         ·exact oa fun j a ha=>d_move ha rfl
         ·exact oa fun j a ha=>d_ext ha rfl rfl
         ·exact oa fun j a ha=>d_ext ha rfl rfl
         ·exact oa fun j a ha=>d_ext ha rfl rfl
         ·exact oc 0 (ok_do rfl fun a ha=>d_alloc Try.zeroValue87 (by kernel_rfl) e183)
         ·exact oc 2 (ok_do rfl fun a ha=>d_stA ha rfl rfl Try.sizeOf87 e189 e191)
         ·exact oa fun j a ha=>d_assign ha rfl
         ·exact oa fun j a ha=>d_assign ha rfl
        ·have h:=hA
         have ha : Has 213 [(0,(.pointer a0)),(2,(.pointer (some p1))),(3,(.pointer (some p4))),(10,(Sl.v x140)),(11,(.int .i64 x107)),(13,(.pointer (some p175))),(14,(.int .i64 v171)),(15,(.bool v172))] a:=ha.sub ⟨rfl,rfl,rfl,rfl,rfl,rfl,rfl,rfl,trivial⟩
         have hS : Has 213 [(13,(.pointer (some p175))),(14,(.int .i64 v171)),(15,(.bool v172)),(0,(.pointer a0)),(2,(.pointer (some p1))),(3,(.pointer (some p4))),(10,(Sl.v x140)),(11,(.int .i64 x107))] _:=ha.sub ⟨rfl,rfl,rfl,rfl,rfl,rfl,rfl,rfl,trivial⟩
         exact hk155 (p175,v171,v172,w179) h _ hS
        ·have h:=hB
         have ha : Has 213 [(0,(.pointer a0)),(2,(.pointer (some p1))),(3,(.pointer (some p4))),(10,(Sl.v x140)),(11,(.int .i64 x107)),(13,(.pointer (some p181))),(14,(.int .i64 v185)),(15,(.bool v186))] a:=ha.sub ⟨rfl,rfl,rfl,rfl,rfl,rfl,rfl,rfl,trivial⟩
         have hS : Has 213 [(13,(.pointer (some p181))),(14,(.int .i64 v185)),(15,(.bool v186)),(0,(.pointer a0)),(2,(.pointer (some p1))),(3,(.pointer (some p4))),(10,(Sl.v x140)),(11,(.int .i64 x107))] _:=ha.sub ⟨rfl,rfl,rfl,rfl,rfl,rfl,rfl,rfl,trivial⟩
         exact hk155 (p181,v185,v186,w190) h _ hS
      ·refine wp_exit<|t_x<|?_
       have hS : Has 213 [(10,(Sl.v x140)),(0,(.pointer a0)),(2,(.pointer (some p1))),(3,(.pointer (some p4))),(11,(.int .i64 x107))] _:=ha.sub ⟨rfl,rfl,rfl,rfl,rfl,trivial⟩
       refine t_x<|?_
       exact hk147 (x140,w142) h _ hS
    ·refine wp_seq<|?_
     obtain ⟨w121,e122,h⟩:=h
     obtain ⟨v123,e124,h⟩:=h
     obtain ⟨p125,e126,h⟩:=h
     obtain ⟨v127,e128,h⟩:=h
     obtain ⟨v129,e130,h⟩:=h
     have ha : Has 213 [(0,(.pointer a0)),(2,(.pointer (some p1))),(3,(.pointer (some p4))),(10,(Sl.v x106)),(11,(.int .i64 x107))] a:=ha.sub ⟨rfl,rfl,rfl,rfl,rfl,trivial⟩
     refine region_draw (n:=213) (ds:=(⟨_,(.pointer (some (p4.add 2))),false,0,0,[],[(3,(.pointer (some p4)))]⟩ :: ⟨_,(Sl.v v123),false,0,0,[0],[(99,(.pointer (some (p4.add 2))))]⟩ :: ⟨_,(.int .i64 x107),false,0,0,[],[(11,(.int .i64 x107))]⟩ :: ⟨_,(.pointer (some p125)),false,0,0,[0,1,2],[(100,(Sl.v v123)),(101,(.int .i64 x107))]⟩ :: ⟨_,(.pointer (some (p125.add 3))),false,0,0,(rn 0 4),[(102,(.pointer (some p125)))]⟩ :: ⟨_,(.int .i64 v127),false,0,0,(rn 0 5),[(103,(.pointer (some (p125.add 3))))]⟩ :: ⟨_,(.pointer (some (p4.add 0))),false,0,0,[],[(3,(.pointer (some p4)))]⟩ :: ⟨_,(.int .i64 v129),false,0,0,[6],[(105,(.pointer (some (p4.add 0))))]⟩ :: ⟨_,(.bool (decide (v129 < v127))),false,0,0,(rn 0 8),[(104,(.int .i64 v127)),(106,(.int .i64 v129))]⟩ :: [])) (W:=(fun _=>w121)) (by kernel_rfl) ha (dr_w e122) (by kernel_rfl) ?_ (reads_of (by kernel_rfl)) (by kernel_rfl) (m:=0) (by kernel_rfl) (fun a ha=>?_)
     ·refine ⟨?_,?_,?_,?_,?_,?_,?_,?_,?_,trivial⟩
      ·exact oa fun j a ha=>d_fa ha rfl Try.runUnderlying130 rfl rfl Try.sizeOf128 (by decide)
      ·exact oc (e:=false) 0 (ok_do rfl fun a ha=>d_ld ha rfl Try.isAgg128 (ldL_c e124))
      ·exact oa fun j a ha=>d_move ha rfl
      ·exact oa fun j a ha=>d_ix ha rfl rfl Try.runUnderlying128 Try.sizeOf136 e126
      ·exact oa fun j a ha=>d_fa ha rfl Try.runUnderlying136 rfl rfl Try.sizeOf3 (by decide)
      ·exact oc (e:=false) 0 (ok_do rfl fun a ha=>d_ld ha rfl Try.isAgg3 (ldI_c e128))
      ·exact oa fun j a ha=>d_fa ha rfl Try.runUnderlying130 rfl rfl Try.sizeOf3 (by decide)
      ·exact oc (e:=false) 0 (ok_do rfl fun a ha=>d_ld ha rfl Try.isAgg3 (ldI_c e130))
      ·exact oa fun j a ha=>d_gt ha rfl rfl
     ·have ha : Has 213 [(0,(.pointer a0)),(2,(.pointer (some p1))),(3,(.pointer (some p4))),(10,(Sl.v x106)),(11,(.int .i64 x107)),(107,(.bool (decide (v129 < v127))))] a:=ha.sub ⟨rfl,rfl,rfl,rfl,rfl,rfl,trivial⟩
      refine t_n<|?_
      refine s_condN ha rfl h (fun b131 h=>?_) (fun b131 h=>?_)
      ·refine region_lit<|q ha (d_fa ha rfl Try.runUnderlying130 rfl rfl Try.sizeOf128 (by decide)) fun a ha=>?_
       obtain ⟨v132,e133,h⟩:=h
       refine q ha (d_ld ha rfl Try.isAgg128 (ldL_c e133)) fun a ha=>qm ha rfl fun a ha=>?_
       obtain ⟨p134,e135,h⟩:=h
       refine q ha (d_ix ha rfl rfl Try.runUnderlying128 Try.sizeOf136 e135) fun a ha=>q ha (d_fa ha rfl Try.runUnderlying136 rfl rfl Try.sizeOf3 (by decide)) fun a ha=>?_
       obtain ⟨v136,e137,h⟩:=h
       refine q ha (d_ld ha rfl Try.isAgg3 (ldI_c e137)) fun a ha=>q ha (d_fa ha rfl Try.runUnderlying130 rfl rfl Try.sizeOf3 (by decide)) fun a ha=>?_
       obtain ⟨w138,e139,h⟩:=h
       refine q ha (d_st ha rfl rfl Try.sizeOf3 e139) fun a ha=>s_nil<|?_
       have hS : Has 213 [(0,(.pointer a0)),(2,(.pointer (some p1))),(3,(.pointer (some p4))),(10,(Sl.v x106)),(11,(.int .i64 x107))] _:=ha.sub ⟨rfl,rfl,rfl,rfl,rfl,trivial⟩
       exact hk120 w138 h _ hS
      ·refine wp_skip<|?_
       have hS : Has 213 [(0,(.pointer a0)),(2,(.pointer (some p1))),(3,(.pointer (some p4))),(10,(Sl.v x106)),(11,(.int .i64 x107))] _:=ha.sub ⟨rfl,rfl,rfl,rfl,rfl,trivial⟩
       exact hk120 w121 h _ hS
   ·refine wp_exit<|t_x<|?_
    have hS : Has 213 [(10,(Sl.v x106)),(0,(.pointer a0)),(2,(.pointer (some p1))),(3,(.pointer (some p4)))] _:=ha.sub ⟨rfl,rfl,rfl,rfl,trivial⟩
    refine t_x<|?_
    exact hk113 (x106,w108) h _ hS
 ·clear h
  intro hX308
  rintro ⟨x9,w10⟩ a wq ⟨ha,hwq⟩ h
  obtain rfl : w10 = wq:=hwq.symm
  have ha : Has 213 [(4,(.int .i64 x9)),(0,(.pointer a0)),(2,(.pointer (some p1))),(3,(.pointer (some p4)))] a:=ha
  have h : (grapevineref11_Log_Read_l1 a0 p4 x9 w10).t _:=h
  unfold grapevineref11_Log_Read_l1 at h
  refine wp_seq<|wp_seq<|region_lit<|qm ha rfl fun a ha=>qm ha rfl fun a ha=>?_
  obtain ⟨p16,e17,h⟩:=h
  refine q ha (d_nilp ha rfl e17) fun a ha=>q ha (d_fa ha rfl Try.runUnderlying132 rfl rfl Try.sizeOf3 (by decide)) fun a ha=>?_
  obtain ⟨v18,e19,h⟩:=h
  refine q ha (d_ld ha rfl Try.isAgg3 (ldI_c e19)) fun a ha=>q ha (d_lt ha rfl rfl) fun a ha=>s_nil<|t_n<|?_
  refine s_condN ha rfl h (fun b20 h=>?_) (fun b20 h=>?_)
  ·refine wp_skip<|t_n<|?_
   refine seq_joinN (n:=213) (ι:=World) (Lf:=fun i=>[(0,(.pointer a0)),(2,(.pointer (some p1))),(3,(.pointer (some p4))),(4,(.int .i64 x9))]) (wf:=fun i=>i) (un1 h) (fun i h a ha=>?_) (fun h hk23=>?_)
   ·obtain ⟨w21,rfl⟩ : ∃ x,x = i:=⟨i,rfl⟩
    have ha : Has 213 [(0,(.pointer a0)),(2,(.pointer (some p1))),(3,(.pointer (some p4))),(4,(.int .i64 x9))] a:=ha
    refine region_lit<|qm ha rfl fun a ha=>q ha (d_add ha rfl rfl) fun a ha=>qa ha rfl fun a ha=>s_nil<|?_
    have hS : Has 213 [(4,(.int .i64 (IntKind.wrap .i64 (x9 + 1)))),(0,(.pointer a0)),(2,(.pointer (some p1))),(3,(.pointer (some p4)))] _:=ha.sub ⟨rfl,rfl,rfl,rfl,trivial⟩
    exact ⟨((IntKind.wrap .i64 (x9 + 1)),w21),⟨hS,rfl⟩,h⟩
   ·refine wp_block<|wp_seq<|region_lit<|qm ha rfl fun a ha=>qm ha rfl fun a ha=>?_
    obtain ⟨v24,v25,v26,w27,e28,h⟩:=h
    refine q ha (d_call (xs:=[_,_]) (vs:=[(.pointer a0),(.int .i64 x9)]) ha ⟨rfl,rfl,trivial⟩ Try.call112 (grapevineref11_Log_header_ok e28)) fun a ha=>qm ha rfl fun a ha=>q ha (d_ext ha rfl rfl) fun a ha=>q ha (d_ext ha rfl rfl) fun a ha=>q ha (d_ext ha rfl rfl) fun a ha=>qa ha rfl fun a ha=>qa ha rfl fun a ha=>qa ha rfl fun a ha=>s_nil<|t_n<|wp_seq<|wp_seq<|region_lit<|qm ha rfl fun a ha=>q ha (d_not ha rfl) fun a ha=>s_nil<|t_n<|?_
    refine s_condN ha rfl h (fun b29 h=>?_) (fun b29 h=>?_)
    ·refine wp_exit<|t_x<|b_hit<|?_
     have hS : Has 213 [(0,(.pointer a0)),(2,(.pointer (some p1))),(3,(.pointer (some p4))),(4,(.int .i64 x9))] _:=ha.sub ⟨rfl,rfl,rfl,rfl,trivial⟩
     exact hk23 w27 h _ hS
    ·refine wp_skip<|t_n<|wp_seq<|region_lit<|q ha (d_fa ha rfl Try.runUnderlying130 rfl rfl Try.sizeOf128 (by decide)) fun a ha=>?_
     obtain ⟨v30,e31,h⟩:=h
     refine q ha (d_ld ha rfl Try.isAgg128 (ldL_c e31)) fun a ha=>qm ha rfl fun a ha=>qm ha rfl fun a ha=>qm ha rfl fun a ha=>q ha (d_build (vs:=[(0,(.int .i64 x9)),(1,(.int .i64 v24)),(2,(.int .i64 1)),(3,(.int .i64 v25))]) (pl:=#[(0,1),(1,1),(2,1),(3,1)]) (cs:=([.int .i64 x9,.int .i64 v24,.int .i64 1,.int .i64 v25])) ha ⟨rfl,rfl,rfl,rfl,rfl,rfl,rfl,rfl,trivial⟩ Try.zeroValue136 Try.runUnderlying136 (by intro w; kernel_rfl) (by kernel_rfl)) fun a ha=>?_
     obtain ⟨s32,w33,e34,h⟩:=h
     refine q ha (d_bsl (vs:=[(0,(.agg (List.toArray ([.int .i64 x9,.int .i64 v24,.int .i64 1,.int .i64 v25]))))]) (ps:=[([.int .i64 x9,.int .i64 v24,.int .i64 1,.int .i64 v25])]) ha ⟨rfl,rfl,trivial⟩ ⟨rfl,rfl,trivial⟩ rfl Try.runUnderlying128 Try.sizeOf136 Try.zeroValue136 (by decide) e34) fun a ha=>?_
     obtain ⟨s35,w36,e37,h⟩:=h
     refine q ha (d_apS ha rfl rfl e37) fun a ha=>q ha (d_fa ha rfl Try.runUnderlying130 rfl rfl Try.sizeOf128 (by decide)) fun a ha=>?_
     obtain ⟨w38,e39,h⟩:=h
     refine q ha (d_st ha rfl rfl Try.sizeOf128 e39) fun a ha=>s_nil<|t_n<|wp_seq<|region_lit<|q ha (d_fa ha rfl Try.runUnderlying130 rfl rfl Try.sizeOf128 (by decide)) fun a ha=>?_
     obtain ⟨v40,e41,h⟩:=h
     refine q ha (d_ld ha rfl Try.isAgg128 (ldL_c e41)) fun a ha=>q ha (d_lenS ha rfl Try.runUnderlying128) fun a ha=>q ha (d_sub ha rfl rfl) fun a ha=>qa ha rfl fun a ha=>s_nil<|t_n<|wp_block<|?_
     refine s_loopN1 (n:=213) (Lr:=fun i=>[(0,(.pointer a0)),(2,(.pointer (some p1))),(3,(.pointer (some p4))),(4,(.int .i64 x9))]) (wr:=fun i=>i) (e:=.exit 2) (I:=fun (s : Int×World) a w=>Has 213 [(8,(.int .i64 s.1)),(0,(.pointer a0)),(2,(.pointer (some p1))),(3,(.pointer (some p4))),(4,(.int .i64 x9))] a∧w = s.2) (un1 h) ⟨ha.sub ⟨rfl,rfl,rfl,rfl,rfl,trivial⟩,rfl⟩ (fun i h a ha=>?_) (fun hk47=>?_)
     ·obtain ⟨w46,rfl⟩ : ∃ x,x = i:=⟨i,rfl⟩
      have ha : Has 213 [(0,(.pointer a0)),(2,(.pointer (some p1))),(3,(.pointer (some p4))),(4,(.int .i64 x9))] a:=ha
      refine b_hit<|b_n<|?_
      have hS : Has 213 [(0,(.pointer a0)),(2,(.pointer (some p1))),(3,(.pointer (some p4))),(4,(.int .i64 x9))] _:=ha.sub ⟨rfl,rfl,rfl,rfl,trivial⟩
      exact hk23 w46 h _ hS
     ·clear h
      intro hX102
      rintro ⟨x42,w43⟩ a wq ⟨ha,hwq⟩ h
      obtain rfl : w43 = wq:=hwq.symm
      have ha : Has 213 [(8,(.int .i64 x42)),(0,(.pointer a0)),(2,(.pointer (some p1))),(3,(.pointer (some p4))),(4,(.int .i64 x9))] a:=ha
      have h : (grapevineref11_Log_Read_l2 p4 x42 w43).t _:=h
      unfold grapevineref11_Log_Read_l2 at h
      refine wp_seq<|wp_seq<|?_
      refine reg_joinN (n:=213) (ι:=Bool×World) (Lf:=fun i=>[(67,(.bool i.1)),(0,(.pointer a0)),(2,(.pointer (some p1))),(3,(.pointer (some p4))),(4,(.int .i64 x9)),(8,(.int .i64 x42))]) (wf:=fun i=>i.2) (un2 h) (fun i h a ha=>?_) (fun h hk52=>?_)
      ·obtain ⟨v49,w50⟩:=i
       have ha : Has 213 [(67,(.bool v49)),(0,(.pointer a0)),(2,(.pointer (some p1))),(3,(.pointer (some p4))),(4,(.int .i64 x9)),(8,(.int .i64 x42))] a:=ha
       refine t_n<|?_
       refine s_condN ha rfl h (fun b68 h=>?_) (fun b68 h=>?_)
       ·refine wp_skip<|t_n<|wp_seq<|wp_block<|wp_seq<|region_lit<|q ha (d_fa ha rfl Try.runUnderlying130 rfl rfl Try.sizeOf128 (by decide)) fun a ha=>?_
        obtain ⟨v69,e70,h⟩:=h
        refine q ha (d_ld ha rfl Try.isAgg128 (ldL_c e70)) fun a ha=>qm ha rfl fun a ha=>?_
        obtain ⟨p71,e72,h⟩:=h
        refine q ha (d_ix ha rfl rfl Try.runUnderlying128 Try.sizeOf136 e72) fun a ha=>?_
        obtain ⟨c73,e74,h⟩:=h
        refine q ha (d_ldA ha rfl Try.isAgg136 Try.sizeOf136 e74) fun a ha=>?_
        obtain ⟨p75,w76,e77,h⟩:=h
        refine q ha (d_alloc Try.zeroValue136 (by kernel_rfl) e77) fun a ha=>?_
        obtain ⟨w78,e79,h⟩:=h
        refine q ha (d_stA ha rfl rfl Try.sizeOf136 ((ldA_c e74).1) e79) fun a ha=>s_nil<|t_n<|wp_seq<|?_
        obtain ⟨w80,e81,h⟩:=h
        obtain ⟨v82,e83,h⟩:=h
        obtain ⟨v84,e85,h⟩:=h
        obtain ⟨p86,e87,h⟩:=h
        obtain ⟨c88,e89,h⟩:=h
        obtain ⟨p90,e91,h⟩:=h
        obtain ⟨w92,e93,h⟩:=h
        have ha : Has 213 [(0,(.pointer a0)),(2,(.pointer (some p1))),(3,(.pointer (some p4))),(4,(.int .i64 x9)),(8,(.int .i64 x42)),(9,(.pointer (some p75)))] a:=ha.sub ⟨rfl,rfl,rfl,rfl,rfl,rfl,trivial⟩
        refine region_draw (n:=213) (ds:=(⟨_,(.pointer (some (p4.add 2))),false,0,0,[],[(3,(.pointer (some p4)))]⟩ :: ⟨_,(Sl.v v82),false,0,0,[0],[(75,(.pointer (some (p4.add 2))))]⟩ :: ⟨_,(.int .i64 x42),false,0,0,[],[(8,(.int .i64 x42))]⟩ :: ⟨_,(.pointer (some (p4.add 2))),false,0,0,[],[(3,(.pointer (some p4)))]⟩ :: ⟨_,(Sl.v v84),false,0,0,[3],[(78,(.pointer (some (p4.add 2))))]⟩ :: ⟨_,(.int .i64 x42),false,0,0,[],[(8,(.int .i64 x42))]⟩ :: ⟨_,(.int .i64 (IntKind.wrap .i64 (x42 - 1))),false,0,0,[5],[(80,(.int .i64 x42))]⟩ :: ⟨_,(.pointer (some p86)),false,0,0,(rn 3 4),[(79,(Sl.v v84)),(81,(.int .i64 (IntKind.wrap .i64 (x42 - 1))))]⟩ :: ⟨_,(.agg (List.toArray c88)),false,0,0,(rn 3 5),[(82,(.pointer (some p86)))]⟩ :: ⟨_,(.pointer (some p90)),false,0,0,(rn 0 9),[(76,(Sl.v v82)),(77,(.int .i64 x42))]⟩ :: ⟨_,undef,true,0,0,(rn 0 10),[(84,(.pointer (some p90))),(83,(.agg (List.toArray c88)))]⟩ :: [])) (W:=(fun j=>match j with | 0=>w80 | 1=>w92 | _=>w92)) (by kernel_rfl) ha (dr_w e81) (by kernel_rfl) ?_ (reads_of (by kernel_rfl)) (by kernel_rfl) (m:=1) (by kernel_rfl) (fun a ha=>?_)
        ·refine ⟨?_,?_,?_,?_,?_,?_,?_,?_,?_,?_,?_,trivial⟩
         ·exact oa fun j a ha=>d_fa ha rfl Try.runUnderlying130 rfl rfl Try.sizeOf128 (by decide)
         ·exact oc 0 (ok_do rfl fun a ha=>d_ld ha rfl Try.isAgg128 (ldL_c e83))
         ·exact oa fun j a ha=>d_move ha rfl
         ·exact oa fun j a ha=>d_fa ha rfl Try.runUnderlying130 rfl rfl Try.sizeOf128 (by decide)
         ·exact oc 0 (ok_do rfl fun a ha=>d_ld ha rfl Try.isAgg128 (ldL_c e85))
         ·exact oa fun j a ha=>d_move ha rfl
         ·exact oa fun j a ha=>d_sub ha rfl rfl
         ·exact oa fun j a ha=>d_ix ha rfl rfl Try.runUnderlying128 Try.sizeOf136 e87
         ·exact oc 0 (ok_do rfl fun a ha=>d_ldA ha rfl Try.isAgg136 Try.sizeOf136 e89)
         ·exact oa fun j a ha=>d_ix ha rfl rfl Try.runUnderlying128 Try.sizeOf136 e91
         ·exact oc 0 (ok_do rfl fun a ha=>d_stA ha rfl rfl Try.sizeOf136 ((ldA_c e89).1) e93)
        ·have ha : Has 213 [(0,(.pointer a0)),(2,(.pointer (some p1))),(3,(.pointer (some p4))),(4,(.int .i64 x9)),(8,(.int .i64 x42)),(9,(.pointer (some p75)))] a:=ha.sub ⟨rfl,rfl,rfl,rfl,rfl,rfl,trivial⟩
         refine t_n<|region_lit<|q ha (d_fa ha rfl Try.runUnderlying130 rfl rfl Try.sizeOf128 (by decide)) fun a ha=>?_
         obtain ⟨v94,e95,h⟩:=h
         refine q ha (d_ld ha rfl Try.isAgg128 (ldL_c e95)) fun a ha=>qm ha rfl fun a ha=>q ha (d_sub ha rfl rfl) fun a ha=>?_
         obtain ⟨c96,e97,h⟩:=h
         refine q ha (d_ldA ha rfl Try.isAgg136 Try.sizeOf136 e97) fun a ha=>?_
         obtain ⟨p98,e99,h⟩:=h
         refine q ha (d_ix ha rfl rfl Try.runUnderlying128 Try.sizeOf136 e99) fun a ha=>?_
         obtain ⟨w100,e101,h⟩:=h
         refine q ha (d_stA ha rfl rfl Try.sizeOf136 ((ldA_c e97).1) e101) fun a ha=>s_nil<|b_n<|t_n<|region_lit<|qm ha rfl fun a ha=>q ha (d_sub ha rfl rfl) fun a ha=>qa ha rfl fun a ha=>s_nil<|?_
         have hS : Has 213 [(8,(.int .i64 (IntKind.wrap .i64 (x42 - 1)))),(0,(.pointer a0)),(2,(.pointer (some p1))),(3,(.pointer (some p4))),(4,(.int .i64 x9))] _:=ha.sub ⟨rfl,rfl,rfl,rfl,rfl,trivial⟩
         exact ⟨((IntKind.wrap .i64 (x42 - 1)),w100),⟨hS,rfl⟩,h⟩
       ·refine wp_exit<|t_x<|?_
        have hS : Has 213 [(0,(.pointer a0)),(2,(.pointer (some p1))),(3,(.pointer (some p4))),(4,(.int .i64 x9))] _:=ha.sub ⟨rfl,rfl,rfl,rfl,trivial⟩
        refine t_x<|?_
        exact hk47 w50 h _ hS
      ·obtain ⟨w53,e54,h⟩:=h
       refine ite_n h (fun b55 h=>?_) (fun b55 h=>?_)
       ·obtain ⟨v56,e57,h⟩:=h
        obtain ⟨p58,e59,h⟩:=h
        obtain ⟨v60,e61,h⟩:=h
        obtain ⟨v62,e63,h⟩:=h
        obtain ⟨p64,e65,h⟩:=h
        obtain ⟨v66,e67,h⟩:=h
        have ha : Has 213 [(0,(.pointer a0)),(2,(.pointer (some p1))),(3,(.pointer (some p4))),(4,(.int .i64 x9)),(8,(.int .i64 x42))] a:=ha.sub ⟨rfl,rfl,rfl,rfl,rfl,trivial⟩
        refine region_draw (n:=213) (ds:=(⟨_,(.int .i64 x42),false,0,0,[],[(8,(.int .i64 x42))]⟩ :: ⟨_,(.bool (decide (0 < x42))),false,0,0,[0],[(50,(.int .i64 x42))]⟩ :: ⟨_,(.bool (decide (0 < x42))),false,0,0,[0,1],[(51,(.bool (decide (0 < x42))))]⟩ :: ⟨_,(.pointer (some (p4.add 2))),false,0,0,[0,1,2],[(3,(.pointer (some p4))),(52,(.bool (decide (0 < x42))))]⟩ :: ⟨_,(Sl.v v56),false,0,0,(rn 0 4),[(53,(.pointer (some (p4.add 2)))),(52,(.bool (decide (0 < x42))))]⟩ :: ⟨_,(.int .i64 x42),false,0,0,[0,1,2],[(8,(.int .i64 x42)),(52,(.bool (decide (0 < x42))))]⟩ :: ⟨_,(.pointer (some p58)),false,0,0,(rn 0 6),[(54,(Sl.v v56)),(55,(.int .i64 x42)),(52,(.bool (decide (0 < x42))))]⟩ :: ⟨_,(.pointer (some (p58.add 1))),false,0,0,(rn 0 7),[(56,(.pointer (some p58))),(52,(.bool (decide (0 < x42))))]⟩ :: ⟨_,(.int .i64 v60),false,0,0,(rn 0 8),[(57,(.pointer (some (p58.add 1)))),(52,(.bool (decide (0 < x42))))]⟩ :: ⟨_,(.pointer (some (p4.add 2))),false,0,0,[0,1,2],[(3,(.pointer (some p4))),(52,(.bool (decide (0 < x42))))]⟩ :: ⟨_,(Sl.v v62),false,0,0,[0,1,2,9],[(59,(.pointer (some (p4.add 2)))),(52,(.bool (decide (0 < x42))))]⟩ :: ⟨_,(.int .i64 x42),false,0,0,[0,1,2],[(8,(.int .i64 x42)),(52,(.bool (decide (0 < x42))))]⟩ :: ⟨_,(.int .i64 (IntKind.wrap .i64 (x42 - 1))),false,0,0,[0,1,2,11],[(61,(.int .i64 x42)),(52,(.bool (decide (0 < x42))))]⟩ :: ⟨_,(.pointer (some p64)),false,0,0,([0,1,2] ++ rn 9 4),[(60,(Sl.v v62)),(62,(.int .i64 (IntKind.wrap .i64 (x42 - 1)))),(52,(.bool (decide (0 < x42))))]⟩ :: ⟨_,(.pointer (some (p64.add 1))),false,0,0,([0,1,2] ++ rn 9 5),[(63,(.pointer (some p64))),(52,(.bool (decide (0 < x42))))]⟩ :: ⟨_,(.int .i64 v66),false,0,0,([0,1,2] ++ rn 9 6),[(64,(.pointer (some (p64.add 1)))),(52,(.bool (decide (0 < x42))))]⟩ :: ⟨_,(.bool (decide (v60 < v66))),false,0,0,(rn 0 16),[(58,(.int .i64 v60)),(65,(.int .i64 v66)),(52,(.bool (decide (0 < x42))))]⟩ :: ⟨_,(.bool (decide (v60 < v66))),false,0,0,(rn 0 17),[(52,(.bool (decide (0 < x42)))),(66,(.bool (decide (v60 < v66))))]⟩ :: [])) (W:=(fun _=>w53)) (by kernel_rfl) ha (dr_w e54) (by kernel_rfl) ?_ (reads_of (by kernel_rfl)) (by kernel_rfl) (m:=0) (by kernel_rfl) (fun a ha=>?_)
        ·refine ⟨?_,?_,?_,?_,?_,?_,?_,?_,?_,?_,?_,?_,?_,?_,?_,?_,?_,?_,trivial⟩
         ·exact oa fun j a ha=>d_move ha rfl
         ·exact oa fun j a ha=>d_gt ha rfl rfl
         ·exact oa fun j a ha=>d_move ha rfl
         ·exact oag 52 b55 fun j a ha=>d_fa ha rfl Try.runUnderlying130 rfl rfl Try.sizeOf128 (by decide)
         ·exact oc (e:=false) 0 (ok_do_g rfl rfl (rfl : List.lookup 52 _ = _) b55 fun a ha=>d_ld ha rfl Try.isAgg128 (ldL_c e57))
         ·exact oag 52 b55 fun j a ha=>d_move ha rfl
         ·exact oag 52 b55 fun j a ha=>d_ix ha rfl rfl Try.runUnderlying128 Try.sizeOf136 e59
         ·exact oag 52 b55 fun j a ha=>d_fa ha rfl Try.runUnderlying136 rfl rfl Try.sizeOf3 (by decide)
         ·exact oc (e:=false) 0 (ok_do_g rfl rfl (rfl : List.lookup 52 _ = _) b55 fun a ha=>d_ld ha rfl Try.isAgg3 (ldI_c e61))
         ·exact oag 52 b55 fun j a ha=>d_fa ha rfl Try.runUnderlying130 rfl rfl Try.sizeOf128 (by decide)
         ·exact oc (e:=false) 0 (ok_do_g rfl rfl (rfl : List.lookup 52 _ = _) b55 fun a ha=>d_ld ha rfl Try.isAgg128 (ldL_c e63))
         ·exact oag 52 b55 fun j a ha=>d_move ha rfl
         ·exact oag 52 b55 fun j a ha=>d_sub ha rfl rfl
         ·exact oag 52 b55 fun j a ha=>d_ix ha rfl rfl Try.runUnderlying128 Try.sizeOf136 e65
         ·exact oag 52 b55 fun j a ha=>d_fa ha rfl Try.runUnderlying136 rfl rfl Try.sizeOf3 (by decide)
         ·exact oc (e:=false) 0 (ok_do_g rfl rfl (rfl : List.lookup 52 _ = _) b55 fun a ha=>d_ld ha rfl Try.isAgg3 (ldI_c e67))
         ·exact oag 52 b55 fun j a ha=>d_lt ha rfl rfl
         ·exact oa fun j a ha=>d_pick_t ha rfl b55 rfl
        ·have ha : Has 213 [(0,(.pointer a0)),(2,(.pointer (some p1))),(3,(.pointer (some p4))),(4,(.int .i64 x9)),(8,(.int .i64 x42)),(67,(.bool (decide (v60 < v66))))] a:=ha.sub ⟨rfl,rfl,rfl,rfl,rfl,rfl,trivial⟩
         have hS : Has 213 [(67,(.bool (decide (v60 < v66)))),(0,(.pointer a0)),(2,(.pointer (some p1))),(3,(.pointer (some p4))),(4,(.int .i64 x9)),(8,(.int .i64 x42))] _:=ha.sub ⟨rfl,rfl,rfl,rfl,rfl,rfl,trivial⟩
         exact hk52 ((decide (v60 < v66)),w53) h _ hS
       ·have ha : Has 213 [(0,(.pointer a0)),(2,(.pointer (some p1))),(3,(.pointer (some p4))),(4,(.int .i64 x9)),(8,(.int .i64 x42))] a:=ha.sub ⟨rfl,rfl,rfl,rfl,rfl,trivial⟩
        refine region_draw (n:=213) (ds:=(⟨_,(.int .i64 x42),false,0,0,[],[(8,(.int .i64 x42))]⟩ :: ⟨_,(.bool (decide (0 < x42))),false,0,0,[0],[(50,(.int .i64 x42))]⟩ :: ⟨_,(.bool (decide (0 < x42))),false,0,0,[0,1],[(51,(.bool (decide (0 < x42))))]⟩ :: ⟨_,undef,false,0,0,[0,1,2],[(52,(.bool (decide (0 < x42))))]⟩ :: ⟨_,undef,false,0,0,(rn 0 4),[(52,(.bool (decide (0 < x42))))]⟩ :: ⟨_,undef,false,0,0,[0,1,2],[(52,(.bool (decide (0 < x42))))]⟩ :: ⟨_,undef,false,0,0,(rn 0 6),[(52,(.bool (decide (0 < x42))))]⟩ :: ⟨_,undef,false,0,0,(rn 0 7),[(52,(.bool (decide (0 < x42))))]⟩ :: ⟨_,undef,false,0,0,(rn 0 8),[(52,(.bool (decide (0 < x42))))]⟩ :: ⟨_,undef,false,0,0,[0,1,2],[(52,(.bool (decide (0 < x42))))]⟩ :: ⟨_,undef,false,0,0,[0,1,2,9],[(52,(.bool (decide (0 < x42))))]⟩ :: ⟨_,undef,false,0,0,[0,1,2],[(52,(.bool (decide (0 < x42))))]⟩ :: ⟨_,undef,false,0,0,[0,1,2,11],[(52,(.bool (decide (0 < x42))))]⟩ :: ⟨_,undef,false,0,0,([0,1,2] ++ rn 9 4),[(52,(.bool (decide (0 < x42))))]⟩ :: ⟨_,undef,false,0,0,([0,1,2] ++ rn 9 5),[(52,(.bool (decide (0 < x42))))]⟩ :: ⟨_,undef,false,0,0,([0,1,2] ++ rn 9 6),[(52,(.bool (decide (0 < x42))))]⟩ :: ⟨_,undef,false,0,0,(rn 0 16),[(52,(.bool (decide (0 < x42))))]⟩ :: ⟨_,(.bool false),false,0,0,(rn 0 17),[(52,(.bool (decide (0 < x42)))),(66,undef)]⟩ :: [])) (W:=(fun _=>w53)) (by kernel_rfl) ha (dr_w e54) (by kernel_rfl) ?_ (reads_of (by kernel_rfl)) (by kernel_rfl) (m:=0) (by kernel_rfl) (fun a ha=>?_)
        ·refine ⟨?_,?_,?_,?_,?_,?_,?_,?_,?_,?_,?_,?_,?_,?_,?_,?_,?_,?_,trivial⟩
         ·exact oa fun j a ha=>d_move ha rfl
         ·exact oa fun j a ha=>d_gt ha rfl rfl
         ·exact oa fun j a ha=>d_move ha rfl
         ·exact on 52 (nn b55 _ rfl)
         ·exact on 52 (nn b55 _ rfl)
         ·exact on 52 (nn b55 _ rfl)
         ·exact on 52 (nn b55 _ rfl)
         ·exact on 52 (nn b55 _ rfl)
         ·exact on 52 (nn b55 _ rfl)
         ·exact on 52 (nn b55 _ rfl)
         ·exact on 52 (nn b55 _ rfl)
         ·exact on 52 (nn b55 _ rfl)
         ·exact on 52 (nn b55 _ rfl)
         ·exact on 52 (nn b55 _ rfl)
         ·exact on 52 (nn b55 _ rfl)
         ·exact on 52 (nn b55 _ rfl)
         ·exact on 52 (nn b55 _ rfl)
         ·exact oa fun j a ha=>d_pick_f ha rfl b55 rfl
        ·have ha : Has 213 [(0,(.pointer a0)),(2,(.pointer (some p1))),(3,(.pointer (some p4))),(4,(.int .i64 x9)),(8,(.int .i64 x42)),(67,(.bool false))] a:=ha.sub ⟨rfl,rfl,rfl,rfl,rfl,rfl,trivial⟩
         have hS : Has 213 [(67,(.bool false)),(0,(.pointer a0)),(2,(.pointer (some p1))),(3,(.pointer (some p4))),(4,(.int .i64 x9)),(8,(.int .i64 x42))] _:=ha.sub ⟨rfl,rfl,rfl,rfl,rfl,rfl,trivial⟩
         exact hk52 (false,w53) h _ hS
  ·refine wp_exit<|t_x<|?_
   have hS : Has 213 [(0,(.pointer a0)),(2,(.pointer (some p1))),(3,(.pointer (some p4)))] _:=ha.sub ⟨rfl,rfl,rfl,trivial⟩
   refine t_x<|?_
   exact hk14 w10 h _ hS
noncomputable def grapevineref11_Log_free_l1 (a1 : Sl) (a2 : Int) (a0 : Option Addr) (x1 : Int) (x2 : Int) (w3 : World) : Option ((Int×Int×World)⊕((Int×World)⊕(Int×Int×World))) :=
 if (decide ((IntKind.wrap .i64 (x2 + 1)) < (a1.n : Int))) = true then
 (bindX ((ix a1 x2 4).bind fun p22 =>
 (ldI .i64 w3 (p22.add 3)).bind fun v24 =>
 if (decide (v24≤a2)) = true then
 ((dr w3).bind fun w27 =>
 (a0).bind fun p29 =>
 (ldP w27 (p29.add 0)).bind fun v31 =>
 (ix a1 x2 4).bind fun p33 =>
 (ldI .i64 w27 (p33.add 0)).bind fun v35 =>
 bind2 (grapevineref11_Log_place a0 v35 0 w27) fun v37 w38 =>
 bind2 (grapevineref09_Disk_Write v31 v37 Sl.nil w38) fun v40 w41 =>
 chk (ldP w38 (p29.add 0) = some v31) <|
 if (v40 != 0) = true then
 ((some (.inr (.inr (x1,v40,w41)))).bind fun g21=>some (.inl g21))
 else
 (some (.inr ((IntKind.wrap .i64 (x1 + 1)),w41))))
 else
 (some (.inr (x1,w3)))) some fun (i : Int×World)=>u2 i fun v15 w16 =>
 some (.inl (v15,(IntKind.wrap .i64 (x2 + 1)),w16)))
 else
 (some (.inr (.inl (x1,w3))))
noncomputable def grapevineref11_Log_free (a0 : Option Addr) (a1 : Sl) (a2 : Int) (w : World) : Option (Int×Int×World) :=
 (loopF (fun s : Int×Int×World=>grapevineref11_Log_free_l1 a1 a2 a0 s.1 s.2.1 s.2.2) (0,0,w)).bind fun r4=>Sum.elim (fun (i : Int×World)=>u2 i fun v6 w7 =>
 some (v6,0,w7)) (fun (i : Int×Int×World)=>u3 i fun v8 v9 w10 =>
 some (v8,v9,w10)) r4
set_option maxHeartbeats 1000000 in
set_option maxRecDepth 100000 in
theorem grapevineref11_Log_free_ok {a0 : Option Addr} {a1 : Sl} {a2 : Int} {w w' : World} {r0 : Int} {r1 : Int} (h : grapevineref11_Log_free a0 a1 a2 w = some (r0,r1,w')) : Calls Try.prog 74 #[(.pointer a0),(Sl.v a1),(.int .i64 a2)] w fun e w''=>e = .returned (.tuple #[(.int .i64 r0),(.int .i64 r1)])∧w'' = w':=by
 refine calls_dec (n:=44) Try.func74 rfl Try.ntmps74 (by simp) fun a ha=>?_
 unfold grapevineref11_Log_free at h
 refine wp_seq<|region_lit<|qa ha rfl fun a ha=>qa ha rfl fun a ha=>s_nil<|t_n<|wp_seq<|region_lit<|qa ha rfl fun a ha=>s_nil<|t_n<|wp_seq<|wp_seq<|region_lit<|qa ha rfl fun a ha=>s_nil<|t_n<|wp_block<|?_
 obtain ⟨r4,e5,h⟩:=bs1 h
 refine s_loop2 (n:=44) (L1:=fun i=>[(8,(.int .i64 i.1))]) (w1:=fun i=>i.2) (L2:=fun i=>[(6,(.int .i64 i.1)),(7,(.int .i64 i.2.1))]) (w2:=fun i=>i.2.2) (e1:=.exit 0) (e2:=.ret) (I:=fun (s : Int×Int×World) a w=>Has 44 [(8,(.int .i64 s.1)),(9,(.int .i64 s.2.1)),(0,(.pointer a0)),(1,(Sl.v a1)),(2,(.int .i64 a2))] a∧w = s.2.2) ⟨ha.sub ⟨rfl,rfl,rfl,rfl,rfl,trivial⟩,rfl⟩ e5 (fun i hi a ha=>?_) (fun i hi a ha=>?_) (fun hk11 hk12=>?_)
 ·subst hi
  obtain ⟨v6,w7⟩:=i
  dsimp only [Sum.elim_inl,Sum.elim_inr,u1,u2,u3,u4,u5,u6] at h
  have ha : Has 44 [(8,(.int .i64 v6))] a:=ha
  refine b_hit<|t_n<|wp_seq<|region_lit<|qm ha rfl fun a ha=>qa ha rfl fun a ha=>qa ha rfl fun a ha=>s_nil<|t_n<|wp_ret<|?_
  have hS:=ha
  cases h
  exact ret2 Try.results74 hS rfl rfl ⟨rfl,rfl⟩
 ·subst hi
  obtain ⟨v8,v9,w10⟩:=i
  dsimp only [Sum.elim_inl,Sum.elim_inr,u1,u2,u3,u4,u5,u6] at h
  have ha : Has 44 [(6,(.int .i64 v8)),(7,(.int .i64 v9))] a:=ha
  refine b_r<|t_r<|?_
  have hS:=ha
  cases h
  exact ret2 Try.results74 hS rfl rfl ⟨rfl,rfl⟩
 ·clear h
  rintro ⟨x1,x2,w3⟩ a wq o ⟨ha,hwq⟩ h hr13
  obtain rfl : w3 = wq:=hwq.symm
  have ha : Has 44 [(8,(.int .i64 x1)),(9,(.int .i64 x2)),(0,(.pointer a0)),(1,(Sl.v a1)),(2,(.int .i64 a2))] a:=ha
  have h : grapevineref11_Log_free_l1 a1 a2 a0 x1 x2 w3 = some o:=h
  unfold grapevineref11_Log_free_l1 at h
  refine wp_seq<|wp_seq<|region_lit<|qm ha rfl fun a ha=>q ha (d_add ha rfl rfl) fun a ha=>qm ha rfl fun a ha=>q ha (d_lenS ha rfl Try.runUnderlying128) fun a ha=>q ha (d_lt ha rfl rfl) fun a ha=>s_nil<|t_n<|?_
  refine s_cond ha rfl h (fun b14 h=>?_) (fun b14 h=>?_)
  ·refine wp_skip<|t_n<|?_
   obtain ⟨o19,e17,h18⟩:=bsX h
   clear h
   refine seq_joinF (n:=44) (ι:=Int×World) (Lf:=fun i=>[(8,(.int .i64 i.1)),(0,(.pointer a0)),(1,(Sl.v a1)),(2,(.int .i64 a2)),(9,(.int .i64 x2))]) (wf:=fun i=>i.2) (C:=fun i=>o19 = .inr i) (fun i hi a ha=>?_) (fun hk20=>?_)
   ·subst hi
    obtain ⟨v15,w16⟩:=i
    have h:=h18
    dsimp only [bindX,u1,u2,u3,u4,u5,u6] at h
    have ha : Has 44 [(8,(.int .i64 v15)),(0,(.pointer a0)),(1,(Sl.v a1)),(2,(.int .i64 a2)),(9,(.int .i64 x2))] a:=ha
    refine region_lit<|qm ha rfl fun a ha=>q ha (d_add ha rfl rfl) fun a ha=>qa ha rfl fun a ha=>s_nil<|?_
    have hS : Has 44 [(8,(.int .i64 v15)),(9,(.int .i64 (IntKind.wrap .i64 (x2 + 1)))),(0,(.pointer a0)),(1,(Sl.v a1)),(2,(.int .i64 a2))] _:=ha.sub ⟨rfl,rfl,rfl,rfl,rfl,trivial⟩
    cases h
    exact lp_next ⟨hS,rfl⟩
   ·have h:=e17
    refine wp_block<|wp_seq<|region_lit<|qm ha rfl fun a ha=>qm ha rfl fun a ha=>?_
    obtain ⟨p22,e23,h⟩:=bs1 h
    refine q ha (d_ix ha rfl rfl Try.runUnderlying128 Try.sizeOf136 e23) fun a ha=>q ha (d_fa ha rfl Try.runUnderlying136 rfl rfl Try.sizeOf3 (by decide)) fun a ha=>?_
    obtain ⟨v24,e25,h⟩:=bs1 h
    refine q ha (d_ld ha rfl Try.isAgg3 (ldI_c e25)) fun a ha=>qm ha rfl fun a ha=>q ha (d_le ha rfl rfl) fun a ha=>s_nil<|t_n<|?_
    refine s_cond ha rfl h (fun b26 h=>?_) (fun b26 h=>?_)
    ·refine wp_seq<|?_
     obtain ⟨w27,e28,h⟩:=bs1 h
     obtain ⟨p29,e30,h⟩:=bs1 h
     obtain ⟨v31,e32,h⟩:=bs1 h
     obtain ⟨p33,e34,h⟩:=bs1 h
     obtain ⟨v35,e36,h⟩:=bs1 h
     obtain ⟨v37,w38,e39,h⟩:=bs2 h
     obtain ⟨v40,w41,e42,h⟩:=bs2 h
     obtain ⟨e43,h⟩:=chk_some h
     have ha : Has 44 [(0,(.pointer a0)),(1,(Sl.v a1)),(2,(.int .i64 a2)),(8,(.int .i64 x1)),(9,(.int .i64 x2)),(24,(.bool (decide (v24≤a2))))] a:=ha.sub ⟨rfl,rfl,rfl,rfl,rfl,rfl,trivial⟩
     refine region_draw (n:=44) (ds:=(⟨_,(.pointer a0),false,0,1,[],[(0,(.pointer a0))]⟩ :: ⟨_,(.pointer (some p29)),false,0,1,[0],[(25,(.pointer a0))]⟩ :: ⟨_,(.pointer (some (p29.add 0))),false,0,1,[0,1],[(26,(.pointer (some p29)))]⟩ :: ⟨_,(.pointer v31),false,0,1,[0,1,2],[(27,(.pointer (some (p29.add 0))))]⟩ :: ⟨_,(.pointer a0),false,0,0,[],[(0,(.pointer a0))]⟩ :: ⟨_,(Sl.v a1),false,0,0,[],[(1,(Sl.v a1))]⟩ :: ⟨_,(.int .i64 x2),false,0,0,[],[(9,(.int .i64 x2))]⟩ :: ⟨_,(.pointer (some p33)),false,0,0,[5,6],[(30,(Sl.v a1)),(31,(.int .i64 x2))]⟩ :: ⟨_,(.pointer (some (p33.add 0))),false,0,0,[5,6,7],[(32,(.pointer (some p33)))]⟩ :: ⟨_,(.int .i64 v35),false,0,0,(rn 5 4),[(33,(.pointer (some (p33.add 0))))]⟩ :: ⟨_,(.int .i64 v37),true,0,0,(rn 4 6),[(29,(.pointer a0)),(34,(.int .i64 v35))]⟩ :: ⟨_,(.int .i64 v40),true,1,1,(rn 0 11),[(28,(.pointer v31)),(35,(.int .i64 v37))]⟩ :: ⟨_,(.int .i64 v40),false,2,2,(rn 0 12),[(36,(.int .i64 v40))]⟩ :: [])) (W:=(fun j=>match j with | 0=>w27 | 1=>w38 | 2=>w41 | _=>w41)) (by kernel_rfl) ha (dr_w e28) (by kernel_rfl) ?_ (reads_of (by kernel_rfl)) (by kernel_rfl) (m:=2) (by kernel_rfl) (fun a ha=>?_)
     ·refine ⟨?_,?_,?_,?_,?_,?_,?_,?_,?_,?_,?_,?_,?_,trivial⟩
      ·exact oa fun j a ha=>d_move ha rfl
      ·exact oa fun j a ha=>d_nilp ha rfl e30
      ·exact oa fun j a ha=>d_fa ha rfl Try.runUnderlying132 rfl rfl Try.sizeOf61 (by decide)
      ·intro j h1 h2; have h1 : 0≤j:=h1; have h2 : j≤1:=h2; rcases (by omega : j = 0∨j = 1) with rfl | rfl
       ·exact ok_do rfl fun a ha=>d_ld ha rfl Try.isAgg61 (ldP_c e32)
       ·exact ok_do rfl fun a ha=>d_ld ha rfl Try.isAgg61 (ldP_c e43)
      ·exact oa fun j a ha=>d_move ha rfl
      ·exact oa fun j a ha=>d_move ha rfl
      ·exact oa fun j a ha=>d_move ha rfl
      ·exact oa fun j a ha=>d_ix ha rfl rfl Try.runUnderlying128 Try.sizeOf136 e34
      ·exact oa fun j a ha=>d_fa ha rfl Try.runUnderlying136 rfl rfl Try.sizeOf3 (by decide)
      ·exact oc 0 (ok_do rfl fun a ha=>d_ld ha rfl Try.isAgg3 (ldI_c e36))
      ·exact oc 0 (ok_do rfl fun a ha=>d_call (xs:=[_,_,_]) (vs:=[(.pointer a0),(.int .i64 v35),(.int .i64 0)]) ha ⟨rfl,rfl,rfl,trivial⟩ Try.call116 (grapevineref11_Log_place_ok e39))
      ·exact oc 1 (ok_do rfl fun a ha=>d_call (xs:=[_,_,_]) (vs:=[(.pointer v31),(.int .i64 v37),(Sl.v Sl.nil)]) ha ⟨rfl,rfl,rfl,trivial⟩ Try.call89 (grapevineref09_Disk_Write_ok e42))
      ·exact oa fun j a ha=>d_assign ha rfl
     ·have ha : Has 44 [(0,(.pointer a0)),(1,(Sl.v a1)),(2,(.int .i64 a2)),(8,(.int .i64 x1)),(9,(.int .i64 x2)),(10,(.int .i64 v40))] a:=ha.sub ⟨rfl,rfl,rfl,rfl,rfl,rfl,trivial⟩
      refine t_n<|wp_seq<|wp_seq<|region_lit<|qm ha rfl fun a ha=>q ha (d_ne ha rfl rfl) fun a ha=>s_nil<|t_n<|?_
      refine s_cond ha rfl h (fun b44 h=>?_) (fun b44 h=>?_)
      ·refine wp_seq<|region_lit<|qm ha rfl fun a ha=>qm ha rfl fun a ha=>qa ha rfl fun a ha=>qa ha rfl fun a ha=>s_nil<|t_n<|wp_ret<|t_r<|b_r<|?_
       have hS:=ha
       obtain ⟨g21,e45,h⟩:=bs1 h
       cases h
       cases h18
       have h:=e45
       have ha:=hS
       refine t_r<|?_
       have hS : Has 44 [(6,(.int .i64 x1)),(7,(.int .i64 v40))] _:=ha.sub ⟨rfl,rfl,trivial⟩
       cases h
       cases hr13 _ rfl
       refine lp_r<|?_
       exact hk12 _ rfl _ hS
      ·refine wp_skip<|t_n<|region_lit<|qm ha rfl fun a ha=>q ha (d_add ha rfl rfl) fun a ha=>qa ha rfl fun a ha=>s_nil<|b_n<|?_
       have hS : Has 44 [(8,(.int .i64 (IntKind.wrap .i64 (x1 + 1)))),(0,(.pointer a0)),(1,(Sl.v a1)),(2,(.int .i64 a2)),(9,(.int .i64 x2))] _:=ha.sub ⟨rfl,rfl,rfl,rfl,rfl,trivial⟩
       cases h
       exact hk20 _ rfl _ hS
    ·refine wp_skip<|b_n<|?_
     have hS : Has 44 [(8,(.int .i64 x1)),(0,(.pointer a0)),(1,(Sl.v a1)),(2,(.int .i64 a2)),(9,(.int .i64 x2))] _:=ha.sub ⟨rfl,rfl,rfl,rfl,rfl,trivial⟩
     cases h
     exact hk20 _ rfl _ hS
  ·refine wp_exit<|t_x<|?_
   have hS : Has 44 [(8,(.int .i64 x1))] _:=ha.sub ⟨rfl,trivial⟩
   cases h
   cases hr13 _ rfl
   refine lp_x<|?_
   exact hk11 _ rfl _ hS
noncomputable def grapevineref11_Log_wipe_l1 (a0 : Option Addr) (a1 : Int) (x1 : Int) (x2 : Int) (w3 : World) : ND ((Int×Int×World)⊕((Int×World)⊕(Int×Int×World))) :=
 if (decide (x2 < 16)) = true then
 (cbX (cb2 (lb1 (dr w3) fun w26 =>
 nand (lb2 (grapevineref11_Log_sector a0 a1 x2 w26) fun v28 w29 =>
 lb1 (b2s v28 w29) fun s31 =>
 lb2 (mkS Try.prog 72 64 64 w29) fun s33 w34 =>
 lb1 (b2s s33 w34) fun s36 =>
 nck (b2s v28 w34 = some s31) <|
 nret ((!sEq s31 s36),w34)) (lb2 (mkS Try.prog 72 64 64 w26) fun s39 w40 =>
 lb1 (b2s s39 w40) fun s42 =>
 lb2 (grapevineref11_Log_sector a0 a1 x2 w40) fun v44 w45 =>
 lb1 (b2s v44 w45) fun s47 =>
 nck (b2s s39 w45 = some s42) <|
 nret ((!sEq s47 s42),w45))) fun v22 w23 =>
 if v22 = true then
 (lb1 (dr w23) fun w51 =>
 lb1 (a0) fun p53 =>
 lb1 (ldP w51 (p53.add 0)) fun v55 =>
 lb2 (grapevineref11_Log_place a0 a1 x2 w51) fun v57 w58 =>
 lb2 (grapevineref09_Disk_Write v55 v57 Sl.nil w58) fun v60 w61 =>
 nck (ldP w58 (p53.add 0) = some v55) <|
 if (v60 != 0) = true then
 (cb1 (nret (.inr (.inr (x1,v60,w61)))) fun g21=>nret (.inl g21))
 else
 (nret (.inr ((IntKind.wrap .i64 (x1 + 1)),w61))))
 else
 (nret (.inr (x1,w23)))) fun (i : Int×World)=>u2 i fun v15 w16 =>
 nret (.inl (v15,(IntKind.wrap .i64 (x2 + 1)),w16)))
 else
 (nret (.inr (.inl (x1,w3))))
noncomputable def grapevineref11_Log_wipe (a0 : Option Addr) (a1 : Int) (a2 : Int) (w : World) : ND (Int×Int×World) :=
 cb1 (nloop (fun s : Int×Int×World=>grapevineref11_Log_wipe_l1 a0 a1 s.1 s.2.1 s.2.2) (0,a2,w)) fun r4=>Sum.elim (fun (i : Int×World)=>u2 i fun v6 w7 =>
 nret (v6,0,w7)) (fun (i : Int×Int×World)=>u3 i fun v8 v9 w10 =>
 nret (v8,v9,w10)) r4
set_option maxHeartbeats 1000000 in
set_option maxRecDepth 100000 in
theorem grapevineref11_Log_wipe_ok {a0 : Option Addr} {a1 : Int} {a2 : Int} {w : World} {Q : Int×Int×World→Prop} (h : (grapevineref11_Log_wipe a0 a1 a2 w).t Q) : Calls Try.prog 75 #[(.pointer a0),(.int .i64 a1),(.int .i64 a2)] w fun e w''=>∃ i,e = .returned (.tuple #[(.int .i64 i.1),(.int .i64 i.2.1)])∧Q i∧w'' = i.2.2:=by
 refine calls_dec (n:=40) Try.func75 rfl Try.ntmps75 (by simp) fun a ha=>?_
 unfold grapevineref11_Log_wipe at h
 refine wp_seq<|region_lit<|qa ha rfl fun a ha=>qa ha rfl fun a ha=>s_nil<|t_n<|wp_seq<|region_lit<|qa ha rfl fun a ha=>s_nil<|t_n<|wp_seq<|wp_seq<|region_lit<|qm ha rfl fun a ha=>qa ha rfl fun a ha=>s_nil<|t_n<|wp_block<|?_
 refine s_loopN2 (n:=40) (L1:=fun i=>[(8,(.int .i64 i.1))]) (w1:=fun i=>i.2) (L2:=fun i=>[(6,(.int .i64 i.1)),(7,(.int .i64 i.2.1))]) (w2:=fun i=>i.2.2) (e1:=.exit 0) (e2:=.ret) (I:=fun (s : Int×Int×World) a w=>Has 40 [(8,(.int .i64 s.1)),(9,(.int .i64 s.2.1)),(0,(.pointer a0)),(1,(.int .i64 a1))] a∧w = s.2.2) (un1 h) ⟨ha.sub ⟨rfl,rfl,rfl,rfl,trivial⟩,rfl⟩ (fun i h a ha=>?_) (fun i h a ha=>?_) (fun hk11 hk12=>?_)
 ·obtain ⟨v6,w7⟩:=i
  try dsimp only [Sum.elim_inl,Sum.elim_inr,u1,u2,u3,u4,u5,u6] at h
  have ha : Has 40 [(8,(.int .i64 v6))] a:=ha
  refine b_hit<|t_n<|wp_seq<|region_lit<|qm ha rfl fun a ha=>qa ha rfl fun a ha=>qa ha rfl fun a ha=>s_nil<|t_n<|wp_ret<|?_
  have hS:=ha
  exact ret2 Try.results75 hS rfl rfl ⟨(v6,0,w7),rfl,h,rfl⟩
 ·obtain ⟨v8,v9,w10⟩:=i
  try dsimp only [Sum.elim_inl,Sum.elim_inr,u1,u2,u3,u4,u5,u6] at h
  have ha : Has 40 [(6,(.int .i64 v8)),(7,(.int .i64 v9))] a:=ha
  refine b_r<|t_r<|?_
  have hS:=ha
  exact ret2 Try.results75 hS rfl rfl ⟨(v8,v9,w10),rfl,h,rfl⟩
 ·clear h
  intro hX66
  rintro ⟨x1,x2,w3⟩ a wq ⟨ha,hwq⟩ h
  obtain rfl : w3 = wq:=hwq.symm
  have ha : Has 40 [(8,(.int .i64 x1)),(9,(.int .i64 x2)),(0,(.pointer a0)),(1,(.int .i64 a1))] a:=ha
  have h : (grapevineref11_Log_wipe_l1 a0 a1 x1 x2 w3).t _:=h
  unfold grapevineref11_Log_wipe_l1 at h
  refine wp_seq<|wp_seq<|region_lit<|qm ha rfl fun a ha=>q ha (d_lt ha rfl rfl) fun a ha=>s_nil<|t_n<|?_
  refine s_condN ha rfl h (fun b14 h=>?_) (fun b14 h=>?_)
  ·refine wp_skip<|t_n<|?_
   refine seq_joinNX (n:=40) (ι:=Int×World) (Lf:=fun i=>[(8,(.int .i64 i.1)),(0,(.pointer a0)),(1,(.int .i64 a1)),(9,(.int .i64 x2))]) (wf:=fun i=>i.2) (unX h) (fun i h a ha=>?_) (fun h hk20=>?_)
   ·obtain ⟨v15,w16⟩:=i
    try dsimp only [Sum.elim_inl,Sum.elim_inr,u1,u2,u3,u4,u5,u6] at h
    have ha : Has 40 [(8,(.int .i64 v15)),(0,(.pointer a0)),(1,(.int .i64 a1)),(9,(.int .i64 x2))] a:=ha
    refine region_lit<|qm ha rfl fun a ha=>q ha (d_add ha rfl rfl) fun a ha=>qa ha rfl fun a ha=>s_nil<|?_
    have hS : Has 40 [(8,(.int .i64 v15)),(9,(.int .i64 (IntKind.wrap .i64 (x2 + 1)))),(0,(.pointer a0)),(1,(.int .i64 a1))] _:=ha.sub ⟨rfl,rfl,rfl,rfl,trivial⟩
    exact ⟨(v15,(IntKind.wrap .i64 (x2 + 1)),w16),⟨hS,rfl⟩,h⟩
   ·refine wp_block<|wp_seq<|?_
    refine reg_joinN (n:=40) (ι:=Bool×World) (Lf:=fun i=>[(23,(.bool i.1)),(0,(.pointer a0)),(1,(.int .i64 a1)),(8,(.int .i64 x1)),(9,(.int .i64 x2))]) (wf:=fun i=>i.2) (un2 h) (fun i h a ha=>?_) (fun h hk25=>?_)
    ·obtain ⟨v22,w23⟩:=i
     have ha : Has 40 [(23,(.bool v22)),(0,(.pointer a0)),(1,(.int .i64 a1)),(8,(.int .i64 x1)),(9,(.int .i64 x2))] a:=ha
     refine t_n<|?_
     refine s_condN ha rfl h (fun b50 h=>?_) (fun b50 h=>?_)
     ·refine wp_seq<|?_
      obtain ⟨w51,e52,h⟩:=h
      obtain ⟨p53,e54,h⟩:=h
      obtain ⟨v55,e56,h⟩:=h
      obtain ⟨v57,w58,e59,h⟩:=h
      obtain ⟨v60,w61,e62,h⟩:=h
      obtain ⟨e63,h⟩:=h
      have ha : Has 40 [(0,(.pointer a0)),(1,(.int .i64 a1)),(8,(.int .i64 x1)),(9,(.int .i64 x2)),(23,(.bool v22))] a:=ha.sub ⟨rfl,rfl,rfl,rfl,rfl,trivial⟩
      refine region_draw (n:=40) (ds:=(⟨_,(.pointer a0),false,0,1,[],[(0,(.pointer a0))]⟩ :: ⟨_,(.pointer (some p53)),false,0,1,[0],[(24,(.pointer a0))]⟩ :: ⟨_,(.pointer (some (p53.add 0))),false,0,1,[0,1],[(25,(.pointer (some p53)))]⟩ :: ⟨_,(.pointer v55),false,0,1,[0,1,2],[(26,(.pointer (some (p53.add 0))))]⟩ :: ⟨_,(.pointer a0),false,0,0,[],[(0,(.pointer a0))]⟩ :: ⟨_,(.int .i64 a1),false,0,0,[],[(1,(.int .i64 a1))]⟩ :: ⟨_,(.int .i64 x2),false,0,0,[],[(9,(.int .i64 x2))]⟩ :: ⟨_,(.int .i64 v57),true,0,0,[4,5,6],[(28,(.pointer a0)),(29,(.int .i64 a1)),(30,(.int .i64 x2))]⟩ :: ⟨_,(.int .i64 v60),true,1,1,(rn 0 8),[(27,(.pointer v55)),(31,(.int .i64 v57))]⟩ :: ⟨_,(.int .i64 v60),false,2,2,(rn 0 9),[(32,(.int .i64 v60))]⟩ :: [])) (W:=(fun j=>match j with | 0=>w51 | 1=>w58 | 2=>w61 | _=>w61)) (by kernel_rfl) ha (dr_w e52) (by kernel_rfl) ?_ (reads_of (by kernel_rfl)) (by kernel_rfl) (m:=2) (by kernel_rfl) (fun a ha=>?_)
      ·refine ⟨?_,?_,?_,?_,?_,?_,?_,?_,?_,?_,trivial⟩
       ·exact oa fun j a ha=>d_move ha rfl
       ·exact oa fun j a ha=>d_nilp ha rfl e54
       ·exact oa fun j a ha=>d_fa ha rfl Try.runUnderlying132 rfl rfl Try.sizeOf61 (by decide)
       ·intro j h1 h2; have h1 : 0≤j:=h1; have h2 : j≤1:=h2; rcases (by omega : j = 0∨j = 1) with rfl | rfl
        ·exact ok_do rfl fun a ha=>d_ld ha rfl Try.isAgg61 (ldP_c e56)
        ·exact ok_do rfl fun a ha=>d_ld ha rfl Try.isAgg61 (ldP_c e63)
       ·exact oa fun j a ha=>d_move ha rfl
       ·exact oa fun j a ha=>d_move ha rfl
       ·exact oa fun j a ha=>d_move ha rfl
       ·exact oc 0 (ok_do rfl fun a ha=>d_call (xs:=[_,_,_]) (vs:=[(.pointer a0),(.int .i64 a1),(.int .i64 x2)]) ha ⟨rfl,rfl,rfl,trivial⟩ Try.call116 (grapevineref11_Log_place_ok e59))
       ·exact oc 1 (ok_do rfl fun a ha=>d_call (xs:=[_,_,_]) (vs:=[(.pointer v55),(.int .i64 v57),(Sl.v Sl.nil)]) ha ⟨rfl,rfl,rfl,trivial⟩ Try.call89 (grapevineref09_Disk_Write_ok e62))
       ·exact oa fun j a ha=>d_assign ha rfl
      ·have ha : Has 40 [(0,(.pointer a0)),(1,(.int .i64 a1)),(8,(.int .i64 x1)),(9,(.int .i64 x2)),(10,(.int .i64 v60))] a:=ha.sub ⟨rfl,rfl,rfl,rfl,rfl,trivial⟩
       refine t_n<|wp_seq<|wp_seq<|region_lit<|qm ha rfl fun a ha=>q ha (d_ne ha rfl rfl) fun a ha=>s_nil<|t_n<|?_
       refine s_condN ha rfl h (fun b64 h=>?_) (fun b64 h=>?_)
       ·refine wp_seq<|region_lit<|qm ha rfl fun a ha=>qm ha rfl fun a ha=>qa ha rfl fun a ha=>qa ha rfl fun a ha=>s_nil<|t_n<|wp_ret<|t_r<|b_r<|?_
        have h:=unL h
        refine t_r<|?_
        have hS : Has 40 [(6,(.int .i64 x1)),(7,(.int .i64 v60))] _:=ha.sub ⟨rfl,rfl,trivial⟩
        refine t_r<|?_
        exact hk12 (x1,v60,w61) h _ hS
       ·refine wp_skip<|t_n<|region_lit<|qm ha rfl fun a ha=>q ha (d_add ha rfl rfl) fun a ha=>qa ha rfl fun a ha=>s_nil<|b_n<|?_
        have hS : Has 40 [(8,(.int .i64 (IntKind.wrap .i64 (x1 + 1)))),(0,(.pointer a0)),(1,(.int .i64 a1)),(9,(.int .i64 x2))] _:=ha.sub ⟨rfl,rfl,rfl,rfl,trivial⟩
        exact hk20 ((IntKind.wrap .i64 (x1 + 1)),w61) h _ hS
     ·refine wp_skip<|b_n<|?_
      have hS : Has 40 [(8,(.int .i64 x1)),(0,(.pointer a0)),(1,(.int .i64 a1)),(9,(.int .i64 x2))] _:=ha.sub ⟨rfl,rfl,rfl,rfl,trivial⟩
      exact hk20 (x1,w23) h _ hS
    ·obtain ⟨w26,e27,h⟩:=h
     obtain ⟨h,hB⟩:=h
     obtain ⟨v28,w29,e30,h⟩:=h
     obtain ⟨s31,e32,h⟩:=h
     obtain ⟨s33,w34,e35,h⟩:=h
     obtain ⟨s36,e37,h⟩:=h
     obtain ⟨e38,h⟩:=h
     have hA:=h
     have h:=hB
     obtain ⟨s39,w40,e41,h⟩:=h
     obtain ⟨s42,e43,h⟩:=h
     obtain ⟨v44,w45,e46,h⟩:=h
     obtain ⟨s47,e48,h⟩:=h
     obtain ⟨e49,h⟩:=h
     have hB:=h
     have ha : Has 40 [(0,(.pointer a0)),(1,(.int .i64 a1)),(8,(.int .i64 x1)),(9,(.int .i64 x2))] a:=ha.sub ⟨rfl,rfl,rfl,rfl,trivial⟩
     refine region_two (n:=40) (i:=3) (j:=5) (Dp:=[3,4,5,6,7]) (ds1:=(⟨_,(.pointer a0),false,0,0,[],[(0,(.pointer a0))]⟩ :: ⟨_,(.int .i64 a1),false,0,0,[],[(1,(.int .i64 a1))]⟩ :: ⟨_,(.int .i64 x2),false,0,0,[],[(9,(.int .i64 x2))]⟩ :: ⟨_,(Sl.v v28),true,0,0,[0,1,2],[(16,(.pointer a0)),(17,(.int .i64 a1)),(18,(.int .i64 x2))]⟩ :: ⟨_,(.string s31),false,1,2,(rn 0 4),[(19,(Sl.v v28))]⟩ :: ⟨_,(Sl.v s33),true,1,1,(rn 0 4),[]⟩ :: ⟨_,(.string s36),false,2,2,(rn 0 4 ++ [5]),[(21,(Sl.v s33))]⟩ :: ⟨_,(.bool (!sEq s31 s36)),false,2,2,(rn 0 7),[(20,(.string s31)),(22,(.string s36))]⟩ :: [])) (ds2:=(⟨_,(.pointer a0),false,0,1,[],[(0,(.pointer a0))]⟩ :: ⟨_,(.int .i64 a1),false,0,1,[],[(1,(.int .i64 a1))]⟩ :: ⟨_,(.int .i64 x2),false,0,1,[],[(9,(.int .i64 x2))]⟩ :: ⟨_,(Sl.v v44),true,1,1,[0,1,2,5],[(16,(.pointer a0)),(17,(.int .i64 a1)),(18,(.int .i64 x2))]⟩ :: ⟨_,(.string s47),false,2,2,(rn 0 4 ++ [5]),[(19,(Sl.v v44))]⟩ :: ⟨_,(Sl.v s39),true,0,0,[],[]⟩ :: ⟨_,(.string s42),false,1,2,[5],[(21,(Sl.v s39))]⟩ :: ⟨_,(.bool (!sEq s47 s42)),false,2,2,(rn 0 7),[(20,(.string s47)),(22,(.string s42))]⟩ :: [])) (W1:=(fun j=>match j with | 0=>w26 | 1=>w29 | 2=>w34 | _=>w34)) (W2:=(fun j=>match j with | 0=>w26 | 1=>w40 | 2=>w45 | _=>w45)) (m1:=2) (m2:=2) (by kernel_rfl) ha (dr_w e27) (dr_w e27) rfl (by kernel_rfl) (by kernel_rfl) rfl rfl (by decide) (reads_of (by kernel_rfl)) (reads_of (by kernel_rfl)) ?_ ?_ (by kernel_rfl) (by kernel_rfl) (fun a ha=>?_) (fun a ha=>?_)
     ·refine ⟨?_,?_,?_,?_,?_,?_,?_,?_,trivial⟩
      ·exact oa fun j a ha=>d_move ha rfl
      ·exact oa fun j a ha=>d_move ha rfl
      ·exact oa fun j a ha=>d_move ha rfl
      ·exact oc 0 (ok_do rfl fun a ha=>d_call (xs:=[_,_,_]) (vs:=[(.pointer a0),(.int .i64 a1),(.int .i64 x2)]) ha ⟨rfl,rfl,rfl,trivial⟩ Try.call117 (grapevineref11_Log_sector_ok e30))
      ·intro j h1 h2; have h1 : 1≤j:=h1; have h2 : j≤2:=h2; rcases (by omega : j = 1∨j = 2) with rfl | rfl
       ·exact ok_do rfl fun a ha=>d_b2s ha rfl Try.runUnderlying72 Try.runUnderlying9 Try.runUnderlying5 e32
       ·exact ok_do rfl fun a ha=>d_b2s ha rfl Try.runUnderlying72 Try.runUnderlying9 Try.runUnderlying5 e38
      ·exact oc 1 (ok_do rfl fun a ha=>d_mkS ha rfl rfl e35)
      ·exact oc 2 (ok_do rfl fun a ha=>d_b2s ha rfl Try.runUnderlying72 Try.runUnderlying9 Try.runUnderlying5 e37)
      ·exact oa fun j a ha=>d_neT ha rfl rfl
     ·refine ⟨?_,?_,?_,?_,?_,?_,?_,?_,trivial⟩
      ·exact oa fun j a ha=>d_move ha rfl
      ·exact oa fun j a ha=>d_move ha rfl
      ·exact oa fun j a ha=>d_move ha rfl
      ·exact oc 1 (ok_do rfl fun a ha=>d_call (xs:=[_,_,_]) (vs:=[(.pointer a0),(.int .i64 a1),(.int .i64 x2)]) ha ⟨rfl,rfl,rfl,trivial⟩ Try.call117 (grapevineref11_Log_sector_ok e46))
      ·exact oc 2 (ok_do rfl fun a ha=>d_b2s ha rfl Try.runUnderlying72 Try.runUnderlying9 Try.runUnderlying5 e48)
      ·exact oc 0 (ok_do rfl fun a ha=>d_mkS ha rfl rfl e41)
      ·intro j h1 h2; have h1 : 1≤j:=h1; have h2 : j≤2:=h2; rcases (by omega : j = 1∨j = 2) with rfl | rfl
       ·exact ok_do rfl fun a ha=>d_b2s ha rfl Try.runUnderlying72 Try.runUnderlying9 Try.runUnderlying5 e43
       ·exact ok_do rfl fun a ha=>d_b2s ha rfl Try.runUnderlying72 Try.runUnderlying9 Try.runUnderlying5 e49
      ·exact oa fun j a ha=>d_neT ha rfl rfl
     ·have h:=hA
      have ha : Has 40 [(0,(.pointer a0)),(1,(.int .i64 a1)),(8,(.int .i64 x1)),(9,(.int .i64 x2)),(23,(.bool (!sEq s31 s36)))] a:=ha.sub ⟨rfl,rfl,rfl,rfl,rfl,trivial⟩
      have hS : Has 40 [(23,(.bool (!sEq s31 s36))),(0,(.pointer a0)),(1,(.int .i64 a1)),(8,(.int .i64 x1)),(9,(.int .i64 x2))] _:=ha.sub ⟨rfl,rfl,rfl,rfl,rfl,trivial⟩
      exact hk25 ((!sEq s31 s36),w34) h _ hS
     ·have h:=hB
      have ha : Has 40 [(0,(.pointer a0)),(1,(.int .i64 a1)),(8,(.int .i64 x1)),(9,(.int .i64 x2)),(23,(.bool (!sEq s47 s42)))] a:=ha.sub ⟨rfl,rfl,rfl,rfl,rfl,trivial⟩
      have hS : Has 40 [(23,(.bool (!sEq s47 s42))),(0,(.pointer a0)),(1,(.int .i64 a1)),(8,(.int .i64 x1)),(9,(.int .i64 x2))] _:=ha.sub ⟨rfl,rfl,rfl,rfl,rfl,trivial⟩
      exact hk25 ((!sEq s47 s42),w45) h _ hS
  ·refine wp_exit<|t_x<|?_
   have hS : Has 40 [(8,(.int .i64 x1))] _:=ha.sub ⟨rfl,trivial⟩
   refine t_x<|?_
   exact hk11 (x1,w3) h _ hS
noncomputable def grapevineref11_Log_keep_l1 (a0 : Option Addr) (a1 : Int) (x4 : Sl) (x5 : Int) (w6 : World) : Option ((Sl×Int×World)⊕(Sl×World)) :=
 (a0).bind fun p13 =>
 (ldL w6 ((p13.add 4).add 2)).bind fun v15 =>
 if (decide (x5 < (v15.n : Int))) = true then
 (bind2 (bind2 ((ldL w6 ((p13.add 4).add 2)).bind fun v26 =>
 if (x5 == (IntKind.wrap .i64 ((v26.n : Int) - 1))) = true then
 (some (true,w6))
 else
 ((ldL w6 ((p13.add 4).add 2)).bind fun v29 =>
 (ix v29 x5 4).bind fun p31 =>
 (ldI .i64 w6 (p31.add 3)).bind fun v33 =>
 some ((decide (a1 < v33)),w6))) fun v22 w23 =>
 if v22 = true then
 ((ldL w23 ((p13.add 4).add 2)).bind fun v36 =>
 (ix v36 x5 4).bind fun p38 =>
 (ldA 4 w23 p38 0).bind fun c40 =>
 bind2 (bsl w23 136 4 [c40]) fun s42 w43 =>
 bind2 (apS Try.prog 128 x4 s42 w43) fun s45 w46 =>
 some (s45,w46))
 else
 (some (x4,w23))) fun v18 w19 =>
 some (.inl (v18,(IntKind.wrap .i64 (x5 + 1)),w19)))
 else
 (some (.inr (x4,w6)))
noncomputable def grapevineref11_Log_keep_l2 (a0 : Option Addr) (a1 : Int) (x51 : Sl) (x52 : Int) (w53 : World) : Option ((Sl×Int×World)⊕(Sl×World)) :=
 (a0).bind fun p60 =>
 (ldL w53 ((p60.add 4).add 3)).bind fun v62 =>
 if (decide (x52 < (v62.n : Int))) = true then
 (bind2 ((ldL w53 ((p60.add 4).add 3)).bind fun v69 =>
 (ix v69 x52 2).bind fun p71 =>
 (ldI .i64 w53 (p71.add 0)).bind fun v73 =>
 if (decide (a1 < v73)) = true then
 ((ldL w53 ((p60.add 4).add 3)).bind fun v76 =>
 (ix v76 x52 2).bind fun p78 =>
 (ldA 2 w53 p78 0).bind fun c80 =>
 bind2 (bsl w53 87 2 [c80]) fun s82 w83 =>
 bind2 (apS Try.prog 74 x51 s82 w83) fun s85 w86 =>
 some (s85,w86))
 else
 (some (x51,w53))) fun v65 w66 =>
 some (.inl (v65,(IntKind.wrap .i64 (x52 + 1)),w66)))
 else
 (some (.inr (x51,w53)))
noncomputable def grapevineref11_Log_keep (a0 : Option Addr) (a1 : Int) (w : World) : Option (World) :=
 bind2 (bsl w 136 4 []) fun s1 w2 =>
 bind2 (loopF (fun s : Sl×Int×World=>grapevineref11_Log_keep_l1 a0 a1 s.1 s.2.1 s.2.2) (s1,0,w2)) fun v9 w10 =>
 bind2 (bsl w10 87 2 []) fun s48 w49 =>
 bind2 (loopF (fun s : Sl×Int×World=>grapevineref11_Log_keep_l2 a0 a1 s.1 s.2.1 s.2.2) (s48,0,w49)) fun v56 w57 =>
 (a0).bind fun p88 =>
 (ldI .i64 w57 ((p88.add 4).add 0)).bind fun v90 =>
 (stA w57 (p88.add 4) 0 ([.int .i64 v90,.int .i64 a1,Sl.v v9,Sl.v v56])).bind fun w92 =>
 some w92
set_option maxHeartbeats 1000000 in
set_option maxRecDepth 100000 in
theorem grapevineref11_Log_keep_ok {a0 : Option Addr} {a1 : Int} {w w' : World} (h : grapevineref11_Log_keep a0 a1 w = some w') : Calls Try.prog 77 #[(.pointer a0),(.int .i64 a1)] w fun e w''=>e = .returned (.tuple #[])∧w'' = w':=by
 refine calls_dec (n:=97) Try.func77 rfl Try.ntmps77 (by simp) fun a ha=>?_
 unfold grapevineref11_Log_keep at h
 refine wp_seq<|region_lit<|?_
 obtain ⟨s1,w2,e3,h⟩:=bs2 h
 refine q ha (d_bsl (vs:=[]) (ps:=[]) ha trivial trivial rfl Try.runUnderlying128 Try.sizeOf136 Try.zeroValue136 (by decide) e3) fun a ha=>qa ha rfl fun a ha=>s_nil<|t_n<|wp_seq<|wp_seq<|region_lit<|qa ha rfl fun a ha=>s_nil<|t_n<|wp_block<|?_
 obtain ⟨v9,w10,e8,h⟩:=bs2 h
 refine s_loop1 (n:=97) (L:=[(4,(Sl.v v9)),(0,(.pointer a0)),(1,(.int .i64 a1))]) (w':=w10) (e:=.exit 0) (I:=fun (s : Sl×Int×World) a w=>Has 97 [(4,(Sl.v s.1)),(5,(.int .i64 s.2.1)),(0,(.pointer a0)),(1,(.int .i64 a1))] a∧w = s.2.2) ⟨ha.sub ⟨rfl,rfl,rfl,rfl,trivial⟩,rfl⟩ e8 (fun a ha=>?_) (fun hk11=>?_)
 ·refine b_hit<|t_n<|wp_seq<|region_lit<|?_
  obtain ⟨s48,w49,e50,h⟩:=bs2 h
  refine q ha (d_bsl (vs:=[]) (ps:=[]) ha trivial trivial rfl Try.runUnderlying74 Try.sizeOf87 Try.zeroValue87 (by decide) e50) fun a ha=>qa ha rfl fun a ha=>s_nil<|t_n<|wp_seq<|wp_seq<|region_lit<|qa ha rfl fun a ha=>s_nil<|t_n<|wp_block<|?_
  obtain ⟨v56,w57,e55,h⟩:=bs2 h
  refine s_loop1 (n:=97) (L:=[(6,(Sl.v v56)),(0,(.pointer a0)),(1,(.int .i64 a1)),(4,(Sl.v v9))]) (w':=w57) (e:=.exit 2) (I:=fun (s : Sl×Int×World) a w=>Has 97 [(6,(Sl.v s.1)),(7,(.int .i64 s.2.1)),(0,(.pointer a0)),(1,(.int .i64 a1)),(4,(Sl.v v9))] a∧w = s.2.2) ⟨ha.sub ⟨rfl,rfl,rfl,rfl,rfl,trivial⟩,rfl⟩ e55 (fun a ha=>?_) (fun hk58=>?_)
  ·refine b_hit<|t_n<|region_lit<|qm ha rfl fun a ha=>qm ha rfl fun a ha=>?_
   obtain ⟨p88,e89,h⟩:=bs1 h
   refine q ha (d_nilp ha rfl e89) fun a ha=>q ha (d_fa ha rfl Try.runUnderlying132 rfl rfl Try.sizeOf130 (by decide)) fun a ha=>q ha (d_fa ha rfl Try.runUnderlying130 rfl rfl Try.sizeOf3 (by decide)) fun a ha=>?_
   obtain ⟨v90,e91,h⟩:=bs1 h
   refine q ha (d_ld ha rfl Try.isAgg3 (ldI_c e91)) fun a ha=>qm ha rfl fun a ha=>qm ha rfl fun a ha=>qm ha rfl fun a ha=>q ha (d_build (vs:=[(0,(.int .i64 v90)),(1,(.int .i64 a1)),(2,(Sl.v v9)),(3,(Sl.v v56))]) (pl:=#[(0,1),(1,1),(2,1),(3,1)]) (cs:=([.int .i64 v90,.int .i64 a1,Sl.v v9,Sl.v v56])) ha ⟨rfl,rfl,rfl,rfl,rfl,rfl,rfl,rfl,trivial⟩ Try.zeroValue130 Try.runUnderlying130 (by intro w; kernel_rfl) (by kernel_rfl)) fun a ha=>q ha (d_nilp ha rfl e89) fun a ha=>q ha (d_fa ha rfl Try.runUnderlying132 rfl rfl Try.sizeOf130 (by decide)) fun a ha=>?_
   obtain ⟨w92,e93,h⟩:=bs1 h
   refine q ha (d_stA ha rfl rfl Try.sizeOf130 rfl e93) fun a ha=>s_nil<|?_
   have hS:=ha
   cases h
   exact end0 Try.results77 hS ⟨rfl,rfl⟩
  ·clear h
   rintro ⟨x51,x52,w53⟩ a wq o ⟨ha,hwq⟩ h hr59
   obtain rfl : w53 = wq:=hwq.symm
   have ha : Has 97 [(6,(Sl.v x51)),(7,(.int .i64 x52)),(0,(.pointer a0)),(1,(.int .i64 a1)),(4,(Sl.v v9))] a:=ha
   have h : grapevineref11_Log_keep_l2 a0 a1 x51 x52 w53 = some o:=h
   unfold grapevineref11_Log_keep_l2 at h
   refine wp_seq<|wp_seq<|region_lit<|qm ha rfl fun a ha=>qm ha rfl fun a ha=>?_
   obtain ⟨p60,e61,h⟩:=bs1 h
   refine q ha (d_nilp ha rfl e61) fun a ha=>q ha (d_fa ha rfl Try.runUnderlying132 rfl rfl Try.sizeOf130 (by decide)) fun a ha=>q ha (d_fa ha rfl Try.runUnderlying130 rfl rfl Try.sizeOf74 (by decide)) fun a ha=>?_
   obtain ⟨v62,e63,h⟩:=bs1 h
   refine q ha (d_ld ha rfl Try.isAgg74 (ldL_c e63)) fun a ha=>q ha (d_lenS ha rfl Try.runUnderlying74) fun a ha=>q ha (d_lt ha rfl rfl) fun a ha=>s_nil<|t_n<|?_
   refine s_cond ha rfl h (fun b64 h=>?_) (fun b64 h=>?_)
   ·refine wp_skip<|t_n<|?_
    obtain ⟨v65,w66,e67,h⟩:=bs2 h
    refine seq_join (n:=97) (L:=[(6,(Sl.v v65)),(0,(.pointer a0)),(1,(.int .i64 a1)),(4,(Sl.v v9)),(7,(.int .i64 x52))]) (w':=w66) (fun a ha=>?_) (fun hk68=>?_)
    ·refine region_lit<|qm ha rfl fun a ha=>q ha (d_add ha rfl rfl) fun a ha=>qa ha rfl fun a ha=>s_nil<|?_
     have hS : Has 97 [(6,(Sl.v v65)),(7,(.int .i64 (IntKind.wrap .i64 (x52 + 1)))),(0,(.pointer a0)),(1,(.int .i64 a1)),(4,(Sl.v v9))] _:=ha.sub ⟨rfl,rfl,rfl,rfl,rfl,trivial⟩
     cases h
     exact lp_next ⟨hS,rfl⟩
    ·clear h
     have h:=e67
     refine wp_block<|wp_seq<|region_lit<|qm ha rfl fun a ha=>q ha (d_nilp ha rfl e61) fun a ha=>q ha (d_fa ha rfl Try.runUnderlying132 rfl rfl Try.sizeOf130 (by decide)) fun a ha=>q ha (d_fa ha rfl Try.runUnderlying130 rfl rfl Try.sizeOf74 (by decide)) fun a ha=>?_
     obtain ⟨v69,e70,h⟩:=bs1 h
     refine q ha (d_ld ha rfl Try.isAgg74 (ldL_c e70)) fun a ha=>qm ha rfl fun a ha=>?_
     obtain ⟨p71,e72,h⟩:=bs1 h
     refine q ha (d_ix ha rfl rfl Try.runUnderlying74 Try.sizeOf87 e72) fun a ha=>q ha (d_fa ha rfl Try.runUnderlying87 rfl rfl Try.sizeOf3 (by decide)) fun a ha=>?_
     obtain ⟨v73,e74,h⟩:=bs1 h
     refine q ha (d_ld ha rfl Try.isAgg3 (ldI_c e74)) fun a ha=>qm ha rfl fun a ha=>q ha (d_gt ha rfl rfl) fun a ha=>s_nil<|t_n<|?_
     refine s_cond ha rfl h (fun b75 h=>?_) (fun b75 h=>?_)
     ·refine region_lit<|qm ha rfl fun a ha=>qm ha rfl fun a ha=>q ha (d_nilp ha rfl e61) fun a ha=>q ha (d_fa ha rfl Try.runUnderlying132 rfl rfl Try.sizeOf130 (by decide)) fun a ha=>q ha (d_fa ha rfl Try.runUnderlying130 rfl rfl Try.sizeOf74 (by decide)) fun a ha=>?_
      obtain ⟨v76,e77,h⟩:=bs1 h
      refine q ha (d_ld ha rfl Try.isAgg74 (ldL_c e77)) fun a ha=>qm ha rfl fun a ha=>?_
      obtain ⟨p78,e79,h⟩:=bs1 h
      refine q ha (d_ix ha rfl rfl Try.runUnderlying74 Try.sizeOf87 e79) fun a ha=>?_
      obtain ⟨c80,e81,h⟩:=bs1 h
      refine q ha (d_ldA ha rfl Try.isAgg87 Try.sizeOf87 e81) fun a ha=>?_
      obtain ⟨s82,w83,e84,h⟩:=bs2 h
      refine q ha (d_bsl (vs:=[(0,(.agg (List.toArray c80)))]) (ps:=[c80]) ha ⟨rfl,rfl,trivial⟩ ⟨rfl,rfl,trivial⟩ rfl Try.runUnderlying74 Try.sizeOf87 Try.zeroValue87 (by decide) e84) fun a ha=>?_
      obtain ⟨s85,w86,e87,h⟩:=bs2 h
      refine q ha (d_apS ha rfl rfl e87) fun a ha=>qa ha rfl fun a ha=>s_nil<|b_n<|?_
      have hS : Has 97 [(6,(Sl.v s85)),(0,(.pointer a0)),(1,(.int .i64 a1)),(4,(Sl.v v9)),(7,(.int .i64 x52))] _:=ha.sub ⟨rfl,rfl,rfl,rfl,rfl,trivial⟩
      cases h
      exact hk68 _ hS
     ·refine wp_skip<|b_n<|?_
      have hS : Has 97 [(6,(Sl.v x51)),(0,(.pointer a0)),(1,(.int .i64 a1)),(4,(Sl.v v9)),(7,(.int .i64 x52))] _:=ha.sub ⟨rfl,rfl,rfl,rfl,rfl,trivial⟩
      cases h
      exact hk68 _ hS
   ·refine wp_exit<|t_x<|?_
    have hS : Has 97 [(6,(Sl.v x51)),(0,(.pointer a0)),(1,(.int .i64 a1)),(4,(Sl.v v9))] _:=ha.sub ⟨rfl,rfl,rfl,rfl,trivial⟩
    cases h
    cases hr59 _ rfl
    refine lp_x<|?_
    exact hk58 _ hS
 ·clear h
  rintro ⟨x4,x5,w6⟩ a wq o ⟨ha,hwq⟩ h hr12
  obtain rfl : w6 = wq:=hwq.symm
  have ha : Has 97 [(4,(Sl.v x4)),(5,(.int .i64 x5)),(0,(.pointer a0)),(1,(.int .i64 a1))] a:=ha
  have h : grapevineref11_Log_keep_l1 a0 a1 x4 x5 w6 = some o:=h
  unfold grapevineref11_Log_keep_l1 at h
  refine wp_seq<|wp_seq<|region_lit<|qm ha rfl fun a ha=>qm ha rfl fun a ha=>?_
  obtain ⟨p13,e14,h⟩:=bs1 h
  refine q ha (d_nilp ha rfl e14) fun a ha=>q ha (d_fa ha rfl Try.runUnderlying132 rfl rfl Try.sizeOf130 (by decide)) fun a ha=>q ha (d_fa ha rfl Try.runUnderlying130 rfl rfl Try.sizeOf128 (by decide)) fun a ha=>?_
  obtain ⟨v15,e16,h⟩:=bs1 h
  refine q ha (d_ld ha rfl Try.isAgg128 (ldL_c e16)) fun a ha=>q ha (d_lenS ha rfl Try.runUnderlying128) fun a ha=>q ha (d_lt ha rfl rfl) fun a ha=>s_nil<|t_n<|?_
  refine s_cond ha rfl h (fun b17 h=>?_) (fun b17 h=>?_)
  ·refine wp_skip<|t_n<|?_
   obtain ⟨v18,w19,e20,h⟩:=bs2 h
   refine seq_join (n:=97) (L:=[(4,(Sl.v v18)),(0,(.pointer a0)),(1,(.int .i64 a1)),(5,(.int .i64 x5))]) (w':=w19) (fun a ha=>?_) (fun hk21=>?_)
   ·refine region_lit<|qm ha rfl fun a ha=>q ha (d_add ha rfl rfl) fun a ha=>qa ha rfl fun a ha=>s_nil<|?_
    have hS : Has 97 [(4,(Sl.v v18)),(5,(.int .i64 (IntKind.wrap .i64 (x5 + 1)))),(0,(.pointer a0)),(1,(.int .i64 a1))] _:=ha.sub ⟨rfl,rfl,rfl,rfl,trivial⟩
    cases h
    exact lp_next ⟨hS,rfl⟩
   ·clear h
    have h:=e20
    refine wp_block<|wp_seq<|?_
    obtain ⟨v22,w23,e24,h⟩:=bs2 h
    refine reg_join (n:=97) (L:=[(40,(.bool v22)),(0,(.pointer a0)),(1,(.int .i64 a1)),(4,(Sl.v x4)),(5,(.int .i64 x5))]) (w':=w23) (fun a ha=>?_) (fun hk25=>?_)
    ·refine t_n<|?_
     refine s_cond ha rfl h (fun b35 h=>?_) (fun b35 h=>?_)
     ·refine region_lit<|qm ha rfl fun a ha=>qm ha rfl fun a ha=>q ha (d_nilp ha rfl e14) fun a ha=>q ha (d_fa ha rfl Try.runUnderlying132 rfl rfl Try.sizeOf130 (by decide)) fun a ha=>q ha (d_fa ha rfl Try.runUnderlying130 rfl rfl Try.sizeOf128 (by decide)) fun a ha=>?_
      obtain ⟨v36,e37,h⟩:=bs1 h
      refine q ha (d_ld ha rfl Try.isAgg128 (ldL_c e37)) fun a ha=>qm ha rfl fun a ha=>?_
      obtain ⟨p38,e39,h⟩:=bs1 h
      refine q ha (d_ix ha rfl rfl Try.runUnderlying128 Try.sizeOf136 e39) fun a ha=>?_
      obtain ⟨c40,e41,h⟩:=bs1 h
      refine q ha (d_ldA ha rfl Try.isAgg136 Try.sizeOf136 e41) fun a ha=>?_
      obtain ⟨s42,w43,e44,h⟩:=bs2 h
      refine q ha (d_bsl (vs:=[(0,(.agg (List.toArray c40)))]) (ps:=[c40]) ha ⟨rfl,rfl,trivial⟩ ⟨rfl,rfl,trivial⟩ rfl Try.runUnderlying128 Try.sizeOf136 Try.zeroValue136 (by decide) e44) fun a ha=>?_
      obtain ⟨s45,w46,e47,h⟩:=bs2 h
      refine q ha (d_apS ha rfl rfl e47) fun a ha=>qa ha rfl fun a ha=>s_nil<|b_n<|?_
      have hS : Has 97 [(4,(Sl.v s45)),(0,(.pointer a0)),(1,(.int .i64 a1)),(5,(.int .i64 x5))] _:=ha.sub ⟨rfl,rfl,rfl,rfl,trivial⟩
      cases h
      exact hk21 _ hS
     ·refine wp_skip<|b_n<|?_
      have hS : Has 97 [(4,(Sl.v x4)),(0,(.pointer a0)),(1,(.int .i64 a1)),(5,(.int .i64 x5))] _:=ha.sub ⟨rfl,rfl,rfl,rfl,trivial⟩
      cases h
      exact hk21 _ hS
    ·clear h
     have h:=e24
     refine region_lit<|qm ha rfl fun a ha=>qm ha rfl fun a ha=>q ha (d_nilp ha rfl e14) fun a ha=>q ha (d_fa ha rfl Try.runUnderlying132 rfl rfl Try.sizeOf130 (by decide)) fun a ha=>q ha (d_fa ha rfl Try.runUnderlying130 rfl rfl Try.sizeOf128 (by decide)) fun a ha=>?_
     obtain ⟨v26,e27,h⟩:=bs1 h
     refine q ha (d_ld ha rfl Try.isAgg128 (ldL_c e27)) fun a ha=>q ha (d_lenS ha rfl Try.runUnderlying128) fun a ha=>q ha (d_sub ha rfl rfl) fun a ha=>q ha (d_eq ha rfl rfl) fun a ha=>qm ha rfl fun a ha=>?_
     refine ite_s h (fun b28 h=>?_) (fun b28 h=>?_)
     ·refine qn ha 28 (tn b28) fun a ha=>qn ha 28 (tn b28) fun a ha=>qn ha 28 (tn b28) fun a ha=>qn ha 28 (tn b28) fun a ha=>qn ha 28 (tn b28) fun a ha=>qn ha 28 (tn b28) fun a ha=>qn ha 28 (tn b28) fun a ha=>qn ha 28 (tn b28) fun a ha=>qn ha 28 (tn b28) fun a ha=>qn ha 28 (tn b28) fun a ha=>qn ha 28 (tn b28) fun a ha=>q ha (d_pick_t ha rfl b28 rfl) fun a ha=>s_nil<|?_
      have hS : Has 97 [(40,(.bool true)),(0,(.pointer a0)),(1,(.int .i64 a1)),(4,(Sl.v x4)),(5,(.int .i64 x5))] _:=ha.sub ⟨rfl,rfl,rfl,rfl,rfl,trivial⟩
      cases h
      exact hk25 _ hS
     ·refine qg ha 28 (nt b28) (d_move ha rfl) fun a ha=>qg ha 28 (nt b28) (d_nilp ha rfl e14) fun a ha=>qg ha 28 (nt b28) (d_fa ha rfl Try.runUnderlying132 rfl rfl Try.sizeOf130 (by decide)) fun a ha=>qg ha 28 (nt b28) (d_fa ha rfl Try.runUnderlying130 rfl rfl Try.sizeOf128 (by decide)) fun a ha=>?_
      obtain ⟨v29,e30,h⟩:=bs1 h
      refine qg ha 28 (nt b28) (d_ld ha rfl Try.isAgg128 (ldL_c e30)) fun a ha=>qg ha 28 (nt b28) (d_move ha rfl) fun a ha=>?_
      obtain ⟨p31,e32,h⟩:=bs1 h
      refine qg ha 28 (nt b28) (d_ix ha rfl rfl Try.runUnderlying128 Try.sizeOf136 e32) fun a ha=>qg ha 28 (nt b28) (d_fa ha rfl Try.runUnderlying136 rfl rfl Try.sizeOf3 (by decide)) fun a ha=>?_
      obtain ⟨v33,e34,h⟩:=bs1 h
      refine qg ha 28 (nt b28) (d_ld ha rfl Try.isAgg3 (ldI_c e34)) fun a ha=>qg ha 28 (nt b28) (d_move ha rfl) fun a ha=>qg ha 28 (nt b28) (d_gt ha rfl rfl) fun a ha=>q ha (d_pick_f ha rfl b28 rfl) fun a ha=>s_nil<|?_
      have hS : Has 97 [(40,(.bool (decide (a1 < v33)))),(0,(.pointer a0)),(1,(.int .i64 a1)),(4,(Sl.v x4)),(5,(.int .i64 x5))] _:=ha.sub ⟨rfl,rfl,rfl,rfl,rfl,trivial⟩
      cases h
      exact hk25 _ hS
  ·refine wp_exit<|t_x<|?_
   have hS : Has 97 [(4,(Sl.v x4)),(0,(.pointer a0)),(1,(.int .i64 a1))] _:=ha.sub ⟨rfl,rfl,rfl,trivial⟩
   cases h
   cases hr12 _ rfl
   refine lp_x<|?_
   exact hk11 _ hS
noncomputable def grapevineref11_Open (a0 : Option Addr) (a1 : Int) (a2 : Int) (w : World) : ND ((Option Addr)×Int×World) :=
 if (a0.isNone) = true then
 (nret (none,1,w))
 else
 (lb1 (a0) fun p2 =>
 lb1 (ldB w (p2.add 3)) fun v4 =>
 if v4 = true then
 (nret (none,10,w))
 else
 (cb2 (if (decide (a2 < 2)) = true then
 (nret (true,w))
 else
 (if (decide (16 < a2)) = true then
 (nret (true,w))
 else
 (if (decide (a1 < 0)) = true then
 (nret (true,w))
 else
 (lb1 (ldL w (p2.add 0)) fun v14 =>
 nret ((decide ((IntKind.wrap .i64 ((IntKind.wrap .i64 ((v14.n : Int) - 2)) - (IntKind.wrap .i64 (16 * a2)))) < a1)),w))))) fun v7 w8 =>
 if v7 = true then
 (nret (none,2,w8))
 else
 (lb1 (ldI .i64 w8 (p2.add 4)) fun v17 =>
 lb2 (mk w8 132 ([.pointer a0,.int .i64 a1,.int .i64 a2,.int .i64 v17,.int .i64 0,.int .i64 0,.slice none 0 0,.slice none 0 0])) fun p19 w20 =>
 cb2 (grapevineref11_Log_Read (some p19) w20) fun v22 w23 =>
 lb2 (mk w23 130 ([.int .i64 0,.int .i64 0,.slice none 0 0,.slice none 0 0])) fun p25 w26 =>
 lb1 (stA w26 p25 0 v22) fun w29 =>
 nck ((v22).length = 4) <|
 lb1 (ldL w29 (p25.add 2)) fun v31 =>
 lb1 (ldI .i64 w29 (p25.add 1)) fun v33 =>
 lb3 (grapevineref11_Log_free (some p19) v31 v33 w29) fun v35 v36 w37 =>
 if (v36 != 0) = true then
 (nret (none,v36,w37))
 else
 (cbX (lb1 (ldL w37 (p25.add 2)) fun v47 =>
 if (decide (0 < (v47.n : Int))) = true then
 (lb1 (ldL w37 (p25.add 2)) fun v50 =>
 lb1 (ldL w37 (p25.add 2)) fun v52 =>
 lb1 (ix v50 (IntKind.wrap .i64 ((v52.n : Int) - 1)) 4) fun p54 =>
 lb1 (ldA 4 w37 p54 0) fun c56 =>
 lb2 (mk w37 136 (List.replicate 4 (.int .i64 0))) fun p58 w59 =>
 lb1 (stA w59 p58 0 c56) fun w61 =>
 lb1 (ldI .i64 w61 (p58.add 0)) fun v63 =>
 lb1 (ldI .i64 w61 (p58.add 2)) fun v65 =>
 cb3 (grapevineref11_Log_wipe (some p19) v63 v65 w61) fun v67 v68 w69 =>
 if (v68 != 0) = true then
 (cb1 (nret (none,v68,w69)) fun g46=>nret (.inl g46))
 else
 (nret (.inr ((IntKind.wrap .i64 (v35 + v67)),w69))))
 else
 (nret (.inr (v35,w37)))) fun (i : Int×World)=>u2 i fun v40 w41 =>
 cbX (if (decide (0 < v40)) = true then
 (lb2 (grapevineref09_Disk_Sync a0 w41) fun v80 w81 =>
 if (v80 != 0) = true then
 (cb1 (nret (none,v80,w81)) fun g78=>nret (.inl g78))
 else
 (nret (.inr w81)))
 else
 (nret (.inr w41))) fun (i : World)=>u1 i fun w73 =>
 lb1 (ldA 4 w73 p25 0) fun c85 =>
 lb1 (stA w73 (p19.add 4) 0 c85) fun w87 =>
 lb1 (ldI .i64 w87 (p25.add 1)) fun v89 =>
 lb1 (grapevineref11_Log_keep (some p19) v89 w87) fun w91 =>
 nret ((some p19),0,w91)))))
set_option maxHeartbeats 1000000 in
set_option maxRecDepth 100000 in
theorem grapevineref11_Open_ok {a0 : Option Addr} {a1 : Int} {a2 : Int} {w : World} {Q : (Option Addr)×Int×World→Prop} (h : (grapevineref11_Open a0 a1 a2 w).t Q) : Calls Try.prog 33 #[(.pointer a0),(.int .i64 a1),(.int .i64 a2)] w fun e w''=>∃ i,e = .returned (.tuple #[(.pointer i.1),(.int .i64 i.2.1)])∧Q i∧w'' = i.2.2:=by
 refine calls_dec (n:=110) Try.func33 rfl Try.ntmps33 (by simp) fun a ha=>?_
 unfold grapevineref11_Open at h
 refine wp_seq<|region_lit<|qa ha rfl fun a ha=>qa ha rfl fun a ha=>s_nil<|t_n<|wp_seq<|wp_seq<|region_lit<|qm ha rfl fun a ha=>q ha (d_eqN ha rfl rfl Try.runUnderlying61) fun a ha=>s_nil<|t_n<|?_
 refine s_condN ha rfl h (fun b1 h=>?_) (fun b1 h=>?_)
 ·refine wp_seq<|region_lit<|qa ha rfl fun a ha=>qa ha rfl fun a ha=>s_nil<|t_n<|wp_ret<|t_r<|?_
  have hS:=ha
  exact ret2 Try.results33 hS rfl rfl ⟨(none,1,w),rfl,h,rfl⟩
 ·refine wp_skip<|t_n<|wp_seq<|wp_seq<|region_lit<|qm ha rfl fun a ha=>?_
  obtain ⟨p2,e3,h⟩:=h
  refine q ha (d_nilp ha rfl e3) fun a ha=>q ha (d_fa ha rfl Try.runUnderlying115 rfl rfl Try.sizeOf4 (by decide)) fun a ha=>?_
  obtain ⟨v4,e5,h⟩:=h
  refine q ha (d_ld ha rfl Try.isAgg4 (ldB_c e5)) fun a ha=>s_nil<|t_n<|?_
  refine s_condN ha rfl h (fun b6 h=>?_) (fun b6 h=>?_)
  ·refine wp_seq<|region_lit<|qa ha rfl fun a ha=>qa ha rfl fun a ha=>s_nil<|t_n<|wp_ret<|t_r<|?_
   have hS:=ha
   exact ret2 Try.results33 hS rfl rfl ⟨(none,10,w),rfl,h,rfl⟩
  ·refine wp_skip<|t_n<|wp_seq<|wp_seq<|?_
   refine reg_joinN (n:=110) (ι:=Bool×World) (Lf:=fun i=>[(43,(.bool i.1)),(0,(.pointer a0)),(1,(.int .i64 a1)),(2,(.int .i64 a2))]) (wf:=fun i=>i.2) (un2 h) (fun i h a ha=>?_) (fun h hk10=>?_)
   ·obtain ⟨v7,w8⟩:=i
    have ha : Has 110 [(43,(.bool v7)),(0,(.pointer a0)),(1,(.int .i64 a1)),(2,(.int .i64 a2))] a:=ha
    refine t_n<|?_
    refine s_condN ha rfl h (fun b16 h=>?_) (fun b16 h=>?_)
    ·refine wp_seq<|region_lit<|qa ha rfl fun a ha=>qa ha rfl fun a ha=>s_nil<|t_n<|wp_ret<|t_r<|?_
     have hS:=ha
     exact ret2 Try.results33 hS rfl rfl ⟨(none,2,w8),rfl,h,rfl⟩
    ·refine wp_skip<|t_n<|wp_seq<|region_lit<|qm ha rfl fun a ha=>qm ha rfl fun a ha=>qm ha rfl fun a ha=>qm ha rfl fun a ha=>q ha (d_nilp ha rfl e3) fun a ha=>q ha (d_fa ha rfl Try.runUnderlying115 rfl rfl Try.sizeOf3 (by decide)) fun a ha=>?_
     obtain ⟨v17,e18,h⟩:=h
     refine q ha (d_ld ha rfl Try.isAgg3 (ldI_c e18)) fun a ha=>q ha (d_build (vs:=[(0,(.pointer a0)),(1,(.int .i64 a1)),(2,(.int .i64 a2)),(3,(.int .i64 v17))]) (pl:=#[(0,1),(1,1),(2,1),(3,1),(4,4)]) (cs:=([.pointer a0,.int .i64 a1,.int .i64 a2,.int .i64 v17,.int .i64 0,.int .i64 0,.slice none 0 0,.slice none 0 0])) ha ⟨rfl,rfl,rfl,rfl,rfl,rfl,rfl,rfl,trivial⟩ Try.zeroValue132 Try.runUnderlying132 (by intro w; kernel_rfl) (by kernel_rfl)) fun a ha=>?_
     obtain ⟨p19,w20,e21,h⟩:=h
     refine q ha (d_box ha rfl rfl e21) fun a ha=>qa ha rfl fun a ha=>s_nil<|t_n<|wp_seq<|region_lit<|qm ha rfl fun a ha=>?_
     refine s_callN (ι:=(List Value)×World) (pk:=fun i=>(.agg (List.toArray i.1))) (wf:=fun i=>i.2) (xs:=[_]) (vs:=[(.pointer (some p19))]) ha ⟨rfl,trivial⟩ Try.call73 (grapevineref11_Log_Read_ok (un2 h)) (fun i h a ha=>?_)
     obtain ⟨v22,w23⟩:=i
     obtain ⟨p25,w26,e27,h⟩:=h
     refine q ha (d_alloc Try.zeroValue130 (by kernel_rfl) e27) fun a ha=>?_
     obtain ⟨w29,e30,h⟩:=h
     obtain ⟨e28,h⟩:=h
     refine q ha (d_stA ha rfl rfl Try.sizeOf130 e28 e30) fun a ha=>s_nil<|t_n<|wp_seq<|region_lit<|qm ha rfl fun a ha=>q ha (d_fa ha rfl Try.runUnderlying130 rfl rfl Try.sizeOf128 (by decide)) fun a ha=>?_
     obtain ⟨v31,e32,h⟩:=h
     refine q ha (d_ld ha rfl Try.isAgg128 (ldL_c e32)) fun a ha=>q ha (d_fa ha rfl Try.runUnderlying130 rfl rfl Try.sizeOf3 (by decide)) fun a ha=>?_
     obtain ⟨v33,e34,h⟩:=h
     refine q ha (d_ld ha rfl Try.isAgg3 (ldI_c e34)) fun a ha=>?_
     obtain ⟨v35,v36,w37,e38,h⟩:=h
     refine q ha (d_call (xs:=[_,_,_]) (vs:=[(.pointer (some p19)),(Sl.v v31),(.int .i64 v33)]) ha ⟨rfl,rfl,rfl,trivial⟩ Try.call74 (grapevineref11_Log_free_ok e38)) fun a ha=>qm ha rfl fun a ha=>q ha (d_ext ha rfl rfl) fun a ha=>q ha (d_ext ha rfl rfl) fun a ha=>qa ha rfl fun a ha=>qa ha rfl fun a ha=>s_nil<|t_n<|wp_seq<|wp_seq<|region_lit<|qm ha rfl fun a ha=>q ha (d_ne ha rfl rfl) fun a ha=>s_nil<|t_n<|?_
     refine s_condN ha rfl h (fun b39 h=>?_) (fun b39 h=>?_)
     ·refine wp_seq<|region_lit<|qm ha rfl fun a ha=>qa ha rfl fun a ha=>qa ha rfl fun a ha=>s_nil<|t_n<|wp_ret<|t_r<|?_
      have hS:=ha
      exact ret2 Try.results33 hS rfl rfl ⟨(none,v36,w37),rfl,h,rfl⟩
     ·refine wp_skip<|t_n<|?_
      refine seq_joinNX (n:=110) (ι:=Int×World) (Lf:=fun i=>[(10,(.int .i64 i.1)),(0,(.pointer a0)),(8,(.pointer (some p19))),(9,(.pointer (some p25)))]) (wf:=fun i=>i.2) (unX h) (fun i h a ha=>?_) (fun h hk45=>?_)
      ·obtain ⟨v40,w41⟩:=i
       try dsimp only [Sum.elim_inl,Sum.elim_inr,u1,u2,u3,u4,u5,u6] at h
       have ha : Has 110 [(10,(.int .i64 v40)),(0,(.pointer a0)),(8,(.pointer (some p19))),(9,(.pointer (some p25)))] a:=ha
       refine seq_joinNX (n:=110) (ι:=World) (Lf:=fun i=>[(8,(.pointer (some p19))),(9,(.pointer (some p25)))]) (wf:=fun i=>i) (unX h) (fun i h a ha=>?_) (fun h hk77=>?_)
       ·obtain ⟨w73,rfl⟩ : ∃ x,x = i:=⟨i,rfl⟩
        try dsimp only [Sum.elim_inl,Sum.elim_inr,u1,u2,u3,u4,u5,u6] at h
        have ha : Has 110 [(8,(.pointer (some p19))),(9,(.pointer (some p25)))] a:=ha
        refine wp_seq<|region_lit<|qm ha rfl fun a ha=>?_
        obtain ⟨c85,e86,h⟩:=h
        refine q ha (d_ldA ha rfl Try.isAgg130 Try.sizeOf130 e86) fun a ha=>q ha (d_nil ha rfl) fun a ha=>q ha (d_fa ha rfl Try.runUnderlying132 rfl rfl Try.sizeOf130 (by decide)) fun a ha=>?_
        obtain ⟨w87,e88,h⟩:=h
        refine q ha (d_stA ha rfl rfl Try.sizeOf130 ((ldA_c e86).1) e88) fun a ha=>s_nil<|t_n<|wp_seq<|region_lit<|qm ha rfl fun a ha=>q ha (d_fa ha rfl Try.runUnderlying130 rfl rfl Try.sizeOf3 (by decide)) fun a ha=>?_
        obtain ⟨v89,e90,h⟩:=h
        refine q ha (d_ld ha rfl Try.isAgg3 (ldI_c e90)) fun a ha=>?_
        obtain ⟨w91,e92,h⟩:=h
        refine q ha (d_call (xs:=[_,_]) (vs:=[(.pointer (some p19)),(.int .i64 v89)]) ha ⟨rfl,rfl,trivial⟩ Try.call77 (grapevineref11_Log_keep_ok e92)) fun a ha=>s_nil<|t_n<|wp_seq<|region_lit<|qm ha rfl fun a ha=>qa ha rfl fun a ha=>qa ha rfl fun a ha=>s_nil<|t_n<|wp_ret<|?_
        have hS:=ha
        exact ret2 Try.results33 hS rfl rfl ⟨((some p19),0,w91),rfl,h,rfl⟩
       ·refine wp_seq<|region_lit<|qm ha rfl fun a ha=>q ha (d_gt ha rfl rfl) fun a ha=>s_nil<|t_n<|?_
        refine s_condN ha rfl h (fun b79 h=>?_) (fun b79 h=>?_)
        ·refine wp_seq<|region_lit<|qm ha rfl fun a ha=>?_
         obtain ⟨v80,w81,e82,h⟩:=h
         refine q ha (d_call (xs:=[_]) (vs:=[(.pointer a0)]) ha ⟨rfl,trivial⟩ Try.call76 (grapevineref09_Disk_Sync_ok e82)) fun a ha=>qa ha rfl fun a ha=>s_nil<|t_n<|wp_seq<|region_lit<|qm ha rfl fun a ha=>q ha (d_ne ha rfl rfl) fun a ha=>s_nil<|t_n<|?_
         refine s_condN ha rfl h (fun b83 h=>?_) (fun b83 h=>?_)
         ·refine wp_seq<|region_lit<|qm ha rfl fun a ha=>qa ha rfl fun a ha=>qa ha rfl fun a ha=>s_nil<|t_n<|wp_ret<|?_
          have h:=unL h
          refine t_r<|?_
          have hS:=ha
          exact ret2 Try.results33 hS rfl rfl ⟨(none,v80,w81),rfl,h,rfl⟩
         ·refine wp_skip<|?_
          have hS : Has 110 [(8,(.pointer (some p19))),(9,(.pointer (some p25)))] _:=ha.sub ⟨rfl,rfl,trivial⟩
          exact hk77 w81 h _ hS
        ·refine wp_skip<|?_
         have hS : Has 110 [(8,(.pointer (some p19))),(9,(.pointer (some p25)))] _:=ha.sub ⟨rfl,rfl,trivial⟩
         exact hk77 w41 h _ hS
      ·refine wp_seq<|region_lit<|q ha (d_fa ha rfl Try.runUnderlying130 rfl rfl Try.sizeOf128 (by decide)) fun a ha=>?_
       obtain ⟨v47,e48,h⟩:=h
       refine q ha (d_ld ha rfl Try.isAgg128 (ldL_c e48)) fun a ha=>q ha (d_lenS ha rfl Try.runUnderlying128) fun a ha=>q ha (d_gt ha rfl rfl) fun a ha=>s_nil<|t_n<|?_
       refine s_condN ha rfl h (fun b49 h=>?_) (fun b49 h=>?_)
       ·refine wp_seq<|region_lit<|q ha (d_fa ha rfl Try.runUnderlying130 rfl rfl Try.sizeOf128 (by decide)) fun a ha=>?_
        obtain ⟨v50,e51,h⟩:=h
        refine q ha (d_ld ha rfl Try.isAgg128 (ldL_c e51)) fun a ha=>q ha (d_fa ha rfl Try.runUnderlying130 rfl rfl Try.sizeOf128 (by decide)) fun a ha=>?_
        obtain ⟨v52,e53,h⟩:=h
        refine q ha (d_ld ha rfl Try.isAgg128 (ldL_c e53)) fun a ha=>q ha (d_lenS ha rfl Try.runUnderlying128) fun a ha=>q ha (d_sub ha rfl rfl) fun a ha=>?_
        obtain ⟨p54,e55,h⟩:=h
        refine q ha (d_ix ha rfl rfl Try.runUnderlying128 Try.sizeOf136 e55) fun a ha=>?_
        obtain ⟨c56,e57,h⟩:=h
        refine q ha (d_ldA ha rfl Try.isAgg136 Try.sizeOf136 e57) fun a ha=>?_
        obtain ⟨p58,w59,e60,h⟩:=h
        refine q ha (d_alloc Try.zeroValue136 (by kernel_rfl) e60) fun a ha=>?_
        obtain ⟨w61,e62,h⟩:=h
        refine q ha (d_stA ha rfl rfl Try.sizeOf136 ((ldA_c e57).1) e62) fun a ha=>s_nil<|t_n<|wp_seq<|region_lit<|qm ha rfl fun a ha=>q ha (d_fa ha rfl Try.runUnderlying136 rfl rfl Try.sizeOf3 (by decide)) fun a ha=>?_
        obtain ⟨v63,e64,h⟩:=h
        refine q ha (d_ld ha rfl Try.isAgg3 (ldI_c e64)) fun a ha=>q ha (d_fa ha rfl Try.runUnderlying136 rfl rfl Try.sizeOf3 (by decide)) fun a ha=>?_
        obtain ⟨v65,e66,h⟩:=h
        refine q ha (d_ld ha rfl Try.isAgg3 (ldI_c e66)) fun a ha=>?_
        refine s_callN (ι:=Int×Int×World) (pk:=fun i=>(.tuple #[(.int .i64 i.1),(.int .i64 i.2.1)])) (wf:=fun i=>i.2.2) (xs:=[_,_,_]) (vs:=[(.pointer (some p19)),(.int .i64 v63),(.int .i64 v65)]) ha ⟨rfl,rfl,rfl,trivial⟩ Try.call75 (grapevineref11_Log_wipe_ok (un3 h)) (fun i h a ha=>?_)
        obtain ⟨v67,v68,w69⟩:=i
        refine qm ha rfl fun a ha=>q ha (d_ext ha rfl rfl) fun a ha=>q ha (d_ext ha rfl rfl) fun a ha=>qa ha rfl fun a ha=>qa ha rfl fun a ha=>s_nil<|t_n<|wp_seq<|wp_seq<|region_lit<|qm ha rfl fun a ha=>q ha (d_ne ha rfl rfl) fun a ha=>s_nil<|t_n<|?_
        refine s_condN ha rfl h (fun b71 h=>?_) (fun b71 h=>?_)
        ·refine wp_seq<|region_lit<|qm ha rfl fun a ha=>qa ha rfl fun a ha=>qa ha rfl fun a ha=>s_nil<|t_n<|wp_ret<|t_r<|?_
         have h:=unL h
         refine t_r<|?_
         have hS:=ha
         exact ret2 Try.results33 hS rfl rfl ⟨(none,v68,w69),rfl,h,rfl⟩
        ·refine wp_skip<|t_n<|region_lit<|qm ha rfl fun a ha=>qm ha rfl fun a ha=>q ha (d_add ha rfl rfl) fun a ha=>qa ha rfl fun a ha=>s_nil<|?_
         have hS : Has 110 [(10,(.int .i64 (IntKind.wrap .i64 (v35 + v67)))),(0,(.pointer a0)),(8,(.pointer (some p19))),(9,(.pointer (some p25)))] _:=ha.sub ⟨rfl,rfl,rfl,rfl,trivial⟩
         exact hk45 ((IntKind.wrap .i64 (v35 + v67)),w69) h _ hS
       ·refine wp_skip<|?_
        have hS : Has 110 [(10,(.int .i64 v35)),(0,(.pointer a0)),(8,(.pointer (some p19))),(9,(.pointer (some p25)))] _:=ha.sub ⟨rfl,rfl,rfl,rfl,trivial⟩
        exact hk45 (v35,w37) h _ hS
   ·refine region_lit<|qm ha rfl fun a ha=>q ha (d_lt ha rfl rfl) fun a ha=>qm ha rfl fun a ha=>?_
    refine ite_n h (fun b11 h=>?_) (fun b11 h=>?_)
    ·refine qn ha 23 (tn b11) fun a ha=>qn ha 23 (tn b11) fun a ha=>q ha (d_pick_t ha rfl b11 rfl) fun a ha=>qm ha rfl fun a ha=>qn ha 27 (tn rfl) fun a ha=>qn ha 27 (tn rfl) fun a ha=>q ha (d_pick_t ha rfl rfl rfl) fun a ha=>qm ha rfl fun a ha=>qn ha 31 (tn rfl) fun a ha=>qn ha 31 (tn rfl) fun a ha=>qn ha 31 (tn rfl) fun a ha=>qn ha 31 (tn rfl) fun a ha=>qn ha 31 (tn rfl) fun a ha=>qn ha 31 (tn rfl) fun a ha=>qn ha 31 (tn rfl) fun a ha=>qn ha 31 (tn rfl) fun a ha=>qn ha 31 (tn rfl) fun a ha=>qn ha 31 (tn rfl) fun a ha=>qn ha 31 (tn rfl) fun a ha=>q ha (d_pick_t ha rfl rfl rfl) fun a ha=>s_nil<|?_
     have hS : Has 110 [(43,(.bool true)),(0,(.pointer a0)),(1,(.int .i64 a1)),(2,(.int .i64 a2))] _:=ha.sub ⟨rfl,rfl,rfl,rfl,trivial⟩
     exact hk10 (true,w) h _ hS
    ·refine qg ha 23 (nt b11) (d_move ha rfl) fun a ha=>qg ha 23 (nt b11) (d_gt ha rfl rfl) fun a ha=>q ha (d_pick_f ha rfl b11 rfl) fun a ha=>qm ha rfl fun a ha=>?_
     refine ite_n h (fun b12 h=>?_) (fun b12 h=>?_)
     ·refine qn ha 27 (tn b12) fun a ha=>qn ha 27 (tn b12) fun a ha=>q ha (d_pick_t ha rfl b12 rfl) fun a ha=>qm ha rfl fun a ha=>qn ha 31 (tn rfl) fun a ha=>qn ha 31 (tn rfl) fun a ha=>qn ha 31 (tn rfl) fun a ha=>qn ha 31 (tn rfl) fun a ha=>qn ha 31 (tn rfl) fun a ha=>qn ha 31 (tn rfl) fun a ha=>qn ha 31 (tn rfl) fun a ha=>qn ha 31 (tn rfl) fun a ha=>qn ha 31 (tn rfl) fun a ha=>qn ha 31 (tn rfl) fun a ha=>qn ha 31 (tn rfl) fun a ha=>q ha (d_pick_t ha rfl rfl rfl) fun a ha=>s_nil<|?_
      have hS : Has 110 [(43,(.bool true)),(0,(.pointer a0)),(1,(.int .i64 a1)),(2,(.int .i64 a2))] _:=ha.sub ⟨rfl,rfl,rfl,rfl,trivial⟩
      exact hk10 (true,w) h _ hS
     ·refine qg ha 27 (nt b12) (d_move ha rfl) fun a ha=>qg ha 27 (nt b12) (d_lt ha rfl rfl) fun a ha=>q ha (d_pick_f ha rfl b12 rfl) fun a ha=>qm ha rfl fun a ha=>?_
      refine ite_n h (fun b13 h=>?_) (fun b13 h=>?_)
      ·refine qn ha 31 (tn b13) fun a ha=>qn ha 31 (tn b13) fun a ha=>qn ha 31 (tn b13) fun a ha=>qn ha 31 (tn b13) fun a ha=>qn ha 31 (tn b13) fun a ha=>qn ha 31 (tn b13) fun a ha=>qn ha 31 (tn b13) fun a ha=>qn ha 31 (tn b13) fun a ha=>qn ha 31 (tn b13) fun a ha=>qn ha 31 (tn b13) fun a ha=>qn ha 31 (tn b13) fun a ha=>q ha (d_pick_t ha rfl b13 rfl) fun a ha=>s_nil<|?_
       have hS : Has 110 [(43,(.bool true)),(0,(.pointer a0)),(1,(.int .i64 a1)),(2,(.int .i64 a2))] _:=ha.sub ⟨rfl,rfl,rfl,rfl,trivial⟩
       exact hk10 (true,w) h _ hS
      ·refine qg ha 31 (nt b13) (d_move ha rfl) fun a ha=>qg ha 31 (nt b13) (d_nilp ha rfl e3) fun a ha=>qg ha 31 (nt b13) (d_fa ha rfl Try.runUnderlying115 rfl rfl Try.sizeOf112 (by decide)) fun a ha=>?_
       obtain ⟨v14,e15,h⟩:=h
       refine qg ha 31 (nt b13) (d_ld ha rfl Try.isAgg112 (ldL_c e15)) fun a ha=>qg ha 31 (nt b13) (d_lenS ha rfl Try.runUnderlying112) fun a ha=>qg ha 31 (nt b13) (d_sub ha rfl rfl) fun a ha=>qg ha 31 (nt b13) (d_move ha rfl) fun a ha=>qg ha 31 (nt b13) (d_mul ha rfl rfl) fun a ha=>qg ha 31 (nt b13) (d_sub ha rfl rfl) fun a ha=>qg ha 31 (nt b13) (d_move ha rfl) fun a ha=>qg ha 31 (nt b13) (d_lt ha rfl rfl) fun a ha=>q ha (d_pick_f ha rfl b13 rfl) fun a ha=>s_nil<|?_
       have hS : Has 110 [(43,(.bool (decide ((IntKind.wrap .i64 ((IntKind.wrap .i64 ((v14.n : Int) - 2)) - (IntKind.wrap .i64 (16 * a2)))) < a1)))),(0,(.pointer a0)),(1,(.int .i64 a1)),(2,(.int .i64 a2))] _:=ha.sub ⟨rfl,rfl,rfl,rfl,trivial⟩
       exact hk10 ((decide ((IntKind.wrap .i64 ((IntKind.wrap .i64 ((v14.n : Int) - 2)) - (IntKind.wrap .i64 (16 * a2)))) < a1)),w) h _ hS
theorem u8_inj : ∀ {a b : List Int},Bytes a→Bytes b→a.map (fun n=>UInt8.ofNat n.toNat) = b.map (fun n=>UInt8.ofNat n.toNat)→a = b
 | [],[],_,_,_=>rfl
 | [],_ :: _,_,_,h=>by simp at h
 | _ :: _,[],_,_,h=>by simp at h
 | x :: a,y :: b,ha,hb,h=>by
  simp only [List.map_cons,List.cons.injEq] at h
  have hx:=ha x (by simp)
  have hy:=hb y (by simp)
  have h3:=congrArg UInt8.toNat h.1
  simp only [UInt8.toNat_ofNat'] at h3
  have h4 : x = y:=by omega
  rw [h4,u8_inj (fun v hv=>ha v (by simp [hv])) (fun v hv=>hb v (by simp [hv])) h.2]
theorem str_eq {a b : List Int} (ha : Bytes a) (hb : Bytes b) : sEq (strOfNums a) (strOfNums b) = decide (a = b):=by
 unfold sEq
 rw [ByteArray.toList_eq,ByteArray.toList_eq,strOfNums_data,strOfNums_data]
 by_cases h : a = b
 ·subst h; simp
 ·rw [decide_eq_false h,beq_eq_false_iff_ne]
  exact fun e=>h (u8_inj ha hb e)
theorem laid_iff {b : List Int} (hb : Bytes b) (hl : b.length = 64) (h2 : b.getD 2 0≤59) : (laidL (b.getD 1 0) ((b.drop 4).take (b.getD 2 0).toNat) (b.getD 3 0 == 1) = b) ↔ (b.getD 0 0 = 231∧b.getD 63 0 = 231∧b.getD 3 0≤1∧zeroL ((b.take 63).drop (4 + (b.getD 2 0).toNat)) = true):=by
 have r2:=by_rng (j:=2) hb
 have r3:=by_rng (j:=3) hb
 obtain ⟨m,hm⟩ : ∃ m,(b.getD 2 0).toNat = m:=⟨_,rfl⟩
 rw [hm]
 have hm59 : m≤59:=by omega
 have hpl : ((b.drop 4).take m).length = m:=by rw [List.length_take,List.length_drop]; omega
 have hgd : ∀ j,j < 64→b[j]? = some (b.getD j 0):=fun j hj=>by rw [List.getD_eq_getElem?_getD,List.getElem?_eq_getElem (by omega)]; rfl
 -- the sector,in parts
 have hparts : b = [b.getD 0 0,b.getD 1 0,b.getD 2 0,b.getD 3 0] ++ (b.drop 4).take m ++ (b.take 63).drop (4 + m) ++ [b.getD 63 0]:=by
  have e1 : b = b.take 4 ++ b.drop 4:=(List.take_append_drop 4 b).symm
  have e2 : b.take 4 = [b.getD 0 0,b.getD 1 0,b.getD 2 0,b.getD 3 0]:=by
   apply List.ext_getElem?
   intro j
   rw [List.getElem?_take]
   by_cases hj : j < 4
   ·rw [if_pos hj,hgd j (by omega)]
    rcases (by omega : j = 0∨j = 1∨j = 2∨j = 3) with rfl | rfl | rfl | rfl <;> rfl
   ·rw [if_neg hj,List.getElem?_eq_none (by simp; omega)]
  have e3 : b.drop 4 = (b.drop 4).take m ++ b.drop (4 + m):=by rw [← List.drop_drop]; exact (List.take_append_drop m (b.drop 4)).symm
  have e4 : b.drop (4 + m) = (b.take 63).drop (4 + m) ++ [b.getD 63 0]:=by
   have e5 : b = b.take 63 ++ [b.getD 63 0]:=by
    have e6 : b.drop 63 = [b.getD 63 0]:=by
     rw [List.drop_eq_getElem_cons (by omega),List.drop_of_length_le (by omega),List.getD_eq_getElem?_getD,List.getElem?_eq_getElem (by omega)]; rfl
    rw [← e6]; exact (List.take_append_drop 63 b).symm
   conv=>lhs; rw [e5]
   rw [List.drop_append_of_le_length (by rw [List.length_take]; omega)]
  conv=>lhs; rw [e1,e2,e3,e4]
  simp [List.append_assoc]
 have hzl : ((b.take 63).drop (4 + m)).length = 59 - m:=by rw [List.length_drop,List.length_take]; omega
 obtain ⟨Z,hZ⟩ : ∃ Z,(b.take 63).drop (4 + m) = Z:=⟨_,rfl⟩
 obtain ⟨Pd,hP⟩ : ∃ Pd,(b.drop 4).take m = Pd:=⟨_,rfl⟩
 rw [hZ] at hparts hzl ⊢
 rw [hP] at hparts hpl ⊢
 have hzr : zeroL Z = true ↔ Z = List.replicate (59 - m) 0:=by
  unfold zeroL
  rw [List.all_eq_true]
  constructor
  ·intro h
   rw [← hzl]
   exact List.eq_replicate_of_mem fun x hx=>by simpa using h x hx
  ·rintro h x hx
   rw [h] at hx
   simpa using (List.mem_replicate.1 hx).2
 have h2m : b.getD 2 0 = (m : Int):=by omega
 unfold laidL
 rw [hpl]
 constructor
 ·intro h
  rw [hparts] at h
  have hlen : ∀ (u v : List Int),u.length = v.length→∀ (x y : List Int),u ++ x = v ++ y→u = v∧x = y:=fun u v huv x y h=>List.append_inj h huv
  obtain ⟨h1,h4⟩:=List.append_inj h (by simp [hpl,hzl])
  obtain ⟨h1,h3⟩:=List.append_inj h1 (by simp [hpl])
  obtain ⟨h1,_⟩:=List.append_inj h1 (by simp)
  simp only [List.cons.injEq,and_true] at h1 h4
  obtain ⟨k0,k1,k2,k3⟩:=h1
  refine ⟨?_,?_,?_,hzr.2 ?_⟩
  ·have : ∀ (a c d e : Int) (X : List Int),([a,c,d,e] ++ X).getD 0 0 = a:=fun _ _ _ _ _=>rfl
   exact k0.symm
  ·exact h4.symm
  ·have k3':=k3
   split at k3' <;> omega
  ·exact h3.symm
 ·rintro ⟨k0,k63,k3,kz⟩
  rw [hzr] at kz
  have k3' : (if (b.getD 3 0 == 1) = true then (1 : Int) else 0) = b.getD 3 0:=by
   split
   ·rename_i h
    have h' : b.getD 3 0 = 1:=by simpa only [beq_iff_eq] using h
    omega
   ·rename_i h
    have h' : ¬ b.getD 3 0 = 1:=by simpa only [beq_iff_eq] using h
    omega
  rw [k3']
  conv=>rhs; rw [hparts]
  rw [k0,k63,h2m,kz]
section
variable {F0 : Nat → Prop} {g g0 g' : Gh} {w w0 w' : World} {L : List Rs} {s z y : Sl} {xs p : List Int}
theorem rlaid_loop : ∀ (m : Nat) (xs : List Int) (z : Sl) (w : World),xs.length + m = 63→Hp F0 g0 w0 g w (owR 5 1 z (nums .u8 xs) :: L) →
  ∃ z' w',loopF (fun r : Sl×World=>grapevineref11_Laid_l1 r.1 r.2) (z,w) = some (z',w')∧z'.n = 63∧Hp F0 g0 w0 g w' (owR 5 1 z' (nums .u8 (xs ++ List.replicate m 0)) :: L)∧Mo g w g w'
 | 0,xs,z,w,hm,H=>by
  have hn : xs.length = z.n:=by have:=H.ow.len; simpa using this
  refine ⟨z,w,loopF_done ?_,by omega,by simpa using H,Mo.r⟩
  unfold grapevineref11_Laid_l1
  rw [if_neg (by simp; omega)]
 | m + 1,xs,z,w,hm,H=>by
  have hn : xs.length = z.n:=by have:=H.ow.len; simpa using this
  obtain ⟨z1,w1,e1,n1,_,H1,m1⟩:=H.bsl (T:=5) (sz:=1) (ps:=[[.int .u8 0]]) (by simp) (by simp)
  obtain ⟨z2,w2,e2,n2,H2,m2⟩:=H1.tl.apS st29 H1.ow.rd (by intro v hv; simp at hv; subst hv; rfl) (by rw [n1]; simp; omega)
  rw [show nums .u8 xs ++ [[Value.int .u8 0]].flatten = nums .u8 (xs ++ [0]) by simp [nums]] at H2
  obtain ⟨z',w',e3,n3,H3,m3⟩:=rlaid_loop m (xs ++ [0]) z2 w2 (by simp; omega) H2
  refine ⟨z',w',?_,n3,?_,m1.t (m2.t m3)⟩
  ·rw [← e3]
   refine loopF_next ?_
   unfold grapevineref11_Laid_l1
   rw [if_pos (by simp; omega),e1,bind2_some,e2,bind2_some]
  ·rw [List.append_assoc] at H3; exact H3
theorem rlaid_ok (H : Hp F0 g0 w0 g w L) (h : PR g w y 1 (nums .u8 p)) (hp : p.length≤59) {kind : Int} (k0 : 0≤kind) (k1 : kind < 256) (l : Bool) :
  ∃ z w',grapevineref11_Laid kind y l w = some (z,w')∧Hp F0 g0 w0 g w' (owR 5 1 z (nums .u8 (laidL kind p l)) :: L)∧Mo g w g w':=by
 have hn : p.length = y.n:=by have:=h.rd.len; simpa using this
 have w8n : IntKind.wrap .u8 (y.n : Int) = (p.length : Int):=by rw [hn]; exact wr8 (by omega) (by omega)
 obtain ⟨z1,w1,e1,n1,_,H1,m1⟩:=H.bsl (T:=5) (sz:=1) (ps:=[[.int .u8 231],[.int .u8 kind],[.int .u8 (p.length : Int)],[.int .u8 0]]) (by simp) (by simp)
 rw [show ([[Value.int .u8 231],[.int .u8 kind],[.int .u8 (p.length : Int)],[.int .u8 0]] : List (List Value)).flatten = nums .u8 [231,kind,(p.length : Int),0] by simp [nums]] at H1
 obtain ⟨z2,w2,e2,n2,H2,m2⟩:=H1.apS st29 (h.mo m1).rd nums_one (by rw [n1]; simp; omega)
 rw [show nums .u8 [231,kind,(p.length : Int),0] ++ nums .u8 p = nums .u8 ([231,kind,(p.length : Int),0] ++ p) by simp [nums]] at H2
 obtain ⟨b,rest,hpz,-,-⟩:=H2.ow.at_ (by rw [n2,n1]; simp; omega)
 obtain ⟨w3,e3,H3,m3⟩ : ∃ w3,(if l = true then ((ix z2 3 1).bind fun p11=>(stV w2 p11 (.int .u8 1)).bind fun w13=>some w13) else (some w2)) = some w3∧Hp F0 g0 w0 g w3 (owR 5 1 z2 (nums .u8 ([231,kind,(p.length : Int),if l = true then 1 else 0] ++ p)) :: L)∧Mo g w2 g w3:=by
  cases l with
  | false=>exact ⟨w2,by simp,H2,Mo.r⟩
  | true =>
   obtain ⟨w3,e3,H3,m3⟩:=H2.oput hpz (j:=3) (by decide) (by simp) 1 (f:=fun w26=>some w26)
   exact ⟨w3,by rw [if_pos rfl,e3],H3,m3⟩
 obtain ⟨z4,w4,e4,n4,H4,m4⟩:=rlaid_loop (59 - p.length) _ z2 w3 (by simp; omega) H3
 obtain ⟨z5,w5,e5,n5,_,H5,m5⟩:=H4.bsl (T:=5) (sz:=1) (ps:=[[.int .u8 231]]) (by simp) (by simp)
 obtain ⟨z6,w6,e6,n6,H6,m6⟩:=H5.tl.apS st29 H5.ow.rd (by intro v hv; simp at hv; subst hv; rfl) (by rw [n5,n4]; decide)
 refine ⟨z6,w6,?_,?_,m1.t (m2.t (m3.t (m4.t (m5.t m6))))⟩
 ·unfold grapevineref11_Laid
  rw [wr8 k0 k1,w8n,e1,bind2_some,e2,bind2_some,e3,Option.bind_some,e4,bind2_some,e5,bind2_some,e6,bind2_some]
 ·rw [show nums .u8 ([231,kind,(p.length : Int),if l = true then 1 else 0] ++ p ++ List.replicate (59 - p.length) 0) ++ [[Value.int .u8 231]].flatten = nums .u8 (laidL kind p l) by simp [nums,laidL]] at H6
  exact H6
theorem rgood_ok (H : Hp F0 g0 w0 g w L) (h : PR g w s 1 (nums .u8 xs)) (hb : Bytes xs) (hc : s.n≤s.c) (hm : s.n≤1000) :
  ∃ z w',grapevineref11_Good s w = some ((goodL xs).1,z,(goodL xs).2.2,w')∧Hp F0 g0 w0 g w' L∧Mo g w g w'∧PR g w' z 1 (nums .u8 (goodL xs).2.1)∧z.n≤z.c:=by
 have hn : xs.length = s.n:=by have:=h.rd.len; simpa using this
 have none : goodC xs = false→∀ {w1 : World},Hp F0 g0 w0 g w1 L→Mo g w g w1→∀ T,T = some (0,Sl.nil,false,w1)→∃ z w',T = some ((goodL xs).1,z,(goodL xs).2.2,w')∧Hp F0 g0 w0 g w' L∧Mo g w g w'∧PR g w' z 1 (nums .u8 (goodL xs).2.1)∧z.n≤z.c:=fun hg w1 H1 m1 T hT=>by
  have : goodL xs = (0,[],false):=by unfold goodL; rw [hg,if_neg (by simp)]
  rw [this]
  exact ⟨Sl.nil,w1,hT,H1,m1,PR.nil rfl,Nat.le_refl _⟩
 unfold grapevineref11_Good
 by_cases hl : xs.length = 64
 rotate_left
 ·refine none (by rw [good8_C]; simp [good8,hl]) H Mo.r _ ?_
  rw [if_pos (by simp; omega),bind2_some,if_pos rfl]
 have hlt : ∀ j : Int,0≤j→j < 64→j.toNat < xs.length:=fun j h0 h1=>by omega
 have t1 : (if ((s.n : Int) != 64) = true then (some (true,w)) else ((ix s 1 1).bind fun p6=>(ldI .u8 w p6).bind fun v8=>if (decide (v8 < 1)) = true then (some (true,w)) else ((ix s 1 1).bind fun p11=>(ldI .u8 w p11).bind fun v13=>if (decide (3 < v13)) = true then (some (true,w)) else ((ix s 2 1).bind fun p16=>(ldI .u8 w p16).bind fun v18=>some ((decide (59 < v18)),w))))) = some (!(decide (1≤xs.getD 1 0) && decide (xs.getD 1 0≤3) && decide (xs.getD 2 0≤59)),w):=by
  rw [if_neg (by simp; omega),ld1 h.rd (by decide) (hlt _ (by decide) (by decide)),ld1 h.rd (by decide) (hlt _ (by decide) (by decide)),ld1 h.rd (by decide) (hlt _ (by decide) (by decide)),ifO,ifO]
  simp only [Bool.not_and,← decide_not,Int.not_le,Bool.or_assoc]
  rfl
 rw [t1,bind2_some]
 cases h3 : (decide (1≤xs.getD 1 0) && decide (xs.getD 1 0≤3) && decide (xs.getD 2 0≤59)) with
 | false =>
  refine none ?_ H Mo.r _ (by rw [if_pos (by simp)])
  cases hg : goodC xs with
  | false=>rfl
  | true =>
   rw [good8_C] at hg
   simp only [Bool.and_eq_true] at hg
   obtain ⟨_,k1,k3,k2,_⟩:=good8_s hg.1
   rw [decide_eq_true k1,decide_eq_true k3,decide_eq_true k2] at h3
   cases h3
 | true =>
  simp only [Bool.and_eq_true,decide_eq_true_eq] at h3
  obtain ⟨⟨k1,k3⟩,k2⟩:=h3
  have r1:=by_rng (j:=1) hb
  have r2:=by_rng (j:=2) hb
  have r3:=by_rng (j:=3) hb
  obtain ⟨m,hm2⟩ : ∃ m : Nat,xs.getD 2 0 = m:=⟨(xs.getD 2 0).toNat,by omega⟩
  have hw : IntKind.wrap .i64 (4 + IntKind.wrap .i64 (xs.getD (2 : Int).toNat 0)) = ((4 + m : Nat) : Int):=by
   rw [show xs.getD (2 : Int).toNat 0 = (m : Int) from hm2,IntKind.wrap_i64,IntKind.wrap_i64]; omega
  obtain ⟨z2,e2,p2,n2,c2⟩:=h.slN (lo:=4) (hi:=4 + m) (m:=s.c) (by omega) (by omega) (by omega) (Nat.le_refl _)
  have e2 : slS s 4 ((4 + m : Nat) : Int) (s.c : Int) 1 = some z2:=e2
  rw [Nat.add_sub_cancel_left] at p2 n2
  obtain ⟨w3,e3,H3,m3⟩:=H.dr
  have h3:=h.mo m3
  have hpl : ((xs.drop 4).take m).length = m:=by rw [List.length_take,List.length_drop]; omega
  have hpb : Bytes ((xs.drop 4).take m):=fun b hb'=>hb b (List.mem_of_mem_drop (List.mem_of_mem_take hb'))
  obtain ⟨z4,w4,e4,H4,m4⟩:=rlaid_ok H3 (p2.mo m3) (by omega) (kind:=xs.getD 1 0) (by omega) (by omega) (xs.getD 3 0 == 1)
  have h4:=h3.mo m4
  have hw1 : IntKind.wrap .i64 (xs.getD (1 : Int).toNat 0) = xs.getD 1 0:=by rw [show (1 : Int).toNat = 1 from rfl,wr64 (by omega) (by omega)]
  have b1:=b2s_Rd H4.ow.rd
  have b2:=b2s_Rd h4.rd
  have b3:=b2s_Rd h3.rd
  have hse:=str_eq (laid_by (kind:=xs.getD 1 0) (l:=xs.getD 3 0 == 1) ⟨by omega,by omega⟩ hpb (by omega)) hb
  have hiff:=laid_iff hb hl k2
  rw [hm2,Int.toNat_natCast] at hiff
  have hgc : goodC xs = (decide (laidL (xs.getD 1 0) ((xs.drop 4).take m) (xs.getD 3 0 == 1) = xs) && !(!(xs.getD 3 0 == 1) && (m != 59))):=by
   rw [good8_C,Bool.eq_iff_iff]
   simp only [good8,Bool.and_eq_true,decide_eq_true_eq,hiff,hl,hm2,Int.toNat_natCast,beq_iff_eq,Bool.not_eq_true',Bool.and_eq_false_iff,true_and,beq_eq_false_iff_ne,bne_eq_false_iff_eq,Bool.not_eq_false',ne_eq,bne_iff_ne]
   constructor
   ·rintro ⟨⟨⟨⟨⟨⟨⟨a1,a2⟩,a3⟩,a4⟩,a5⟩,a6⟩,a7⟩,a8⟩
    exact ⟨⟨a1,a2,a6,a8⟩,by omega⟩
   ·rintro ⟨⟨a1,a2,a6,a8⟩,a7⟩
    exact ⟨⟨⟨⟨⟨⟨⟨a1,a2⟩,k1⟩,k3⟩,by omega⟩,a6⟩,by omega⟩,a8⟩
  have hz59 : ((z2.n : Int) != 59) = (m != 59):=by rw [n2,Bool.eq_iff_iff]; simp; omega
  have t2 : ((dr w).bind fun w35=>(ix s 1 1).bind fun p37=>(ldI .u8 w35 p37).bind fun v39=>bind2 (grapevineref11_Laid (IntKind.wrap .i64 v39) z2 (xs.getD (3 : Int).toNat 0 == 1) w35) fun v41 w42=>(b2s v41 w42).bind fun s44=>(b2s s w42).bind fun s46 =>
    if (!sEq s44 s46) = true then (chk (b2s s w35 = some s46)<|some (true,w42)) else (if (!(xs.getD (3 : Int).toNat 0 == 1)) = true then (chk (b2s s w35 = some s46)<|some (((z2.n : Int) != 59),w42)) else (chk (b2s s w35 = some s46)<|some (false,w42)))) = some (!goodC xs,w4):=by
   rw [e3,Option.bind_some,ld1 h3.rd (by decide) (hlt _ (by decide) (by decide)),hw1,show xs.getD (3 : Int).toNat 0 = xs.getD 3 0 from rfl,e4,bind2_some,b1,Option.bind_some,b2,Option.bind_some,hse,chk_pos b3,chk_pos b3,chk_pos b3,ifA,ifO,hgc,hz59,Bool.not_and,Bool.not_not]
  rw [if_neg (by simp),ld1 h.rd (by decide) (hlt _ (by decide) (by decide)),hw,e2,Option.bind_some,ld1 h.rd (by decide) (hlt _ (by decide) (by decide)),t2,bind2_some]
  cases hg : goodC xs with
  | false=>exact none hg H4.tl (m3.t m4) _ (by rw [if_pos (by simp)])
  | true =>
   have hgl : goodL xs = (xs.getD 1 0,(xs.drop 4).take m,xs.getD 3 0 == 1):=by unfold goodL; rw [if_pos hg,hm2,Int.toNat_natCast]
   rw [hgl]
   refine ⟨z2,w4,?_,H4.tl,m3.t m4,p2.mo (m3.t m4),c2⟩
   rw [if_neg (by simp),ld1 h4.rd (by decide) (hlt _ (by decide) (by decide)),hw1]; rfl
end
def flatR (rows : List Sl) : List Value:=rows.flatMap fun s=>[s.v]
def flatP (puts : List (Int×Sl)) : List Value:=puts.flatMap fun x=>[.int .i64 x.1,x.2.v]
def rkC (a b : Sl) (left : Int) (off : Bool) (age : Int) : List Value:=[a.v,b.v,.int .i64 left,.bool off,.int .i64 age]
theorem st92 : ST Try.prog 112 72 1 24 [.slice none 0 0]:=⟨Try.underlying112,⟨Try.t72,.slice none 0 0,by kernel_rfl,by kernel_rfl,rfl,rfl,rfl⟩,rfl,by decide,by decide⟩
theorem st93 : ST Try.prog 113 172 2 32 [.int .i64 0,.slice none 0 0]:=⟨Try.underlying113,⟨Try.t172,.agg #[.int .i64 0,.slice none 0 0],by kernel_rfl,by kernel_rfl,rfl,rfl,rfl⟩,rfl,by decide,by decide⟩
structure RAt (w : World) (p : Nat) (a b : Sl) (rows : List Sl) (puts : List (Int×Sl)) (D : Dk) : Prop where
 wf : D.Wf
 blk : B w p = some (rkC a b D.left D.down D.age,115)
 sure : Own w 72 a 1 (flatR rows)
 waits : Own w 172 b 2 (flatP puts)
 rl : rows.length = D.S.length
 pl : puts.length = D.W.length
 rat : ∀ (i : Nat) (s : Sl) (xs : List Int),rows[i]? = some s→D.S[i]? = some xs→RowAt w s xs
 pat : ∀ (i : Nat) (x : Int×Sl) (y : Int×List Int),puts[i]? = some x→D.W[i]? = some y→x.1 = y.1∧RowAt w x.2 y.2
def RAt.foot (p : Nat) (a b : Sl) (k : Nat) : Prop:=k = p∨a.blk k∨b.blk k
def rowBlk (rows : List Sl) (puts : List (Int×Sl)) (k : Nat) : Prop:=(∃ s∈rows,s.blk k)∨∃ x∈puts,x.2.blk k
def Byt (w : World) (k : Nat) : Prop:=∃ c,B w k = some (c,5)
section
variable {w w' : World} {p : Nat} {a b : Sl} {rows : List Sl} {puts : List (Int × Sl)} {D : Dk}
theorem flatR_len : (flatR rows).length = rows.length:=by have:=flatLen (f:=fun s : Sl=>[s.v]) (sz:=1) rows (fun x _=>rfl); simpa [flatR] using this
theorem flatP_len : (flatP puts).length = puts.length * 2:=flatLen puts (fun x _=>rfl)
theorem RAt.an (h : RAt w p a b rows puts D) : a.n = D.S.length:=by have:=h.sure.len; rw [flatR_len,h.rl] at this; omega
theorem RAt.bn (h : RAt w p a b rows puts D) : b.n = D.W.length:=by have:=h.waits.len; rw [flatP_len,h.pl] at this; omega
theorem RAt.byt (h : RAt w p a b rows puts D) {k : Nat} (hk : rowBlk rows puts k) : Byt w k:=by
 rcases hk with ⟨s,hs,hk⟩ | ⟨x,hx,hk⟩
 ·obtain ⟨i,hi⟩:=List.getElem?_of_mem hs
  have hl : i < D.S.length:=by rw [← h.rl]; exact (List.getElem?_eq_some_iff.1 hi).1
  exact (h.rat i s _ hi (List.getElem?_eq_getElem hl)).ty hk
 ·obtain ⟨i,hi⟩:=List.getElem?_of_mem hx
  have hl : i < D.W.length:=by rw [← h.pl]; exact (List.getElem?_eq_some_iff.1 hi).1
  exact (h.pat i x _ hi (List.getElem?_eq_getElem hl)).2.ty hk
theorem RAt.foot_ty (h : RAt w p a b rows puts D) {k : Nat} (hk : RAt.foot p a b k) : ¬ Byt w k:=by
 rintro ⟨c,hc⟩
 rcases hk with rfl | hk | hk
 ·rw [h.blk] at hc; simp at hc
 ·obtain ⟨c',h'⟩:=h.sure.ty hk; rw [h'] at hc; simp at hc
 ·obtain ⟨c',h'⟩:=h.waits.ty hk; rw [h'] at hc; simp at hc
theorem RAt.ne (h : RAt w p a b rows puts D) : ¬ a.blk p∧¬ b.blk p∧(∀ k,a.blk k→b.blk k→False):=by
 refine ⟨fun e=>?_,fun e=>?_,fun k e1 e2=>?_⟩
 ·obtain ⟨c,hc⟩:=h.sure.ty e; rw [h.blk] at hc; simp at hc
 ·obtain ⟨c,hc⟩:=h.waits.ty e; rw [h.blk] at hc; simp at hc
 ·obtain ⟨c,hc⟩:=h.sure.ty e1; obtain ⟨c',hc'⟩:=h.waits.ty e2; rw [hc] at hc'; simp at hc'
theorem RAt.lt (h : RAt w p a b rows puts D) {k : Nat} (hk : RAt.foot p a b k) : k < w.heap.size:=by
 rcases hk with rfl | hk | hk
 ·exact B_lt h.blk
 ·exact h.sure.lt hk
 ·exact h.waits.lt hk
theorem Byt.lt {k : Nat} (h : Byt w k) : k < w.heap.size:=by obtain ⟨c,hc⟩:=h; exact B_lt hc
theorem RAt.fr {S : Nat→Prop} (h : RAt w p a b rows puts D) (hf : Fr S w w') (hg : ∀ k,RAt.foot p a b k→¬ S k) (hr : ∀ k,rowBlk rows puts k→¬ S k) : RAt w' p a b rows puts D :=
 ⟨h.wf,hf.B h.blk (hg _ (.inl rfl)),h.sure.fr hf (fun k hk=>hg _ (.inr (.inl hk))),h.waits.fr hf (fun k hk=>hg _ (.inr (.inr hk))),h.rl,h.pl,
  fun i s xs hs hx=>(h.rat i s xs hs hx).fr hf (fun k hk=>hr _ (.inl ⟨s,List.mem_of_getElem? hs,hk⟩)),
  fun i x y hx hy=>⟨(h.pat i x y hx hy).1,(h.pat i x y hx hy).2.fr hf (fun k hk=>hr _ (.inr ⟨x,List.mem_of_getElem? hx,hk⟩))⟩⟩
theorem RowAt.fr {S : Nat→Prop} {s : Sl} {xs : List Int} (h : RowAt w s xs) (hf : Fr S w w') (hs : ∀ k,S k→¬ Byt w k) : RowAt w' s xs :=
 Own.fr h hf fun k hk hS=>hs k hS (Own.ty h hk)
theorem RAt.one (h : RAt w p a b rows puts D) {D' : Dk} (ho : One p w w') (hb : B w' p = some (rkC a b D'.left D'.down D'.age,115)) (hS : D'.S = D.S) (hW : D'.W = D.W) (hwf : D'.Wf) : RAt w' p a b rows puts D':=by
 have hne:=h.ne
 have hr : ∀ k,rowBlk rows puts k→¬ k = p:=fun k hk e=>h.foot_ty (.inl e) (h.byt hk)
 refine ⟨hwf,hb,ho.own h.sure hne.1,ho.own h.waits hne.2.1,by rw [hS]; exact h.rl,by rw [hW]; exact h.pl,?_,?_⟩
 ·intro i s xs hs hx
  rw [hS] at hx
  exact ho.own (h.rat i s xs hs hx) (fun hk=>hr p (.inl ⟨s,List.mem_of_getElem? hs,hk⟩) rfl)
 ·intro i x y hx hy
  rw [hW] at hy
  exact ⟨(h.pat i x y hx hy).1,ho.own (h.pat i x y hx hy).2 (fun hk=>hr p (.inr ⟨x,List.mem_of_getElem? hx,hk⟩) rfl)⟩
theorem rread0 (h : RAt w p a b rows puts D) : ldL w ⟨p,0,none⟩ = some a:=ldL_B h.blk rfl
theorem rread1 (h : RAt w p a b rows puts D) : ldL w ⟨p,1,none⟩ = some b:=ldL_B h.blk rfl
theorem rread2 (h : RAt w p a b rows puts D) : ldI .i64 w ⟨p,2,none⟩ = some D.left:=ldI_B h.blk rfl
theorem rread3 (h : RAt w p a b rows puts D) : ldB w ⟨p,3,none⟩ = some D.down:=ldB_B h.blk rfl
theorem rread4 (h : RAt w p a b rows puts D) : ldI .i64 w ⟨p,4,none⟩ = some D.age:=ldI_B h.blk rfl
theorem rtrips_ok (h : RAt w p a b rows puts D) : ∃ w',grapevineref09_Disk_trips (some ⟨p,0,none⟩) w = some (D.trips.1,w')∧RAt w' p a b rows puts D.trips.2∧One p w w':=by
 unfold grapevineref09_Disk_trips
 simp only [Option.bind_some,add_mk,Nat.zero_add,rread2 h]
 have l0:=h.wf.l0
 by_cases h0 : D.left = 0
 ·exact ⟨w,by simp [h0,Dk.trips],by simpa [h0,Dk.trips] using h,One.refl⟩
 ·have e0 : decide (0 < D.left) = true:=by simp; omega
  have hw : IntKind.wrap .i64 (D.left - 1) = D.left - 1:=by rw [IntKind.wrap_i64]; have:=h.wf.l1; omega
  obtain ⟨w1,e1,b1,o1⟩:=stV_s (o:=2) (v:=.int .i64 (D.left - 1)) h.blk (by simp [rkC]) rfl
  obtain ⟨w2,e2,b2,o2⟩:=stV_s (o:=3) (v:=.bool (D.left - 1 == 0)) b1 (by simp [rkC]) rfl
  have l1 : ldI .i64 w1 ⟨p,2,none⟩ = some (D.left - 1):=ldI_B b1 rfl
  have l2 : ldB w2 ⟨p,3,none⟩ = some (D.left - 1 == 0):=ldB_B b2 rfl
  refine ⟨w2,?_,h.one (o1.trans o2) ?_ (trips_S D) (trips_W D) h.wf.trips,o1.trans o2⟩
  ·simp only [e0,if_true,hw,e1,l1,e2,l2,Option.bind_some,Dk.trips,if_neg h0]
  ·rw [b2]; simp only [Dk.trips,if_neg h0]; rfl
theorem rhas_ok {i : Int} (h : RAt w p a b rows puts D) : grapevineref09_Disk_has (some ⟨p,0,none⟩) i w = some (!D.bad i,w):=by
 unfold grapevineref09_Disk_has Dk.bad
 simp only [Option.bind_some,add_mk,Nat.zero_add,rread0 h,h.an]
 by_cases h0 : i < 0
 ·have : ¬ (0≤i):=by omega
  simp [h0,this]
 ·have : 0≤i:=by omega
  by_cases h1 : (D.S.length : Int)≤i
  ·have h2 : ¬ i < (D.S.length : Int):=by omega
   simp [this,h1,h2]
  ·have h2 : i < (D.S.length : Int):=by omega
   simp [this,h0,h1,h2]
theorem rtrip_ok {m : Int} (h : RAt w p a b rows puts D) (hm : m≤9223372036854775807) : ∃ w',grapevineref09_Disk_Trip (some ⟨p,0,none⟩) m w = some ((D.trip m).1,w')∧RAt w' p a b rows puts (D.trip m).2∧One p w w':=by
 unfold grapevineref09_Disk_Trip Dk.trip
 simp only [Option.isNone_some,Bool.false_eq_true,if_false,Option.bind_some,add_mk,Nat.zero_add,rread3 h]
 by_cases hd : D.down = true
 ·exact ⟨w,by simp [hd],by simpa [hd] using h,One.refl⟩
 by_cases h0 : m < 0
 ·exact ⟨w,by simp [hd,h0],by simpa [hd,h0] using h,One.refl⟩
 obtain ⟨w1,e1,b1,o1⟩:=stV_s (o:=2) (v:=.int .i64 m) h.blk (by simp [rkC]) rfl
 refine ⟨w1,by simp [hd,h0,e1],?_,o1⟩
 simp only [hd,h0,if_false,Bool.false_eq_true]
 refine h.one o1 ?_ rfl rfl ⟨h.wf.s64,h.wf.w64,h.wf.wat,by simp only; omega,by simp only; omega,h.wf.n⟩
 have hd' : D.down = false:=by simpa using hd
 rw [b1]; simp [rkC,hd']
theorem rowcopy_ok {s : Sl} {xs : List Int} (h : Rd w s 1 (nums .u8 xs)) (hb : s.n≤140737488355328) :
  ∃ w1 o w',bsl w 5 1 [] = some (⟨some ⟨w.heap.size,0,none⟩,0,0⟩,w1)∧apS Try.prog 72 ⟨some ⟨w.heap.size,0,none⟩,0,0⟩ s w1 = some (o,w')∧RowAt w' o xs∧(∀ k,o.blk k→w.heap.size≤k)∧(∀ S,Fr S w w1)∧(∀ S,Fr S w w'):=by
 obtain ⟨w1,e1,n1⟩:=bsl_s (w:=w) (T:=5) (sz:=1) (ps:=[]) (by simp)
 have o1 : Own w1 5 ⟨some ⟨w.heap.size,0,none⟩,0,0⟩ 1 []:=Own.of_new (by simpa using n1) (by simp) (by omega)
 have f1 : ∀ S,Fr S w w1:=fun S=>(n1.fr _ S (Nat.le_refl _)).fr
 obtain ⟨s',w2,e2,o2,f2,n2,k2⟩:=apS_own st29 o1 (h.fr (f1 (fun _=>False)) (fun _ _ _ h=>h)) nums_one (by simpa using hb)
 have hblk : ∀ k,s'.blk k→w.heap.size≤k:=fun k hk=>(k2 k hk).elim (fun ⟨a,ha,hk⟩=>by cases ha; exact Nat.le_of_eq hk) (fun h=>by have:=n1.size; omega)
 refine ⟨w1,s',w2,e1,e2,by simpa [RowAt] using o2,hblk,f1,fun S=>(f1 S).trans_new f2 (fun i hi=>by obtain ⟨a,ha,hk⟩:=hi; cases ha; exact .inr (Nat.le_of_eq hk))⟩
theorem flatR_set {i : Nat} {s : Sl} (hi : i < rows.length) : (flatR rows).set i s.v = flatR (rows.set i s):=by
 have : ∀ l : List Sl,flatR l = l.map Sl.v:=fun l=>by induction l with | nil=>rfl | cons x l ih=>simp only [flatR,List.flatMap_cons,List.map_cons] at ih ⊢; rw [ih]; rfl
 rw [this,this,List.map_set]
theorem flatR_get {i : Nat} {s : Sl} (hi : rows[i]? = some s) : (flatR rows)[i]? = some s.v:=by
 have : ∀ l : List Sl,flatR l = l.map Sl.v:=fun l=>by induction l with | nil=>rfl | cons x l ih=>simp only [flatR,List.flatMap_cons,List.map_cons] at ih ⊢; rw [ih]; rfl
 rw [this,List.getElem?_map,hi]; rfl
theorem addr0 (ad : Addr) : ad.add 0 = ad:=by simp [Addr.add]
theorem rix_ok (h : RAt w p a b rows puts D) {i : Int} (hi : D.bad i = false) : ∃ g s xs rest,a.p = some ⟨g,0,none⟩∧B w g = some (flatR rows ++ rest,72)∧ix a i 1 = some ⟨g,i.toNat,none⟩∧ldL w ⟨g,i.toNat,none⟩ = some s∧rows[i.toNat]? = some s∧D.S[i.toNat]? = some xs∧xs = D.S.getD i.toNat []∧xs.length = 64∧RowAt w s xs:=by
 have hb : ¬ i < 0∧¬ (D.S.length : Int)≤i:=by simpa [Dk.bad] using hi
 have hn : i.toNat < D.S.length:=by omega
 have hr : i.toNat < rows.length:=by rw [h.rl]; exact hn
 have han:=h.an
 rcases h.sure.h with ⟨_,h0,_⟩ | ⟨g,rest,hp,hB,_⟩
 ·omega
 have hs:=List.getElem?_eq_getElem hr
 have hx:=List.getElem?_eq_getElem hn
 refine ⟨g,rows[i.toNat],D.S[i.toNat],rest,hp,hB,?_,?_,hs,hx,?_,h.wf.s64 _ (List.getElem_mem hn),h.rat _ _ _ hs hx⟩
 ·unfold ix
  rw [hp,Option.bind_some,if_pos (by omega),add_mk]; simp
 ·refine ldL_B hB ?_
  rw [List.getElem?_append_left (by rw [flatR_len]; exact hr)]
  exact flatR_get hs
 ·rw [List.getD_eq_getElem?_getD,hx]; rfl
theorem rput_ok {x : Int} {s : Sl} {xs : List Int} {m : Nat} (h : RAt w p a b rows puts D) (hs : RowAt w s xs) (hx : xs.length = 64) (hi : D.bad x = false) (hm : m≤64) :
  ∃ w' o,grapevineref09_Disk_put (some ⟨p,0,none⟩) [.int .i64 x,s.v] (m : Int) w = some w'∧RAt w' p a b (rows.set x.toNat o) puts { D with S:=putS D.S (x,xs) m }∧Fr (fun k=>a.blk k) w w'∧(∀ k,o.blk k→w.heap.size≤k):=by
 have hns : s.n = 64:=by have:=hs.len; simp at this; omega
 obtain ⟨w1,e1,n1⟩:=mk_s (w:=w) (T:=172) (cs:=[.int .i64 x,s.v])
 have f1 : ∀ S,Fr S w w1:=fun S=>(n1.fr _ S (Nat.le_refl _)).fr
 have hF : ∀ k : Nat,¬ (fun _ : Nat=>False) k:=fun _ h=>h
 have h1:=h.fr (f1 (fun _=>False)) (fun _ _ h=>h) (fun _ _ h=>h)
 have hs1 : RowAt w1 s xs:=Own.fr hs (f1 (fun _=>False)) (fun _ _ h=>h)
 obtain ⟨w2,e2,n2⟩:=bsl_s (w:=w1) (T:=5) (sz:=1) (ps:=[]) (by simp)
 have f2 : ∀ S,Fr S w1 w2:=fun S=>(n2.fr _ S (Nat.le_refl _)).fr
 have h2:=h1.fr (f2 (fun _=>False)) (fun _ _ h=>h) (fun _ _ h=>h)
 have hs2 : RowAt w2 s xs:=Own.fr hs1 (f2 (fun _=>False)) (fun _ _ h=>h)
 have o2 : Own w2 5 ⟨some ⟨w1.heap.size,0,none⟩,0,0⟩ 1 []:=Own.of_new (by simpa using n2) (by simp) (by omega)
 have z1:=n1.size
 have z2:=n2.size
 have b2 : B w2 w.heap.size = some ([.int .i64 x,s.v],172):=by rw [n2.old _ (by omega)]; exact n1.b
 have l2 : ldL w2 ⟨w.heap.size,1,none⟩ = some s:=ldL_B b2 rfl
 obtain ⟨s9,e9,r9,n9,c9⟩:=slS_rdZ (lo:=0) (hi:=m) hs2.rd (by omega) (by omega) hs2.cap
 simp only [Int.ofNat_zero,List.drop_zero,Nat.sub_zero] at e9 r9 n9
 have t9 : (nums .u8 xs).take m = nums .u8 (xs.take m):=by simp [nums,List.map_take]
 rw [t9] at r9
 obtain ⟨s11,w3,e3,o3,f3,n3,k3⟩:=apS_own st29 o2 r9 nums_one (by simp only [n9]; omega)
 simp only [List.nil_append,Nat.zero_add] at o3 n3
 have f3' : ∀ S,Fr S w w3:=fun S=>((f1 S).trans (f2 S)).trans_new f3 (fun i hi=>by have:=blk_eq hi; right; omega)
 have k3' : ∀ k,s11.blk k→w.heap.size < k:=fun k hk=>(k3 k hk).elim (fun hk=>by have:=blk_eq hk; omega) (fun h=>by omega)
 have b3 : B w3 w.heap.size = some ([.int .i64 x,s.v],172):=f3.B b2 (by rintro ⟨a,ha,hk⟩; cases ha; simp only at hk; omega)
 obtain ⟨w4,e4,d4,g4,z4,_⟩:=dr_s (w:=w3)
 have f4 : ∀ S,Fr S w w4:=fun S=>(f3' S).trans (g4 w3.heap.size S).fr
 have h4:=h.fr (f4 (fun _=>False)) (fun _ _ h=>h) (fun _ _ h=>h)
 have b4:=(d4 w.heap.size).trans b3
 have o4 : Own w4 5 s11 1 (nums .u8 (xs.take m)):=o3.fr (g4 w3.heap.size (fun _=>False)).fr (fun _ _ h=>h)
 obtain ⟨g,q,ys,rest,hp,hB,i4,l4,hr,hS,hys,ly,hq⟩:=rix_ok h4 hi
 have i0 : ldI .i64 w4 ⟨w.heap.size,0,none⟩ = some x:=ldI_B b4 rfl
 have hqn : q.n = 64:=by have:=hq.len; simp at this; omega
 obtain ⟨s30,e30,r30,n30,c30⟩:=slS_rdZ (lo:=m) (hi:=q.n) hq.rd (by omega) (by omega) hq.cap
 have t30 : ((nums .u8 ys).drop m).take (q.n - m) = nums .u8 (ys.drop m):=by
  rw [show (nums .u8 ys).drop m = nums .u8 (ys.drop m) by simp [nums,List.map_drop]]
  exact List.take_of_length_le (by simp; omega)
 rw [t30] at r30
 obtain ⟨s32,w5,e5,o5,f5,n5,k5⟩:=apS_own st29 o4 r30 nums_one (by omega)
 have hrow : RowAt w5 s32 (xs.take m ++ ys.drop m):=by
  unfold RowAt
  rw [show nums .u8 (xs.take m ++ ys.drop m) = nums .u8 (xs.take m) ++ nums .u8 (ys.drop m) by simp [nums]]
  exact o5
 have k5' : ∀ k,s32.blk k→w.heap.size < k:=fun k hk=>(k5 k hk).elim (k3' k) (fun h=>by have:=(f3' (fun _=>False)).size; have:=n1.size; have:=(f2 (fun _=>False)).size; have:=f3.size; omega)
 have f5' : ∀ S,Fr S w w5:=fun S=>(f4 S).trans_new f5 (fun i hi=>.inr (Nat.le_of_lt (k3' i hi)))
 have h5:=h.fr (f5' (fun _=>False)) (fun _ _ h=>h) (fun _ _ h=>h)
 have hB5 : B w5 g = some (flatR rows ++ rest,72):=by
  refine f5.B hB (fun hk=>?_)
  have:=k3' g hk
  have : g < w.heap.size:=by have:=h.sure.lt ⟨_,hp,rfl⟩; exact this
  omega
 have hxr : x.toNat < rows.length:=(List.getElem?_eq_some_iff.1 hr).1
 obtain ⟨w6,e6,b6,o6⟩:=stV_s (o:=x.toNat) (v:=s32.v) hB5 (by rw [List.length_append,flatR_len]; omega) rfl
 rw [List.set_append_left _ _ (by rw [flatR_len]; exact hxr),flatR_set hxr] at b6
 have hgb : a.blk g:=⟨_,hp,rfl⟩
 have hgp : p≠g:=fun e=>h.ne.1 (e ▸ hgb)
 have hglt : g < w.heap.size:=h.sure.lt hgb
 have hS' : (putS D.S (x,xs) m) = D.S.set x.toNat (xs.take m ++ ys.drop m):=by simp only [putS]; rw [← hys]
 refine ⟨w6,s32,?_,⟨?_,?_,?_,?_,?_,h.pl,?_,?_⟩,?_,fun k hk=>Nat.le_of_lt (k5' k hk)⟩
 ·unfold grapevineref09_Disk_put
  simp only [e1,bind2_some,e2,List.length_nil,add_mk,Nat.zero_add,l2,Option.bind_some,e9,e3,e4,rread0 h4,i0,i4,l4,e30,e5,e6]
  rw [chk_pos (rread0 h5),chk_pos]
  refine ldI_B (f5.B b4 (fun hk=>?_)) rfl
  have:=k3' _ hk; omega
 ·refine ⟨putS_64 h.wf.s64 hx hm (by simpa using (List.getElem?_eq_some_iff.1 hS).1),h.wf.w64,fun y hy=>by simp only [putS_length]; exact h.wf.wat y hy,h.wf.l0,h.wf.l1,by simp only [putS_length]; exact h.wf.n⟩
 ·rw [o6.B hgp]; exact h5.blk
 ·refine ⟨by rw [flatR_len,List.length_set,← flatR_len]; exact h.sure.len,h.sure.cap,h.sure.max,?_⟩
  rcases h5.sure.h with ⟨hp0,_⟩ | ⟨g',rest',hp',hB',hl'⟩
  ·rw [hp0] at hp; cases hp
  ·rw [hp'] at hp; cases hp
   rw [hB'] at hB5
   simp only [Option.some.injEq,Prod.mk.injEq,and_true] at hB5
   have:=List.append_cancel_left hB5
   subst this
   exact .inr ⟨g,rest',hp',b6,hl'⟩
 ·exact o6.own h5.waits (fun hk=>h5.ne.2.2 g hgb hk)
 ·simp only [List.length_set,putS_length]; exact h.rl
 ·intro i s' xs' hi' hx'
  simp only [hS'] at hx'
  by_cases hxi : x.toNat = i
  ·subst hxi
   rw [List.getElem?_set_self hxr] at hi'
   rw [List.getElem?_set_self (List.getElem?_eq_some_iff.1 hS).1] at hx'
   cases hi'; cases hx'
   exact o6.own hrow (fun hk=>by have:=k5' g hk; omega)
  ·rw [List.getElem?_set_ne hxi] at hi' hx'
   have:=h5.rat i s' xs' hi' hx'
   exact o6.own this (fun hk=>h5.foot_ty (.inr (.inl hgb)) (h5.byt (.inl ⟨s',List.mem_of_getElem? hi',hk⟩)))
 ·intro i x' y' hx' hy'
  have:=h5.pat i x' y' hx' hy'
  exact ⟨this.1,o6.own this.2 (fun hk=>h5.foot_ty (.inr (.inl hgb)) (h5.byt (.inr ⟨x',List.mem_of_getElem? hx',hk⟩)))⟩
 ·exact (f5' _).trans (o6.fr hgb)
theorem rowBlk_set {i : Nat} {o : Sl} {k : Nat} (h : rowBlk (rows.set i o) puts k) : rowBlk rows puts k∨o.blk k:=by
 rcases h with ⟨s,hs,hk⟩ | h
 ·rcases List.mem_or_eq_of_mem_set hs with h | rfl
  ·exact .inl (.inl ⟨s,h,hk⟩)
  ·exact .inr hk
 ·exact .inl (.inr h)
theorem rput_at (h : RAt w p a b rows puts D) {n : Nat} (hn : n < D.W.length) : ∃ ad s,ix b (n : Int) 2 = some ad∧ldA 2 w ad 0 = some [.int .i64 D.W[n].1,s.v]∧ldI .i64 w (ad.add 0) = some D.W[n].1∧ldL w (ad.add 1) = some s∧RowAt w s D.W[n].2∧puts[n]? = some (D.W[n].1,s):=by
 have hp : n < puts.length:=by rw [h.pl]; exact hn
 have hpn:=List.getElem?_eq_getElem hp
 obtain ⟨e1,hr⟩:=h.pat n _ _ hpn (List.getElem?_eq_getElem hn)
 obtain ⟨ad,ea,la,ca,_⟩:=rd_at (i:=n) h.waits.rd (by rw [h.bn]; exact hn)
 have hc : ((flatP puts).drop (n * 2)).take 2 = [.int .i64 puts[n].1,puts[n].2.v]:=chunk (f:=fun x : Int×Sl=>[.int .i64 x.1,x.2.v]) puts n (fun _ _=>rfl) hp
 rw [hc,e1] at la
 have hj : ∀ (j : Nat) v,j < 2→([Value.int .i64 puts[n].1,puts[n].2.v] : List Value)[j]? = some v→w.cell? (ad.add j) = some v:=by
  intro j v hj hv
  refine ca j v hj ?_
  rw [← hc,List.getElem?_take,if_pos hj,List.getElem?_drop] at hv
  exact hv
 refine ⟨ad,puts[n].2,ea,la,ldI_cell ?_,ldL_cell (hj 1 _ (by omega) rfl),hr,?_⟩
 ·have:=hj 0 _ (by omega) rfl; rw [e1] at this; exact this
 ·rw [hpn]; congr 1; exact Prod.ext e1 rfl
theorem rsync_loop (hW : D.W.length < 1000000) :
  ∀ (suf pre : List (Int×List Int)) (rows : List Sl) (S : List (List Int)) (w : World),D.W = pre ++ suf→RAt w p a b rows puts { D with S:=S } →
   ∃ w' rows',loopF (fun r : Int×World=>grapevineref09_Disk_Sync_l1 (some ⟨p,0,none⟩) r.1 r.2) ((pre.length : Int),w) = some w'∧RAt w' p a b rows' puts { D with S:=suf.foldl (fun S x=>putS S x 64) S }∧Fr (fun k=>a.blk k) w w'∧(∀ k,rowBlk rows' puts k→rowBlk rows puts k∨w.heap.size≤k):=by
 intro suf
 induction suf with
 | nil =>
  intro pre rows S w hpre h
  refine ⟨w,rows,loopF_done ?_,h,Fr.refl,fun k hk=>.inl hk⟩
  have : D.W.length = pre.length:=by rw [hpre]; simp
  have hb:=h.bn
  simp only at hb
  simp [grapevineref09_Disk_Sync_l1,add_mk,rread1 h,hb,this]
 | cons x suf ih =>
  intro pre rows S w hpre h
  have hlen : pre.length < D.W.length:=by rw [hpre]; simp
  have hg : D.W[pre.length] = x:=by simp [hpre]
  obtain ⟨ad,s,ea,la,_,_,hrow,_⟩:=rput_at h (n:=pre.length) hlen
  simp only [hg] at la hrow
  have hxW : x∈D.W:=by rw [hpre]; simp
  have hwat:=h.wf.wat x hxW
  simp only at hwat
  have hbad : ({ D with S:=S } : Dk).bad x.1 = false:=by simp [Dk.bad]; omega
  obtain ⟨w1,o,e1,h1,f1,k1⟩:=rput_ok (m:=64) h hrow (h.wf.w64 x hxW) hbad (Nat.le_refl _)
  obtain ⟨w2,rows2,e2,h2,f2,k2⟩:=ih (pre ++ [x]) _ _ w1 (by rw [hpre]; simp) h1
  refine ⟨w2,rows2,?_,h2,f1.trans f2,fun k hk=>?_⟩
  ·rw [← e2,show ((pre ++ [x]).length : Int) = ((pre.length + 1 : Nat) : Int) by simp]
   refine loopF_next ?_
   have hlt : (pre.length : Int) < (b.n : Int):=by have hb:=h.bn; simp only at hb; omega
   have e1' : grapevineref09_Disk_put (some ⟨p,0,none⟩) [.int .i64 x.1,s.v] 64 w = some w1:=e1
   simp only [grapevineref09_Disk_Sync_l1,Option.bind_some,add_mk,Nat.zero_add,rread1 h,hlt,decide_true,if_true,ea,la,e1']
   rw [wrap_nat (by omega)]
  ·rcases k2 k hk with h' | h'
   ·rcases rowBlk_set h' with h' | h'
    ·exact .inl h'
    ·exact .inr (k1 k h')
   ·exact .inr (Nat.le_trans f1.size h')
theorem RAt.pend (h : RAt w p a b rows puts D) {D' : Dk} (ho : One p w w') (hb : B w' p = some (rkC a Sl.nil D'.left D'.down D'.age,115)) (hS : D'.S = D.S) (hW : D'.W = []) (hwf : D'.Wf) : RAt w' p a Sl.nil rows [] D':=by
 have hne:=h.ne
 refine ⟨hwf,hb,ho.own h.sure hne.1,Own.nil,by rw [hS]; exact h.rl,by rw [hW]; rfl,?_,?_⟩
 ·intro i s xs hs hx
  rw [hS] at hx
  exact ho.own (h.rat i s xs hs hx) (fun hk=>h.foot_ty (.inl rfl) (h.byt (.inl ⟨s,List.mem_of_getElem? hs,hk⟩)))
 ·intro i x y hx; simp at hx
theorem rsync_ok (h : RAt w p a b rows puts D) (hbd : D.W.length < 1000000) :
  ∃ w' b' rows' puts',grapevineref09_Disk_Sync (some ⟨p,0,none⟩) w = some (D.sync.1,w')∧RAt w' p a b' rows' puts' D.sync.2∧Fr (RAt.foot p a b) w w'∧(∀ k,b'.blk k→b.blk k)∧(∀ k,rowBlk rows' puts' k→rowBlk rows puts k∨w.heap.size≤k):=by
 unfold grapevineref09_Disk_Sync Dk.sync
 simp only [Option.isNone_some,Bool.false_eq_true,if_false,Option.bind_some,add_mk,Nat.zero_add,rread3 h]
 by_cases hd : D.down = true
 ·exact ⟨w,b,rows,puts,by simp [hd],by simpa [hd] using h,Fr.refl,fun k hk=>hk,fun k hk=>.inl hk⟩
 ·obtain ⟨w1,e1,h1,o1⟩:=rtrips_ok h
  simp only [hd,Bool.false_eq_true,if_false,e1,bind2_some]
  by_cases ht : D.trips.1 = true
  ·simp only [ht,if_true]
   exact ⟨w1,b,rows,puts,rfl,h1,o1.fr (.inl rfl),fun k hk=>hk,fun k hk=>.inl hk⟩
  ·simp only [ht,Bool.false_eq_true,if_false]
   obtain ⟨w2,rows2,e2,h2,f2,k2⟩:=rsync_loop (D:=D.trips.2) (by rw [trips_W]; exact hbd) D.trips.2.W [] rows D.trips.2.S w1 rfl h1
   simp only [List.length_nil,Int.ofNat_zero] at e2
   obtain ⟨w3,e3,b3,o3⟩:=stV_s (o:=1) (v:=Sl.nil.v) h2.blk (by simp [rkC]) rfl
   have e2' : loopF (fun s_1 : Int×World=>grapevineref09_Disk_Sync_l1 (some ⟨p,0,none⟩) s_1.1 s_1.2) (0,w1) = some w2:=e2
   refine ⟨w3,Sl.nil,rows2,[],?_,h2.pend o3 ?_ ?_ rfl ⟨?_,by simp,by simp,h1.wf.l0,h1.wf.l1,?_⟩,?_,fun k hk=>?_,fun k hk=>?_⟩
   ·simp only [e2',Option.bind_some,e3]
   ·rw [b3]; rfl
   ·simp only [trips_S,trips_W]
   ·have:=h2.wf.s64; simpa only [trips_S,trips_W] using this
   ·have:=h2.wf.n; simpa only [trips_S,trips_W] using this
   ·exact ((o1.fr (S:=RAt.foot p a b) (.inl rfl)).trans (f2.mono fun i hi=>.inl (.inr (.inl hi)))).trans (o3.fr (.inl rfl))
   ·obtain ⟨a,ha,_⟩:=hk; cases ha
   ·have hk' : rowBlk rows2 puts k:=hk.elim .inl (fun ⟨x,hx,_⟩=>by cases hx)
    exact (k2 k hk').elim .inl (fun h=>.inr (by rw [← o1.size]; exact h))
theorem row_new {w2 : World} {o : Sl} {xs : List Int} (hr : RowAt w2 o xs) (hk : ∀ k,o.blk k→w.heap.size≤k) (hf : ∀ S,Fr S w w2) : Row w w2 o xs :=
 ⟨⟨_,hr⟩,fun a ha=>hk _ ⟨a,ha,rfl⟩,hf⟩
theorem rsure_ok {i : Int} (h : RAt w p a b rows puts D) : ∃ o w',grapevineref09_Disk_Sure (some ⟨p,0,none⟩) i w = some (o,(D.sure i).2,w')∧Row w w' o (D.sure i).1:=by
 unfold grapevineref09_Disk_Sure Dk.sure
 simp only [Option.isNone_some,Bool.false_eq_true,if_false,rhas_ok h,bind2_some]
 by_cases hi : D.bad i = true
 ·simp only [hi,Bool.not_true,Bool.not_false,if_true]
  exact ⟨_,_,rfl,Row.none⟩
 ·have hi' : D.bad i = false:=by simpa using hi
  obtain ⟨g,s,xs,rest,hp,hB,e1,e2,hr,hS,hx,lx,hrow⟩:=rix_ok h hi'
  have hsn : s.n = 64:=by have:=hrow.len; simp at this; omega
  obtain ⟨w1,o,w2,b1,b2,b3,b4,f1,f2⟩:=rowcopy_ok hrow.rd (by omega)
  have h1:=h.fr (f1 (fun _=>False)) (fun _ _ h=>h) (fun _ _ h=>h)
  have e2' : ldL w1 ⟨g,i.toNat,none⟩ = some s:=by
   refine ldL_B ((f1 (fun _=>False)).B hB id) ?_
   rw [List.getElem?_append_left (by rw [flatR_len]; exact (List.getElem?_eq_some_iff.1 hr).1)]
   exact flatR_get hr
  simp only [hi',Bool.not_false,Bool.not_true,Bool.false_eq_true,if_false,b1,bind2_some,Option.bind_some,add_mk,Nat.zero_add,rread0 h1,e1,e2',b2]
  rw [← hx]
  exact ⟨_,_,rfl,row_new b3 b4 f2⟩
theorem rread_loop {i : Int} (h : RAt w p a b rows puts D) (hbd : D.W.length < 1000000) :
  ∀ (suf pre : List (Int×List Int)) (s : Sl) (xs : List Int),D.W = pre ++ suf→RowAt w s xs→xs.length = 64 →
   ∃ s' xs',loopF (fun r : Sl×Int×World=>grapevineref09_Disk_Read_l1 (some ⟨p,0,none⟩) i r.1 r.2.1 r.2.2) (s,(pre.length : Int),w) = some (s',w)∧RowAt w s' xs'∧xs' = suf.foldl (fun b x=>if x.1 = i then x.2 else b) xs∧xs'.length = 64:=by
 intro suf
 induction suf with
 | nil =>
  intro pre s xs hpre hr hx
  refine ⟨s,xs,loopF_done ?_,hr,rfl,hx⟩
  have : D.W.length = pre.length:=by rw [hpre]; simp
  have hb:=h.bn
  simp [grapevineref09_Disk_Read_l1,add_mk,rread1 h,hb,this]
 | cons x suf ih =>
  intro pre s xs hpre hr hx
  have hlen : pre.length < D.W.length:=by rw [hpre]; simp
  have hg : D.W[pre.length] = x:=by simp [hpre]
  obtain ⟨ad,q,ea,_,i1,i2,hrow,_⟩:=rput_at h (n:=pre.length) hlen
  simp only [hg] at i1 hrow
  have hxW : x∈D.W:=by rw [hpre]; simp
  have hlt : (pre.length : Int) < (b.n : Int):=by have hb:=h.bn; omega
  by_cases hc : x.1 = i
  ·obtain ⟨s',xs',e',r',f',l'⟩:=ih (pre ++ [x]) q x.2 (by rw [hpre]; simp) hrow (h.wf.w64 x hxW)
   refine ⟨s',xs',?_,r',by rw [f',List.foldl_cons,if_pos hc],l'⟩
   rw [← e',show ((pre ++ [x]).length : Int) = ((pre.length + 1 : Nat) : Int) by simp]
   refine loopF_next ?_
   simp only [grapevineref09_Disk_Read_l1,Option.bind_some,add_mk,Nat.zero_add,rread1 h,hlt,decide_true,if_true,ea,i1,i2,hc,beq_self_eq_true,bind2_some]
   rw [wrap_nat (by omega)]
  ·obtain ⟨s',xs',e',r',f',l'⟩:=ih (pre ++ [x]) s xs (by rw [hpre]; simp) hr hx
   refine ⟨s',xs',?_,r',by rw [f',List.foldl_cons,if_neg hc],l'⟩
   rw [← e',show ((pre ++ [x]).length : Int) = ((pre.length + 1 : Nat) : Int) by simp]
   refine loopF_next ?_
   have hc' : (x.1 == i) = false:=by simpa using hc
   simp only [grapevineref09_Disk_Read_l1,Option.bind_some,add_mk,Nat.zero_add,rread1 h,hlt,decide_true,if_true,ea,i1,hc',Bool.false_eq_true,if_false,bind2_some]
   rw [wrap_nat (by omega)]
theorem rread_ok {i : Int} (h : RAt w p a b rows puts D) (hbd : D.W.length < 1000000) : ∃ o w',grapevineref09_Disk_Read (some ⟨p,0,none⟩) i w = some (o,(D.read i).2,w')∧Row w w' o (D.read i).1:=by
 unfold grapevineref09_Disk_Read Dk.read
 simp only [Option.isNone_some,Bool.false_eq_true,if_false,Option.bind_some,add_mk,Nat.zero_add,rread3 h,rhas_ok h,bind2_some]
 by_cases hd : D.down = true
 ·simp only [hd,if_true]
  exact ⟨_,_,rfl,Row.none⟩
 simp only [hd,Bool.false_eq_true,if_false]
 by_cases hi : D.bad i = true
 ·simp only [hi,Bool.not_true,Bool.not_false,if_true]
  exact ⟨_,_,rfl,Row.none⟩
 ·have hi' : D.bad i = false:=by simpa using hi
  obtain ⟨g,s,xs,rest,hp,hB,e1,e2,hr,hS,hx,lx,hrow⟩:=rix_ok h hi'
  obtain ⟨s',xs',e3,r3,hx',lx'⟩:=rread_loop (i:=i) h hbd D.W [] s xs rfl hrow lx
  simp only [List.length_nil,Int.ofNat_zero] at e3
  have hsn : s'.n = 64:=by have:=r3.len; simp at this; omega
  obtain ⟨w1,o,w2,b1,b2,b3,b4,f1,f2⟩:=rowcopy_ok r3.rd (by omega)
  simp only [hi',Bool.not_false,Bool.not_true,Bool.false_eq_true,if_false,rread0 h,Option.bind_some,e1,e2]
  rw [e3,bind2_some,b1,bind2_some,b2,bind2_some]
  have hcur : D.cur i = xs':=by rw [hx',hx,Dk.cur]
  refine ⟨o,w2,rfl,?_⟩
  rw [hcur]
  exact row_new b3 b4 f2
theorem u8_one : ∀ v∈[Value.int .u8 0],v.oneCell' = true:=by intro v hv; simp at hv; subst hv; rfl
theorem put_one {x : Int} {s : Sl} : ∀ v∈[Value.int .i64 x,s.v],v.oneCell' = true:=by
 intro v hv; simp only [List.mem_cons,List.not_mem_nil,or_false] at hv; rcases hv with rfl | rfl <;> rfl
theorem RAt.bytes (h : RAt w p a b rows puts D) {c : Sl} {bs : List Int} (hb : Rd w c 1 (nums .u8 bs)) : ∀ ad,c.p = some ad→0 < c.n→ad.block≠p:=by
 intro ad ha hn e
 obtain ⟨a',ha',hc⟩:=hb.at_ hn
 rw [ha] at ha'; cases ha'
 have hl:=hb.len
 simp only [nums_length,Nat.mul_one] at hl
 have h0:=hc 0 (.int .u8 (bs[0]'(by omega))) (by rw [nums_get,List.getElem?_eq_getElem (by omega)]; rfl)
 rw [addr0] at h0
 obtain ⟨ab,ao,asp⟩:=ad
 simp only at e
 subst e
 simp only [World.cell?,B_heap.1 h.blk] at h0
 split at h0
 ·cases h0
 ·simp [rkC,Sl.v] at h0
  rcases ao with _ | _ | _ | _ | _ | ao <;> simp at h0
theorem rwrite_ok {i : Int} {c : Sl} {cs : List Int} (h : RAt w p a b rows puts D) (hb : Rd w c 1 (nums .u8 cs)) (hbd : D.W.length < 1000000) :
  ∃ w' b' puts',grapevineref09_Disk_Write (some ⟨p,0,none⟩) i c w = some ((D.write i cs).1,w')∧RAt w' p a b' rows puts' (D.write i cs).2∧Fr (RAt.foot p a b) w w'∧(∀ k,b'.blk k→b.blk k∨w.heap.size≤k)∧(∀ k,rowBlk rows puts' k→rowBlk rows puts k∨w.heap.size≤k):=by
 have hcn : cs.length = c.n:=by have:=hb.len; simpa using this
 unfold grapevineref09_Disk_Write Dk.write
 simp only [Option.isNone_some,Bool.false_eq_true,if_false,Option.bind_some,add_mk,Nat.zero_add,rread3 h,rhas_ok h,bind2_some]
 by_cases hd : D.down = true
 ·exact ⟨w,b,puts,by simp [hd],by simpa [hd] using h,Fr.refl,fun k hk=>.inl hk,fun k hk=>.inl hk⟩
 by_cases hi : D.bad i = true
 ·exact ⟨w,b,puts,by simp [hd,hi],by simpa [hd,hi] using h,Fr.refl,fun k hk=>.inl hk,fun k hk=>.inl hk⟩
 have hi' : D.bad i = false:=by simpa using hi
 by_cases hl : 64 < cs.length
 ·have : decide (64 < (c.n : Int)) = true:=by simp; omega
  exact ⟨w,b,puts,by simp [hd,hi',hl,this],by simpa [hd,hi',hl] using h,Fr.refl,fun k hk=>.inl hk,fun k hk=>.inl hk⟩
 have hl' : decide (64 < (c.n : Int)) = false:=by simp; omega
 obtain ⟨w1,e1,h1,o1⟩:=rtrips_ok h
 simp only [hd,hi',hl,hl',Bool.false_eq_true,if_false,Bool.not_false,Bool.not_true,e1,bind2_some]
 by_cases ht : D.trips.1 = true
 ·simp only [ht,if_true]
  exact ⟨w1,b,puts,rfl,h1,o1.fr (.inl rfl),fun k hk=>.inl hk,fun k hk=>.inl hk⟩
 simp only [ht,Bool.false_eq_true,if_false]
 have hb1 : Rd w1 c 1 (nums .u8 cs):=hb.fr (o1.fr (S:=fun k=>k = p) rfl) (fun ad hc h0 hk=>h.bytes hb ad hc h0 hk)
 obtain ⟨w2,o,w3,a1,a2,a3,a4,f2,f3⟩:=rowcopy_ok hb1 (by omega)
 have hon : o.n = cs.length:=by have:=a3.len; simp at this; omega
 obtain ⟨o4,w4,a5,a6,f4,a7,a8⟩:=apZ_own (m:=64 - cs.length) st29 (ti:=3) Try.underlying3 a3 u8_one (by rw [hon]; omega)
 have hwr : IntKind.wrap .i64 (64 - (c.n : Int)) = ((64 - cs.length : Nat) : Int):=by rw [IntKind.wrap_i64]; omega
 have hrow4 : RowAt w4 o4 (pad cs):=by
  unfold RowAt
  rw [zeros_u8] at a6
  rw [show nums .u8 (pad cs) = nums .u8 cs ++ nums .u8 (List.replicate (64 - cs.length) 0) by simp [nums,pad]]
  exact a6
 have f14 : ∀ S,Fr S w1 w4:=fun S=>(f3 S).trans_new f4 (fun k hk=>.inr (a4 k hk))
 have h4:=h1.fr (f14 (fun _=>False)) (fun _ _ h=>h) (fun _ _ h=>h)
 have k4 : ∀ k,o4.blk k→w1.heap.size≤k:=fun k hk=>(a8 k hk).elim (a4 k) (fun h=>Nat.le_trans (f3 (fun _=>False)).size h)
 obtain ⟨w5,a9,n5⟩:=bsl_s (w:=w4) (T:=172) (sz:=2) (ps:=[[.int .i64 i,o4.v]]) (by simp)
 have f5 : ∀ S,Fr S w4 w5:=fun S=>(n5.fr _ S (Nat.le_refl _)).fr
 have h5:=h4.fr (f5 (fun _=>False)) (fun _ _ h=>h) (fun _ _ h=>h)
 have hrow5 : RowAt w5 o4 (pad cs):=Own.fr hrow4 (f5 (fun _=>False)) (fun _ _ h=>h)
 have own5 : Own w5 172 ⟨some ⟨w4.heap.size,0,none⟩,1,1⟩ 2 [.int .i64 i,o4.v]:=by
  refine Own.of_new (w:=w4) ?_ rfl (by omega)
  simpa using n5
 obtain ⟨b',w6,a10,own6,f6,n6,k6⟩:=apS_own st93 h5.waits own5.rd put_one (by rw [h5.bn,trips_W]; simp only; omega)
 have hbp : ¬ b.blk p:=h5.ne.2.1
 have bp6:=f6.B h5.blk hbp
 obtain ⟨w7,a11,b7,o7⟩:=stV_s (o:=1) (v:=b'.v) bp6 (by simp [rkC]) rfl
 have z14:=(f14 (fun _=>False)).size
 have z45:=(f5 (fun _=>False)).size
 have z01 : w1.heap.size = w.heap.size:=o1.size
 have plt : p < w.heap.size:=B_lt h.blk
 have hb'p : ¬ b'.blk p:=fun hk=>(k6 p hk).elim hbp (fun h2=>by omega)
 have rowk : ∀ {s : Sl} {xs : List Int},RowAt w5 s xs→RowAt w7 s xs:=by
  intro s xs hr
  have h6 : RowAt w6 s xs:=Own.fr hr f6 (fun k hk hb=>by
   obtain ⟨c1,e1⟩:=Own.ty hr hk; obtain ⟨c2,e2⟩:=h5.waits.ty hb; rw [e1] at e2; simp at e2)
  refine o7.own h6 (fun hk=>?_)
  obtain ⟨c1,e1⟩:=Own.ty h6 hk; rw [bp6] at e1; simp at e1
 have hpl:=h5.pl
 rw [trips_W] at hpl
 refine ⟨w7,b',puts ++ [(i,o4)],?_,⟨?_,?_,?_,?_,?_,?_,?_,?_⟩,?_,fun k hk=>(k6 k hk).elim .inl (fun h=>.inr (by omega)),?_⟩
 ·rw [a1,bind2_some,a2,bind2_some,hwr,a5,bind2_some,rread1 h4,Option.bind_some,a9,bind2_some]
  simp only [List.length_cons,List.length_nil,Nat.zero_add]
  rw [a10,bind2_some,a11,Option.bind_some]
 ·refine ⟨?_,?_,?_,h.wf.trips.l0,h.wf.trips.l1,h.wf.trips.n⟩
  ·simp only [trips_S]; exact h.wf.s64
  ·intro x hx
   simp only [List.mem_append,List.mem_singleton] at hx
   rcases hx with hx | rfl
   ·exact h.wf.w64 x hx
   ·simp [pad]; omega
  ·intro x hx
   simp only [List.mem_append,List.mem_singleton,trips_S] at hx ⊢
   rcases hx with hx | rfl
   ·exact h.wf.wat x hx
   ·simp only [Dk.bad,Bool.or_eq_true,decide_eq_true_eq,not_or] at hi; omega
 ·rw [b7]; rfl
 ·exact o7.own (h5.sure.fr f6 (fun k hk hb=>h5.ne.2.2 k hk hb)) h5.ne.1
 ·have:=o7.own own6 hb'p
  rw [show flatP (puts ++ [(i,o4)]) = flatP puts ++ [.int .i64 i,o4.v] by simp [flatP]]
  exact this
 ·simp only; exact h5.rl
 ·simp only [List.length_append,List.length_singleton]; omega
 ·intro j s xs hs hx
  exact rowk (h5.rat j s xs hs hx)
 ·intro j x y hx hy
  simp only at hy
  by_cases hj : j < puts.length
  ·rw [List.getElem?_append_left hj] at hx
   rw [List.getElem?_append_left (by omega)] at hy
   have:=h5.pat j x y hx (by rw [trips_W]; exact hy)
   exact ⟨this.1,rowk this.2⟩
  ·rw [List.getElem?_append_right (by omega)] at hx hy
   have hj0 : j - puts.length = 0:=by have:=(List.getElem?_eq_some_iff.1 hx).1; simpa using this
   rw [← hpl] at hy
   rw [hj0] at hx hy
   simp at hx hy
   subst hx; subst hy
   exact ⟨rfl,rowk hrow5⟩
 ·refine (o1.fr (S:=RAt.foot p a b) (.inl rfl)).trans (((f14 _).trans (f5 _)).trans ((f6.mono fun k hk=>.inl (.inr (.inr hk))).trans (o7.fr (.inl rfl))))
 ·intro k hk
  rcases hk with h | ⟨x,hx,hk⟩
  ·exact .inl (.inl h)
  ·simp only [List.mem_append,List.mem_singleton] at hx
   rcases hx with hx | rfl
   ·exact .inl (.inr ⟨x,hx,hk⟩)
   ·exact .inr (by have:=k4 k hk; omega)
theorem rnew_loop {m : Nat} (hm : m≤512) :
  ∀ (d k : Nat) (a : Sl) (rows : List Sl) (w : World),k + d = m→B w p = some (rkC a Sl.nil 0 false 0,115)→Own w 72 a 1 (flatR rows)→rows.length = k→(∀ s∈rows,RowAt w s (List.replicate 64 0)) →
   ∃ w' a' rows',loopF (fun r : Int×World=>grapevineref09_New_l1 (m : Int) ⟨p,0,none⟩ r.1 r.2) ((k : Int),w) = some w'∧B w' p = some (rkC a' Sl.nil 0 false 0,115)∧Own w' 72 a' 1 (flatR rows')∧rows'.length = m∧(∀ s∈rows',RowAt w' s (List.replicate 64 0))∧Fr (fun k=>k = p∨a.blk k) w w'∧(∀ k,a'.blk k→a.blk k∨w.heap.size≤k)∧(∀ s∈rows',s∈rows∨∀ k,s.blk k→w.heap.size≤k):=by
 intro d
 induction d with
 | zero =>
  intro k a rows w hk hp ho hl hr
  refine ⟨w,a,rows,loopF_done ?_,hp,ho,by omega,hr,Fr.refl,fun k hk=>.inl hk,fun s hs=>.inl hs⟩
  have : ¬ (k : Int) < (m : Int):=by omega
  simp [grapevineref09_New_l1,this]
 | succ d ih =>
  intro k a rows w hk hp ho hl hr
  have han : a.n = k:=by have:=ho.len; rw [flatR_len,hl] at this; omega
  obtain ⟨w1,e1,d1,g1,z1,_⟩:=dr_s (w:=w)
  obtain ⟨w2,e2,n2⟩:=mkS_s (w:=w1) st29 (m:=64) (by omega) (by omega)
  have h64 : (64 : Int).toNat = 64:=rfl
  rw [h64] at e2 n2
  rw [zeros_u8] at n2
  have row2 : RowAt w2 ⟨some ⟨w1.heap.size,0,none⟩,64,64⟩ (List.replicate 64 0):=Own.of_new n2 (by simp only [nums_length,List.length_replicate]) (by omega)
  obtain ⟨w3,e3,n3⟩:=bsl_s (w:=w2) (T:=72) (sz:=1) (ps:=[[(⟨some ⟨w1.heap.size,0,none⟩,64,64⟩ : Sl).v]]) (by simp)
  have f2 : ∀ S,Fr S w w2:=fun S=>(g1 w.heap.size S).fr.trans (n2.fr _ S (Nat.le_refl _)).fr
  have f3 : ∀ S,Fr S w w3:=fun S=>(f2 S).trans (n3.fr _ S (Nat.le_refl _)).fr
  have row3 : RowAt w3 ⟨some ⟨w1.heap.size,0,none⟩,64,64⟩ (List.replicate 64 0):=Own.fr row2 (n3.fr _ (fun _=>False) (Nat.le_refl _)).fr (fun _ _ h=>h)
  have own3 : Own w3 72 ⟨some ⟨w2.heap.size,0,none⟩,1,1⟩ 1 [(⟨some ⟨w1.heap.size,0,none⟩,64,64⟩ : Sl).v]:=by
   refine Own.of_new (w:=w2) ?_ rfl (by omega)
   simpa using n3
  have ho3:=ho.fr (f3 (fun _=>False)) (fun _ _ h=>h)
  have hp3:=(f3 (fun _=>False)).B hp id
  obtain ⟨a',w4,e4,o4,f4,n4,k4⟩:=apS_own st92 ho3 own3.rd (by intro v hv; simp at hv; subst hv; rfl) (by simp only [han]; omega)
  have hap : ¬ a.blk p:=fun hk=>by obtain ⟨c,hc⟩:=ho.ty hk; rw [hp] at hc; simp at hc
  have hp4:=f4.B hp3 hap
  obtain ⟨w5,e5,b5,o5⟩:=stV_s (o:=0) (v:=a'.v) hp4 (by simp [rkC]) rfl
  have plt:=B_lt hp
  have ha'p : ¬ a'.blk p:=fun hk=>(k4 p hk).elim hap (fun h=>by have:=(f3 (fun _=>False)).size; omega)
  have own5:=o5.own o4 ha'p
  have rowk : ∀ {s : Sl} {xs : List Int},RowAt w3 s xs→RowAt w5 s xs:=by
   intro s xs hr
   have h4 : RowAt w4 s xs:=Own.fr hr f4 (fun k hk hb=>by
    obtain ⟨c1,e1⟩:=Own.ty hr hk; obtain ⟨c2,e2⟩:=ho3.ty hb; rw [e1] at e2; simp at e2)
   refine o5.own h4 (fun hk=>?_)
   obtain ⟨c1,e1⟩:=Own.ty h4 hk; rw [hp4] at e1; simp at e1
  obtain ⟨w',a2,rows2,e',b',own',l',r',f',k',q'⟩:=ih (k + 1) a' (rows ++ [⟨some ⟨w1.heap.size,0,none⟩,64,64⟩]) w5 (by omega) (by rw [b5]; rfl)
   (by rw [show flatR (rows ++ [⟨some ⟨w1.heap.size,0,none⟩,64,64⟩]) = flatR rows ++ [(⟨some ⟨w1.heap.size,0,none⟩,64,64⟩ : Sl).v] by simp [flatR]]; exact own5) (by simp [hl]) (fun s hs=>by
    simp only [List.mem_append,List.mem_singleton] at hs
    rcases hs with hs | rfl
    ·exact rowk (Own.fr (hr s hs) (f3 (fun _=>False)) (fun _ _ h=>h))
    ·exact rowk row3)
  have zz : w.heap.size≤w5.heap.size:=by have:=(f3 (fun _=>False)).size; have:=f4.size; have:=o5.size; omega
  have f35 : Fr (fun k=>k = p∨a.blk k) w w5:=(f3 _).trans ((f4.mono fun k hk=>.inl (.inr hk)).trans (o5.fr (.inl rfl)))
  refine ⟨w',a2,rows2,?_,b',own',l',r',f35.trans_new f' (fun k hk=>?_),fun k hk=>?_,fun s hs=>?_⟩
  ·rw [← e']
   refine loopF_next ?_
   have hlt : decide ((k : Int) < (m : Int)) = true:=by simp; omega
   have l1 : ldL w1 ⟨p,0,none⟩ = some a:=ldL_B ((d1 p).trans hp) rfl
   have l2 : ldL w2 ⟨p,0,none⟩ = some a:=ldL_B ((f2 (fun _=>False)).B hp id) rfl
   have l3 : ldL w3 ⟨p,0,none⟩ = some a:=ldL_B hp3 rfl
   unfold grapevineref09_New_l1
   rw [if_pos hlt,e1,Option.bind_some,add_mk,l1,Option.bind_some,e2,bind2_some,e3,bind2_some]
   simp only [List.length_cons,List.length_nil,Nat.zero_add]
   rw [e4,bind2_some,e5,Option.bind_some,chk_pos l2,chk_pos l3,wrap_nat (by omega)]
  ·rcases hk with hk | hk
   ·exact .inl (.inl hk)
   ·rcases k4 k hk with h | h
    ·exact .inl (.inr h)
    ·exact .inr (by have:=(f3 (fun _=>False)).size; omega)
  ·rcases k' k hk with h | h
   ·rcases k4 k h with h | h
    ·exact .inl h
    ·exact .inr (by have:=(f3 (fun _=>False)).size; omega)
   ·exact .inr (by omega)
  ·rcases q' s hs with h | h
   ·simp only [List.mem_append,List.mem_singleton] at h
    rcases h with h | rfl
    ·exact .inl h
    ·exact .inr (fun k hk=>by have:=blk_eq hk; omega)
   ·exact .inr (fun k hk=>by have:=h k hk; omega)
theorem rnew_ok {m : Int} (h1 : 1≤m) (h2 : m≤512) : ∃ w' a rows,grapevineref09_New m w = some (some ⟨w.heap.size,0,none⟩,0,w')∧RAt w' w.heap.size a Sl.nil rows [] (Dk.new m.toNat)∧(∀ S,Fr S w w')∧(∀ k,RAt.foot w.heap.size a Sl.nil k→w.heap.size≤k)∧(∀ k,rowBlk rows [] k→w.heap.size≤k):=by
 obtain ⟨w1,e1,n1⟩:=mk_s (w:=w) (T:=115) (cs:=[.slice none 0 0,.slice none 0 0,.int .i64 0,.bool false,.int .i64 0])
 obtain ⟨w',a,rows,e,b,o,l,r,f,k,q⟩:=rnew_loop (p:=w.heap.size) (m:=m.toNat) (by omega) m.toNat 0 Sl.nil [] w1 (by omega) n1.b Own.nil rfl (by simp)
 rw [show ((m.toNat : Nat) : Int) = m by omega] at e
 simp only [Int.ofNat_zero] at e
 have t1 : ¬ m < 1:=by omega
 have t2 : ¬ 512 < m:=by omega
 refine ⟨w',a,rows,?_,⟨⟨?_,?_,?_,by simp [Dk.new],by simp [Dk.new],by simp [Dk.new]; omega⟩,b,o,Own.nil,by simp [Dk.new,l],rfl,?_,?_⟩,fun S=>((n1.fr _ S (Nat.le_refl _)).fr).trans_new f (fun k hk=>?_),?_,?_⟩
 ·unfold grapevineref09_New
  simp only [t1,t2,decide_false,Bool.false_eq_true,if_false,bind2_some,e1,Option.bind_some,e]
 ·intro x hx; simp [Dk.new] at hx; obtain ⟨_,rfl⟩:=hx; simp
 ·intro x hx; simp [Dk.new] at hx
 ·intro x hx; simp [Dk.new] at hx
 ·intro i s xs hs hx
  have : xs = List.replicate 64 0:=by
   have:=List.mem_of_getElem? hx
   simp only [Dk.new,List.mem_replicate] at this; exact this.2
  rw [this]
  exact r s (List.mem_of_getElem? hs)
 ·intro i x y hx; simp at hx
 ·rcases hk with rfl | ⟨ad,ha,_⟩
  ·exact .inr (Nat.le_refl _)
  ·cases ha
 ·rintro j (rfl | hj | ⟨ad,ha,_⟩)
  ·exact Nat.le_refl _
  ·rcases k j hj with ⟨ad,ha,_⟩ | h
   ·cases ha
   ·have:=n1.size; omega
  ·cases ha
 ·rintro j (⟨s,hs,hk⟩ | ⟨x,hx,_⟩)
  ·rcases q s hs with h | h
   ·simp at h
   ·have:=h j hk; have:=n1.size; omega
  ·simp at hx
end
def RDisk (w : World) (p : Nat) (G R : Nat→Prop) (D : Dk) : Prop:=∃ a b rows puts,RAt w p a b rows puts D∧(∀ k,RAt.foot p a b k→G k)∧(∀ k,rowBlk rows puts k→R k)
def NB (w : World) (F : Nat→Prop) (k : Nat) : Prop:=F k∧¬ Byt w k
section
variable {w w' : World} {p x y n : Nat} {F G R S : Nat → Prop} {D : Dk}
theorem Fr.byt (h : Fr (NB w F) w w') {k : Nat} (hk : Byt w k) : Byt w' k:=by
 obtain ⟨c,hc⟩:=hk
 exact ⟨c,h.B hc (fun hn=>hn.2 ⟨c,hc⟩)⟩
theorem DAt.foot_ty {sb : Bk} {s : Sl} (h : DAt w p sb s D) {k : Nat} (hk : DAt.foot p sb s k) : ¬ Byt w k:=by
 rintro ⟨c,hc⟩
 rcases hk with rfl | rfl | hk
 ·rw [h.blk] at hc; simp at hc
 ·rw [h.sure] at hc; simp at hc
 ·obtain ⟨c',h'⟩:=h.waits.ty hk; rw [h'] at hc; simp at hc
theorem RDisk.wf (h : RDisk w p G R D) : D.Wf:=by obtain ⟨_,_,_,_,h,_⟩:=h; exact h.wf
theorem RDisk.fr (h : RDisk w p G R D) (hf : Fr S w w') (hG : ∀ k,G k→¬ S k) (hR : ∀ k,R k→Byt w k→¬ S k) : RDisk w' p G R D:=by
 obtain ⟨a,b,rows,puts,h,h1,h2⟩:=h
 exact ⟨a,b,rows,puts,h.fr hf (fun k hk=>hG k (h1 k hk)) (fun k hk=>hR k (h2 k hk) (h.byt hk)),h1,h2⟩
theorem RDisk.keep {a b a' b' : Sl} {rows rows' : List Sl} {puts puts' : List (Int×Sl)} {D D' : Dk} (h : RAt w p a b rows puts D) (h1 : ∀ k,RAt.foot p a b k→G k) (h2 : ∀ k,rowBlk rows puts k→R k)
  (h' : RAt w' p a' b' rows' puts' D') (ha : ∀ k,a'.blk k→a.blk k∨w.heap.size≤k) (hb : ∀ k,b'.blk k→b.blk k∨w.heap.size≤k) (hr : ∀ k,rowBlk rows' puts' k→rowBlk rows puts k∨w.heap.size≤k) : RDisk w' p (grow G w w') (grow R w w') D':=by
 refine ⟨a',b',rows',puts',h',fun k hk=>?_,fun k hk=>(hr k hk).elim (fun h=>.inl (h2 k h)) (fun h=>.inr ⟨h,(h'.byt hk).lt⟩)⟩
 have hl:=h'.lt hk
 rcases hk with rfl | hk | hk
 ·exact .inl (h1 _ (.inl rfl))
 ·exact (ha k hk).elim (fun h=>.inl (h1 k (.inr (.inl h)))) (fun h=>.inr ⟨h,hl⟩)
 ·exact (hb k hk).elim (fun h=>.inl (h1 k (.inr (.inr h)))) (fun h=>.inr ⟨h,hl⟩)
theorem RDisk.nbf {a b : Sl} {rows : List Sl} {puts : List (Int×Sl)} (h : RAt w p a b rows puts D) (h1 : ∀ k,RAt.foot p a b k→G k) (hf : Fr (RAt.foot p a b) w w') : Fr (NB w G) w w' :=
 hf.mono fun k hk=>.inl ⟨h1 k hk,h.foot_ty hk⟩
theorem RDisk.new {m : Int} (h1 : 1≤m) (h2 : m≤512) : ∃ q w',grapevineref09_New m w = some (some ⟨q,0,none⟩,0,w')∧RDisk w' q (fun k=>w.heap.size≤k) (fun k=>w.heap.size≤k) (Dk.new m.toNat)∧(∀ S,Fr S w w'):=by
 obtain ⟨w',a,rows,e,h,f,k1,k2⟩:=rnew_ok (w:=w) h1 h2
 exact ⟨_,w',e,⟨a,Sl.nil,rows,[],h,k1,k2⟩,f⟩
theorem RDisk.write {i : Int} {c : Sl} {cs : List Int} (h : RDisk w p G R D) (hb : Rd w c 1 (nums .u8 cs)) (hbd : D.W.length < 1000000) :
  ∃ w',grapevineref09_Disk_Write (some ⟨p,0,none⟩) i c w = some ((D.write i cs).1,w')∧RDisk w' p (grow G w w') (grow R w w') (D.write i cs).2∧Fr (NB w G) w w':=by
 obtain ⟨a,b,rows,puts,h,h1,h2⟩:=h
 obtain ⟨w',b',puts',e,h',f,k1,k2⟩:=rwrite_ok (i:=i) h hb hbd
 exact ⟨w',e,RDisk.keep h h1 h2 h' (fun k hk=>.inl hk) k1 k2,RDisk.nbf h h1 f⟩
theorem RDisk.sync (h : RDisk w p G R D) (hbd : D.W.length < 1000000) :
  ∃ w',grapevineref09_Disk_Sync (some ⟨p,0,none⟩) w = some (D.sync.1,w')∧RDisk w' p (grow G w w') (grow R w w') D.sync.2∧Fr (NB w G) w w':=by
 obtain ⟨a,b,rows,puts,h,h1,h2⟩:=h
 obtain ⟨w',b',rows',puts',e,h',f,k1,k2⟩:=rsync_ok h hbd
 exact ⟨w',e,RDisk.keep h h1 h2 h' (fun k hk=>.inl hk) (fun k hk=>.inl (k1 k hk)) k2,RDisk.nbf h h1 f⟩
theorem RDisk.trip {m : Int} (h : RDisk w p G R D) (hm : m≤9223372036854775807) :
  ∃ w',grapevineref09_Disk_Trip (some ⟨p,0,none⟩) m w = some ((D.trip m).1,w')∧RDisk w' p (grow G w w') (grow R w w') (D.trip m).2∧Fr (NB w G) w w':=by
 obtain ⟨a,b,rows,puts,h,h1,h2⟩:=h
 obtain ⟨w',e,h',o⟩:=rtrip_ok h hm
 exact ⟨w',e,RDisk.keep h h1 h2 h' (fun k hk=>.inl hk) (fun k hk=>.inl hk) (fun k hk=>.inl hk),RDisk.nbf h h1 (o.fr (.inl rfl))⟩
theorem RDisk.read {i : Int} (h : RDisk w p G R D) (hbd : D.W.length < 1000000) : ∃ o w',grapevineref09_Disk_Read (some ⟨p,0,none⟩) i w = some (o,(D.read i).2,w')∧Row w w' o (D.read i).1:=by
 obtain ⟨_,_,_,_,h,_⟩:=h; exact rread_ok h hbd
theorem RDisk.sure {i : Int} (h : RDisk w p G R D) : ∃ o w',grapevineref09_Disk_Sure (some ⟨p,0,none⟩) i w = some (o,(D.sure i).2,w')∧Row w w' o (D.sure i).1:=by
 obtain ⟨_,_,_,_,h,_⟩:=h; exact rsure_ok h
theorem RDisk.rd0 (h : RDisk w p G R D) : ∃ s,ldL w ⟨p,0,none⟩ = some s∧s.n = D.S.length:=by obtain ⟨a,_,_,_,h,_⟩:=h; exact ⟨a,rread0 h,h.an⟩
theorem RDisk.rd3 (h : RDisk w p G R D) : ldB w ⟨p,3,none⟩ = some D.down:=by obtain ⟨a,_,_,_,h,_⟩:=h; exact rread3 h
theorem RDisk.rd4 (h : RDisk w p G R D) : ldI .i64 w ⟨p,4,none⟩ = some D.age:=by obtain ⟨a,_,_,_,h,_⟩:=h; exact rread4 h
theorem RDisk.mono {G' R' : Nat→Prop} (h : RDisk w p G R D) (hG : ∀ k,k < w.heap.size→G k→G' k) (hR : ∀ k,k < w.heap.size→R k→R' k) : RDisk w p G' R' D:=by
 obtain ⟨a,b,rows,puts,h,h1,h2⟩:=h
 exact ⟨a,b,rows,puts,h,fun k hk=>hG k (h.lt hk) (h1 k hk),fun k hk=>hR k (h.byt hk).lt (h2 k hk)⟩
end
def rdR (y : Nat) (D : Dk) : Rs where
 h g w F:=∃ a b rows puts,RAt w y a b rows puts D∧(∀ k,F k ↔ RAt.foot y a b k)∧∀ k,rowBlk rows puts k→g k
 st:=fun {g w F g' w'} h m hk=>by
  obtain ⟨a,b,rows,puts,h1,hF,hr⟩:=h
  refine ⟨a,b,rows,puts,?_,hF,fun k hk'=>(m.keep k (hr k hk')).1⟩
  have e : ∀ k,RAt.foot y a b k∨rowBlk rows puts k→w'.heap[k]? = w.heap[k]?:=fun k hk'=>hk'.elim (fun h=>hk k ((hF k).2 h)) (fun h=>(m.keep k (hr k h)).2)
  have eB : ∀ {k c T},RAt.foot y a b k∨rowBlk rows puts k→B w k = some (c,T)→B w' k = some (c,T):=fun hk' hb=>by have:=e _ hk'; unfold B at hb ⊢; rw [this]; exact hb
  have eO : ∀ {T sz s cs},(∀ k,Sl.blk s k→RAt.foot y a b k∨rowBlk rows puts k)→Own w T s sz cs→Own w' T s sz cs:=fun hs ho =>
   ⟨ho.len,ho.cap,ho.max,ho.h.elim .inl fun ⟨b,rest,hp,hb,hr⟩=>.inr ⟨b,rest,hp,eB (hs _ ⟨_,hp,rfl⟩) hb,hr⟩⟩
  exact ⟨h1.wf,eB (.inl (.inl rfl)) h1.blk,eO (fun k hk=>.inl (.inr (.inl hk))) h1.sure,eO (fun k hk=>.inl (.inr (.inr hk))) h1.waits,h1.rl,h1.pl,
   fun i s xs hs hx=>eO (fun k hk=>.inr (.inl ⟨s,List.mem_of_getElem? hs,hk⟩)) (h1.rat i s xs hs hx),
   fun i x z hx hz=>⟨(h1.pat i x z hx hz).1,eO (fun k hk=>.inr (.inr ⟨x,List.mem_of_getElem? hx,hk⟩)) (h1.pat i x z hx hz).2⟩⟩
 lt h hk:=by obtain ⟨a,b,rows,puts,h1,hF,hr⟩:=h; exact h1.lt ((hF _).1 hk)
section
variable {F F0 : Nat → Prop} {g g' g0 : Gh} {w w' w0 : World} {L : List Rs} {x y : Nat} {D D' : Dk} {i m : Int} {b o : Sl} {bs : List Int}
theorem Hp.rwf (H : Hp F0 g0 w0 g w (rdR y D :: L)) : D.Wf:=by obtain ⟨F,a,b,rows,puts,h,_⟩:=H.hd; exact h.wf
theorem Hp.rup (H : Hp F0 g0 w0 g w (rdR y D :: L)) {Ψ : World→Prop}
  (f : ∀ a b rows puts,RAt w y a b rows puts D→(∀ k,RAt.foot y a b k→¬ g k)→∃ w' a' b' rows' puts',Ψ w'∧RAt w' y a' b' rows' puts' D'∧Fr (RAt.foot y a b) w w'∧(∀ k,a'.blk k→a.blk k∨w.heap.size≤k)∧(∀ k,b'.blk k→b.blk k∨w.heap.size≤k)∧(∀ k,rowBlk rows' puts' k→rowBlk rows puts k∨w.heap.size≤k)) :
  ∃ g' w',Ψ w'∧Hp F0 g0 w0 g' w' (rdR y D' :: L)∧Mo g w g' w':=by
 obtain ⟨g',w',e,h2,m⟩:=H.up (r':=rdR y D') (Ψ:=fun _ w'=>Ψ w') fun F h hF=>by
  obtain ⟨a,b,rows,puts,h1,hFt,hr⟩:=h
  obtain ⟨w',a',b',rows',puts',e,h2,fr,ka,kb,kr⟩:=f a b rows puts h1 (fun k hk=>hF k ((hFt k).2 hk))
  refine ⟨fun k=>g k∨(w.heap.size≤k∧rowBlk rows' puts' k),w',RAt.foot y a' b',e,⟨a',b',rows',puts',h2,fun _=>Iff.rfl,fun k hk=>(kr k hk).elim (fun h=>.inl (hr k h)) (fun h=>.inr ⟨h,hk⟩)⟩,?_,?_⟩
  ·refine ⟨fr.mono fun k hk=>.inl ((hFt k).2 hk),fun k hk hn=>⟨fun h=>h.elim id (fun h=>by omega),.inl⟩,⟨fr.size,fun k hk=>⟨.inl hk,fr.block k (H.lt k hk) (fun h=>hF k ((hFt k).2 h) hk)⟩⟩,fun k hk=>?_⟩
   rcases hk with hk | ⟨_,hk⟩
   ·exact Nat.lt_of_lt_of_le (H.lt k hk) fr.size
   ·exact (h2.byt hk).lt
  ·intro k hk
   have hnb:=h2.foot_ty hk
   have hold : RAt.foot y a b k∨w.heap.size≤k:=by
    rcases hk with hk | hk | hk
    ·exact .inl (.inl hk)
    ·exact (ka k hk).elim (fun h=>.inl (.inr (.inl h))) .inr
    ·exact (kb k hk).elim (fun h=>.inl (.inr (.inr h))) .inr
   refine ⟨fun hg=>?_,hold.elim (fun h=>.inl ((hFt k).2 h)) .inr⟩
   rcases hg with hg | ⟨_,hg⟩
   ·exact hold.elim (fun h=>hF k ((hFt k).2 h) hg) (fun h=>by have:=H.lt k hg; omega)
   ·exact hnb (h2.byt hg)
 exact ⟨g',w',e,h2,m⟩
theorem Hp.rnew (H : Hp F0 g0 w0 g w L) (h1 : 1≤m) (h2 : m≤512) : ∃ q g' w',grapevineref09_New m w = some (some ⟨q,0,none⟩,0,w')∧Hp F0 g0 w0 g' w' (rdR q (Dk.new m.toNat) :: L)∧Mo g w g' w':=by
 obtain ⟨w',a,rows,e,h,f,k1,k2⟩:=rnew_ok (w:=w) h1 h2
 have n : Nw g w (fun k=>g k∨(w.heap.size≤k∧rowBlk rows [] k)) w' :=
  ⟨f _,fun k hk _=>⟨fun h=>h.elim id (fun h=>by omega),.inl⟩,⟨(f (fun _=>False)).size,fun k hk=>⟨.inl hk,(f (fun _=>False)).block k (H.lt k hk) id⟩⟩,
   fun k hk=>hk.elim (fun h'=>Nat.lt_of_lt_of_le (H.lt k h') (f (fun _=>False)).size) (fun h'=>(h.byt h'.2).lt)⟩
 exact ⟨_,_,w',e,H.add n (F:=RAt.foot w.heap.size a Sl.nil) ⟨a,Sl.nil,rows,[],h,fun _=>Iff.rfl,fun k hk=>.inr ⟨k2 k hk,hk⟩⟩
  (fun k hk=>⟨fun hg=>hg.elim (fun h'=>by have:=H.lt k h'; have:=k1 k hk; omega) (fun h'=>h.foot_ty hk (h.byt h'.2)),k1 k hk⟩),n.mo⟩
theorem Hp.rwrite (H : Hp F0 g0 w0 g w (rdR y D :: L)) (hb : Rd w b 1 (nums .u8 bs)) (hbd : D.W.length < 1000000) :
  ∃ g' w',grapevineref09_Disk_Write (some ⟨y,0,none⟩) i b w = some ((D.write i bs).1,w')∧Hp F0 g0 w0 g' w' (rdR y (D.write i bs).2 :: L)∧Mo g w g' w':=H.rup fun a b rows puts h hF=>by
 obtain ⟨w',b',puts',e,h',f,k1,k2⟩:=rwrite_ok (i:=i) h hb hbd
 exact ⟨w',a,b',rows,puts',e,h',f,fun k hk=>.inl hk,k1,k2⟩
theorem Hp.rsync (H : Hp F0 g0 w0 g w (rdR y D :: L)) (hbd : D.W.length < 1000000) :
  ∃ g' w',grapevineref09_Disk_Sync (some ⟨y,0,none⟩) w = some (D.sync.1,w')∧Hp F0 g0 w0 g' w' (rdR y D.sync.2 :: L)∧Mo g w g' w':=H.rup fun a b rows puts h hF=>by
 obtain ⟨w',b',rows',puts',e,h',f,k1,k2⟩:=rsync_ok h hbd
 exact ⟨w',a,b',rows',puts',e,h',f,fun k hk=>.inl hk,fun k hk=>.inl (k1 k hk),k2⟩
theorem Hp.rread (H : Hp F0 g0 w0 g w (rdR y D :: L)) (i : Int) (hbd : D.W.length < 1000000) : ∃ o w' T,grapevineref09_Disk_Read (some ⟨y,0,none⟩) i w = some (o,(D.read i).2,w')∧Hp F0 g0 w0 g w' (owR T 1 o (nums .u8 (D.read i).1) :: rdR y D :: L)∧Mo g w g w':=by
 obtain ⟨F,a,b,rows,puts,h,_⟩:=H.hd
 obtain ⟨o,w',e,r⟩:=rread_ok (i:=i) h hbd
 obtain ⟨T,h1,m⟩:=H.row r
 exact ⟨o,w',T,e,h1,m⟩
theorem Hp.rd0 (H : Hp F0 g0 w0 g w (rdR y D :: L)) : ∃ s,Go.Proofs.Ytejkaciimmfgcaa.D.ldL w ⟨y,0,none⟩ = some s∧s.n = D.S.length:=by obtain ⟨F,a,b,rows,puts,h,_⟩:=H.hd; exact ⟨a,rread0 h,h.an⟩
theorem Hp.rd3 (H : Hp F0 g0 w0 g w (rdR y D :: L)) : Go.Proofs.Ytejkaciimmfgcaa.D.ldB w ⟨y,3,none⟩ = some D.down:=by obtain ⟨F,a,b,rows,puts,h,_⟩:=H.hd; exact rread3 h
theorem Hp.rd4 (H : Hp F0 g0 w0 g w (rdR y D :: L)) : Go.Proofs.Ytejkaciimmfgcaa.D.ldI .i64 w ⟨y,4,none⟩ = some D.age:=by obtain ⟨F,a,b,rows,puts,h,_⟩:=H.hd; exact rread4 h
end
section
variable {w w' : World}
theorem rtake_loop {s : Sl} {xs ys : List Int} {i : Nat} (h : Rd w s 1 (nums .u8 xs)) (hy : ys = (xs.drop i).take 8) (hl : ys.length = 8) (hb : Bytes ys) (hm : s.n < 1000000) : ∀ (suf pre : List Int),ys = pre ++ suf →
  loopF (fun s_1 : Int×Int×World=>grapevineref02_TakeKey_l1 s (i : Int) s_1.1 s_1.2.1 s_1.2.2) (be pre,(pre.length : Int),w) = some (be ys,w):=by
 have hn : xs.length = s.n:=by have:=h.len; simpa using this
 intro suf
 induction suf with
 | nil =>
  intro pre hp
  have : pre = ys:=by simpa using hp.symm
  subst this
  refine loopF_done ?_
  have : decide ((pre.length : Int) < 8) = false:=by simp; omega
  simp only [grapevineref02_TakeKey_l1,this,Bool.false_eq_true,if_false]
 | cons b suf ih =>
  intro pre hp
  have hk : pre.length < ys.length:=by rw [hp]; simp
  have hxl : i + 8≤xs.length:=by rw [hy] at hl; simp at hl; omega
  obtain ⟨a,e1,e2⟩:=ld_u8 (i:=i + pre.length) h (by omega)
  have hbx : xs.getD (i + pre.length) 0 = b:=by
   have h1 : ys[pre.length]? = some b:=by rw [hp]; simp
   rw [hy,List.getElem?_take,if_pos (by omega),List.getElem?_drop] at h1
   rw [List.getD_eq_getElem?_getD,h1]; rfl
  rw [hbx] at e2
  have hr:=be_lt7 (pre:=pre) (suf:=b :: suf) (by rw [← hp]; exact hl) (by rw [← hp]; exact hb) (by simp)
  have hb0:=hb b (by rw [hp]; simp)
  have hlt : decide ((pre.length : Int) < 8) = true:=by simp; omega
  have e0 : IntKind.wrap .i64 ((i : Int) + (pre.length : Int)) = ((i + pre.length : Nat) : Int):=by rw [IntKind.wrap_i64]; omega
  have e5 : IntKind.wrap .u64 (IntKind.wrap .u64 (256 * be pre) + IntKind.wrap .u64 b) = be (pre ++ [b]):=by
   rw [be_snoc,wrap_u64,wrap_u64,wrap_u64]; omega
  rw [← ih (pre ++ [b]) (by rw [hp]; simp),← e5,show ((pre ++ [b]).length : Int) = ((pre.length + 1 : Nat) : Int) by simp]
  refine loopF_next ?_
  simp only [grapevineref02_TakeKey_l1,hlt,if_true,e0,e1,Option.bind_some,e2]
  rw [wrap_nat (by omega)]
theorem rtake_ok {s : Sl} {xs : List Int} {i : Nat} (h : Rd w s 1 (nums .u8 xs)) (hb : Bytes xs) (hi : i + 8≤xs.length) (hm : s.n < 1000000) : grapevineref02_TakeKey s (i : Int) w = some (takeK xs i,((i + 8 : Nat) : Int),0,w):=by
 have hn : xs.length = s.n:=by have:=h.len; simpa using this
 have hl : ((xs.drop i).take 8).length = 8:=by simp; omega
 have hby : Bytes ((xs.drop i).take 8):=fun b hb'=>hb b (List.mem_of_mem_drop (List.mem_of_mem_take hb'))
 have hloop:=rtake_loop (i:=i) h rfl hl hby hm ((xs.drop i).take 8) [] rfl
 have hr:=be8 hl hby
 have g1 : decide ((i : Int) < 0) = false:=by simp
 have g2 : decide ((s.n : Int) < (i : Int)) = false:=by simp; omega
 have g3 : decide (IntKind.wrap .i64 ((s.n : Int) - (i : Int)) < 8) = false:=by rw [IntKind.wrap_i64]; simp; omega
 have g4 : IntKind.wrap .i64 ((i : Int) + 8) = ((i + 8 : Nat) : Int):=by rw [IntKind.wrap_i64]; omega
 unfold grapevineref02_TakeKey
 rw [g1,if_neg (by simp),g2,bind2_some,if_neg (by simp),g3,if_neg (by simp),g4]
 have hloop' : loopF (fun s_1 : Int×Int×World=>grapevineref02_TakeKey_l1 s (i : Int) s_1.1 s_1.2.1 s_1.2.2) (0,0,w) = some (be ((xs.drop i).take 8),w):=hloop
 rw [hloop',bind2_some]
 have : IntKind.wrap .i64 (IntKind.wrap .u64 (be ((xs.drop i).take 8) - 9223372036854775808)) = takeK xs i:=by
  rw [wrap_u64,IntKind.wrap_i64,takeK]; omega
 rw [this]
end
section
variable {w w' : World}
theorem rwhole_loop {s : Sl} {xs : List Int} (h : Rd w s 1 (nums .u8 xs)) (hl : xs.length = 64) : ∀ (m k : Nat) (ok : Bool),k + m = 63 →
  loopF (fun r : Bool×Int×World=>grapevineref10_Whole_l1 s r.1 r.2.1 r.2.2) (ok,(k : Int),w) = some (ok && ((xs.drop k).take m).all (· == 0),w):=by
 intro m
 induction m with
 | zero =>
  intro k ok hk
  have : k = 63:=by omega
  subst this
  refine loopF_done ?_
  simp [grapevineref10_Whole_l1]
 | succ m ih =>
  intro k ok hk
  obtain ⟨a,e1,e2⟩:=ld_u8 (i:=k) h (by omega)
  have hlt : decide ((k : Int) < 63) = true:=by simp; omega
  have hd : (xs.drop k).take (m + 1) = xs.getD k 0 :: (xs.drop (k + 1)).take m:=by
   rw [List.drop_eq_getElem_cons (by omega),List.take_succ_cons,List.getD_eq_getElem?_getD,List.getElem?_eq_getElem (by omega)]; rfl
  rw [hd,List.all_cons,← Bool.and_assoc,← ih (k + 1) (ok && (xs.getD k 0 == 0)) (by omega)]
  refine loopF_next ?_
  cases ok with
  | true =>
   simp only [grapevineref10_Whole_l1,hlt,if_true,e1,Option.bind_some,e2,bind2_some,Bool.true_and]
   rw [wrap_nat (by omega)]
  | false =>
   simp only [grapevineref10_Whole_l1,hlt,if_true,Bool.false_eq_true,if_false,bind2_some,Bool.false_and]
   rw [wrap_nat (by omega)]
theorem fits_ref {x y : Int} : (if decide (1≤x) = true then if decide (x≤4611686018427387904) = true then if decide (0≤y) = true then some (decide (y≤1099511627776),w) else some (false,w) else some (false,w) else some (false,w)) = some (fits x y,w):=by
 unfold fits
 cases decide (1≤x) <;> cases decide (x≤4611686018427387904) <;> cases decide (0≤y) <;> simp
theorem rwhole_ok {s : Sl} {xs : List Int} (h : Rd w s 1 (nums .u8 xs)) (hb : Bytes xs) (hm : s.n < 1000000) : ∃ w',grapevineref10_Whole s w = some ((whole xs).1,(whole xs).2.1,(whole xs).2.2,w')∧∀ S,Fr S w w':=by
 obtain ⟨w1,e1,_,g1,_,_⟩:=dr_s (w:=w)
 have f1 : ∀ S,Fr S w w1:=fun S=>(g1 w.heap.size S).fr
 have h1:=h.fr (f1 (fun _=>False)) (fun _ _ _ h=>h)
 have hn : xs.length = s.n:=by have:=h.len; simpa using this
 refine ⟨w1,?_,f1⟩
 unfold grapevineref10_Whole
 rw [e1,Option.bind_some,head_test h1,bind2_some]
 by_cases hd : xs.length = 64∧xs.getD 0 0 = xs.getD 63 0
 ·have t1' : grapevineref02_TakeKey s 1 w1 = some (takeK xs 1,((1 + 8 : Nat) : Int),0,w1):=rtake_ok (i:=1) h1 hb (by omega) hm
  have t2' : grapevineref02_TakeKey s 9 w1 = some (takeK xs 9,((9 + 8 : Nat) : Int),0,w1):=rtake_ok (i:=9) h1 hb (by omega) hm
  have l2' : loopF (fun r : Bool×Int×World=>grapevineref10_Whole_l1 s r.1 r.2.1 r.2.2) (fits (takeK xs 1) (takeK xs 9),17,w1) = some (fits (takeK xs 1) (takeK xs 9) && ((xs.drop 17).take 46).all (· == 0),w1):=rwhole_loop h1 hd.1 46 17 _ rfl
  rw [decide_eq_true hd,if_neg (by simp),t1',bind4_some,t2',bind4_some,fits_ref,bind2_some,l2',bind2_some]
  have hw : whole xs = if (fits (takeK xs 1) (takeK xs 9) && ((xs.drop 17).take 46).all (· == 0)) = true then (takeK xs 1,takeK xs 9,true) else (0,0,false):=by unfold whole; rw [if_pos hd]
  rw [hw]
  cases (fits (takeK xs 1) (takeK xs 9) && ((xs.drop 17).take 46).all (· == 0)) <;> rfl
 ·rw [decide_eq_false hd,if_pos (by simp)]
  have hw : whole xs = (0,0,false):=by unfold whole; rw [if_neg hd]
  rw [hw]
end
section
variable {w w' : World} {y c : Nat} {G R : Nat → Prop} {D : Dk} {base count : Int}
structure RCellsAt (w : World) (c x : Nat) (base count : Int) : Prop where
 blk : B w c = some (cellsC x base count,197)
 b0 : 0≤base
 b1 : base≤512
 n0 : 1≤count
 n1 : count≤32
theorem RCellsAt.fr {S : Nat→Prop} (h : RCellsAt w c y base count) (hf : Fr S w w') (hs : ¬ S c) : RCellsAt w' c y base count:=⟨hf.B h.blk hs,h.b0,h.b1,h.n0,h.n1⟩
theorem RCellsAt.all (h : RCellsAt w c y base count) (hf : ∀ S,Fr S w w') : RCellsAt w' c y base count:=h.fr (hf (fun _=>False)) id
theorem dread0 (h : RCellsAt w c y base count) : ldP w ⟨c,0,none⟩ = some (some ⟨y,0,none⟩):=ldP_B h.blk rfl
theorem dread1 (h : RCellsAt w c y base count) : ldI .i64 w ⟨c,1,none⟩ = some base:=ldI_B h.blk rfl
theorem dread2 (h : RCellsAt w c y base count) : ldI .i64 w ⟨c,2,none⟩ = some count:=ldI_B h.blk rfl
theorem RDisk.all (h : RDisk w y G R D) (hf : ∀ S,Fr S w w') : RDisk w' y G R D:=h.fr (hf (fun _=>False)) (fun _ _ h=>h) (fun _ _ _ h=>h)
def rcnt (f : Int×Int×Int) : Int:=if f.1 = -1 then 2 else f.1
theorem whole_pos (b : List Int) (h : (whole b).2.2 = true) : 1≤(whole b).1:=by
 unfold whole at h ⊢
 split at h
 ·rename_i h1
  rw [if_pos h1]
  split at h
  ·rename_i h2
   rw [if_pos h2]
   simp only [fits,Bool.and_eq_true,decide_eq_true_eq] at h2
   exact h2.1.1.1.1
  ·cases h
 ·cases h
theorem counts_ok (h : RDisk w y G R D) (hc : RCellsAt w c y base count) (hb : D.Bt) (hbd : D.W.length < 900000) {i : Int} (i0 : 0≤i) (i1 : i < count) :
  ∃ w',grapevineref10_Cells_counts (some ⟨c,0,none⟩) i w = some (rcnt (D.found (base + 2 * i)),(D.found (base + 2 * i)).2.1,(D.found (base + 2 * i)).2.2,w')∧∀ S,Fr S w w':=by
 have hb0:=hc.b0
 have hb1:=hc.b1
 have hn1:=hc.n1
 have hwf:=h.wf
 obtain ⟨w1,e1,_,g1,_,_⟩:=dr_s (w:=w)
 have f1 : ∀ S,Fr S w w1:=fun S=>(g1 w.heap.size S).fr
 have c1:=hc.all f1
 have h1:=h.all f1
 obtain ⟨o2,w2,e2,r2⟩:=h1.read (i:=base + 2 * i) (by omega)
 have h2:=h1.all r2.fr
 have c2:=c1.all r2.fr
 obtain ⟨w3,e3,_,g3,_,_⟩:=dr_s (w:=w2)
 have f3 : ∀ S,Fr S w2 w3:=fun S=>(g3 w2.heap.size S).fr
 have h3:=h2.all f3
 have c3:=c2.all f3
 obtain ⟨o4,w4,e4,r4⟩:=h3.read (i:=base + 2 * i + 1) (by omega)
 have l0:=read_len hwf (base + 2 * i)
 have l1:=read_len hwf (base + 2 * i + 1)
 have rd2 : Rd w4 o2 1 (nums .u8 (D.read (base + 2 * i)).1):=(r2.rd.fr (f3 (fun _=>False)) (fun _ _ _ h=>h)).fr (r4.fr (fun _=>False)) (fun _ _ _ h=>h)
 obtain ⟨w5,e5,f5⟩:=rwhole_ok rd2 (read_bytes hb _) (by rw [r2.n]; omega)
 obtain ⟨w6,e6,f6⟩:=rwhole_ok (r4.rd.fr (f5 (fun _=>False)) (fun _ _ _ h=>h)) (read_bytes hb _) (by rw [r4.n]; omega)
 refine ⟨w6,?_,fun S=>((((f1 S).trans (r2.fr S)).trans (f3 S)).trans (r4.fr S)).trans ((f5 S).trans (f6 S))⟩
 have hw0 : IntKind.wrap .i64 (base + IntKind.wrap .i64 (2 * i)) = base + 2 * i:=by rw [IntKind.wrap_i64,IntKind.wrap_i64]; omega
 have hw1 : IntKind.wrap .i64 (base + 2 * i + 1) = base + 2 * i + 1:=by rw [IntKind.wrap_i64]; omega
 have p0:=whole_pos (D.read (base + 2 * i)).1
 have p1:=whole_pos (D.read (base + 2 * i + 1)).1
 unfold grapevineref10_Cells_counts
 rw [e1,Option.bind_some,Option.bind_some,add_mk,Nat.zero_add,dread0 c1,Option.bind_some,add_mk,Nat.zero_add,dread1 c1,Option.bind_some,hw0,e2,bind3_some,e3,Option.bind_some,dread0 c3,Option.bind_some,dread1 c3,Option.bind_some,hw0,hw1,e4,bind3_some,e5,bind4_some,e6,bind4_some]
 have hfound : D.found (base + 2 * i) = fstep 1 (fstep 0 (-1,0,0) (whole (D.read (base + 2 * i)).1)) (whole (D.read (base + 2 * i + 1)).1):=rfl
 rw [hfound]
 obtain ⟨a,ha⟩ : ∃ a,whole (D.read (base + 2 * i)).1 = a:=⟨_,rfl⟩
 obtain ⟨b,hb'⟩ : ∃ b,whole (D.read (base + 2 * i + 1)).1 = b:=⟨_,rfl⟩
 rw [ha] at p0 ⊢
 rw [hb'] at p1 ⊢
 by_cases a1 : a.2.2 = true
 ·have s1 : fstep 0 (-1,0,0) a = (0,a.1,a.2.1):=by unfold fstep; rw [if_pos ⟨a1,by have:=p0 a1; simp only; omega⟩]
  rw [s1,if_pos a1]
  by_cases b1 : b.2.2 = true
  ·rw [if_neg (by simp [b1]),bind2_some]
   by_cases hlt : a.1 < b.1
   ·have s2 : fstep 1 (0,a.1,a.2.1) b = (1,b.1,b.2.1):=by unfold fstep; rw [if_pos ⟨b1,hlt⟩]
    rw [s2,if_neg (by simpa using hlt),if_pos b1]; rfl
   ·have s2 : fstep 1 (0,a.1,a.2.1) b = (0,a.1,a.2.1):=by unfold fstep; rw [if_neg (fun h=>hlt h.2)]
    rw [s2,if_pos (by simpa using hlt)]; rfl
  ·have s2 : fstep 1 (0,a.1,a.2.1) b = (0,a.1,a.2.1):=by unfold fstep; rw [if_neg (fun h=>b1 h.1)]
   rw [s2,if_pos (by simpa using b1),bind2_some,if_pos rfl]; rfl
 ·have s1 : fstep 0 (-1,0,0) a = (-1,0,0):=by unfold fstep; rw [if_neg (fun h=>a1 h.1)]
  rw [s1,if_neg a1,bind2_some,if_neg (by simp)]
  by_cases b1 : b.2.2 = true
  ·have s2 : fstep 1 (-1,0,0) b = (1,b.1,b.2.1):=by unfold fstep; rw [if_pos ⟨b1,by have:=p1 b1; simp only; omega⟩]
   rw [s2,if_pos b1]; rfl
  ·have s2 : fstep 1 (-1,0,0) b = (-1,0,0):=by unfold fstep; rw [if_neg (fun h=>b1 h.1)]
   rw [s2,if_neg b1]; rfl
theorem rget_ok (h : RDisk w y G R D) (hc : RCellsAt w c y base count) (hb : D.Bt) (hbd : D.W.length < 900000) (i : Int) :
  ∃ w',grapevineref10_Cells_Get (some ⟨c,0,none⟩) i w = some ((D.get base count i).1,(D.get base count i).2,w')∧∀ S,Fr S w w':=by
 unfold grapevineref10_Cells_Get Dk.get
 by_cases h0 : i < 0
 ·refine ⟨w,?_,fun S=>Fr.refl⟩
  rw [if_neg (by simp),if_pos (by simpa using h0),bind2_some,if_pos rfl,if_pos (.inl h0)]
 ·by_cases h1 : count≤i
  ·refine ⟨w,?_,fun S=>Fr.refl⟩
   rw [if_neg (by simp),if_neg (by simpa using h0),Option.bind_some,add_mk,Nat.zero_add,dread2 hc,Option.bind_some,decide_eq_true h1,bind2_some,if_pos rfl,if_pos (.inr h1)]
  ·obtain ⟨w1,e1,f1⟩:=counts_ok h hc hb hbd (i:=i) (by omega) (by omega)
   refine ⟨w1,?_,f1⟩
   have hat:=found_at D (base + 2 * i)
   have hd : decide (rcnt (D.found (base + 2 * i)) < 2) = decide (0≤(D.found (base + 2 * i)).1):=by
    unfold rcnt
    split
    ·rename_i h; rw [h]; rfl
    ·rw [decide_eq_true (by omega),decide_eq_true (by omega)]
   rw [if_neg (by simp),if_neg (by simpa using h0),Option.bind_some,add_mk,Nat.zero_add,dread2 hc,Option.bind_some,decide_eq_false h1,bind2_some,if_neg (by simp),e1,bind4_some,if_neg (by omega),hd]
end
structure RCp (g : Gh) (w : World) (c y : Nat) (base count : Int) : Prop where
 per : g c
 at_ : RCellsAt w c y base count
section
variable {F F0 : Nat → Prop} {g g' g0 : Gh} {w w' w0 : World} {L : List Rs} {x y c : Nat} {D D' : Dk} {i m base count : Int} {b o : Sl} {bs : List Int}
theorem RCp.mo (h : RCp g w c x base count) (m : Mo g w g' w') : RCp g' w' c x base count:=⟨(m.keep _ h.per).1,B_mo m h.per h.at_.blk,h.at_.b0,h.at_.b1,h.at_.n0,h.at_.n1⟩
theorem Hp.rdisk (H : Hp F0 g0 w0 g w (rdR y D :: L)) : ∃ G R,RDisk w y G R D:=by
 obtain ⟨F,a,b,rows,puts,h,_⟩:=H.hd
 exact ⟨_,_,a,b,rows,puts,h,fun _ h=>h,fun _ h=>h⟩
theorem Hp.rget (H : Hp F0 g0 w0 g w (rdR y D :: L)) (hc : RCp g w c y base count) (hb : D.Bt) (hbd : D.W.length < 900000) (i : Int) :
  ∃ w',grapevineref10_Cells_Get (some ⟨c,0,none⟩) i w = some ((D.get base count i).1,(D.get base count i).2,w')∧Hp F0 g0 w0 g w' (rdR y D :: L)∧Mo g w g w':=by
 obtain ⟨G,R,h⟩:=H.rdisk
 obtain ⟨w',e,f⟩:=rget_ok h hc.at_ hb hbd i
 exact ⟨w',e,H.old f,H.mold f⟩
theorem Hp.ropen (H : Hp F0 g0 w0 g w (rdR y D :: L)) (hn : D.S.length≤512) (hi : -9223372036854775808≤count∧count≤9223372036854775807) (hm : mayOpen D.S.length base count = true) :
  ∃ c g' w',grapevineref10_Open (some ⟨y,0,none⟩) base count w = some (some ⟨c,0,none⟩,0,w')∧Hp F0 g0 w0 g' w' (rdR y D :: L)∧Mo g w g' w'∧RCp g' w' c y base count:=by
 have hr : 1≤count∧count≤32∧0≤base∧base≤D.S.length - 2 * count:=by simpa [mayOpen,and_assoc] using hm
 obtain ⟨s,l0,ln⟩:=H.rd0
 obtain ⟨b,w1,e1,H1,m1⟩:=H.box (T:=197) (cs:=cellsC y base count)
 have hB:=H1.bx
 obtain ⟨g',F,hk1,hk2,H2,m2⟩:=H1.keep
 have hw : IntKind.wrap .i64 ((s.n : Int) - IntKind.wrap .i64 (2 * count)) = D.S.length - 2 * count:=by rw [IntKind.wrap_i64,IntKind.wrap_i64,ln]; omega
 refine ⟨b,g',w1,?_,H2,m1.t m2,hk2 _ ((hk1.2 _).2 rfl),hB,by omega,by omega,by omega,by omega⟩
 unfold grapevineref10_Open
 have e1' : Go.Proofs.Ytejkaciimmfgcaa.D.mk w 197 [.pointer (some ⟨y,0,none⟩),.int .i64 base,.int .i64 count] = some (⟨b,0,none⟩,w1):=e1
 rw [if_neg (by simp),if_neg (by simp; omega),if_neg (by simp; omega),if_neg (by simp; omega),Option.bind_some,add_mk,Nat.zero_add,l0,Option.bind_some,hw,decide_eq_false (by omega),bind2_some,if_neg (by simp),e1',bind2_some]
end
def rlC (y : Nat) (base segs age high rel : Int) (su sr : Sl) : List Value:=[.pointer (some ⟨y,0,none⟩),.int .i64 base,.int .i64 segs,.int .i64 age,.int .i64 high,.int .i64 rel,su.v,sr.v]
abbrev rlbR (q : Nat) (cs : List Value) : Rs:=bxR q cs 132
structure RLC (cs : List Value) (y : Nat) (base segs : Int) : Prop where
 d : cs[0]? = some (.pointer (some ⟨y,0,none⟩))
 b : cs[1]? = some (.int .i64 base)
 s : cs[2]? = some (.int .i64 segs)
 b0 : 0≤base
 b1 : base≤512
section
variable {F0 : Nat → Prop} {g g0 g' : Gh} {w w0 w' : World} {L : List Rs} {s z : Sl} {xs : List Int} {cs ys : List Value} {y q : Nat} {D : Dk} {base segs pos i : Int}
theorem rplace_ok (hc : RLC cs y base segs) (hp : 0≤pos∧pos≤16) (hi : 0≤i∧i≤16) (hb : B w q = some (cs,132)) : grapevineref11_Log_place (some ⟨q,0,none⟩) pos i w = some (base + 2 + pos * 16 + i,w):=by
 have h0:=hc.b0
 have h1:=hc.b1
 unfold grapevineref11_Log_place
 rw [Option.bind_some,add_mk,Nat.zero_add,ldI_B hb hc.b,Option.bind_some]
 congr 2
 rw [IntKind.wrap_i64,IntKind.wrap_i64,IntKind.wrap_i64,IntKind.wrap_i64]; omega
theorem rsector_ok (hc : RLC cs y base segs) (hp : 0≤pos∧pos≤16) (hi : 0≤i∧i≤16) (H : Hp F0 g0 w0 g w (rlbR q cs :: rdR y D :: L)) (hbd : D.W.length < 900000) :
  ∃ z g' w',grapevineref11_Log_sector (some ⟨q,0,none⟩) pos i w = some (z,w')∧Hp F0 g0 w0 g' w' (rlbR q cs :: rdR y D :: L)∧Mo g w g' w'∧PR g' w' z 1 (nums .u8 (D.look base pos i))∧z.n≤z.c∧z.n≤64:=by
 obtain ⟨w1,e1,H1,m1⟩:=H.dr
 have l0 : ldP w1 ⟨q,0,none⟩ = some (some ⟨y,0,none⟩):=H1.ldP hc.d
 have a1:=rplace_ok hc hp hi H1.bx
 obtain ⟨o,w2,T,e2,H2,m2⟩:=H1.sw.rread (base + 2 + pos * 16 + i) (by omega)
 have hcap:=H2.ow.cap
 obtain ⟨g3,r3,H3,m3⟩:=H2.keepO
 have hl:=look_len (base:=base) (pos:=pos) (i:=i) H1.sw.rwf
 refine ⟨o,g3,w2,?_,H3.sw,m1.t (m2.t m3),r3,hcap,?_⟩
 ·unfold grapevineref11_Log_sector
  rw [e1,Option.bind_some,Option.bind_some,add_mk,Nat.zero_add,l0,Option.bind_some,a1,bind2_some,e2,bind3_some,chk_pos l0]
 ·have:=r3.rd.len
  rw [nums_length] at this
  have h2 : (D.read (base + 2 + pos * 16 + i)).1.length≤64:=hl
  omega
theorem rheader_ok (hc : RLC cs y base segs) (hp : 0≤pos∧pos≤16) (H : Hp F0 g0 w0 g w (rlbR q cs :: rdR y D :: L)) (hbt : D.Bt) (hbd : D.W.length < 900000) :
  ∃ n t g' w',grapevineref11_Log_header (some ⟨q,0,none⟩) pos w = some (n,t,(headL pos (D.look base pos 0)).isSome,w')∧Hp F0 g0 w0 g' w' (rlbR q cs :: rdR y D :: L)∧Mo g w g' w'∧∀ s,headL pos (D.look base pos 0) = some s→s = ⟨pos,n,1,t,[]⟩:=by
 obtain ⟨z,g2,w2,e2,H2,m2,r2,c2,n2⟩:=rsector_ok (i:=0) hc hp (by omega) H hbd
 obtain ⟨k,w3,e3,H3,m3,r3,c3⟩:=rgood_ok H2 r2 (look_by hbt) c2 (by omega)
 obtain ⟨b,hb⟩ : ∃ b,D.look base pos 0 = b:=⟨_,rfl⟩
 have hby : Bytes b:=by rw [← hb]; exact look_by hbt
 rw [hb] at e3 r3 ⊢
 have hqn : (goodL b).2.1.length = k.n:=by have:=r3.rd.len; simpa using this
 have t1 : (if ((goodL b).1 != 1) = true then some (true,w3) else if (!(goodL b).2.2) = true then some (true,w3) else some (((k.n : Int) != 16),w3)) = some (!((goodL b).1 == 1 && (goodL b).2.2 && decide ((goodL b).2.1.length = 16)),w3):=by
  rw [ifO,ifO]
  congr 2
  rw [hqn]
  simp only [bne,Bool.not_and,Bool.or_assoc]
  congr 3
  by_cases h : k.n = 16 <;> simp [h]
  omega
 unfold grapevineref11_Log_header
 rw [e2,bind2_some,e3,bind4_some,t1,bind2_some]
 unfold headL headC
 cases h1 : ((goodL b).1 == 1 && (goodL b).2.2 && decide ((goodL b).2.1.length = 16)) with
 | false=>exact ⟨0,0,g2,w3,by simp,H3,m2.t m3,fun s hs=>by simp at hs⟩
 | true =>
  have h16 : (goodL b).2.1.length = 16:=by simp only [Bool.and_eq_true,decide_eq_true_eq] at h1; exact h1.2
  have k1 : grapevineref02_TakeKey k 0 w3 = some (takeK (goodL b).2.1 0,((0 + 8 : Nat) : Int),0,w3):=rtake_ok (i:=0) r3.rd (good_by hby) (by omega) (by omega)
  have k2 : grapevineref02_TakeKey k 8 w3 = some (takeK (goodL b).2.1 8,((8 + 8 : Nat) : Int),0,w3):=rtake_ok (i:=8) r3.rd (good_by hby) (by omega) (by omega)
  obtain ⟨n,hn⟩ : ∃ n,takeK (goodL b).2.1 0 = n:=⟨_,rfl⟩
  obtain ⟨t,ht⟩ : ∃ t,takeK (goodL b).2.1 8 = t:=⟨_,rfl⟩
  rw [hn] at k1 ⊢
  rw [ht] at k2 ⊢
  refine ⟨n,t,g2,w3,?_,H3,m2.t m3,fun s hs=>?_⟩
  ·rw [if_neg (by simp),k1,bind4_some,k2,bind4_some]
   unfold hdC
   by_cases h2 : 1≤n
   ·rw [if_pos (by simpa using h2)]
    by_cases h3 : n≤4611686018427387904
    ·rw [if_pos (by simpa using h3)]
     by_cases h4 : 0≤t
     ·rw [if_pos (by simpa using h4),bind4_some]
      by_cases h5 : t≤1099511627776 <;> simp [h2,h3,h4,h5]
     ·rw [if_neg (by simpa using h4),bind4_some]; simp [h4]
    ·rw [if_neg (by simpa using h3),bind4_some]; simp [h3]
   ·rw [if_neg (by simpa using h2),bind4_some]; simp [h2]
  ·simp only [Bool.true_and] at hs
   split at hs
   ·cases hs; rfl
   ·cases hs
def tickR (t : Int) : Bool:=decide (t≤1099511627776)
theorem rrecord_ok (hc : RLC cs y base segs) (hp : 0≤pos∧pos≤16) (H : Hp F0 g0 w0 g w (rlbR q cs :: rdR y D :: L)) (hbt : D.Bt) (hbd : D.W.length < 900000) (hi : 0≤i∧i≤16) :
  ∃ vs nx ok g' w',grapevineref11_Log_record (some ⟨q,0,none⟩) pos i w = some (vs,nx,ok,w')∧Hp F0 g0 w0 g' w' (rlbR q cs :: rdR y D :: L)∧Mo g w g' w'∧RcOk g' w' tickR (D.rcd base pos (16 - i).toNat i 2 []) vs nx ok:=by
 obtain ⟨pb,w1,e1,H1,m1⟩:=H.box (T:=87) (cs:=rcC 0 Sl.nil)
 have e1' : mk w 87 [.int .i64 0,.slice none 0 0] = some (⟨pb,0,none⟩,w1):=e1
 obtain ⟨z0,w1b,e1b,n1b,_,H1b,m1b⟩:=H1.bsl (T:=5) (sz:=1) (ps:=[]) (by intro p hp; cases hp) (by simp)
 have lp:=Ex.loop (step:=fun s : Sl×Int×World=>grapevineref11_Log_record_l1 (some ⟨q,0,none⟩) pos i ⟨pb,0,none⟩ s.1 s.2.1 s.2.2)
  (Φ:=fun o=>match o with
   | .inl w'=>∃ g',Hp F0 g0 w0 g' w' (bxR pb (rcC 0 Sl.nil) 87 :: rlbR q cs :: rdR y D :: L)∧Mo g w1b g' w'∧RcOk g' w' tickR (D.rcd base pos (16 - i).toNat i 2 []) (rcC 0 Sl.nil) 0 false
   | .inr (nx,ok,w')=>∃ vs g',vs.length = 2∧Hp F0 g0 w0 g' w' (bxR pb vs 87 :: rlbR q cs :: rdR y D :: L)∧Mo g w1b g' w'∧RcOk g' w' tickR (D.rcd base pos (16 - i).toNat i 2 []) vs nx ok)
  (fun m s=>∃ (j : Int) (z : Sl) (all : List Int) (g1 : Gh) (w' : World),s = (z,j,w')∧(m : Int) + j = 16∧i≤j∧D.rcd base pos m j (if j = i then 2 else 3) all = D.rcd base pos (16 - i).toNat i 2 []∧Bytes all∧(all.length : Int) + 59 * m≤944 ∧
   Hp F0 g0 w0 g1 w' (owR 5 1 z (nums .u8 all) :: bxR pb (rcC 0 Sl.nil) 87 :: rlbR q cs :: rdR y D :: L)∧Mo g w1b g1 w') (fun m s hI=>by
   obtain ⟨j,z,all,g1,w',rfl,hm,hj,hr,hby,hal,Hi,mi⟩:=hI
   unfold grapevineref11_Log_record_l1
   by_cases hlt : j < 16
   ·obtain ⟨m,rfl⟩ : ∃ k,m = k + 1:=⟨m - 1,by omega⟩
    obtain ⟨k,g2,w2,e2,H2,m2,r2,c2,n2⟩:=rsector_ok (i:=j) hc hp (by omega) (Hi.perm (L':=rlbR q cs :: rdR y D :: owR 5 1 z (nums .u8 all) :: bxR pb (rcC 0 Sl.nil) 87 :: L) (by exact (List.perm_append_comm (l₁:=[owR 5 1 z (nums .u8 all),bxR pb (rcC 0 Sl.nil) 87]) (l₂:=[rlbR q cs,rdR y D])).append_right L)) hbd
    obtain ⟨u,w3,e3,H3,m3,r3,c3⟩:=rgood_ok H2 r2 (look_by hbt) c2 (by omega)
    obtain ⟨b,hb⟩ : ∃ b,D.look base pos j = b:=⟨_,rfl⟩
    have hbb : Bytes b:=by rw [← hb]; exact look_by hbt
    have hgl:=good_len b
    have hgb:=good_by hbb
    rw [Dk.rcd,hb] at hr
    rw [hb] at e3 r3
    have hyn : (goodL b).2.1.length = u.n:=by have:=r3.rd.len; simpa using this
    have mi3:=mi.t (m2.t m3)
    have H3':=H3.perm (L':=owR 5 1 z (nums .u8 all) :: bxR pb (rcC 0 Sl.nil) 87 :: rlbR q cs :: rdR y D :: L) (by exact (List.perm_append_comm (l₁:=[rlbR q cs,rdR y D]) (l₂:=[owR 5 1 z (nums .u8 all),bxR pb (rcC 0 Sl.nil) 87])).append_right L)
    have t0 : (if (j == i) = true then (if ((goodL b).1 != 2) = true then (some (true,w3)) else (if (decide (i < j)) = true then (some (((goodL b).1 != 3),w3)) else (some (false,w3)))) else (if (decide (i < j)) = true then (some (((goodL b).1 != 3),w3)) else (some (false,w3)))) = some (!decide ((goodL b).1 = if j = i then 2 else 3),w3):=by
     by_cases hji : j = i
     ·subst hji
      rw [if_pos (by simp)]
      by_cases hg : (goodL b).1 = 2
      ·rw [if_neg (by simp [hg]),if_neg (by simp),if_pos rfl,decide_eq_true hg]; rfl
      ·rw [if_pos (by simpa using hg),if_pos rfl,decide_eq_false hg]; rfl
     ·rw [if_neg (by simpa using hji),if_pos (by simp; omega),if_neg hji,show ((goodL b).1 != 3) = !decide ((goodL b).1 = 3) by rw [Bool.eq_iff_iff]; simp]
    refine Ex.t (by simpa using hlt) (Ex.b2 e2 (Ex.b4 e3 (Ex.b2 t0 ?_)))
    by_cases hk : (goodL b).1 = if j = i then 2 else 3
    ·rw [if_pos hk] at hr
     have hzn : all.length = z.n:=by have:=H3'.ow.len; simpa using this
     obtain ⟨z4,w4,e4,n4,H4,m4⟩:=H3'.apS st29 r3.rd nums_one (by omega)
     have hn4 : nums .u8 all ++ nums .u8 (goodL b).2.1 = nums .u8 (all ++ (goodL b).2.1):=by simp [nums]
     rw [hn4] at H4
     obtain ⟨al,hal2⟩ : ∃ al,all ++ (goodL b).2.1 = al:=⟨_,rfl⟩
     have hall : al.length = z4.n:=by have:=H4.ow.len; rw [hal2] at this; simpa using this
     have haln : al.length = all.length + (goodL b).2.1.length:=by rw [← hal2,List.length_append]
     have halb : Bytes al:=by rw [← hal2]; intro v hv; exact (List.mem_append.1 hv).elim (hby v) (hgb v)
     rw [hal2] at H4 hr
     have e0 : (if (goodL b).2.2 = true then (some ((decide ((z4.n : Int) < 8)),w4)) else (some (false,w4))) = some ((goodL b).2.2 && decide (al.length < 8),w4):=by
      rw [ifA,show decide ((z4.n : Int) < 8) = decide (al.length < 8) by rw [hall,Bool.eq_iff_iff]; simp; omega]
     refine Ex.f (by rw [decide_eq_true hk]; simp) (Ex.b2 e4 (Ex.b2 e0 ?_))
     by_cases hl : (goodL b).2.2 = true
     ·rw [if_pos hl] at hr
      rw [hl,Bool.true_and]
      by_cases h8 : al.length < 8
      ·rw [if_pos h8] at hr
       obtain ⟨w5,e5,H5,m5,-⟩:=H4.sw.stA' (vs:=rcC 0 Sl.nil) rfl rcC_one
       refine Ex.t (by simpa using h8) (Ex.b1 (by exact e5) (Ex.ret ⟨rcC 0 Sl.nil,g2,rfl,H5.sw.tl,mi3.t (m4.t m5),⟨0,Sl.nil,rfl⟩,by rw [← hr]⟩))
      ·rw [if_neg h8] at hr
       have hcap:=H4.ow.cap
       have k1 : grapevineref02_TakeKey z4 0 w4 = some (takeK al 0,((0 + 8 : Nat) : Int),0,w4):=rtake_ok (i:=0) H4.ow.rd halb (by omega) (by omega)
       obtain ⟨t,ht⟩ : ∃ t,takeK al 0 = t:=⟨_,rfl⟩
       rw [ht] at k1 hr
       obtain ⟨g5,r5,H5,m5⟩:=H4.keepO
       obtain ⟨z6,e6,r6,n6,c6⟩:=r5.slN (lo:=8) (hi:=z4.n) (m:=z4.c) (by omega) (Nat.le_refl _) hcap (Nat.le_refl _)
       obtain ⟨w7,e7,H7,m7,l7⟩:=H5.stA' (vs:=rcC t z6) rfl rcC_one
       refine Ex.f (by simpa using h8) (Ex.t rfl (Ex.b4 k1 (Ex.b1 e6 (Ex.b1 e7 (Ex.ret ⟨rcC t z6,g5,rfl,H7,mi3.t (m4.t (m5.t m7)),⟨t,z6,rfl⟩,?_⟩)))))
       rw [← hr]
       refine ⟨rfl,fun _=>⟨by show IntKind.wrap .i64 (j + 1) = j + 1; rw [wr64 (by omega) (by omega)],z6,rfl,?_,c6⟩⟩
       have r6:=r6.mo m7
       rwa [List.take_of_length_le (by rw [List.length_drop]; omega)] at r6
     ·rw [if_neg hl] at hr
      have hlf : (goodL b).2.2 = false:=by simpa using hl
      rw [hlf,Bool.false_and]
      refine Ex.f (by simp) (Ex.f (by simp) (Ex.ret ⟨m,by omega,j + 1,z4,al,g2,w4,(by show (z4,IntKind.wrap .i64 (j + 1),w4) = (z4,j + 1,w4); rw [wr64 (by omega) (by omega)]),by omega,by omega,?_,halb,by omega,H4,mi3.t m4⟩))
      rw [if_neg (by omega)]; exact hr
    ·rw [if_neg hk] at hr
     obtain ⟨w5,e5,H5,m5,-⟩:=H3'.sw.stA' (vs:=rcC 0 Sl.nil) rfl rcC_one
     refine Ex.t (by rw [decide_eq_false hk]; rfl) (Ex.b1 (by exact e5) (Ex.ret ⟨rcC 0 Sl.nil,g2,rfl,H5.sw.tl,mi3.t m5,⟨0,Sl.nil,rfl⟩,by rw [← hr]⟩))
   ·obtain rfl : m = 0:=by omega
    refine Ex.f (by simpa using hlt) (Ex.ret ⟨g1,Hi.tl,mi,⟨0,Sl.nil,rfl⟩,?_⟩)
    rw [← hr]; rfl) (16 - i).toNat (z0,i,w1b) ⟨i,z0,[],g,w1b,rfl,by omega,Int.le_refl _,by rw [if_pos rfl],(fun b hb=>by cases hb),by simp; omega,H1b,Mo.r⟩
 obtain ⟨o,e2,ho⟩:=lp
 unfold grapevineref11_Log_record
 rw [e1',bind2_some,e1b,bind2_some,e2,Option.bind_some]
 cases o with
 | inl w' =>
  obtain ⟨g2,H2,m2,h2⟩:=ho
  obtain ⟨w3,e3,H3,m3,l3⟩:=H2.stA' (vs:=rcC 0 Sl.nil) rfl rcC_one
  have e3' : stA w' ⟨pb,0,none⟩ 0 [.int .i64 0,.slice none 0 0] = some w3:=e3
  have l3' : ldA 2 w3 ⟨pb,0,none⟩ 0 = some (rcC 0 Sl.nil):=l3
  refine ⟨rcC 0 Sl.nil,0,false,g2,w3,?_,H3.tl,m1.t (m1b.t (m2.t m3)),h2.mo m3⟩
  simp only [Sum.elim_inl,u1,e3',Option.bind_some,l3']
 | inr r =>
  obtain ⟨nx,ok,w'⟩:=r
  obtain ⟨vs,g2,hl,H2,m2,h2⟩:=ho
  refine ⟨vs,nx,ok,g2,w',?_,H2.tl,m1.t (m1b.t m2),h2⟩
  have l3' : ldA 2 w' ⟨pb,0,none⟩ 0 = some vs:=by
   rw [ldA_B H2.bx (by omega),List.drop_zero,List.take_of_length_le (by omega)]
  simp only [Sum.elim_inr,u3,l3',Option.bind_some]
end
theorem stRSeg : ST Try.prog 128 136 4 32 (List.replicate 4 (.int .i64 0)):=⟨Try.underlying128,⟨Try.t136,Value.agg (List.replicate 4 (Value.int .i64 0)).toArray,by kernel_rfl,by kernel_rfl,rfl,rfl,rfl⟩,rfl,by decide,by decide⟩
def tdC (high rel : Int) (su sr : Sl) : List Value:=[.int .i64 high,.int .i64 rel,su.v,sr.v]
abbrev tdR (p : Nat) (cs : List Value) : Rs:=bxR p cs 130
def rsC (s : Sg) : List Value:=[.int .i64 s.pos,.int .i64 s.seq,.int .i64 s.fin,.int .i64 s.high]
abbrev rsR (su : Sl) (us : List Sg) : Rs:=owR 136 4 su (us.flatMap rsC)
abbrev rcR (sr : Sl) (rz : List (Int×Sl)) : Rs:=owR 87 2 sr (rz.flatMap rcF)
theorem rsC_one {s : Sg} : ∀ v∈rsC s,v.oneCell' = true:=by intro v hv; simp [rsC] at hv; rcases hv with rfl | rfl | rfl | rfl <;> rfl
theorem rsC_len {us : List Sg} : ∀ q∈us,(rsC q).length = 4:=fun _ _=>rfl
section
variable {F0 : Nat → Prop} {g0 : Gh} {w0 : World} {L : List Rs} {su sr : Sl} {y p q b j : Nat} {D : Dk} {base pos segs age rel high : Int} {cs : List Value}
theorem el_b {w w' : World} {z : Sl} {sz b b' i i' : Nat} {cs cs' : List Value} (h : El w z sz b i cs) (h' : El w' z sz b' i' cs') : b' = b:=by
 have:=h.p.symm.trans h'.p
 simp only [Option.some.injEq,Addr.mk.injEq,and_true] at this
 exact this.symm
theorem rins_ok {x : Sg} {g : Gh} (hs : su.n≤1000) {Φ : World→Prop} : ∀ (R M : List Sg) (w : World),
  Hp F0 g0 w0 g w (tdR p (tdC high rel su sr) :: rsR su (R.reverse ++ x :: M) :: L) →
  (∀ w',Hp F0 g0 w0 g w' (tdR p (tdC high rel su sr) :: rsR su ((insR x R).reverse ++ M) :: L)→Mo g w g w'→Φ w') →
  (nloop (fun s : Int×World=>grapevineref11_Log_Read_l2 ⟨p,0,none⟩ s.1 s.2) ((R.length : Int),w)).t Φ
 | [],M,w,H,hΦ=>by
  obtain ⟨w1,e1,H1,m1⟩:=H.dr
  refine Nd.next ?_
  unfold grapevineref11_Log_Read_l2
  refine Nd.j2 (Ψ:=fun r=>r = (false,w1)) (Nd.b1 e1 (Nd.f (by simp) (Nd.ret rfl))) ?_
  rintro _ _ he; cases he
  exact Nd.f (by simp) (Nd.ret (hΦ w1 H1 m1))
 | y' :: R,M,w,H,hΦ=>by
  obtain ⟨w1,e1,H1,m1⟩:=H.dr
  have gx : ((y' :: R).reverse ++ x :: M)[R.length + 1]? = some x:=by
   rw [List.getElem?_append_right (by simp)]; simp
  have gy : ((y' :: R).reverse ++ x :: M)[R.length]? = some y':=by
   rw [List.reverse_cons,List.append_assoc,List.getElem?_append_right (by simp),List.length_reverse,Nat.sub_self]; rfl
  obtain ⟨b,ex⟩:=H1.sw.el rsC_len (by decide) gx
  obtain ⟨b',ey⟩:=H1.sw.el rsC_len (by decide) gy
  obtain rfl:=el_b ex ey
  have hxn:=ex.n
  have l1 : ldL w1 ⟨p,2,none⟩ = some su:=H1.ldL rfl
  have kx : ldI .i64 w1 ⟨b',(R.length + 1) * 4 + 1,none⟩ = some x.seq:=ex.i rfl
  have ky : ldI .i64 w1 ⟨b',R.length * 4 + 1,none⟩ = some y'.seq:=ey.i rfl
  have hw1 : IntKind.wrap .i64 (((R.length + 1 : Nat) : Int) - 1) = (R.length : Int):=by rw [wr64 (by omega) (by omega)]; omega
  have i1 : ix su (((R.length + 1 : Nat) : Int)) 4 = some ⟨b',(R.length + 1) * 4,none⟩:=ex.ix
  have i2 : ix su (IntKind.wrap .i64 (((R.length + 1 : Nat) : Int) - 1)) 4 = some ⟨b',R.length * 4,none⟩:=by rw [hw1]; exact ey.ix
  refine Nd.next ?_
  unfold grapevineref11_Log_Read_l2
  simp only [List.length_cons]
  refine Nd.j2 (Ψ:=fun r=>r = (decide (x.seq < y'.seq),w1)) (Nd.b1 e1 (Nd.t (by simp) (Nd.b1 (by rw [add_mk]; exact l1) (Nd.b1 i1 (Nd.b1 (by rw [add_mk]; exact kx) (Nd.b1 (by rw [add_mk]; exact l1) (Nd.b1 i2 (Nd.b1 (by rw [add_mk]; exact ky) (Nd.ret rfl))))))))) ?_
  rintro _ _ he; cases he
  by_cases hlt : x.seq < y'.seq
  ·obtain ⟨pb,w2,e2,H2,m2⟩:=H1.box (T:=136) (cs:=List.replicate 4 (.int .i64 0))
   obtain ⟨w3,e3,H3,m3,l3⟩:=H2.stA' (vs:=rsC x) rfl rsC_one
   obtain ⟨w4,e4,H4,m4⟩:=H3.dr
   -- box,told,segments
   have l4 : ldL w4 ⟨p,2,none⟩ = some su:=H4.sw.ldL rfl
   obtain ⟨b4,ex4⟩:=H4.m2.el rsC_len (by decide) gx
   obtain rfl:=el_b ex ex4
   obtain ⟨b5,ey4⟩:=H4.m2.el rsC_len (by decide) gy
   obtain rfl:=el_b ex ey4
   obtain ⟨w5,e5,H5,m5⟩:=H4.m2.elput (q':=y') rsC_len ex4 gx rfl rsC_one
   -- segments,box,told
   have gy5 : (((y' :: R).reverse ++ x :: M).set (R.length + 1) y')[R.length]? = some y':=by rw [List.getElem?_set_ne (by omega)]; exact gy
   obtain ⟨b6,ey5⟩:=H5.el rsC_len (by decide) gy5
   obtain rfl:=el_b ex ey5
   have l5 : ldL w5 ⟨p,2,none⟩ = some su:=H5.m2.ldL rfl
   have l5a : ldA 4 w5 ⟨pb,0,none⟩ 0 = some (rsC x):=by rw [ldA_B H5.sw.bx (by exact Nat.le_refl _)]; rfl
   obtain ⟨w6,e6,H6,m6⟩:=H5.elput (q':=x) rsC_len ey5 gy5 rfl rsC_one
   have hset : (((y' :: R).reverse ++ x :: M).set (R.length + 1) y').set R.length x = R.reverse ++ x :: (y' :: M):=by
    rw [List.reverse_cons,List.append_assoc,List.set_append_right _ _ (by simp),List.set_append_right _ _ (by simp)]
    simp
   rw [hset] at H6
   have mm:=m1.t (m2.t (m3.t (m4.t (m5.t m6))))
   refine Nd.t (by simpa using hlt) (Nd.b1 (by rw [add_mk]; exact l1) (Nd.b1 i1 (Nd.b1 ex.ldA (Nd.b2 e2 (Nd.b1 e3 (Nd.b1 e4 (Nd.b1 (by rw [add_mk]; exact l4) (Nd.b1 (by rw [add_mk]; exact l4) (Nd.b1 i2 (Nd.b1 ey4.ldA (Nd.b1 i1 (Nd.b1 e5 (Nd.b1 (by rw [add_mk]; exact l5) (Nd.b1 l5a (Nd.b1 i2 (Nd.b1 e6 (Nd.ret ?_)))))))))))))))))
   simp only [Sum.elim_inl]
   rw [hw1]
   refine rins_ok hs R (y' :: M) w6 (H6.m2.perm (by exact (List.Perm.cons _ (List.Perm.refl _)))|>.b2|>.sw|>.sw|>.b2|>.m2|>.sw|>.tl|>.sw) fun w' H' m'=>hΦ w' ?_ (mm.t m')
   rw [insR,if_pos hlt,List.reverse_cons,List.append_assoc]
   exact H'
  ·refine Nd.f (by simpa using hlt) (Nd.ret (hΦ w1 ?_ m1))
   rw [insR,if_neg hlt,List.reverse_cons,List.append_assoc]
   exact H1
end
end Go.Proofs.Ytejkaciimmfgcaa.D
