/- Texts of this project that the claim of EvlogOpens uses, put together by pack.py: FnE1, FnE2, Good, Laid, Rec, Chk, Read, MPut, ReadB, Free, OpenE, FnS0. -/
import Derived.Test.YtejkaciimmfgcaaPEvlogOpensA
import Derived.Test.YtejkaciimmfgcaaPEvlogOpensB
namespace Go.Proofs.Ytejkaciimmfgcaa.D
open Go
set_option linter.unusedVariables false
set_option linter.unusedSimpArgs false
noncomputable def evlog_Log_free_l1 (v3 : Sl) (a0 : Option Addr) (a1 : Int) (x5 : Sl) (x6 : Int) (w7 : World) : Option ((Sl×Int×World)⊕((Sl×World)⊕(Sl×Int×World))) :=
 if (decide (x6 < (v3.n : Int))) = true then
 (bindX ((ix v3 x6 5).bind fun p26 =>
 (ldA 5 w7 p26 0).bind fun c28 =>
 bind2 (mk w7 125 (List.replicate 4 (.int .i64 0) ++ [.slice none 0 0])) fun p30 w31 =>
 (stA w31 p30 0 c28).bind fun w33 =>
 bind2 ((a0).bind fun p39 =>
 (ldL w33 (p39.add 7)).bind fun v41 =>
 if (x6 == (IntKind.wrap .i64 ((v41.n : Int) - 1))) = true then
 (some (true,w33))
 else
 ((ldI .i64 w33 (p30.add 3)).bind fun v44 =>
 some ((decide (a1 < v44)),w33))) fun v35 w36 =>
 if v35 = true then
 ((ldA 5 w36 p30 0).bind fun c47 =>
 bind2 (bsl w36 125 5 [c47]) fun s49 w50 =>
 bind2 (apS Try.prog 117 x5 s49 w50) fun s52 w53 =>
 some (.inr (s52,w53)))
 else
 ((dr w36).bind fun w55 =>
 (a0).bind fun p57 =>
 (ldP w55 (p57.add 0)).bind fun v59 =>
 (ldI .i64 w55 (p30.add 0)).bind fun v61 =>
 bind2 (evlog_Log_at a0 v61 0 w55) fun v63 w64 =>
 bind2 (sector_Disk_Write v59 v63 Sl.nil w64) fun v66 w67 =>
 chk (ldP w64 (p57.add 0) = some v59) <|
 if (v66 != 0) = true then
 ((some (.inr (.inr (Sl.nil,v66,w67)))).bind fun g25=>some (.inl g25))
 else
 (some (.inr (x5,w67))))) some fun (i : Sl×World)=>u2 i fun v19 w20 =>
 some (.inl (v19,(IntKind.wrap .i64 (x6 + 1)),w20)))
 else
 (some (.inr (.inl (x5,w7))))
noncomputable def evlog_Log_free (a0 : Option Addr) (a1 : Int) (w : World) : Option (Sl×Int×World) :=
 (a0).bind fun p1 =>
 (ldL w (p1.add 7)).bind fun v3 =>
 (loopF (fun s : Sl×Int×World=>evlog_Log_free_l1 v3 a0 a1 s.1 s.2.1 s.2.2) (Sl.nil,0,w)).bind fun r8=>Sum.elim (fun (i : Sl×World)=>u2 i fun v10 w11 =>
 some (v10,0,w11)) (fun (i : Sl×Int×World)=>u3 i fun v12 v13 w14 =>
 some (v12,v13,w14)) r8
set_option maxHeartbeats 1000000 in
set_option maxRecDepth 100000 in
theorem evlog_Log_free_ok {a0 : Option Addr} {a1 : Int} {w w' : World} {r0 : Sl} {r1 : Int} (h : evlog_Log_free a0 a1 w = some (r0,r1,w')) : Calls Try.prog 71 #[(.pointer a0),(.int .i64 a1)] w fun e w''=>e = .returned (.tuple #[(Sl.v r0),(.int .i64 r1)])∧w'' = w':=by
 refine calls_dec (n:=51) Try.func71 rfl Try.ntmps71 (by simp) fun a ha=>?_
 unfold evlog_Log_free at h
 refine wp_seq<|region_lit<|qa ha rfl fun a ha=>qa ha rfl fun a ha=>s_nil<|t_n<|wp_seq<|wp_seq<|region_lit<|qm ha rfl fun a ha=>?_
 obtain ⟨p1,e2,h⟩:=bs1 h
 refine q ha (d_nilp ha rfl e2) fun a ha=>q ha (d_fa ha rfl Try.runUnderlying119 rfl rfl Try.sizeOf117 (by decide)) fun a ha=>?_
 obtain ⟨v3,e4,h⟩:=bs1 h
 refine q ha (d_ld ha rfl Try.isAgg117 (ldL_c e4)) fun a ha=>q ha (d_lenS ha rfl Try.runUnderlying117) fun a ha=>qm ha rfl fun a ha=>s_nil<|t_n<|wp_block<|?_
 obtain ⟨r8,e9,h⟩:=bs1 h
 refine s_loop2 (n:=51) (L1:=fun i=>[(4,(Sl.v i.1))]) (w1:=fun i=>i.2) (L2:=fun i=>[(4,(Sl.v i.1)),(5,(.int .i64 i.2.1))]) (w2:=fun i=>i.2.2) (e1:=.exit 0) (e2:=.ret) (I:=fun (s : Sl×Int×World) a w=>Has 51 [(4,(Sl.v s.1)),(14,(.int .i64 s.2.1)),(0,(.pointer a0)),(1,(.int .i64 a1)),(12,(Sl.v v3)),(13,(.int .i64 (v3.n : Int)))] a∧w = s.2.2) ⟨ha.sub ⟨rfl,rfl,rfl,rfl,rfl,rfl,trivial⟩,rfl⟩ e9 (fun i hi a ha=>?_) (fun i hi a ha=>?_) (fun hk15 hk16=>?_)
 ·subst hi
  obtain ⟨v10,w11⟩:=i
  dsimp only [Sum.elim_inl,Sum.elim_inr,u1,u2,u3,u4,u5,u6] at h
  have ha : Has 51 [(4,(Sl.v v10))] a:=ha
  refine b_hit<|t_n<|wp_seq<|region_lit<|qm ha rfl fun a ha=>qa ha rfl fun a ha=>qa ha rfl fun a ha=>s_nil<|t_n<|wp_ret<|?_
  have hS:=ha
  cases h
  exact ret2 Try.results71 hS rfl rfl ⟨rfl,rfl⟩
 ·subst hi
  obtain ⟨v12,v13,w14⟩:=i
  dsimp only [Sum.elim_inl,Sum.elim_inr,u1,u2,u3,u4,u5,u6] at h
  have ha : Has 51 [(4,(Sl.v v12)),(5,(.int .i64 v13))] a:=ha
  refine b_r<|t_r<|?_
  have hS:=ha
  cases h
  exact ret2 Try.results71 hS rfl rfl ⟨rfl,rfl⟩
 ·clear h
  rintro ⟨x5,x6,w7⟩ a wq o ⟨ha,hwq⟩ h hr17
  obtain rfl : w7 = wq:=hwq.symm
  have ha : Has 51 [(4,(Sl.v x5)),(14,(.int .i64 x6)),(0,(.pointer a0)),(1,(.int .i64 a1)),(12,(Sl.v v3)),(13,(.int .i64 (v3.n : Int)))] a:=ha
  have h : evlog_Log_free_l1 v3 a0 a1 x5 x6 w7 = some o:=h
  unfold evlog_Log_free_l1 at h
  refine wp_seq<|region_lit<|q ha (d_lt ha rfl rfl) fun a ha=>s_nil<|t_n<|wp_seq<|?_
  refine s_cond ha rfl h (fun b18 h=>?_) (fun b18 h=>?_)
  ·refine wp_skip<|t_n<|?_
   obtain ⟨o23,e21,h22⟩:=bsX h
   clear h
   refine seq_joinF (n:=51) (ι:=Sl×World) (Lf:=fun i=>[(4,(Sl.v i.1)),(0,(.pointer a0)),(1,(.int .i64 a1)),(12,(Sl.v v3)),(13,(.int .i64 (v3.n : Int))),(14,(.int .i64 x6))]) (wf:=fun i=>i.2) (C:=fun i=>o23 = .inr i) (fun i hi a ha=>?_) (fun hk24=>?_)
   ·subst hi
    obtain ⟨v19,w20⟩:=i
    have h:=h22
    dsimp only [bindX,u1,u2,u3,u4,u5,u6] at h
    have ha : Has 51 [(4,(Sl.v v19)),(0,(.pointer a0)),(1,(.int .i64 a1)),(12,(Sl.v v3)),(13,(.int .i64 (v3.n : Int))),(14,(.int .i64 x6))] a:=ha
    refine region_lit<|q ha (d_add ha rfl rfl) fun a ha=>qm ha rfl fun a ha=>s_nil<|?_
    have hS : Has 51 [(4,(Sl.v v19)),(14,(.int .i64 (IntKind.wrap .i64 (x6 + 1)))),(0,(.pointer a0)),(1,(.int .i64 a1)),(12,(Sl.v v3)),(13,(.int .i64 (v3.n : Int)))] _:=ha.sub ⟨rfl,rfl,rfl,rfl,rfl,rfl,trivial⟩
    cases h
    exact lp_next ⟨hS,rfl⟩
   ·have h:=e21
    refine wp_block<|wp_seq<|region_lit<|qm ha rfl fun a ha=>?_
    obtain ⟨p26,e27,h⟩:=bs1 h
    refine q ha (d_ix ha rfl rfl Try.runUnderlying117 Try.sizeOf125 e27) fun a ha=>?_
    obtain ⟨c28,e29,h⟩:=bs1 h
    refine q ha (d_ldA ha rfl Try.isAgg125 Try.sizeOf125 e29) fun a ha=>?_
    obtain ⟨p30,w31,e32,h⟩:=bs2 h
    refine q ha (d_alloc Try.zeroValue125 (by kernel_rfl) e32) fun a ha=>qa ha rfl fun a ha=>?_
    obtain ⟨w33,e34,h⟩:=bs1 h
    refine q ha (d_stA ha rfl rfl Try.sizeOf125 ((ldA_c e29).1) e34) fun a ha=>s_nil<|t_n<|wp_seq<|wp_seq<|?_
    obtain ⟨v35,w36,e37,h⟩:=bs2 h
    refine reg_join (n:=51) (L:=[(32,(.bool v35)),(0,(.pointer a0)),(1,(.int .i64 a1)),(4,(Sl.v x5)),(7,(.pointer (some p30))),(12,(Sl.v v3)),(13,(.int .i64 (v3.n : Int))),(14,(.int .i64 x6))]) (w':=w36) (fun a ha=>?_) (fun hk38=>?_)
    ·refine t_n<|?_
     refine s_cond ha rfl h (fun b46 h=>?_) (fun b46 h=>?_)
     ·refine wp_seq<|region_lit<|qm ha rfl fun a ha=>?_
      obtain ⟨c47,e48,h⟩:=bs1 h
      refine q ha (d_ldA ha rfl Try.isAgg125 Try.sizeOf125 e48) fun a ha=>?_
      obtain ⟨s49,w50,e51,h⟩:=bs2 h
      refine q ha (d_bsl (vs:=[(0,(.agg (List.toArray c47)))]) (ps:=[c47]) ha ⟨rfl,rfl,trivial⟩ ⟨rfl,rfl,trivial⟩ rfl Try.runUnderlying117 Try.sizeOf125 Try.zeroValue125 (by decide) e51) fun a ha=>?_
      obtain ⟨s52,w53,e54,h⟩:=bs2 h
      refine q ha (d_apS ha rfl rfl e54) fun a ha=>qa ha rfl fun a ha=>s_nil<|t_n<|wp_exit<|t_x<|b_hit<|?_
      have hS : Has 51 [(4,(Sl.v s52)),(0,(.pointer a0)),(1,(.int .i64 a1)),(12,(Sl.v v3)),(13,(.int .i64 (v3.n : Int))),(14,(.int .i64 x6))] _:=ha.sub ⟨rfl,rfl,rfl,rfl,rfl,rfl,trivial⟩
      cases h
      exact hk24 _ rfl _ hS
     ·refine wp_skip<|t_n<|wp_seq<|?_
      obtain ⟨w55,e56,h⟩:=bs1 h
      obtain ⟨p57,e58,h⟩:=bs1 h
      obtain ⟨v59,e60,h⟩:=bs1 h
      obtain ⟨v61,e62,h⟩:=bs1 h
      obtain ⟨v63,w64,e65,h⟩:=bs2 h
      obtain ⟨v66,w67,e68,h⟩:=bs2 h
      obtain ⟨e69,h⟩:=chk_some h
      have ha : Has 51 [(0,(.pointer a0)),(1,(.int .i64 a1)),(4,(Sl.v x5)),(7,(.pointer (some p30))),(12,(Sl.v v3)),(13,(.int .i64 (v3.n : Int))),(14,(.int .i64 x6))] a:=ha.sub ⟨rfl,rfl,rfl,rfl,rfl,rfl,rfl,trivial⟩
      refine region_draw (n:=51) (ds:=(⟨_,(.pointer a0),false,0,1,[],[(0,(.pointer a0))]⟩ :: ⟨_,(.pointer (some p57)),false,0,1,[0],[(37,(.pointer a0))]⟩ :: ⟨_,(.pointer (some (p57.add 0))),false,0,1,[0,1],[(38,(.pointer (some p57)))]⟩ :: ⟨_,(.pointer v59),false,0,1,[0,1,2],[(39,(.pointer (some (p57.add 0))))]⟩ :: ⟨_,(.pointer a0),false,0,0,[],[(0,(.pointer a0))]⟩ :: ⟨_,(.pointer (some (p30.add 0))),false,0,0,[],[(7,(.pointer (some p30)))]⟩ :: ⟨_,(.int .i64 v61),false,0,0,[5],[(42,(.pointer (some (p30.add 0))))]⟩ :: ⟨_,(.int .i64 v63),true,0,0,[4,5,6],[(41,(.pointer a0)),(43,(.int .i64 v61))]⟩ :: ⟨_,(.int .i64 v66),true,1,1,(rn 0 8),[(40,(.pointer v59)),(44,(.int .i64 v63))]⟩ :: ⟨_,(.int .i64 v66),false,2,2,(rn 0 9),[(45,(.int .i64 v66))]⟩ :: [])) (W:=(fun j=>match j with | 0=>w55 | 1=>w64 | 2=>w67 | _=>w67)) (by kernel_rfl) ha (dr_w e56) (by kernel_rfl) ?_ (reads_of (by kernel_rfl)) (by kernel_rfl) (m:=2) (by kernel_rfl) (fun a ha=>?_)
      ·refine ⟨?_,?_,?_,?_,?_,?_,?_,?_,?_,?_,trivial⟩
       ·exact oa fun j a ha=>d_move ha rfl
       ·exact oa fun j a ha=>d_nilp ha rfl e58
       ·exact oa fun j a ha=>d_fa ha rfl Try.runUnderlying119 rfl rfl Try.sizeOf57 (by decide)
       ·intro j h1 h2; have h1 : 0≤j:=h1; have h2 : j≤1:=h2; rcases (by omega : j = 0∨j = 1) with rfl | rfl
        ·exact ok_do rfl fun a ha=>d_ld ha rfl Try.isAgg57 (ldP_c e60)
        ·exact ok_do rfl fun a ha=>d_ld ha rfl Try.isAgg57 (ldP_c e69)
       ·exact oa fun j a ha=>d_move ha rfl
       ·exact oa fun j a ha=>d_fa ha rfl Try.runUnderlying125 rfl rfl Try.sizeOf3 (by decide)
       ·exact oc 0 (ok_do rfl fun a ha=>d_ld ha rfl Try.isAgg3 (ldI_c e62))
       ·exact oc 0 (ok_do rfl fun a ha=>d_call (xs:=[_,_,_]) (vs:=[(.pointer a0),(.int .i64 v61),(.int .i64 0)]) ha ⟨rfl,rfl,rfl,trivial⟩ Try.call85 (evlog_Log_at_ok e65))
       ·exact oc 1 (ok_do rfl fun a ha=>d_call (xs:=[_,_,_]) (vs:=[(.pointer v59),(.int .i64 v63),(Sl.v Sl.nil)]) ha ⟨rfl,rfl,rfl,trivial⟩ Try.call84 (sector_Disk_Write_ok e68))
       ·exact oa fun j a ha=>d_assign ha rfl
      ·have ha : Has 51 [(0,(.pointer a0)),(1,(.int .i64 a1)),(4,(Sl.v x5)),(8,(.int .i64 v66)),(12,(Sl.v v3)),(13,(.int .i64 (v3.n : Int))),(14,(.int .i64 x6))] a:=ha.sub ⟨rfl,rfl,rfl,rfl,rfl,rfl,rfl,trivial⟩
       refine t_n<|wp_seq<|region_lit<|qm ha rfl fun a ha=>q ha (d_ne ha rfl rfl) fun a ha=>s_nil<|t_n<|?_
       refine s_cond ha rfl h (fun b70 h=>?_) (fun b70 h=>?_)
       ·refine wp_seq<|region_lit<|qm ha rfl fun a ha=>qa ha rfl fun a ha=>qa ha rfl fun a ha=>s_nil<|t_n<|wp_ret<|b_r<|?_
        have hS:=ha
        obtain ⟨g25,e71,h⟩:=bs1 h
        cases h
        cases h22
        have h:=e71
        have ha:=hS
        refine t_r<|?_
        have hS : Has 51 [(4,(Sl.v Sl.nil)),(5,(.int .i64 v66))] _:=ha.sub ⟨rfl,rfl,trivial⟩
        cases h
        cases hr17 _ rfl
        refine lp_r<|?_
        exact hk16 _ rfl _ hS
       ·refine wp_skip<|b_n<|?_
        have hS : Has 51 [(4,(Sl.v x5)),(0,(.pointer a0)),(1,(.int .i64 a1)),(12,(Sl.v v3)),(13,(.int .i64 (v3.n : Int))),(14,(.int .i64 x6))] _:=ha.sub ⟨rfl,rfl,rfl,rfl,rfl,rfl,trivial⟩
        cases h
        exact hk24 _ rfl _ hS
    ·clear h
     have h:=e37
     refine region_lit<|qm ha rfl fun a ha=>qm ha rfl fun a ha=>?_
     obtain ⟨p39,e40,h⟩:=bs1 h
     refine q ha (d_nilp ha rfl e40) fun a ha=>q ha (d_fa ha rfl Try.runUnderlying119 rfl rfl Try.sizeOf117 (by decide)) fun a ha=>?_
     obtain ⟨v41,e42,h⟩:=bs1 h
     refine q ha (d_ld ha rfl Try.isAgg117 (ldL_c e42)) fun a ha=>q ha (d_lenS ha rfl Try.runUnderlying117) fun a ha=>q ha (d_sub ha rfl rfl) fun a ha=>q ha (d_eq ha rfl rfl) fun a ha=>qm ha rfl fun a ha=>?_
     refine ite_s h (fun b43 h=>?_) (fun b43 h=>?_)
     ·refine qn ha 27 (tn b43) fun a ha=>qn ha 27 (tn b43) fun a ha=>qn ha 27 (tn b43) fun a ha=>qn ha 27 (tn b43) fun a ha=>q ha (d_pick_t ha rfl b43 rfl) fun a ha=>s_nil<|?_
      have hS : Has 51 [(32,(.bool true)),(0,(.pointer a0)),(1,(.int .i64 a1)),(4,(Sl.v x5)),(7,(.pointer (some p30))),(12,(Sl.v v3)),(13,(.int .i64 (v3.n : Int))),(14,(.int .i64 x6))] _:=ha.sub ⟨rfl,rfl,rfl,rfl,rfl,rfl,rfl,rfl,trivial⟩
      cases h
      exact hk38 _ hS
     ·refine qg ha 27 (nt b43) (d_fa ha rfl Try.runUnderlying125 rfl rfl Try.sizeOf3 (by decide)) fun a ha=>?_
      obtain ⟨v44,e45,h⟩:=bs1 h
      refine qg ha 27 (nt b43) (d_ld ha rfl Try.isAgg3 (ldI_c e45)) fun a ha=>qg ha 27 (nt b43) (d_move ha rfl) fun a ha=>qg ha 27 (nt b43) (d_gt ha rfl rfl) fun a ha=>q ha (d_pick_f ha rfl b43 rfl) fun a ha=>s_nil<|?_
      have hS : Has 51 [(32,(.bool (decide (a1 < v44)))),(0,(.pointer a0)),(1,(.int .i64 a1)),(4,(Sl.v x5)),(7,(.pointer (some p30))),(12,(Sl.v v3)),(13,(.int .i64 (v3.n : Int))),(14,(.int .i64 x6))] _:=ha.sub ⟨rfl,rfl,rfl,rfl,rfl,rfl,rfl,rfl,trivial⟩
      cases h
      exact hk38 _ hS
  ·refine wp_exit<|t_x<|?_
   have hS : Has 51 [(4,(Sl.v x5))] _:=ha.sub ⟨rfl,trivial⟩
   cases h
   cases hr17 _ rfl
   refine lp_x<|?_
   exact hk15 _ rfl _ hS
noncomputable def evlog_Log_wipe_l1 (a0 : Option Addr) (a1 : Int) (x1 : Int) (x2 : Int) (w3 : World) : Option ((Int×Int×World)⊕((Int×World)⊕(Int×Int×World))) :=
 if (decide (x2 < 16)) = true then
 (bindX (bind2 (evlog_Log_look a0 a1 x2 w3) fun v22 w23 =>
 bind2 (evlog_empty v22 w23) fun v25 w26 =>
 if v25 = true then
 (some (.inr (x1,w26)))
 else
 ((dr w26).bind fun w29 =>
 (a0).bind fun p31 =>
 (ldP w29 (p31.add 0)).bind fun v33 =>
 bind2 (evlog_Log_at a0 a1 x2 w29) fun v35 w36 =>
 bind2 (sector_Disk_Write v33 v35 Sl.nil w36) fun v38 w39 =>
 chk (ldP w36 (p31.add 0) = some v33) <|
 if (v38 != 0) = true then
 ((some (.inr (.inr (x1,v38,w39)))).bind fun g21=>some (.inl g21))
 else
 (some (.inr ((IntKind.wrap .i64 (x1 + 1)),w39))))) some fun (i : Int×World)=>u2 i fun v15 w16 =>
 some (.inl (v15,(IntKind.wrap .i64 (x2 + 1)),w16)))
 else
 (some (.inr (.inl (x1,w3))))
noncomputable def evlog_Log_wipe (a0 : Option Addr) (a1 : Int) (a2 : Int) (w : World) : Option (Int×Int×World) :=
 (loopF (fun s : Int×Int×World=>evlog_Log_wipe_l1 a0 a1 s.1 s.2.1 s.2.2) (0,a2,w)).bind fun r4=>Sum.elim (fun (i : Int×World)=>u2 i fun v6 w7 =>
 some (v6,0,w7)) (fun (i : Int×Int×World)=>u3 i fun v8 v9 w10 =>
 some (v8,v9,w10)) r4
set_option maxHeartbeats 1000000 in
set_option maxRecDepth 100000 in
theorem evlog_Log_wipe_ok {a0 : Option Addr} {a1 : Int} {a2 : Int} {w w' : World} {r0 : Int} {r1 : Int} (h : evlog_Log_wipe a0 a1 a2 w = some (r0,r1,w')) : Calls Try.prog 72 #[(.pointer a0),(.int .i64 a1),(.int .i64 a2)] w fun e w''=>e = .returned (.tuple #[(.int .i64 r0),(.int .i64 r1)])∧w'' = w':=by
 refine calls_dec (n:=37) Try.func72 rfl Try.ntmps72 (by simp) fun a ha=>?_
 unfold evlog_Log_wipe at h
 refine wp_seq<|region_lit<|qa ha rfl fun a ha=>qa ha rfl fun a ha=>s_nil<|t_n<|wp_seq<|region_lit<|qa ha rfl fun a ha=>s_nil<|t_n<|wp_seq<|wp_seq<|region_lit<|qm ha rfl fun a ha=>qa ha rfl fun a ha=>s_nil<|t_n<|wp_block<|?_
 obtain ⟨r4,e5,h⟩:=bs1 h
 refine s_loop2 (n:=37) (L1:=fun i=>[(8,(.int .i64 i.1))]) (w1:=fun i=>i.2) (L2:=fun i=>[(6,(.int .i64 i.1)),(7,(.int .i64 i.2.1))]) (w2:=fun i=>i.2.2) (e1:=.exit 0) (e2:=.ret) (I:=fun (s : Int×Int×World) a w=>Has 37 [(8,(.int .i64 s.1)),(9,(.int .i64 s.2.1)),(0,(.pointer a0)),(1,(.int .i64 a1))] a∧w = s.2.2) ⟨ha.sub ⟨rfl,rfl,rfl,rfl,trivial⟩,rfl⟩ e5 (fun i hi a ha=>?_) (fun i hi a ha=>?_) (fun hk11 hk12=>?_)
 ·subst hi
  obtain ⟨v6,w7⟩:=i
  dsimp only [Sum.elim_inl,Sum.elim_inr,u1,u2,u3,u4,u5,u6] at h
  have ha : Has 37 [(8,(.int .i64 v6))] a:=ha
  refine b_hit<|t_n<|wp_seq<|region_lit<|qm ha rfl fun a ha=>qa ha rfl fun a ha=>qa ha rfl fun a ha=>s_nil<|t_n<|wp_ret<|?_
  have hS:=ha
  cases h
  exact ret2 Try.results72 hS rfl rfl ⟨rfl,rfl⟩
 ·subst hi
  obtain ⟨v8,v9,w10⟩:=i
  dsimp only [Sum.elim_inl,Sum.elim_inr,u1,u2,u3,u4,u5,u6] at h
  have ha : Has 37 [(6,(.int .i64 v8)),(7,(.int .i64 v9))] a:=ha
  refine b_r<|t_r<|?_
  have hS:=ha
  cases h
  exact ret2 Try.results72 hS rfl rfl ⟨rfl,rfl⟩
 ·clear h
  rintro ⟨x1,x2,w3⟩ a wq o ⟨ha,hwq⟩ h hr13
  obtain rfl : w3 = wq:=hwq.symm
  have ha : Has 37 [(8,(.int .i64 x1)),(9,(.int .i64 x2)),(0,(.pointer a0)),(1,(.int .i64 a1))] a:=ha
  have h : evlog_Log_wipe_l1 a0 a1 x1 x2 w3 = some o:=h
  unfold evlog_Log_wipe_l1 at h
  refine wp_seq<|wp_seq<|region_lit<|qm ha rfl fun a ha=>q ha (d_lt ha rfl rfl) fun a ha=>s_nil<|t_n<|?_
  refine s_cond ha rfl h (fun b14 h=>?_) (fun b14 h=>?_)
  ·refine wp_skip<|t_n<|?_
   obtain ⟨o19,e17,h18⟩:=bsX h
   clear h
   refine seq_joinF (n:=37) (ι:=Int×World) (Lf:=fun i=>[(8,(.int .i64 i.1)),(0,(.pointer a0)),(1,(.int .i64 a1)),(9,(.int .i64 x2))]) (wf:=fun i=>i.2) (C:=fun i=>o19 = .inr i) (fun i hi a ha=>?_) (fun hk20=>?_)
   ·subst hi
    obtain ⟨v15,w16⟩:=i
    have h:=h18
    dsimp only [bindX,u1,u2,u3,u4,u5,u6] at h
    have ha : Has 37 [(8,(.int .i64 v15)),(0,(.pointer a0)),(1,(.int .i64 a1)),(9,(.int .i64 x2))] a:=ha
    refine region_lit<|qm ha rfl fun a ha=>q ha (d_add ha rfl rfl) fun a ha=>qa ha rfl fun a ha=>s_nil<|?_
    have hS : Has 37 [(8,(.int .i64 v15)),(9,(.int .i64 (IntKind.wrap .i64 (x2 + 1)))),(0,(.pointer a0)),(1,(.int .i64 a1))] _:=ha.sub ⟨rfl,rfl,rfl,rfl,trivial⟩
    cases h
    exact lp_next ⟨hS,rfl⟩
   ·have h:=e17
    refine wp_block<|wp_seq<|wp_seq<|region_lit<|qm ha rfl fun a ha=>qm ha rfl fun a ha=>qm ha rfl fun a ha=>?_
    obtain ⟨v22,w23,e24,h⟩:=bs2 h
    refine q ha (d_call (xs:=[_,_,_]) (vs:=[(.pointer a0),(.int .i64 a1),(.int .i64 x2)]) ha ⟨rfl,rfl,rfl,trivial⟩ Try.call111 (evlog_Log_look_ok e24)) fun a ha=>?_
    obtain ⟨v25,w26,e27,h⟩:=bs2 h
    refine q ha (d_call (xs:=[_]) (vs:=[(Sl.v v22)]) ha ⟨rfl,trivial⟩ Try.call110 (evlog_empty_ok e27)) fun a ha=>s_nil<|t_n<|?_
    refine s_cond ha rfl h (fun b28 h=>?_) (fun b28 h=>?_)
    ·refine wp_exit<|t_x<|b_hit<|?_
     have hS : Has 37 [(8,(.int .i64 x1)),(0,(.pointer a0)),(1,(.int .i64 a1)),(9,(.int .i64 x2))] _:=ha.sub ⟨rfl,rfl,rfl,rfl,trivial⟩
     cases h
     exact hk20 _ rfl _ hS
    ·refine wp_skip<|t_n<|wp_seq<|wp_seq<|?_
     obtain ⟨w29,e30,h⟩:=bs1 h
     obtain ⟨p31,e32,h⟩:=bs1 h
     obtain ⟨v33,e34,h⟩:=bs1 h
     obtain ⟨v35,w36,e37,h⟩:=bs2 h
     obtain ⟨v38,w39,e40,h⟩:=bs2 h
     obtain ⟨e41,h⟩:=chk_some h
     have ha : Has 37 [(0,(.pointer a0)),(1,(.int .i64 a1)),(8,(.int .i64 x1)),(9,(.int .i64 x2))] a:=ha.sub ⟨rfl,rfl,rfl,rfl,trivial⟩
     refine region_draw (n:=37) (ds:=(⟨_,(.pointer a0),false,0,1,[],[(0,(.pointer a0))]⟩ :: ⟨_,(.pointer (some p31)),false,0,1,[0],[(21,(.pointer a0))]⟩ :: ⟨_,(.pointer (some (p31.add 0))),false,0,1,[0,1],[(22,(.pointer (some p31)))]⟩ :: ⟨_,(.pointer v33),false,0,1,[0,1,2],[(23,(.pointer (some (p31.add 0))))]⟩ :: ⟨_,(.pointer a0),false,0,0,[],[(0,(.pointer a0))]⟩ :: ⟨_,(.int .i64 a1),false,0,0,[],[(1,(.int .i64 a1))]⟩ :: ⟨_,(.int .i64 x2),false,0,0,[],[(9,(.int .i64 x2))]⟩ :: ⟨_,(.int .i64 v35),true,0,0,[4,5,6],[(25,(.pointer a0)),(26,(.int .i64 a1)),(27,(.int .i64 x2))]⟩ :: ⟨_,(.int .i64 v38),true,1,1,(rn 0 8),[(24,(.pointer v33)),(28,(.int .i64 v35))]⟩ :: ⟨_,(.int .i64 v38),false,2,2,(rn 0 9),[(29,(.int .i64 v38))]⟩ :: [])) (W:=(fun j=>match j with | 0=>w29 | 1=>w36 | 2=>w39 | _=>w39)) (by kernel_rfl) ha (dr_w e30) (by kernel_rfl) ?_ (reads_of (by kernel_rfl)) (by kernel_rfl) (m:=2) (by kernel_rfl) (fun a ha=>?_)
     ·refine ⟨?_,?_,?_,?_,?_,?_,?_,?_,?_,?_,trivial⟩
      ·exact oa fun j a ha=>d_move ha rfl
      ·exact oa fun j a ha=>d_nilp ha rfl e32
      ·exact oa fun j a ha=>d_fa ha rfl Try.runUnderlying119 rfl rfl Try.sizeOf57 (by decide)
      ·intro j h1 h2; have h1 : 0≤j:=h1; have h2 : j≤1:=h2; rcases (by omega : j = 0∨j = 1) with rfl | rfl
       ·exact ok_do rfl fun a ha=>d_ld ha rfl Try.isAgg57 (ldP_c e34)
       ·exact ok_do rfl fun a ha=>d_ld ha rfl Try.isAgg57 (ldP_c e41)
      ·exact oa fun j a ha=>d_move ha rfl
      ·exact oa fun j a ha=>d_move ha rfl
      ·exact oa fun j a ha=>d_move ha rfl
      ·exact oc 0 (ok_do rfl fun a ha=>d_call (xs:=[_,_,_]) (vs:=[(.pointer a0),(.int .i64 a1),(.int .i64 x2)]) ha ⟨rfl,rfl,rfl,trivial⟩ Try.call85 (evlog_Log_at_ok e37))
      ·exact oc 1 (ok_do rfl fun a ha=>d_call (xs:=[_,_,_]) (vs:=[(.pointer v33),(.int .i64 v35),(Sl.v Sl.nil)]) ha ⟨rfl,rfl,rfl,trivial⟩ Try.call84 (sector_Disk_Write_ok e40))
      ·exact oa fun j a ha=>d_assign ha rfl
     ·have ha : Has 37 [(0,(.pointer a0)),(1,(.int .i64 a1)),(8,(.int .i64 x1)),(9,(.int .i64 x2)),(10,(.int .i64 v38))] a:=ha.sub ⟨rfl,rfl,rfl,rfl,rfl,trivial⟩
      refine t_n<|wp_seq<|region_lit<|qm ha rfl fun a ha=>q ha (d_ne ha rfl rfl) fun a ha=>s_nil<|t_n<|?_
      refine s_cond ha rfl h (fun b42 h=>?_) (fun b42 h=>?_)
      ·refine wp_seq<|region_lit<|qm ha rfl fun a ha=>qm ha rfl fun a ha=>qa ha rfl fun a ha=>qa ha rfl fun a ha=>s_nil<|t_n<|wp_ret<|t_r<|b_r<|?_
       have hS:=ha
       obtain ⟨g21,e43,h⟩:=bs1 h
       cases h
       cases h18
       have h:=e43
       have ha:=hS
       refine t_r<|?_
       have hS : Has 37 [(6,(.int .i64 x1)),(7,(.int .i64 v38))] _:=ha.sub ⟨rfl,rfl,trivial⟩
       cases h
       cases hr13 _ rfl
       refine lp_r<|?_
       exact hk12 _ rfl _ hS
      ·refine wp_skip<|t_n<|region_lit<|qm ha rfl fun a ha=>q ha (d_add ha rfl rfl) fun a ha=>qa ha rfl fun a ha=>s_nil<|b_n<|?_
       have hS : Has 37 [(8,(.int .i64 (IntKind.wrap .i64 (x1 + 1)))),(0,(.pointer a0)),(1,(.int .i64 a1)),(9,(.int .i64 x2))] _:=ha.sub ⟨rfl,rfl,rfl,rfl,trivial⟩
       cases h
       exact hk20 _ rfl _ hS
  ·refine wp_exit<|t_x<|?_
   have hS : Has 37 [(8,(.int .i64 x1))] _:=ha.sub ⟨rfl,trivial⟩
   cases h
   cases hr13 _ rfl
   refine lp_x<|?_
   exact hk11 _ rfl _ hS
noncomputable def evlog_Open (a0 : Option Addr) (a1 : Int) (a2 : Int) (w : World) : ND ((Option Addr)×Int×World) :=
 if (a0.isNone) = true then
 (nret (none,1,w))
 else
 (lb2 (sector_Disk_Down a0 w) fun v2 w3 =>
 if v2 = true then
 (nret (none,10,w3))
 else
 (cb2 (if (decide (a2 < 2)) = true then
 (nret (true,w3))
 else
 (if (decide (16 < a2)) = true then
 (nret (true,w3))
 else
 (if (decide (a1 < 0)) = true then
 (nret (true,w3))
 else
 (lb2 (sector_Disk_Size a0 w3) fun v13 w14 =>
 nret ((decide ((IntKind.wrap .i64 ((IntKind.wrap .i64 (v13 - 2)) - (IntKind.wrap .i64 (a2 * 16)))) < a1)),w14))))) fun v6 w7 =>
 if v6 = true then
 (nret (none,2,w7))
 else
 (lb2 (sector_Disk_Age a0 w7) fun v17 w18 =>
 lb2 (mk w18 119 ([.pointer a0,.pointer none,.int .i64 a1,.int .i64 a2,.int .i64 v17,.int .i64 0,.int .i64 0,.slice none 0 0])) fun p20 w21 =>
 lb3 (mark_Open a0 a1 1 w21) fun v23 v24 w25 =>
 lb1 (stV w25 (p20.add 1) (.pointer v23)) fun w27 =>
 cb1 (evlog_Log_read (some p20) w27) fun w29 =>
 lb1 (ldL w29 (p20.add 7)) fun v31 =>
 lb1 (ldI .i64 w29 (p20.add 6)) fun v33 =>
 lb3 (evlog_Log_free (some p20) v33 w29) fun v35 v36 w37 =>
 if (v36 != 0) = true then
 (nret (none,v36,w37))
 else
 (cbX (lb1 (stV w37 (p20.add 7) (Sl.v v35)) fun w47 =>
 if (decide (0 < (v35.n : Int))) = true then
 (lb1 (ix v35 (IntKind.wrap .i64 ((v35.n : Int) - 1)) 5) fun p50 =>
 lb1 (ldA 5 w47 p50 0) fun c52 =>
 lb2 (mk w47 125 (List.replicate 4 (.int .i64 0) ++ [.slice none 0 0])) fun p54 w55 =>
 lb1 (stA w55 p54 0 c52) fun w57 =>
 lb1 (ldI .i64 w57 (p54.add 0)) fun v59 =>
 lb1 (ldI .i64 w57 (p54.add 2)) fun v61 =>
 lb3 (evlog_Log_wipe (some p20) v59 v61 w57) fun v63 v64 w65 =>
 if (v64 != 0) = true then
 (cb1 (nret (none,v64,w65)) fun g46=>nret (.inl g46))
 else
 (nret (.inr ((IntKind.wrap .i64 ((IntKind.wrap .i64 ((v31.n : Int) - (v35.n : Int))) + v63)),w65))))
 else
 (nret (.inr ((IntKind.wrap .i64 ((v31.n : Int) - (v35.n : Int))),w47)))) fun (i : Int×World)=>u2 i fun v40 w41 =>
 cbX (if (decide (0 < v40)) = true then
 (lb2 (sector_Disk_Sync a0 w41) fun v76 w77 =>
 if (v76 != 0) = true then
 (cb1 (nret (none,v76,w77)) fun g74=>nret (.inl g74))
 else
 (nret (.inr w77)))
 else
 (nret (.inr w41))) fun (i : World)=>u1 i fun w69 =>
 nret ((some p20),0,w69)))))
set_option maxHeartbeats 1000000 in
set_option maxRecDepth 100000 in
theorem evlog_Open_ok {a0 : Option Addr} {a1 : Int} {a2 : Int} {w : World} {Q : (Option Addr)×Int×World→Prop} (h : (evlog_Open a0 a1 a2 w).t Q) : Calls Try.prog 32 #[(.pointer a0),(.int .i64 a1),(.int .i64 a2)] w fun e w''=>∃ i,e = .returned (.tuple #[(.pointer i.1),(.int .i64 i.2.1)])∧Q i∧w'' = i.2.2:=by
 refine calls_dec (n:=119) Try.func32 rfl Try.ntmps32 (by simp) fun a ha=>?_
 unfold evlog_Open at h
 refine wp_seq<|region_lit<|qa ha rfl fun a ha=>qa ha rfl fun a ha=>s_nil<|t_n<|wp_seq<|wp_block<|wp_seq<|region_lit<|qm ha rfl fun a ha=>q ha (d_eqN ha rfl rfl Try.runUnderlying57) fun a ha=>qa ha rfl fun a ha=>s_nil<|t_n<|?_
 refine s_condN ha rfl h (fun b1 h=>?_) (fun b1 h=>?_)
 ·refine wp_seq<|region_lit<|qa ha rfl fun a ha=>qa ha rfl fun a ha=>s_nil<|t_n<|wp_ret<|b_r<|t_r<|?_
  have hS:=ha
  exact ret2 Try.results32 hS rfl rfl ⟨(none,1,w),rfl,h,rfl⟩
 ·refine wp_seq<|region_lit<|qm ha rfl fun a ha=>?_
  obtain ⟨v2,w3,e4,h⟩:=h
  refine q ha (d_call (xs:=[_]) (vs:=[(.pointer a0)]) ha ⟨rfl,trivial⟩ Try.call47 (sector_Disk_Down_ok e4)) fun a ha=>qa ha rfl fun a ha=>s_nil<|t_n<|?_
  refine s_condN ha rfl h (fun b5 h=>?_) (fun b5 h=>?_)
  ·refine wp_seq<|region_lit<|qa ha rfl fun a ha=>qa ha rfl fun a ha=>s_nil<|t_n<|wp_ret<|b_r<|t_r<|?_
   have hS:=ha
   exact ret2 Try.results32 hS rfl rfl ⟨(none,10,w3),rfl,h,rfl⟩
  ·refine wp_seq<|?_
   refine reg_joinN (n:=119) (ι:=Bool×World) (Lf:=fun i=>[(23,(.bool i.1)),(0,(.pointer a0)),(1,(.int .i64 a1)),(2,(.int .i64 a2))]) (wf:=fun i=>i.2) (un2 h) (fun i h a ha=>?_) (fun h hk9=>?_)
   ·obtain ⟨v6,w7⟩:=i
    have ha : Has 119 [(23,(.bool v6)),(0,(.pointer a0)),(1,(.int .i64 a1)),(2,(.int .i64 a2))] a:=ha
    refine t_n<|?_
    refine s_condN ha rfl h (fun b16 h=>?_) (fun b16 h=>?_)
    ·refine wp_seq<|region_lit<|qa ha rfl fun a ha=>qa ha rfl fun a ha=>s_nil<|t_n<|wp_ret<|b_r<|t_r<|?_
     have hS:=ha
     exact ret2 Try.results32 hS rfl rfl ⟨(none,2,w7),rfl,h,rfl⟩
    ·refine wp_skip<|b_n<|t_n<|wp_seq<|region_lit<|qm ha rfl fun a ha=>qm ha rfl fun a ha=>qm ha rfl fun a ha=>qm ha rfl fun a ha=>?_
     obtain ⟨v17,w18,e19,h⟩:=h
     refine q ha (d_call (xs:=[_]) (vs:=[(.pointer a0)]) ha ⟨rfl,trivial⟩ Try.call68 (sector_Disk_Age_ok e19)) fun a ha=>q ha (d_build (vs:=[(0,(.pointer a0)),(2,(.int .i64 a1)),(3,(.int .i64 a2)),(4,(.int .i64 v17))]) (pl:=#[(0,1),(1,1),(2,1),(3,1),(4,1),(5,1),(6,1),(7,1)]) (cs:=([.pointer a0,.pointer none,.int .i64 a1,.int .i64 a2,.int .i64 v17,.int .i64 0,.int .i64 0,.slice none 0 0])) ha ⟨rfl,rfl,rfl,rfl,rfl,rfl,rfl,rfl,trivial⟩ Try.zeroValue119 Try.runUnderlying119 (by intro w; kernel_rfl) (by kernel_rfl)) fun a ha=>?_
     obtain ⟨p20,w21,e22,h⟩:=h
     refine q ha (d_box ha rfl rfl e22) fun a ha=>qa ha rfl fun a ha=>s_nil<|t_n<|wp_seq<|region_lit<|qm ha rfl fun a ha=>qm ha rfl fun a ha=>qm ha rfl fun a ha=>?_
     obtain ⟨v23,v24,w25,e26,h⟩:=h
     refine q ha (d_call (xs:=[_,_,_]) (vs:=[(.pointer a0),(.int .i64 a1),(.int .i64 1)]) ha ⟨rfl,rfl,rfl,trivial⟩ Try.call69 (mark_Open_ok e26)) fun a ha=>qm ha rfl fun a ha=>q ha (d_ext ha rfl rfl) fun a ha=>q ha (d_ext ha rfl rfl) fun a ha=>q ha (d_nil ha rfl) fun a ha=>q ha (d_fa ha rfl Try.runUnderlying119 rfl rfl Try.sizeOf116 (by decide)) fun a ha=>?_
     obtain ⟨w27,e28,h⟩:=h
     refine q ha (d_st ha rfl rfl Try.sizeOf116 e28) fun a ha=>s_nil<|t_n<|wp_seq<|region_lit<|qm ha rfl fun a ha=>?_
     refine s_callN (ι:=World) (pk:=fun i=>(.tuple #[])) (wf:=fun i=>i) (xs:=[_]) (vs:=[(.pointer (some p20))]) ha ⟨rfl,trivial⟩ Try.call70 (evlog_Log_read_ok (un1 h)) (fun i h a ha=>?_)
     obtain ⟨w29,rfl⟩ : ∃ x,x = i:=⟨i,rfl⟩
     refine s_nil<|t_n<|wp_seq<|region_lit<|qm ha rfl fun a ha=>q ha (d_nil ha rfl) fun a ha=>q ha (d_fa ha rfl Try.runUnderlying119 rfl rfl Try.sizeOf117 (by decide)) fun a ha=>?_
     obtain ⟨v31,e32,h⟩:=h
     refine q ha (d_ld ha rfl Try.isAgg117 (ldL_c e32)) fun a ha=>q ha (d_lenS ha rfl Try.runUnderlying117) fun a ha=>qa ha rfl fun a ha=>s_nil<|t_n<|wp_seq<|region_lit<|qm ha rfl fun a ha=>qm ha rfl fun a ha=>q ha (d_nil ha rfl) fun a ha=>q ha (d_fa ha rfl Try.runUnderlying119 rfl rfl Try.sizeOf3 (by decide)) fun a ha=>?_
     obtain ⟨v33,e34,h⟩:=h
     refine q ha (d_ld ha rfl Try.isAgg3 (ldI_c e34)) fun a ha=>?_
     obtain ⟨v35,v36,w37,e38,h⟩:=h
     refine q ha (d_call (xs:=[_,_]) (vs:=[(.pointer (some p20)),(.int .i64 v33)]) ha ⟨rfl,rfl,trivial⟩ Try.call71 (evlog_Log_free_ok e38)) fun a ha=>qm ha rfl fun a ha=>q ha (d_ext ha rfl rfl) fun a ha=>q ha (d_ext ha rfl rfl) fun a ha=>qa ha rfl fun a ha=>qa ha rfl fun a ha=>s_nil<|t_n<|wp_seq<|wp_seq<|region_lit<|qm ha rfl fun a ha=>q ha (d_ne ha rfl rfl) fun a ha=>s_nil<|t_n<|?_
     refine s_condN ha rfl h (fun b39 h=>?_) (fun b39 h=>?_)
     ·refine wp_seq<|region_lit<|qm ha rfl fun a ha=>qa ha rfl fun a ha=>qa ha rfl fun a ha=>s_nil<|t_n<|wp_ret<|t_r<|?_
      have hS:=ha
      exact ret2 Try.results32 hS rfl rfl ⟨(none,v36,w37),rfl,h,rfl⟩
     ·refine wp_skip<|t_n<|wp_seq<|region_lit<|qm ha rfl fun a ha=>qm ha rfl fun a ha=>q ha (d_lenS ha rfl Try.runUnderlying117) fun a ha=>q ha (d_sub ha rfl rfl) fun a ha=>qa ha rfl fun a ha=>s_nil<|t_n<|?_
      refine seq_joinNX (n:=119) (ι:=Int×World) (Lf:=fun i=>[(12,(.int .i64 i.1)),(0,(.pointer a0)),(8,(.pointer (some p20)))]) (wf:=fun i=>i.2) (unX h) (fun i h a ha=>?_) (fun h hk45=>?_)
      ·obtain ⟨v40,w41⟩:=i
       try dsimp only [Sum.elim_inl,Sum.elim_inr,u1,u2,u3,u4,u5,u6] at h
       have ha : Has 119 [(12,(.int .i64 v40)),(0,(.pointer a0)),(8,(.pointer (some p20)))] a:=ha
       refine seq_joinNX (n:=119) (ι:=World) (Lf:=fun i=>[(8,(.pointer (some p20)))]) (wf:=fun i=>i) (unX h) (fun i h a ha=>?_) (fun h hk73=>?_)
       ·obtain ⟨w69,rfl⟩ : ∃ x,x = i:=⟨i,rfl⟩
        try dsimp only [Sum.elim_inl,Sum.elim_inr,u1,u2,u3,u4,u5,u6] at h
        have ha : Has 119 [(8,(.pointer (some p20)))] a:=ha
        refine wp_seq<|region_lit<|qm ha rfl fun a ha=>qa ha rfl fun a ha=>qa ha rfl fun a ha=>s_nil<|t_n<|wp_ret<|?_
        have hS:=ha
        exact ret2 Try.results32 hS rfl rfl ⟨((some p20),0,w69),rfl,h,rfl⟩
       ·refine wp_seq<|region_lit<|qm ha rfl fun a ha=>q ha (d_gt ha rfl rfl) fun a ha=>s_nil<|t_n<|?_
        refine s_condN ha rfl h (fun b75 h=>?_) (fun b75 h=>?_)
        ·refine wp_seq<|region_lit<|qm ha rfl fun a ha=>?_
         obtain ⟨v76,w77,e78,h⟩:=h
         refine q ha (d_call (xs:=[_]) (vs:=[(.pointer a0)]) ha ⟨rfl,trivial⟩ Try.call36 (sector_Disk_Sync_ok e78)) fun a ha=>qa ha rfl fun a ha=>s_nil<|t_n<|wp_seq<|region_lit<|qm ha rfl fun a ha=>q ha (d_ne ha rfl rfl) fun a ha=>s_nil<|t_n<|?_
         refine s_condN ha rfl h (fun b79 h=>?_) (fun b79 h=>?_)
         ·refine wp_seq<|region_lit<|qm ha rfl fun a ha=>qa ha rfl fun a ha=>qa ha rfl fun a ha=>s_nil<|t_n<|wp_ret<|?_
          have h:=unL h
          refine t_r<|?_
          have hS:=ha
          exact ret2 Try.results32 hS rfl rfl ⟨(none,v76,w77),rfl,h,rfl⟩
         ·refine wp_skip<|?_
          have hS : Has 119 [(8,(.pointer (some p20)))] _:=ha.sub ⟨rfl,trivial⟩
          exact hk73 w77 h _ hS
        ·refine wp_skip<|?_
         have hS : Has 119 [(8,(.pointer (some p20)))] _:=ha.sub ⟨rfl,trivial⟩
         exact hk73 w41 h _ hS
      ·refine wp_seq<|region_lit<|qm ha rfl fun a ha=>qm ha rfl fun a ha=>q ha (d_nil ha rfl) fun a ha=>q ha (d_fa ha rfl Try.runUnderlying119 rfl rfl Try.sizeOf117 (by decide)) fun a ha=>?_
       obtain ⟨w47,e48,h⟩:=h
       refine q ha (d_st ha rfl rfl Try.sizeOf117 e48) fun a ha=>s_nil<|t_n<|wp_seq<|region_lit<|qm ha rfl fun a ha=>q ha (d_lenS ha rfl Try.runUnderlying117) fun a ha=>q ha (d_gt ha rfl rfl) fun a ha=>s_nil<|t_n<|?_
       refine s_condN ha rfl h (fun b49 h=>?_) (fun b49 h=>?_)
       ·refine wp_seq<|region_lit<|qm ha rfl fun a ha=>qm ha rfl fun a ha=>q ha (d_lenS ha rfl Try.runUnderlying117) fun a ha=>q ha (d_sub ha rfl rfl) fun a ha=>?_
        obtain ⟨p50,e51,h⟩:=h
        refine q ha (d_ix ha rfl rfl Try.runUnderlying117 Try.sizeOf125 e51) fun a ha=>?_
        obtain ⟨c52,e53,h⟩:=h
        refine q ha (d_ldA ha rfl Try.isAgg125 Try.sizeOf125 e53) fun a ha=>?_
        obtain ⟨p54,w55,e56,h⟩:=h
        refine q ha (d_alloc Try.zeroValue125 (by kernel_rfl) e56) fun a ha=>?_
        obtain ⟨w57,e58,h⟩:=h
        refine q ha (d_stA ha rfl rfl Try.sizeOf125 ((ldA_c e53).1) e58) fun a ha=>s_nil<|t_n<|wp_seq<|region_lit<|qm ha rfl fun a ha=>q ha (d_fa ha rfl Try.runUnderlying125 rfl rfl Try.sizeOf3 (by decide)) fun a ha=>?_
        obtain ⟨v59,e60,h⟩:=h
        refine q ha (d_ld ha rfl Try.isAgg3 (ldI_c e60)) fun a ha=>q ha (d_fa ha rfl Try.runUnderlying125 rfl rfl Try.sizeOf3 (by decide)) fun a ha=>?_
        obtain ⟨v61,e62,h⟩:=h
        refine q ha (d_ld ha rfl Try.isAgg3 (ldI_c e62)) fun a ha=>?_
        obtain ⟨v63,v64,w65,e66,h⟩:=h
        refine q ha (d_call (xs:=[_,_,_]) (vs:=[(.pointer (some p20)),(.int .i64 v59),(.int .i64 v61)]) ha ⟨rfl,rfl,rfl,trivial⟩ Try.call72 (evlog_Log_wipe_ok e66)) fun a ha=>qm ha rfl fun a ha=>q ha (d_ext ha rfl rfl) fun a ha=>q ha (d_ext ha rfl rfl) fun a ha=>qa ha rfl fun a ha=>qa ha rfl fun a ha=>s_nil<|t_n<|wp_seq<|wp_seq<|region_lit<|qm ha rfl fun a ha=>q ha (d_ne ha rfl rfl) fun a ha=>s_nil<|t_n<|?_
        refine s_condN ha rfl h (fun b67 h=>?_) (fun b67 h=>?_)
        ·refine wp_seq<|region_lit<|qm ha rfl fun a ha=>qa ha rfl fun a ha=>qa ha rfl fun a ha=>s_nil<|t_n<|wp_ret<|t_r<|?_
         have h:=unL h
         refine t_r<|?_
         have hS:=ha
         exact ret2 Try.results32 hS rfl rfl ⟨(none,v64,w65),rfl,h,rfl⟩
        ·refine wp_skip<|t_n<|region_lit<|qm ha rfl fun a ha=>qm ha rfl fun a ha=>q ha (d_add ha rfl rfl) fun a ha=>qa ha rfl fun a ha=>s_nil<|?_
         have hS : Has 119 [(12,(.int .i64 (IntKind.wrap .i64 ((IntKind.wrap .i64 ((v31.n : Int) - (v35.n : Int))) + v63)))),(0,(.pointer a0)),(8,(.pointer (some p20)))] _:=ha.sub ⟨rfl,rfl,rfl,trivial⟩
         exact hk45 ((IntKind.wrap .i64 ((IntKind.wrap .i64 ((v31.n : Int) - (v35.n : Int))) + v63)),w65) h _ hS
       ·refine wp_skip<|?_
        have hS : Has 119 [(12,(.int .i64 (IntKind.wrap .i64 ((v31.n : Int) - (v35.n : Int))))),(0,(.pointer a0)),(8,(.pointer (some p20)))] _:=ha.sub ⟨rfl,rfl,rfl,trivial⟩
        exact hk45 ((IntKind.wrap .i64 ((v31.n : Int) - (v35.n : Int))),w47) h _ hS
   ·refine region_lit<|qm ha rfl fun a ha=>q ha (d_lt ha rfl rfl) fun a ha=>qm ha rfl fun a ha=>?_
    refine ite_n h (fun b10 h=>?_) (fun b10 h=>?_)
    ·refine qn ha 26 (tn b10) fun a ha=>qn ha 26 (tn b10) fun a ha=>q ha (d_pick_t ha rfl b10 rfl) fun a ha=>qm ha rfl fun a ha=>qn ha 30 (tn rfl) fun a ha=>qn ha 30 (tn rfl) fun a ha=>q ha (d_pick_t ha rfl rfl rfl) fun a ha=>qm ha rfl fun a ha=>qn ha 34 (tn rfl) fun a ha=>qn ha 34 (tn rfl) fun a ha=>qn ha 34 (tn rfl) fun a ha=>qn ha 34 (tn rfl) fun a ha=>qn ha 34 (tn rfl) fun a ha=>qn ha 34 (tn rfl) fun a ha=>qn ha 34 (tn rfl) fun a ha=>qn ha 34 (tn rfl) fun a ha=>q ha (d_pick_t ha rfl rfl rfl) fun a ha=>qa ha rfl fun a ha=>s_nil<|?_
     have hS : Has 119 [(23,(.bool true)),(0,(.pointer a0)),(1,(.int .i64 a1)),(2,(.int .i64 a2))] _:=ha.sub ⟨rfl,rfl,rfl,rfl,trivial⟩
     exact hk9 (true,w3) h _ hS
    ·refine qg ha 26 (nt b10) (d_move ha rfl) fun a ha=>qg ha 26 (nt b10) (d_gt ha rfl rfl) fun a ha=>q ha (d_pick_f ha rfl b10 rfl) fun a ha=>qm ha rfl fun a ha=>?_
     refine ite_n h (fun b11 h=>?_) (fun b11 h=>?_)
     ·refine qn ha 30 (tn b11) fun a ha=>qn ha 30 (tn b11) fun a ha=>q ha (d_pick_t ha rfl b11 rfl) fun a ha=>qm ha rfl fun a ha=>qn ha 34 (tn rfl) fun a ha=>qn ha 34 (tn rfl) fun a ha=>qn ha 34 (tn rfl) fun a ha=>qn ha 34 (tn rfl) fun a ha=>qn ha 34 (tn rfl) fun a ha=>qn ha 34 (tn rfl) fun a ha=>qn ha 34 (tn rfl) fun a ha=>qn ha 34 (tn rfl) fun a ha=>q ha (d_pick_t ha rfl rfl rfl) fun a ha=>qa ha rfl fun a ha=>s_nil<|?_
      have hS : Has 119 [(23,(.bool true)),(0,(.pointer a0)),(1,(.int .i64 a1)),(2,(.int .i64 a2))] _:=ha.sub ⟨rfl,rfl,rfl,rfl,trivial⟩
      exact hk9 (true,w3) h _ hS
     ·refine qg ha 30 (nt b11) (d_move ha rfl) fun a ha=>qg ha 30 (nt b11) (d_lt ha rfl rfl) fun a ha=>q ha (d_pick_f ha rfl b11 rfl) fun a ha=>qm ha rfl fun a ha=>?_
      refine ite_n h (fun b12 h=>?_) (fun b12 h=>?_)
      ·refine qn ha 34 (tn b12) fun a ha=>qn ha 34 (tn b12) fun a ha=>qn ha 34 (tn b12) fun a ha=>qn ha 34 (tn b12) fun a ha=>qn ha 34 (tn b12) fun a ha=>qn ha 34 (tn b12) fun a ha=>qn ha 34 (tn b12) fun a ha=>qn ha 34 (tn b12) fun a ha=>q ha (d_pick_t ha rfl b12 rfl) fun a ha=>qa ha rfl fun a ha=>s_nil<|?_
       have hS : Has 119 [(23,(.bool true)),(0,(.pointer a0)),(1,(.int .i64 a1)),(2,(.int .i64 a2))] _:=ha.sub ⟨rfl,rfl,rfl,rfl,trivial⟩
       exact hk9 (true,w3) h _ hS
      ·refine qg ha 34 (nt b12) (d_move ha rfl) fun a ha=>qg ha 34 (nt b12) (d_move ha rfl) fun a ha=>?_
       obtain ⟨v13,w14,e15,h⟩:=h
       refine qg ha 34 (nt b12) (d_call (xs:=[_]) (vs:=[(.pointer a0)]) ha ⟨rfl,trivial⟩ Try.call67 (sector_Disk_Size_ok e15)) fun a ha=>qg ha 34 (nt b12) (d_sub ha rfl rfl) fun a ha=>qg ha 34 (nt b12) (d_move ha rfl) fun a ha=>qg ha 34 (nt b12) (d_mul ha rfl rfl) fun a ha=>qg ha 34 (nt b12) (d_sub ha rfl rfl) fun a ha=>qg ha 34 (nt b12) (d_gt ha rfl rfl) fun a ha=>q ha (d_pick_f ha rfl b12 rfl) fun a ha=>qa ha rfl fun a ha=>s_nil<|?_
       have hS : Has 119 [(23,(.bool (decide ((IntKind.wrap .i64 ((IntKind.wrap .i64 (v13 - 2)) - (IntKind.wrap .i64 (a2 * 16)))) < a1)))),(0,(.pointer a0)),(1,(.int .i64 a1)),(2,(.int .i64 a2))] _:=ha.sub ⟨rfl,rfl,rfl,rfl,trivial⟩
       exact hk9 ((decide ((IntKind.wrap .i64 ((IntKind.wrap .i64 (v13 - 2)) - (IntKind.wrap .i64 (a2 * 16)))) < a1)),w14) h _ hS
noncomputable def evlog_Log_bad (a0 : Option Addr) (w : World) : Option (Int×World) :=
 if (a0.isNone) = true then
 (some (1,w))
 else
 ((dr w).bind fun w2 =>
 (a0).bind fun p4 =>
 (ldP w2 (p4.add 0)).bind fun v6 =>
 bind2 (sector_Disk_Age v6 w2) fun v8 w9 =>
 (ldI .i64 w9 (p4.add 4)).bind fun v11 =>
 chk (ldI .i64 w2 (p4.add 4) = some v11) <|
 if (v8 != v11) = true then
 (some (13,w9))
 else
 ((ldP w9 (p4.add 0)).bind fun v15 =>
 bind2 (sector_Disk_Down v15 w9) fun v17 w18 =>
 if v17 = true then
 (some (10,w18))
 else
 (some (0,w18))))
set_option maxHeartbeats 1000000 in
set_option maxRecDepth 100000 in
theorem evlog_Log_bad_ok {a0 : Option Addr} {w w' : World} {r0 : Int} (h : evlog_Log_bad a0 w = some (r0,w')) : Calls Try.prog 80 #[(.pointer a0)] w fun e w''=>e = .returned (.int .i64 r0)∧w'' = w':=by
 refine calls_dec (n:=23) Try.func80 rfl Try.ntmps80 (by simp) fun a ha=>?_
 unfold evlog_Log_bad at h
 refine wp_seq<|region_lit<|qa ha rfl fun a ha=>s_nil<|t_n<|wp_seq<|wp_block<|wp_seq<|region_lit<|qm ha rfl fun a ha=>q ha (d_eqN ha rfl rfl Try.runUnderlying64) fun a ha=>qa ha rfl fun a ha=>s_nil<|t_n<|?_
 refine s_cond ha rfl h (fun b1 h=>?_) (fun b1 h=>?_)
 ·refine wp_seq<|region_lit<|qa ha rfl fun a ha=>s_nil<|t_n<|wp_ret<|b_r<|t_r<|?_
  have hS:=ha
  cases h
  exact ret1 Try.results80 hS rfl ⟨rfl,rfl⟩
 ·refine wp_seq<|?_
  obtain ⟨w2,e3,h⟩:=bs1 h
  obtain ⟨p4,e5,h⟩:=bs1 h
  obtain ⟨v6,e7,h⟩:=bs1 h
  obtain ⟨v8,w9,e10,h⟩:=bs2 h
  obtain ⟨v11,e12,h⟩:=bs1 h
  obtain ⟨e13,h⟩:=chk_some h
  have ha : Has 23 [(0,(.pointer a0)),(3,(.bool (a0.isNone)))] a:=ha.sub ⟨rfl,rfl,trivial⟩
  refine region_draw (n:=23) (ds:=(⟨_,(.pointer a0),false,0,0,[],[(0,(.pointer a0))]⟩ :: ⟨_,(.pointer (some p4)),false,0,0,[0],[(7,(.pointer a0))]⟩ :: ⟨_,(.pointer (some (p4.add 0))),false,0,0,[0,1],[(8,(.pointer (some p4)))]⟩ :: ⟨_,(.pointer v6),false,0,0,[0,1,2],[(9,(.pointer (some (p4.add 0))))]⟩ :: ⟨_,(.int .i64 v8),true,0,0,(rn 0 4),[(10,(.pointer v6))]⟩ :: ⟨_,(.pointer a0),false,0,1,[],[(0,(.pointer a0))]⟩ :: ⟨_,(.pointer (some p4)),false,0,1,[5],[(12,(.pointer a0))]⟩ :: ⟨_,(.pointer (some (p4.add 4))),false,0,1,[5,6],[(13,(.pointer (some p4)))]⟩ :: ⟨_,(.int .i64 v11),false,0,1,[5,6,7],[(14,(.pointer (some (p4.add 4))))]⟩ :: ⟨_,(.bool (v8 != v11)),false,1,1,(rn 0 9),[(11,(.int .i64 v8)),(15,(.int .i64 v11))]⟩ :: ⟨_,(.bool (v8 != v11)),false,1,1,(rn 0 10),[(16,(.bool (v8 != v11)))]⟩ :: [])) (W:=(fun j=>match j with | 0=>w2 | 1=>w9 | _=>w9)) (by kernel_rfl) ha (dr_w e3) (by kernel_rfl) ?_ (reads_of (by kernel_rfl)) (by kernel_rfl) (m:=1) (by kernel_rfl) (fun a ha=>?_)
  ·refine ⟨?_,?_,?_,?_,?_,?_,?_,?_,?_,?_,?_,trivial⟩
   ·exact oa fun j a ha=>d_move ha rfl
   ·exact oa fun j a ha=>d_nilp ha rfl e5
   ·exact oa fun j a ha=>d_fa ha rfl Try.runUnderlying119 rfl rfl Try.sizeOf57 (by decide)
   ·exact oc 0 (ok_do rfl fun a ha=>d_ld ha rfl Try.isAgg57 (ldP_c e7))
   ·exact oc 0 (ok_do rfl fun a ha=>d_call (xs:=[_]) (vs:=[(.pointer v6)]) ha ⟨rfl,trivial⟩ Try.call68 (sector_Disk_Age_ok e10))
   ·exact oa fun j a ha=>d_move ha rfl
   ·exact oa fun j a ha=>d_nilp ha rfl e5
   ·exact oa fun j a ha=>d_fa ha rfl Try.runUnderlying119 rfl rfl Try.sizeOf3 (by decide)
   ·intro j h1 h2; have h1 : 0≤j:=h1; have h2 : j≤1:=h2; rcases (by omega : j = 0∨j = 1) with rfl | rfl
    ·exact ok_do rfl fun a ha=>d_ld ha rfl Try.isAgg3 (ldI_c e13)
    ·exact ok_do rfl fun a ha=>d_ld ha rfl Try.isAgg3 (ldI_c e12)
   ·exact oa fun j a ha=>d_ne ha rfl rfl
   ·exact oa fun j a ha=>d_assign ha rfl
  ·have ha : Has 23 [(0,(.pointer a0)),(6,(.bool (v8 != v11)))] a:=ha.sub ⟨rfl,rfl,trivial⟩
   refine t_n<|?_
   refine s_cond ha rfl h (fun b14 h=>?_) (fun b14 h=>?_)
   ·refine wp_seq<|region_lit<|qa ha rfl fun a ha=>s_nil<|t_n<|wp_ret<|b_r<|t_r<|?_
    have hS:=ha
    cases h
    exact ret1 Try.results80 hS rfl ⟨rfl,rfl⟩
   ·refine wp_seq<|region_lit<|qm ha rfl fun a ha=>q ha (d_nilp ha rfl e5) fun a ha=>q ha (d_fa ha rfl Try.runUnderlying119 rfl rfl Try.sizeOf57 (by decide)) fun a ha=>?_
    obtain ⟨v15,e16,h⟩:=bs1 h
    refine q ha (d_ld ha rfl Try.isAgg57 (ldP_c e16)) fun a ha=>?_
    obtain ⟨v17,w18,e19,h⟩:=bs2 h
    refine q ha (d_call (xs:=[_]) (vs:=[(.pointer v15)]) ha ⟨rfl,trivial⟩ Try.call47 (sector_Disk_Down_ok e19)) fun a ha=>qa ha rfl fun a ha=>s_nil<|t_n<|?_
    refine s_cond ha rfl h (fun b20 h=>?_) (fun b20 h=>?_)
    ·refine wp_seq<|region_lit<|qa ha rfl fun a ha=>s_nil<|t_n<|wp_ret<|b_r<|t_r<|?_
     have hS:=ha
     cases h
     exact ret1 Try.results80 hS rfl ⟨rfl,rfl⟩
    ·refine wp_skip<|b_n<|t_n<|wp_seq<|region_lit<|qa ha rfl fun a ha=>s_nil<|t_n<|wp_ret<|?_
     have hS:=ha
     cases h
     exact ret1 Try.results80 hS rfl ⟨rfl,rfl⟩
noncomputable def evlog_Log_fresh_1 (a0 : List Value) (a1 : Addr) (w : World) : Option (Bool×World) :=
 bind2 (mk w 125 a0) fun p1 w2 =>
 (ldI .i64 w2 (p1.add 0)).bind fun v4 =>
 (ldI .i64 w2 a1).bind fun v6 =>
 some ((v4 == v6),w2)
set_option maxHeartbeats 1000000 in
set_option maxRecDepth 100000 in
theorem evlog_Log_fresh_1_ok {a0 : List Value} {a1 : Addr} {w w' : World} {r0 : Bool} (h : evlog_Log_fresh_1 a0 a1 w = some (r0,w')) : Calls Try.prog 121 #[(.agg (List.toArray a0)),(.pointer (some a1))] w fun e w''=>e = .returned (.bool r0)∧w'' = w':=by
 refine calls_dec (n:=8) Try.func121 rfl Try.ntmps121 (by simp) fun a ha=>?_
 unfold evlog_Log_fresh_1 at h
 refine wp_seq<|region_lit<|?_
 obtain ⟨p1,w2,e3,h⟩:=bs2 h
 refine q ha (d_box ha rfl rfl e3) fun a ha=>qa ha rfl fun a ha=>s_nil<|t_n<|wp_seq<|region_lit<|q ha (d_fa ha rfl Try.runUnderlying125 rfl rfl Try.sizeOf3 (by decide)) fun a ha=>?_
 obtain ⟨v4,e5,h⟩:=bs1 h
 refine q ha (d_ld ha rfl Try.isAgg3 (ldI_c e5)) fun a ha=>?_
 obtain ⟨v6,e7,h⟩:=bs1 h
 refine q ha (d_ld ha rfl Try.isAgg3 (ldI_c e7)) fun a ha=>q ha (d_eq ha rfl rfl) fun a ha=>qa ha rfl fun a ha=>s_nil<|t_n<|wp_ret<|?_
 have hS:=ha
 cases h
 exact ret1 Try.results121 hS rfl ⟨rfl,rfl⟩
noncomputable def slices_IndexFunc_evlog_seg_evlog_seg_121_l1 (a0 : Sl) (a1_0 : Addr) (x1 : Int) (w2 : World) : Option ((Int×World)⊕((World)⊕(Int×World))) :=
 if (decide (x1 < (a0.n : Int))) = true then
 ((ix a0 x1 5).bind fun p12 =>
 (ldA 5 w2 p12 0).bind fun c14 =>
 bind2 (evlog_Log_fresh_1 c14 a1_0 w2) fun v16 w17 =>
 if v16 = true then
 (some (.inr (.inr (x1,w17))))
 else
 (some (.inl ((IntKind.wrap .i64 (x1 + 1)),w17))))
 else
 (some (.inr (.inl w2)))
noncomputable def slices_IndexFunc_evlog_seg_evlog_seg_121 (a0 : Sl) (a1_0 : Addr) (w : World) : Option (Int×World) :=
 (loopF (fun s : Int×World=>slices_IndexFunc_evlog_seg_evlog_seg_121_l1 a0 a1_0 s.1 s.2) (0,w)).bind fun r3=>Sum.elim (fun (i : World)=>u1 i fun w5 =>
 some ((-1),w5)) (fun (i : Int×World)=>u2 i fun v6 w7 =>
 some (v6,w7)) r3
set_option maxHeartbeats 1000000 in
set_option maxRecDepth 100000 in
theorem slices_IndexFunc_evlog_seg_evlog_seg_121_ok {a0 : Sl} {a1_0 : Addr} {w w' : World} {r0 : Int} (h : slices_IndexFunc_evlog_seg_evlog_seg_121 a0 a1_0 w = some (r0,w')) : Calls Try.prog 148 #[(Sl.v a0),(.func (.func 121) #[] #[(.pointer (some a1_0))])] w fun e w''=>e = .returned (.int .i64 r0)∧w'' = w':=by
 refine calls_dec (n:=19) Try.func148 rfl Try.ntmps148 (by simp) fun a ha=>?_
 unfold slices_IndexFunc_evlog_seg_evlog_seg_121 at h
 refine wp_seq<|region_lit<|qa ha rfl fun a ha=>s_nil<|t_n<|wp_seq<|wp_seq<|region_lit<|qm ha rfl fun a ha=>q ha (d_lenS ha rfl Try.runUnderlying117) fun a ha=>qm ha rfl fun a ha=>s_nil<|t_n<|wp_block<|?_
 obtain ⟨r3,e4,h⟩:=bs1 h
 refine s_loop2 (n:=19) (L1:=fun i=>[]) (w1:=fun i=>i) (L2:=fun i=>[(4,(.int .i64 i.1))]) (w2:=fun i=>i.2) (e1:=.exit 0) (e2:=.ret) (I:=fun (s : Int×World) a w=>Has 19 [(8,(.int .i64 s.1)),(0,(Sl.v a0)),(1,(.func (.func 121) #[] #[(.pointer (some a1_0))])),(7,(.int .i64 (a0.n : Int)))] a∧w = s.2) ⟨ha.sub ⟨rfl,rfl,rfl,rfl,trivial⟩,rfl⟩ e4 (fun i hi a ha=>?_) (fun i hi a ha=>?_) (fun hk8 hk9=>?_)
 ·subst hi
  obtain ⟨w5,rfl⟩ : ∃ x,x = i:=⟨i,rfl⟩
  dsimp only [Sum.elim_inl,Sum.elim_inr,u1,u2,u3,u4,u5,u6] at h
  have ha : Has 19 [] a:=ha
  refine b_hit<|t_n<|wp_seq<|region_lit<|qa ha rfl fun a ha=>s_nil<|t_n<|wp_ret<|?_
  have hS:=ha
  cases h
  exact ret1 Try.results148 hS rfl ⟨rfl,rfl⟩
 ·subst hi
  obtain ⟨v6,w7⟩:=i
  dsimp only [Sum.elim_inl,Sum.elim_inr,u1,u2,u3,u4,u5,u6] at h
  have ha : Has 19 [(4,(.int .i64 v6))] a:=ha
  refine b_r<|t_r<|?_
  have hS:=ha
  cases h
  exact ret1 Try.results148 hS rfl ⟨rfl,rfl⟩
 ·clear h
  rintro ⟨x1,w2⟩ a wq o ⟨ha,hwq⟩ h hr10
  obtain rfl : w2 = wq:=hwq.symm
  have ha : Has 19 [(8,(.int .i64 x1)),(0,(Sl.v a0)),(1,(.func (.func 121) #[] #[(.pointer (some a1_0))])),(7,(.int .i64 (a0.n : Int)))] a:=ha
  have h : slices_IndexFunc_evlog_seg_evlog_seg_121_l1 a0 a1_0 x1 w2 = some o:=h
  unfold slices_IndexFunc_evlog_seg_evlog_seg_121_l1 at h
  refine wp_seq<|region_lit<|q ha (d_lt ha rfl rfl) fun a ha=>s_nil<|t_n<|wp_seq<|?_
  refine s_cond ha rfl h (fun b11 h=>?_) (fun b11 h=>?_)
  ·refine wp_skip<|t_n<|wp_seq<|wp_block<|wp_seq<|region_lit<|qm ha rfl fun a ha=>qa ha rfl fun a ha=>s_nil<|t_n<|wp_seq<|region_lit<|qm ha rfl fun a ha=>qm ha rfl fun a ha=>qm ha rfl fun a ha=>?_
   obtain ⟨p12,e13,h⟩:=bs1 h
   refine q ha (d_ix ha rfl rfl Try.runUnderlying117 Try.sizeOf125 e13) fun a ha=>?_
   obtain ⟨c14,e15,h⟩:=bs1 h
   refine q ha (d_ldA ha rfl Try.isAgg125 Try.sizeOf125 e15) fun a ha=>?_
   obtain ⟨v16,w17,e18,h⟩:=bs2 h
   refine q ha (d_callF (xs:=[_]) (vs:=[(.agg (List.toArray c14))]) (cv:=[(.pointer (some a1_0))]) ha rfl ⟨rfl,trivial⟩ Try.call121 (evlog_Log_fresh_1_ok e18)) fun a ha=>s_nil<|t_n<|?_
   refine s_cond ha rfl h (fun b19 h=>?_) (fun b19 h=>?_)
   ·refine wp_seq<|region_lit<|qm ha rfl fun a ha=>qa ha rfl fun a ha=>s_nil<|t_n<|wp_ret<|b_r<|t_r<|?_
    have hS : Has 19 [(4,(.int .i64 x1))] _:=ha.sub ⟨rfl,trivial⟩
    cases h
    cases hr10 _ rfl
    refine lp_r<|?_
    exact hk9 _ rfl _ hS
   ·refine wp_skip<|b_n<|t_n<|region_lit<|q ha (d_add ha rfl rfl) fun a ha=>qm ha rfl fun a ha=>s_nil<|?_
    have hS : Has 19 [(8,(.int .i64 (IntKind.wrap .i64 (x1 + 1)))),(0,(Sl.v a0)),(1,(.func (.func 121) #[] #[(.pointer (some a1_0))])),(7,(.int .i64 (a0.n : Int)))] _:=ha.sub ⟨rfl,rfl,rfl,rfl,trivial⟩
    cases h
    exact lp_next ⟨hS,rfl⟩
  ·refine wp_exit<|t_x<|?_
   have hS : Has 19 [] _:=ha.sub trivial
   cases h
   cases hr10 _ rfl
   refine lp_x<|?_
   exact hk8 _ rfl _ hS
noncomputable def slices_ContainsFunc_evlog_seg_evlog_seg_121 (a0 : Sl) (a1_0 : Addr) (w : World) : Option (Bool×World) :=
 bind2 (slices_IndexFunc_evlog_seg_evlog_seg_121 a0 a1_0 w) fun v1 w2 =>
 some ((decide (0≤v1)),w2)
set_option maxHeartbeats 1000000 in
set_option maxRecDepth 100000 in
theorem slices_ContainsFunc_evlog_seg_evlog_seg_121_ok {a0 : Sl} {a1_0 : Addr} {w w' : World} {r0 : Bool} (h : slices_ContainsFunc_evlog_seg_evlog_seg_121 a0 a1_0 w = some (r0,w')) : Calls Try.prog 120 #[(Sl.v a0),(.func (.func 121) #[] #[(.pointer (some a1_0))])] w fun e w''=>e = .returned (.bool r0)∧w'' = w':=by
 refine calls_dec (n:=9) Try.func120 rfl Try.ntmps120 (by simp) fun a ha=>?_
 unfold slices_ContainsFunc_evlog_seg_evlog_seg_121 at h
 refine wp_seq<|region_lit<|qa ha rfl fun a ha=>s_nil<|t_n<|wp_seq<|region_lit<|qm ha rfl fun a ha=>qm ha rfl fun a ha=>?_
 obtain ⟨v1,w2,e3,h⟩:=bs2 h
 refine q ha (d_call (xs:=[_,_]) (vs:=[(Sl.v a0),(.func (.func 121) #[] #[(.pointer (some a1_0))])]) ha ⟨rfl,rfl,trivial⟩ Try.call148 (slices_IndexFunc_evlog_seg_evlog_seg_121_ok e3)) fun a ha=>q ha (d_ge ha rfl rfl) fun a ha=>qa ha rfl fun a ha=>s_nil<|t_n<|wp_ret<|?_
 have hS:=ha
 cases h
 exact ret1 Try.results120 hS rfl ⟨rfl,rfl⟩
noncomputable def evlog_laid (a0 : Int) (a1 : Sl) (a2 : Bool) (w : World) : Option (Sl×World) :=
 bind2 (mkS Try.prog 72 64 64 w) fun s1 w2 =>
 (ix s1 0 1).bind fun p4 =>
 (stV w2 p4 (.int .u8 231)).bind fun w6 =>
 (ix s1 1 1).bind fun p8 =>
 (stV w6 p8 (.int .u8 (IntKind.wrap .u8 a0))).bind fun w10 =>
 (ix s1 2 1).bind fun p12 =>
 (stV w10 p12 (.int .u8 (IntKind.wrap .u8 (a1.n : Int)))).bind fun w14 =>
 (ix s1 63 1).bind fun p16 =>
 (stV w14 p16 (.int .u8 231)).bind fun w18 =>
 (if a2 = true then
 ((ix s1 3 1).bind fun p24 =>
 (stV w18 p24 (.int .u8 1)).bind fun w26 =>
 some w26)
 else
 (some w18)).bind fun w20 =>
 (slS s1 4 (s1.n : Int) (s1.c : Int) 1).bind fun s28 =>
 bind2 (cpS Try.prog 72 72 s28 a1 w20) fun v30 w31 =>
 some (s1,w31)
set_option maxHeartbeats 1000000 in
set_option maxRecDepth 100000 in
theorem evlog_laid_ok {a0 : Int} {a1 : Sl} {a2 : Bool} {w w' : World} {r0 : Sl} (h : evlog_laid a0 a1 a2 w = some (r0,w')) : Calls Try.prog 86 #[(.int .i64 a0),(Sl.v a1),(.bool a2)] w fun e w''=>e = .returned (Sl.v r0)∧w'' = w':=by
 refine calls_dec (n:=30) Try.func86 rfl Try.ntmps86 (by simp) fun a ha=>?_
 unfold evlog_laid at h
 refine wp_seq<|region_lit<|qa ha rfl fun a ha=>s_nil<|t_n<|wp_seq<|region_lit<|?_
 obtain ⟨s1,w2,e3,h⟩:=bs2 h
 refine q ha (d_mkS ha rfl rfl e3) fun a ha=>qa ha rfl fun a ha=>s_nil<|t_n<|wp_seq<|region_lit<|qm ha rfl fun a ha=>qm ha rfl fun a ha=>qm ha rfl fun a ha=>qm ha rfl fun a ha=>qm ha rfl fun a ha=>q ha (d_conv ha rfl Try.runUnderlying3 Try.runUnderlying5) fun a ha=>qm ha rfl fun a ha=>q ha (d_lenS ha rfl Try.runUnderlying72) fun a ha=>q ha (d_conv ha rfl Try.runUnderlying3 Try.runUnderlying5) fun a ha=>?_
 obtain ⟨p4,e5,h⟩:=bs1 h
 refine q ha (d_ix ha rfl rfl Try.runUnderlying72 Try.sizeOf5 e5) fun a ha=>?_
 obtain ⟨w6,e7,h⟩:=bs1 h
 refine q ha (d_st ha rfl rfl Try.sizeOf5 e7) fun a ha=>?_
 obtain ⟨p8,e9,h⟩:=bs1 h
 refine q ha (d_ix ha rfl rfl Try.runUnderlying72 Try.sizeOf5 e9) fun a ha=>?_
 obtain ⟨w10,e11,h⟩:=bs1 h
 refine q ha (d_st ha rfl rfl Try.sizeOf5 e11) fun a ha=>?_
 obtain ⟨p12,e13,h⟩:=bs1 h
 refine q ha (d_ix ha rfl rfl Try.runUnderlying72 Try.sizeOf5 e13) fun a ha=>?_
 obtain ⟨w14,e15,h⟩:=bs1 h
 refine q ha (d_st ha rfl rfl Try.sizeOf5 e15) fun a ha=>?_
 obtain ⟨p16,e17,h⟩:=bs1 h
 refine q ha (d_ix ha rfl rfl Try.runUnderlying72 Try.sizeOf5 e17) fun a ha=>?_
 obtain ⟨w18,e19,h⟩:=bs1 h
 refine q ha (d_st ha rfl rfl Try.sizeOf5 e19) fun a ha=>s_nil<|t_n<|?_
 obtain ⟨w20,e21,h⟩:=bs1 h
 refine seq_join (n:=30) (L:=[(1,(Sl.v a1)),(7,(Sl.v s1))]) (w':=w20) (fun a ha=>?_) (fun hk22=>?_)
 ·refine wp_seq<|region_lit<|qm ha rfl fun a ha=>?_
  obtain ⟨s28,e29,h⟩:=bs1 h
  refine q ha (d_slS ha rfl Try.runUnderlying72 Try.sizeOf5 ⟨_,rfl⟩ rfl rfl (by simp) e29) fun a ha=>qm ha rfl fun a ha=>?_
  obtain ⟨v30,w31,e32,h⟩:=bs2 h
  refine q ha (d_cpS ha rfl rfl e32) fun a ha=>s_nil<|t_n<|wp_seq<|region_lit<|qm ha rfl fun a ha=>qa ha rfl fun a ha=>s_nil<|t_n<|wp_ret<|?_
  have hS:=ha
  cases h
  exact ret1 Try.results86 hS rfl ⟨rfl,rfl⟩
 ·clear h
  have h:=e21
  refine wp_seq<|region_lit<|qm ha rfl fun a ha=>s_nil<|t_n<|?_
  refine s_cond ha rfl h (fun b23 h=>?_) (fun b23 h=>?_)
  ·refine region_lit<|qm ha rfl fun a ha=>?_
   obtain ⟨p24,e25,h⟩:=bs1 h
   refine q ha (d_ix ha rfl rfl Try.runUnderlying72 Try.sizeOf5 e25) fun a ha=>?_
   obtain ⟨w26,e27,h⟩:=bs1 h
   refine q ha (d_st ha rfl rfl Try.sizeOf5 e27) fun a ha=>s_nil<|?_
   have hS : Has 30 [(1,(Sl.v a1)),(7,(Sl.v s1))] _:=ha.sub ⟨rfl,rfl,trivial⟩
   cases h
   exact hk22 _ hS
  ·refine wp_skip<|?_
   have hS : Has 30 [(1,(Sl.v a1)),(7,(Sl.v s1))] _:=ha.sub ⟨rfl,rfl,trivial⟩
   cases h
   exact hk22 _ hS
noncomputable def evlog_Log_fresh_l1 (a0 : Option Addr) (p4 : Addr)  (w9 : World) : Option ((World)⊕(World)) :=
 (a0).bind fun p15 =>
 (ldL w9 (p15.add 7)).bind fun v17 =>
 bind2 (slices_ContainsFunc_evlog_seg_evlog_seg_121 v17 p4 w9) fun v19 w20 =>
 if v19 = true then
 ((ldI .i64 w20 p4).bind fun v23 =>
 (stV w20 p4 (.int .i64 (IntKind.wrap .i64 (v23 + 1)))).bind fun w25 =>
 some (.inl w25))
 else
 (some (.inr w20))
noncomputable def evlog_Log_fresh (a0 : Option Addr) (w : World) : Option ((List Value)×Int×World) :=
 bind2 (mk w 125 (List.replicate 4 (.int .i64 0) ++ [.slice none 0 0])) fun p1 w2 =>
 bind2 (mk w2 3 ([.int .i64 0])) fun p4 w5 =>
 (stV w5 p4 (.int .i64 0)).bind fun w7 =>
 (loopF (fun s : World=>evlog_Log_fresh_l1 a0 p4 s) w7).bind fun w12 =>
 bind2 ((a0).bind fun p31 =>
 (ldL w12 (p31.add 7)).bind fun v33 =>
 if (decide (0 < (v33.n : Int))) = true then
 ((ldL w12 (p31.add 7)).bind fun v36 =>
 (ix v36 (IntKind.wrap .i64 ((v33.n : Int) - 1)) 5).bind fun p38 =>
 (ldI .i64 w12 (p38.add 1)).bind fun v40 =>
 some ((IntKind.wrap .i64 (v40 + 1)),w12))
 else
 (some (1,w12))) fun v27 w28 =>
 (dr w28).bind fun w42 =>
 (ldI .i64 w42 p4).bind fun v44 =>
 (a0).bind fun p46 =>
 (ldI .i64 w42 (p46.add 3)).bind fun v48 =>
 if (v44 == v48) = true then
 ((stA w42 p1 0 (List.replicate 4 (.int .i64 0) ++ [.slice none 0 0])).bind fun w51 =>
 (ldA 5 w51 p1 0).bind fun v53 =>
 some (v53,9,w51))
 else
 (if (decide (4611686018427387904 < v27)) = true then
 ((stA w42 p1 0 (List.replicate 4 (.int .i64 0) ++ [.slice none 0 0])).bind fun w56 =>
 (ldA 5 w56 p1 0).bind fun v58 =>
 some (v58,6,w56))
 else
 ((ldI .i64 w42 p4).bind fun v60 =>
 bind3 (evlog_Log_wipe a0 v60 0 w42) fun v62 v63 w64 =>
 if (v63 != 0) = true then
 ((stA w64 p1 0 (List.replicate 4 (.int .i64 0) ++ [.slice none 0 0])).bind fun w67 =>
 (ldA 5 w67 p1 0).bind fun v69 =>
 some (v69,v63,w67))
 else
 ((ldP w64 (p46.add 0)).bind fun v71 =>
 bind2 (sector_Disk_Sync v71 w64) fun v73 w74 =>
 if (v73 != 0) = true then
 ((stA w74 p1 0 (List.replicate 4 (.int .i64 0) ++ [.slice none 0 0])).bind fun w77 =>
 (ldA 5 w77 p1 0).bind fun v79 =>
 some (v79,v73,w77))
 else
 ((dr w74).bind fun w81 =>
 bind2 (octet_Key v27 w81) fun v83 w84 =>
 (ldI .i64 w84 (p46.add 5)).bind fun v86 =>
 bind2 (octet_Key v86 w84) fun v88 w89 =>
 bind2 (apS Try.prog 72 v83 v88 w89) fun s91 w92 =>
 chk (ldI .i64 w81 (p46.add 5) = some v86) <|
 (dr w92).bind fun w95 =>
 (ldI .i64 w95 p4).bind fun v97 =>
 (ldI .i64 w95 (p46.add 5)).bind fun v99 =>
 (ldP w95 (p46.add 0)).bind fun v101 =>
 (ldI .i64 w95 p4).bind fun v103 =>
 bind2 (evlog_Log_at a0 v103 0 w95) fun v105 w106 =>
 bind2 (evlog_laid 1 s91 true w106) fun v108 w109 =>
 bind2 (sector_Disk_Write v101 v105 v108 w109) fun v111 w112 =>
 (stA w112 p1 0 ([.int .i64 v97,.int .i64 v27,.int .i64 1,.int .i64 v99,.slice none 0 0])).bind fun w114 =>
 chk (ldI .i64 w106 p4 = some v97) <|
 chk (ldI .i64 w109 p4 = some v97) <|
 chk (ldI .i64 w112 p4 = some v97) <|
 chk (ldI .i64 w106 (p46.add 5) = some v99) <|
 chk (ldI .i64 w109 (p46.add 5) = some v99) <|
 chk (ldI .i64 w112 (p46.add 5) = some v99) <|
 chk (ldP w106 (p46.add 0) = some v101) <|
 chk (ldP w109 (p46.add 0) = some v101) <|
 (ldA 5 w114 p1 0).bind fun v124 =>
 some (v124,v111,w114)))))
set_option maxHeartbeats 1000000 in
set_option maxRecDepth 100000 in
theorem evlog_Log_fresh_ok {a0 : Option Addr} {w w' : World} {r0 : List Value} {r1 : Int} (h : evlog_Log_fresh a0 w = some (r0,r1,w')) : Calls Try.prog 82 #[(.pointer a0)] w fun e w''=>e = .returned (.tuple #[(.agg (List.toArray r0)),(.int .i64 r1)])∧w'' = w':=by
 refine calls_dec (n:=92) Try.func82 rfl Try.ntmps82 (by simp) fun a ha=>?_
 unfold evlog_Log_fresh at h
 refine wp_seq<|region_lit<|?_
 obtain ⟨p1,w2,e3,h⟩:=bs2 h
 refine q ha (d_alloc Try.zeroValue125 (by kernel_rfl) e3) fun a ha=>qa ha rfl fun a ha=>s_nil<|t_n<|wp_seq<|region_lit<|?_
 obtain ⟨p4,w5,e6,h⟩:=bs2 h
 refine q ha (d_alloc Try.zeroValue3 (by kernel_rfl) e6) fun a ha=>?_
 obtain ⟨w7,e8,h⟩:=bs1 h
 refine q ha (d_st ha rfl rfl Try.sizeOf3 e8) fun a ha=>qa ha rfl fun a ha=>s_nil<|t_n<|wp_seq<|wp_block<|?_
 obtain ⟨w12,e11,h⟩:=bs1 h
 refine s_loop1 (n:=92) (L:=[(0,(.pointer a0)),(2,(.pointer (some p1))),(4,(.pointer (some p4))),(5,(.int .i64 1))]) (w':=w12) (e:=.exit 0) (I:=fun (s : World) a w=>Has 92 [(0,(.pointer a0)),(2,(.pointer (some p1))),(4,(.pointer (some p4))),(5,(.int .i64 1))] a∧w = s) ⟨ha.sub ⟨rfl,rfl,rfl,rfl,trivial⟩,rfl⟩ e11 (fun a ha=>?_) (fun hk13=>?_)
 ·refine b_hit<|t_n<|?_
  obtain ⟨v27,w28,e29,h⟩:=bs2 h
  refine seq_join (n:=92) (L:=[(5,(.int .i64 v27)),(0,(.pointer a0)),(2,(.pointer (some p1))),(4,(.pointer (some p4)))]) (w':=w28) (fun a ha=>?_) (fun hk30=>?_)
  ·refine wp_seq<|wp_block<|wp_seq<|?_
   obtain ⟨w42,e43,h⟩:=bs1 h
   obtain ⟨v44,e45,h⟩:=bs1 h
   obtain ⟨p46,e47,h⟩:=bs1 h
   obtain ⟨v48,e49,h⟩:=bs1 h
   have ha : Has 92 [(0,(.pointer a0)),(2,(.pointer (some p1))),(4,(.pointer (some p4))),(5,(.int .i64 v27))] a:=ha.sub ⟨rfl,rfl,rfl,rfl,trivial⟩
   refine region_draw (n:=92) (ds:=(⟨_,(.int .i64 v44),false,0,0,[],[(4,(.pointer (some p4)))]⟩ :: ⟨_,(.pointer a0),false,0,0,[],[(0,(.pointer a0))]⟩ :: ⟨_,(.pointer (some p46)),false,0,0,[1],[(38,(.pointer a0))]⟩ :: ⟨_,(.pointer (some (p46.add 3))),false,0,0,[1,2],[(39,(.pointer (some p46)))]⟩ :: ⟨_,(.int .i64 v48),false,0,0,[1,2,3],[(40,(.pointer (some (p46.add 3))))]⟩ :: ⟨_,(.bool (v44 == v48)),false,0,0,(rn 0 5),[(37,(.int .i64 v44)),(41,(.int .i64 v48))]⟩ :: ⟨_,(.bool (v44 == v48)),false,0,0,(rn 0 6),[(42,(.bool (v44 == v48)))]⟩ :: [])) (W:=(fun _=>w42)) (by kernel_rfl) ha (dr_w e43) (by kernel_rfl) ?_ (reads_of (by kernel_rfl)) (by kernel_rfl) (m:=0) (by kernel_rfl) (fun a ha=>?_)
   ·refine ⟨?_,?_,?_,?_,?_,?_,?_,trivial⟩
    ·exact oc (e:=false) 0 (ok_do rfl fun a ha=>d_ld ha rfl Try.isAgg3 (ldI_c e45))
    ·exact oa fun j a ha=>d_move ha rfl
    ·exact oa fun j a ha=>d_nilp ha rfl e47
    ·exact oa fun j a ha=>d_fa ha rfl Try.runUnderlying119 rfl rfl Try.sizeOf3 (by decide)
    ·exact oc (e:=false) 0 (ok_do rfl fun a ha=>d_ld ha rfl Try.isAgg3 (ldI_c e49))
    ·exact oa fun j a ha=>d_eq ha rfl rfl
    ·exact oa fun j a ha=>d_assign ha rfl
   ·have ha : Has 92 [(0,(.pointer a0)),(2,(.pointer (some p1))),(4,(.pointer (some p4))),(5,(.int .i64 v27)),(36,(.bool (v44 == v48)))] a:=ha.sub ⟨rfl,rfl,rfl,rfl,rfl,trivial⟩
    refine t_n<|?_
    refine s_cond ha rfl h (fun b50 h=>?_) (fun b50 h=>?_)
    ·refine wp_seq<|region_lit<|q ha (d_build (vs:=[]) (pl:=#[(0,1),(1,1),(2,1),(3,1),(4,1)]) (cs:=(List.replicate 4 (.int .i64 0) ++ [.slice none 0 0])) ha trivial Try.zeroValue125 Try.runUnderlying125 (by intro w; kernel_rfl) (by kernel_rfl)) fun a ha=>?_
     obtain ⟨w51,e52,h⟩:=bs1 h
     refine q ha (d_stA ha rfl rfl Try.sizeOf125 rfl e52) fun a ha=>qa ha rfl fun a ha=>s_nil<|t_n<|wp_ret<|b_r<|t_r<|?_
     obtain ⟨v53,e54,h⟩:=bs1 h
     have hS:=ha
     cases h
     exact retG (vs:=[_,_]) Try.results82 hS ⟨⟨_,rfl,lv_A Try.isAgg125 Try.sizeOf125 e54⟩,rfl,trivial⟩ ⟨rfl,rfl⟩
    ·refine wp_seq<|region_lit<|qm ha rfl fun a ha=>q ha (d_gt ha rfl rfl) fun a ha=>qa ha rfl fun a ha=>s_nil<|t_n<|?_
     refine s_cond ha rfl h (fun b55 h=>?_) (fun b55 h=>?_)
     ·refine wp_seq<|region_lit<|q ha (d_build (vs:=[]) (pl:=#[(0,1),(1,1),(2,1),(3,1),(4,1)]) (cs:=(List.replicate 4 (.int .i64 0) ++ [.slice none 0 0])) ha trivial Try.zeroValue125 Try.runUnderlying125 (by intro w; kernel_rfl) (by kernel_rfl)) fun a ha=>?_
      obtain ⟨w56,e57,h⟩:=bs1 h
      refine q ha (d_stA ha rfl rfl Try.sizeOf125 rfl e57) fun a ha=>qa ha rfl fun a ha=>s_nil<|t_n<|wp_ret<|b_r<|t_r<|?_
      obtain ⟨v58,e59,h⟩:=bs1 h
      have hS:=ha
      cases h
      exact retG (vs:=[_,_]) Try.results82 hS ⟨⟨_,rfl,lv_A Try.isAgg125 Try.sizeOf125 e59⟩,rfl,trivial⟩ ⟨rfl,rfl⟩
     ·refine wp_skip<|b_n<|t_n<|wp_seq<|wp_seq<|region_lit<|qm ha rfl fun a ha=>?_
      obtain ⟨v60,e61,h⟩:=bs1 h
      refine q ha (d_ld ha rfl Try.isAgg3 (ldI_c e61)) fun a ha=>?_
      obtain ⟨v62,v63,w64,e65,h⟩:=bs3 h
      refine q ha (d_call (xs:=[_,_,_]) (vs:=[(.pointer a0),(.int .i64 v60),(.int .i64 0)]) ha ⟨rfl,rfl,rfl,trivial⟩ Try.call72 (evlog_Log_wipe_ok e65)) fun a ha=>qm ha rfl fun a ha=>q ha (d_ext ha rfl rfl) fun a ha=>q ha (d_ext ha rfl rfl) fun a ha=>qa ha rfl fun a ha=>qa ha rfl fun a ha=>s_nil<|t_n<|wp_seq<|region_lit<|qm ha rfl fun a ha=>q ha (d_ne ha rfl rfl) fun a ha=>s_nil<|t_n<|?_
      refine s_cond ha rfl h (fun b66 h=>?_) (fun b66 h=>?_)
      ·refine wp_seq<|region_lit<|q ha (d_build (vs:=[]) (pl:=#[(0,1),(1,1),(2,1),(3,1),(4,1)]) (cs:=(List.replicate 4 (.int .i64 0) ++ [.slice none 0 0])) ha trivial Try.zeroValue125 Try.runUnderlying125 (by intro w; kernel_rfl) (by kernel_rfl)) fun a ha=>qm ha rfl fun a ha=>?_
       obtain ⟨w67,e68,h⟩:=bs1 h
       refine q ha (d_stA ha rfl rfl Try.sizeOf125 rfl e68) fun a ha=>qa ha rfl fun a ha=>s_nil<|t_n<|wp_ret<|t_r<|?_
       obtain ⟨v69,e70,h⟩:=bs1 h
       have hS:=ha
       cases h
       exact retG (vs:=[_,_]) Try.results82 hS ⟨⟨_,rfl,lv_A Try.isAgg125 Try.sizeOf125 e70⟩,rfl,trivial⟩ ⟨rfl,rfl⟩
      ·refine wp_skip<|t_n<|wp_seq<|wp_seq<|region_lit<|qm ha rfl fun a ha=>q ha (d_nilp ha rfl e47) fun a ha=>q ha (d_fa ha rfl Try.runUnderlying119 rfl rfl Try.sizeOf57 (by decide)) fun a ha=>?_
       obtain ⟨v71,e72,h⟩:=bs1 h
       refine q ha (d_ld ha rfl Try.isAgg57 (ldP_c e72)) fun a ha=>?_
       obtain ⟨v73,w74,e75,h⟩:=bs2 h
       refine q ha (d_call (xs:=[_]) (vs:=[(.pointer v71)]) ha ⟨rfl,trivial⟩ Try.call36 (sector_Disk_Sync_ok e75)) fun a ha=>qa ha rfl fun a ha=>s_nil<|t_n<|wp_seq<|region_lit<|qm ha rfl fun a ha=>q ha (d_ne ha rfl rfl) fun a ha=>s_nil<|t_n<|?_
       refine s_cond ha rfl h (fun b76 h=>?_) (fun b76 h=>?_)
       ·refine wp_seq<|region_lit<|q ha (d_build (vs:=[]) (pl:=#[(0,1),(1,1),(2,1),(3,1),(4,1)]) (cs:=(List.replicate 4 (.int .i64 0) ++ [.slice none 0 0])) ha trivial Try.zeroValue125 Try.runUnderlying125 (by intro w; kernel_rfl) (by kernel_rfl)) fun a ha=>qm ha rfl fun a ha=>?_
        obtain ⟨w77,e78,h⟩:=bs1 h
        refine q ha (d_stA ha rfl rfl Try.sizeOf125 rfl e78) fun a ha=>qa ha rfl fun a ha=>s_nil<|t_n<|wp_ret<|t_r<|?_
        obtain ⟨v79,e80,h⟩:=bs1 h
        have hS:=ha
        cases h
        exact retG (vs:=[_,_]) Try.results82 hS ⟨⟨_,rfl,lv_A Try.isAgg125 Try.sizeOf125 e80⟩,rfl,trivial⟩ ⟨rfl,rfl⟩
       ·refine wp_skip<|t_n<|wp_seq<|?_
        obtain ⟨w81,e82,h⟩:=bs1 h
        obtain ⟨v83,w84,e85,h⟩:=bs2 h
        obtain ⟨v86,e87,h⟩:=bs1 h
        obtain ⟨v88,w89,e90,h⟩:=bs2 h
        obtain ⟨s91,w92,e93,h⟩:=bs2 h
        obtain ⟨e94,h⟩:=chk_some h
        have ha : Has 92 [(0,(.pointer a0)),(2,(.pointer (some p1))),(4,(.pointer (some p4))),(5,(.int .i64 v27))] a:=ha.sub ⟨rfl,rfl,rfl,rfl,trivial⟩
        refine region_draw (n:=92) (ds:=(⟨_,(.int .i64 v27),false,0,0,[],[(5,(.int .i64 v27))]⟩ :: ⟨_,(Sl.v v83),true,0,0,[0],[(67,(.int .i64 v27))]⟩ :: ⟨_,(.pointer a0),false,0,1,[],[(0,(.pointer a0))]⟩ :: ⟨_,(.pointer (some p46)),false,0,1,[2],[(69,(.pointer a0))]⟩ :: ⟨_,(.pointer (some (p46.add 5))),false,0,1,[2,3],[(70,(.pointer (some p46)))]⟩ :: ⟨_,(.int .i64 v86),false,0,1,[2,3,4],[(71,(.pointer (some (p46.add 5))))]⟩ :: ⟨_,(Sl.v v88),true,1,1,(rn 0 6),[(72,(.int .i64 v86))]⟩ :: ⟨_,(Sl.v s91),true,2,2,(rn 0 7),[(68,(Sl.v v83)),(73,(Sl.v v88))]⟩ :: ⟨_,(Sl.v s91),false,3,3,(rn 0 8),[(74,(Sl.v s91))]⟩ :: [])) (W:=(fun j=>match j with | 0=>w81 | 1=>w84 | 2=>w89 | 3=>w92 | _=>w92)) (by kernel_rfl) ha (dr_w e82) (by kernel_rfl) ?_ (reads_of (by kernel_rfl)) (by kernel_rfl) (m:=3) (by kernel_rfl) (fun a ha=>?_)
        ·refine ⟨?_,?_,?_,?_,?_,?_,?_,?_,?_,trivial⟩
         ·exact oa fun j a ha=>d_move ha rfl
         ·exact oc 0 (ok_do rfl fun a ha=>d_call (xs:=[_]) (vs:=[(.int .i64 v27)]) ha ⟨rfl,trivial⟩ Try.call81 (octet_Key_ok e85))
         ·exact oa fun j a ha=>d_move ha rfl
         ·exact oa fun j a ha=>d_nilp ha rfl e47
         ·exact oa fun j a ha=>d_fa ha rfl Try.runUnderlying119 rfl rfl Try.sizeOf3 (by decide)
         ·intro j h1 h2; have h1 : 0≤j:=h1; have h2 : j≤1:=h2; rcases (by omega : j = 0∨j = 1) with rfl | rfl
          ·exact ok_do rfl fun a ha=>d_ld ha rfl Try.isAgg3 (ldI_c e94)
          ·exact ok_do rfl fun a ha=>d_ld ha rfl Try.isAgg3 (ldI_c e87)
         ·exact oc 1 (ok_do rfl fun a ha=>d_call (xs:=[_]) (vs:=[(.int .i64 v86)]) ha ⟨rfl,trivial⟩ Try.call81 (octet_Key_ok e90))
         ·exact oc 2 (ok_do rfl fun a ha=>d_apS ha rfl rfl e93)
         ·exact oa fun j a ha=>d_assign ha rfl
        ·have ha : Has 92 [(0,(.pointer a0)),(2,(.pointer (some p1))),(4,(.pointer (some p4))),(5,(.int .i64 v27)),(10,(Sl.v s91))] a:=ha.sub ⟨rfl,rfl,rfl,rfl,rfl,trivial⟩
         refine t_n<|wp_seq<|?_
         obtain ⟨w95,e96,h⟩:=bs1 h
         obtain ⟨v97,e98,h⟩:=bs1 h
         obtain ⟨v99,e100,h⟩:=bs1 h
         obtain ⟨v101,e102,h⟩:=bs1 h
         obtain ⟨v103,e104,h⟩:=bs1 h
         obtain ⟨v105,w106,e107,h⟩:=bs2 h
         obtain ⟨v108,w109,e110,h⟩:=bs2 h
         obtain ⟨v111,w112,e113,h⟩:=bs2 h
         obtain ⟨w114,e115,h⟩:=bs1 h
         obtain ⟨e116,h⟩:=chk_some h
         obtain ⟨e117,h⟩:=chk_some h
         obtain ⟨e118,h⟩:=chk_some h
         obtain ⟨e119,h⟩:=chk_some h
         obtain ⟨e120,h⟩:=chk_some h
         obtain ⟨e121,h⟩:=chk_some h
         obtain ⟨e122,h⟩:=chk_some h
         obtain ⟨e123,h⟩:=chk_some h
         have ha : Has 92 [(0,(.pointer a0)),(2,(.pointer (some p1))),(4,(.pointer (some p4))),(5,(.int .i64 v27)),(10,(Sl.v s91))] a:=ha.sub ⟨rfl,rfl,rfl,rfl,rfl,trivial⟩
         refine region_draw (n:=92) (ds:=(⟨_,(.int .i64 v97),false,0,3,[],[(4,(.pointer (some p4)))]⟩ :: ⟨_,(.int .i64 v27),false,0,3,[],[(5,(.int .i64 v27))]⟩ :: ⟨_,(.pointer a0),false,0,3,[],[(0,(.pointer a0))]⟩ :: ⟨_,(.pointer (some p46)),false,0,3,[2],[(77,(.pointer a0))]⟩ :: ⟨_,(.pointer (some (p46.add 5))),false,0,3,[2,3],[(78,(.pointer (some p46)))]⟩ :: ⟨_,(.int .i64 v99),false,0,3,[2,3,4],[(79,(.pointer (some (p46.add 5))))]⟩ :: ⟨_,(.agg (List.toArray ([.int .i64 v97,.int .i64 v27,.int .i64 1,.int .i64 v99,.slice none 0 0]))),false,0,3,(rn 0 6),[(75,(.int .i64 v97)),(76,(.int .i64 v27)),(80,(.int .i64 v99))]⟩ :: ⟨_,(.pointer a0),false,0,2,[],[(0,(.pointer a0))]⟩ :: ⟨_,(.pointer (some p46)),false,0,2,[7],[(82,(.pointer a0))]⟩ :: ⟨_,(.pointer (some (p46.add 0))),false,0,2,[7,8],[(83,(.pointer (some p46)))]⟩ :: ⟨_,(.pointer v101),false,0,2,[7,8,9],[(84,(.pointer (some (p46.add 0))))]⟩ :: ⟨_,(.pointer a0),false,0,0,[],[(0,(.pointer a0))]⟩ :: ⟨_,(.int .i64 v103),false,0,0,[],[(4,(.pointer (some p4)))]⟩ :: ⟨_,(.int .i64 v105),true,0,0,[11,12],[(86,(.pointer a0)),(87,(.int .i64 v103))]⟩ :: ⟨_,(Sl.v s91),false,0,1,[],[(10,(Sl.v s91))]⟩ :: ⟨_,(Sl.v v108),true,1,1,(rn 11 4),[(89,(Sl.v s91))]⟩ :: ⟨_,(.int .i64 v111),true,2,2,(rn 7 9),[(85,(.pointer v101)),(88,(.int .i64 v105)),(90,(Sl.v v108))]⟩ :: ⟨_,undef,true,3,3,(rn 0 17),[(2,(.pointer (some p1))),(81,(.agg (List.toArray ([.int .i64 v97,.int .i64 v27,.int .i64 1,.int .i64 v99,.slice none 0 0]))))]⟩ :: ⟨_,(.int .i64 v111),false,4,4,(rn 0 18),[(91,(.int .i64 v111))]⟩ :: [])) (W:=(fun j=>match j with | 0=>w95 | 1=>w106 | 2=>w109 | 3=>w112 | 4=>w114 | _=>w114)) (by kernel_rfl) ha (dr_w e96) (by kernel_rfl) ?_ (reads_of (by kernel_rfl)) (by kernel_rfl) (m:=4) (by kernel_rfl) (fun a ha=>?_)
         ·refine ⟨?_,?_,?_,?_,?_,?_,?_,?_,?_,?_,?_,?_,?_,?_,?_,?_,?_,?_,?_,trivial⟩
          ·intro j h1 h2; have h1 : 0≤j:=h1; have h2 : j≤3:=h2; rcases (by omega : j = 0∨j = 1∨j = 2∨j = 3) with rfl | rfl | rfl | rfl
           ·exact ok_do rfl fun a ha=>d_ld ha rfl Try.isAgg3 (ldI_c e98)
           ·exact ok_do rfl fun a ha=>d_ld ha rfl Try.isAgg3 (ldI_c e116)
           ·exact ok_do rfl fun a ha=>d_ld ha rfl Try.isAgg3 (ldI_c e117)
           ·exact ok_do rfl fun a ha=>d_ld ha rfl Try.isAgg3 (ldI_c e118)
          ·exact oa fun j a ha=>d_move ha rfl
          ·exact oa fun j a ha=>d_move ha rfl
          ·exact oa fun j a ha=>d_nilp ha rfl e47
          ·exact oa fun j a ha=>d_fa ha rfl Try.runUnderlying119 rfl rfl Try.sizeOf3 (by decide)
          ·intro j h1 h2; have h1 : 0≤j:=h1; have h2 : j≤3:=h2; rcases (by omega : j = 0∨j = 1∨j = 2∨j = 3) with rfl | rfl | rfl | rfl
           ·exact ok_do rfl fun a ha=>d_ld ha rfl Try.isAgg3 (ldI_c e100)
           ·exact ok_do rfl fun a ha=>d_ld ha rfl Try.isAgg3 (ldI_c e119)
           ·exact ok_do rfl fun a ha=>d_ld ha rfl Try.isAgg3 (ldI_c e120)
           ·exact ok_do rfl fun a ha=>d_ld ha rfl Try.isAgg3 (ldI_c e121)
          ·exact oa fun j a ha=>d_build (vs:=[(0,(.int .i64 v97)),(1,(.int .i64 v27)),(2,(.int .i64 1)),(3,(.int .i64 v99))]) (pl:=#[(0,1),(1,1),(2,1),(3,1),(4,1)]) (cs:=([.int .i64 v97,.int .i64 v27,.int .i64 1,.int .i64 v99,.slice none 0 0])) ha ⟨rfl,rfl,rfl,rfl,rfl,rfl,rfl,rfl,trivial⟩ Try.zeroValue125 Try.runUnderlying125 (by intro w; kernel_rfl) (by kernel_rfl)
          ·exact oa fun j a ha=>d_move ha rfl
          ·exact oa fun j a ha=>d_nilp ha rfl e47
          ·exact oa fun j a ha=>d_fa ha rfl Try.runUnderlying119 rfl rfl Try.sizeOf57 (by decide)
          ·intro j h1 h2; have h1 : 0≤j:=h1; have h2 : j≤2:=h2; rcases (by omega : j = 0∨j = 1∨j = 2) with rfl | rfl | rfl
           ·exact ok_do rfl fun a ha=>d_ld ha rfl Try.isAgg57 (ldP_c e102)
           ·exact ok_do rfl fun a ha=>d_ld ha rfl Try.isAgg57 (ldP_c e122)
           ·exact ok_do rfl fun a ha=>d_ld ha rfl Try.isAgg57 (ldP_c e123)
          ·exact oa fun j a ha=>d_move ha rfl
          ·exact oc 0 (ok_do rfl fun a ha=>d_ld ha rfl Try.isAgg3 (ldI_c e104))
          ·exact oc 0 (ok_do rfl fun a ha=>d_call (xs:=[_,_,_]) (vs:=[(.pointer a0),(.int .i64 v103),(.int .i64 0)]) ha ⟨rfl,rfl,rfl,trivial⟩ Try.call85 (evlog_Log_at_ok e107))
          ·exact oa fun j a ha=>d_move ha rfl
          ·exact oc 1 (ok_do rfl fun a ha=>d_call (xs:=[_,_,_]) (vs:=[(.int .i64 1),(Sl.v s91),(.bool true)]) ha ⟨rfl,rfl,rfl,trivial⟩ Try.call86 (evlog_laid_ok e110))
          ·exact oc 2 (ok_do rfl fun a ha=>d_call (xs:=[_,_,_]) (vs:=[(.pointer v101),(.int .i64 v105),(Sl.v v108)]) ha ⟨rfl,rfl,rfl,trivial⟩ Try.call84 (sector_Disk_Write_ok e113))
          ·exact oc 3 (ok_do rfl fun a ha=>d_stA ha rfl rfl Try.sizeOf125 rfl e115)
          ·exact oa fun j a ha=>d_assign ha rfl
         ·have ha : Has 92 [(2,(.pointer (some p1))),(3,(.int .i64 v111))] a:=ha.sub ⟨rfl,rfl,trivial⟩
          refine t_n<|wp_ret<|?_
          obtain ⟨v124,e125,h⟩:=bs1 h
          have hS:=ha
          cases h
          exact retG (vs:=[_,_]) Try.results82 hS ⟨⟨_,rfl,lv_A Try.isAgg125 Try.sizeOf125 e125⟩,rfl,trivial⟩ ⟨rfl,rfl⟩
  ·clear h
   have h:=e29
   refine wp_seq<|region_lit<|qm ha rfl fun a ha=>?_
   obtain ⟨p31,e32,h⟩:=bs1 h
   refine q ha (d_nilp ha rfl e32) fun a ha=>q ha (d_fa ha rfl Try.runUnderlying119 rfl rfl Try.sizeOf117 (by decide)) fun a ha=>?_
   obtain ⟨v33,e34,h⟩:=bs1 h
   refine q ha (d_ld ha rfl Try.isAgg117 (ldL_c e34)) fun a ha=>q ha (d_lenS ha rfl Try.runUnderlying117) fun a ha=>qa ha rfl fun a ha=>s_nil<|t_n<|wp_seq<|region_lit<|qm ha rfl fun a ha=>q ha (d_gt ha rfl rfl) fun a ha=>s_nil<|t_n<|?_
   refine s_cond ha rfl h (fun b35 h=>?_) (fun b35 h=>?_)
   ·refine region_lit<|qm ha rfl fun a ha=>q ha (d_nilp ha rfl e32) fun a ha=>q ha (d_fa ha rfl Try.runUnderlying119 rfl rfl Try.sizeOf117 (by decide)) fun a ha=>?_
    obtain ⟨v36,e37,h⟩:=bs1 h
    refine q ha (d_ld ha rfl Try.isAgg117 (ldL_c e37)) fun a ha=>qm ha rfl fun a ha=>q ha (d_sub ha rfl rfl) fun a ha=>?_
    obtain ⟨p38,e39,h⟩:=bs1 h
    refine q ha (d_ix ha rfl rfl Try.runUnderlying117 Try.sizeOf125 e39) fun a ha=>q ha (d_fa ha rfl Try.runUnderlying125 rfl rfl Try.sizeOf3 (by decide)) fun a ha=>?_
    obtain ⟨v40,e41,h⟩:=bs1 h
    refine q ha (d_ld ha rfl Try.isAgg3 (ldI_c e41)) fun a ha=>q ha (d_add ha rfl rfl) fun a ha=>qa ha rfl fun a ha=>s_nil<|?_
    have hS : Has 92 [(5,(.int .i64 (IntKind.wrap .i64 (v40 + 1)))),(0,(.pointer a0)),(2,(.pointer (some p1))),(4,(.pointer (some p4)))] _:=ha.sub ⟨rfl,rfl,rfl,rfl,trivial⟩
    cases h
    exact hk30 _ hS
   ·refine wp_skip<|?_
    have hS : Has 92 [(5,(.int .i64 1)),(0,(.pointer a0)),(2,(.pointer (some p1))),(4,(.pointer (some p4)))] _:=ha.sub ⟨rfl,rfl,rfl,rfl,trivial⟩
    cases h
    exact hk30 _ hS
 ·clear h
  rintro w9 a wq o ⟨ha,hwq⟩ h hr14
  obtain rfl : w9 = wq:=hwq.symm
  have ha : Has 92 [(0,(.pointer a0)),(2,(.pointer (some p1))),(4,(.pointer (some p4))),(5,(.int .i64 1))] a:=ha
  have h : evlog_Log_fresh_l1 a0 p4 w9 = some o:=h
  unfold evlog_Log_fresh_l1 at h
  refine wp_seq<|wp_seq<|region_lit<|qm ha rfl fun a ha=>?_
  obtain ⟨p15,e16,h⟩:=bs1 h
  refine q ha (d_nilp ha rfl e16) fun a ha=>q ha (d_fa ha rfl Try.runUnderlying119 rfl rfl Try.sizeOf117 (by decide)) fun a ha=>?_
  obtain ⟨v17,e18,h⟩:=bs1 h
  refine q ha (d_ld ha rfl Try.isAgg117 (ldL_c e18)) fun a ha=>q ha (d_mkF (vs:=[(.pointer (some p4))]) ha ⟨rfl,trivial⟩) fun a ha=>?_
  obtain ⟨v19,w20,e21,h⟩:=bs2 h
  refine q ha (d_call (xs:=[_,_]) (vs:=[(Sl.v v17),(.func (.func 121) #[] #[(.pointer (some p4))])]) ha ⟨rfl,rfl,trivial⟩ Try.call120 (slices_ContainsFunc_evlog_seg_evlog_seg_121_ok e21)) fun a ha=>s_nil<|t_n<|?_
  refine s_cond ha rfl h (fun b22 h=>?_) (fun b22 h=>?_)
  ·refine wp_skip<|t_n<|wp_block<|region_lit<|?_
   obtain ⟨v23,e24,h⟩:=bs1 h
   refine q ha (d_ld ha rfl Try.isAgg3 (ldI_c e24)) fun a ha=>q ha (d_add ha rfl rfl) fun a ha=>?_
   obtain ⟨w25,e26,h⟩:=bs1 h
   refine q ha (d_st ha rfl rfl Try.sizeOf3 e26) fun a ha=>s_nil<|b_n<|?_
   have hS : Has 92 [(0,(.pointer a0)),(2,(.pointer (some p1))),(4,(.pointer (some p4))),(5,(.int .i64 1))] _:=ha.sub ⟨rfl,rfl,rfl,rfl,trivial⟩
   cases h
   exact lp_next ⟨hS,rfl⟩
  ·refine wp_exit<|t_x<|?_
   have hS : Has 92 [(0,(.pointer a0)),(2,(.pointer (some p1))),(4,(.pointer (some p4))),(5,(.int .i64 1))] _:=ha.sub ⟨rfl,rfl,rfl,rfl,trivial⟩
   cases h
   cases hr14 _ rfl
   refine lp_x<|?_
   exact hk13 _ hS
noncomputable def slices_Clone_byte_byte (a0 : Sl) (w : World) : Option (Sl×World) :=
 if (a0.p.isNone) = true then
 (some (Sl.nil,w))
 else
 (bind2 (bsl w 5 1 []) fun s2 w3 =>
 bind2 (apS Try.prog 72 s2 a0 w3) fun s5 w6 =>
 some (s5,w6))
set_option maxHeartbeats 1000000 in
set_option maxRecDepth 100000 in
theorem slices_Clone_byte_byte_ok {a0 : Sl} {w w' : World} {r0 : Sl} (h : slices_Clone_byte_byte a0 w = some (r0,w')) : Calls Try.prog 83 #[(Sl.v a0)] w fun e w''=>e = .returned (Sl.v r0)∧w'' = w':=by
 refine calls_dec (n:=8) Try.func83 rfl Try.ntmps83 (by simp) fun a ha=>?_
 unfold slices_Clone_byte_byte at h
 refine wp_seq<|region_lit<|qa ha rfl fun a ha=>s_nil<|t_n<|wp_seq<|wp_seq<|region_lit<|qm ha rfl fun a ha=>q ha (d_eqL ha rfl rfl Try.runUnderlying72) fun a ha=>s_nil<|t_n<|?_
 refine s_cond ha rfl h (fun b1 h=>?_) (fun b1 h=>?_)
 ·refine wp_seq<|region_lit<|qa ha rfl fun a ha=>s_nil<|t_n<|wp_ret<|t_r<|?_
  have hS:=ha
  cases h
  exact ret1 Try.results83 hS rfl ⟨rfl,rfl⟩
 ·refine wp_skip<|t_n<|wp_seq<|region_lit<|?_
  obtain ⟨s2,w3,e4,h⟩:=bs2 h
  refine q ha (d_bsl (vs:=[]) (ps:=[]) ha trivial trivial rfl Try.runUnderlying72 Try.sizeOf5 Try.zeroValue5 (by decide) e4) fun a ha=>qm ha rfl fun a ha=>?_
  obtain ⟨s5,w6,e7,h⟩:=bs2 h
  refine q ha (d_apS ha rfl rfl e7) fun a ha=>qa ha rfl fun a ha=>s_nil<|t_n<|wp_ret<|?_
  have hS:=ha
  cases h
  exact ret1 Try.results83 hS rfl ⟨rfl,rfl⟩
noncomputable def slices_Clone_api_Rec_api_Rec (a0 : Sl) (w : World) : Option (Sl×World) :=
 if (a0.p.isNone) = true then
 (some (Sl.nil,w))
 else
 (bind2 (bsl w 87 2 []) fun s2 w3 =>
 bind2 (apS Try.prog 74 s2 a0 w3) fun s5 w6 =>
 some (s5,w6))
set_option maxHeartbeats 1000000 in
set_option maxRecDepth 100000 in
theorem slices_Clone_api_Rec_api_Rec_ok {a0 : Sl} {w w' : World} {r0 : Sl} (h : slices_Clone_api_Rec_api_Rec a0 w = some (r0,w')) : Calls Try.prog 87 #[(Sl.v a0)] w fun e w''=>e = .returned (Sl.v r0)∧w'' = w':=by
 refine calls_dec (n:=8) Try.func87 rfl Try.ntmps87 (by simp) fun a ha=>?_
 unfold slices_Clone_api_Rec_api_Rec at h
 refine wp_seq<|region_lit<|qa ha rfl fun a ha=>s_nil<|t_n<|wp_seq<|wp_seq<|region_lit<|qm ha rfl fun a ha=>q ha (d_eqL ha rfl rfl Try.runUnderlying74) fun a ha=>s_nil<|t_n<|?_
 refine s_cond ha rfl h (fun b1 h=>?_) (fun b1 h=>?_)
 ·refine wp_seq<|region_lit<|qa ha rfl fun a ha=>s_nil<|t_n<|wp_ret<|t_r<|?_
  have hS:=ha
  cases h
  exact ret1 Try.results87 hS rfl ⟨rfl,rfl⟩
 ·refine wp_skip<|t_n<|wp_seq<|region_lit<|?_
  obtain ⟨s2,w3,e4,h⟩:=bs2 h
  refine q ha (d_bsl (vs:=[]) (ps:=[]) ha trivial trivial rfl Try.runUnderlying74 Try.sizeOf87 Try.zeroValue87 (by decide) e4) fun a ha=>qm ha rfl fun a ha=>?_
  obtain ⟨s5,w6,e7,h⟩:=bs2 h
  refine q ha (d_apS ha rfl rfl e7) fun a ha=>qa ha rfl fun a ha=>s_nil<|t_n<|wp_ret<|?_
  have hS:=ha
  cases h
  exact ret1 Try.results87 hS rfl ⟨rfl,rfl⟩
noncomputable def evlog_Log_Append_l1 (a0 : Option Addr) (p39 : Addr) (x81 : Sl) (x82 : Int) (w83 : World) : ND ((Sl×Int×World)⊕((World)⊕(Int×World))) :=
 if (decide (0 < (x81.n : Int))) = true then
 (lb1 (dr w83) fun w93 =>
 lb1 (a0) fun p95 =>
 lb1 (ldP w93 (p95.add 0)) fun v97 =>
 lb1 (ldI .i64 w93 (p39.add 0)) fun v99 =>
 lb1 (ldI .i64 w93 (p39.add 2)) fun v101 =>
 lb2 (evlog_Log_at a0 v99 v101 w93) fun v103 w104 =>
 lb1 (slS x81 0 (mnI 59 (x81.n : Int)) (mnI 59 (x81.n : Int)) 1) fun s106 =>
 lb2 (evlog_laid x82 s106 ((mnI 59 (x81.n : Int)) == (x81.n : Int)) w104) fun v108 w109 =>
 lb2 (sector_Disk_Write v97 v103 v108 w109) fun v111 w112 =>
 nck (ldP w104 (p95.add 0) = some v97) <|
 nck (ldP w109 (p95.add 0) = some v97) <|
 if (v111 != 0) = true then
 (nret (.inr (.inr (v111,w112))))
 else
 (lb1 (slS x81 (mnI 59 (x81.n : Int)) (x81.n : Int) (x81.c : Int) 1) fun s117 =>
 lb1 (ldI .i64 w112 (p39.add 2)) fun v119 =>
 lb1 (stV w112 (p39.add 2) (.int .i64 (IntKind.wrap .i64 (v119 + 1)))) fun w121 =>
 nret (.inl (s117,3,w121))))
 else
 (nret (.inr (.inl w83)))
noncomputable def evlog_Log_Append (a0 : Option Addr) (a1 : Int) (a2 : Sl) (w : World) : ND (Int×World) :=
 lb2 (evlog_Log_bad a0 w) fun v1 w2 =>
 if (v1 != 0) = true then
 (nret (v1,w2))
 else
 (if (decide (400 < (a2.n : Int))) = true then
 (nret (6,w2))
 else
 (cb2 (lb1 (a0) fun p10 =>
 lb1 (ldI .i64 w2 (p10.add 5)) fun v12 =>
 if (decide (a1≤v12)) = true then
 (nret (true,w2))
 else
 (nret ((decide (1099511627776 < a1)),w2))) fun v6 w7 =>
 if v6 = true then
 (nret (14,w7))
 else
 (lb2 (octet_Key a1 w7) fun v16 w17 =>
 lb2 (apS Try.prog 72 v16 a2 w17) fun s19 w20 =>
 lb1 (dvI .i64 (IntKind.wrap .i64 ((IntKind.wrap .i64 ((s19.n : Int) + 59)) - 1)) 59) fun v22 =>
 lb1 (a0) fun p24 =>
 lb1 (ldL w20 (p24.add 7)) fun v26 =>
 cb2 (if (decide ((IntKind.wrap .i64 ((v26.n : Int) - 1)) < 0)) = true then
 (nret (true,w20))
 else
 (lb1 (ldL w20 (p24.add 7)) fun v33 =>
 lb1 (ix v33 (IntKind.wrap .i64 ((v26.n : Int) - 1)) 5) fun p35 =>
 lb1 (ldI .i64 w20 (p35.add 2)) fun v37 =>
 nret ((decide (16 < (IntKind.wrap .i64 (v37 + v22)))),w20))) fun v28 w29 =>
 lb2 (mk w29 125 (List.replicate 4 (.int .i64 0) ++ [.slice none 0 0])) fun p39 w40 =>
 cbX (if v28 = true then
 (lb3 (evlog_Log_fresh a0 w40) fun v49 v50 w51 =>
 lb2 (mk w51 125 (List.replicate 4 (.int .i64 0) ++ [.slice none 0 0])) fun p53 w54 =>
 lb1 (stA w54 p53 0 v49) fun w57 =>
 nck ((v49).length = 5) <|
 if (v50 != 0) = true then
 (cb1 (nret (v50,w57)) fun g47=>nret (.inl g47))
 else
 (lb1 (ldA 5 w57 p53 0) fun c61 =>
 lb1 (stA w57 p39 0 c61) fun w63 =>
 nret (.inr w63)))
 else
 (lb1 (ldL w40 (p24.add 7)) fun v65 =>
 lb1 (ix v65 (IntKind.wrap .i64 ((v26.n : Int) - 1)) 5) fun p67 =>
 lb1 (ldA 5 w40 p67 0) fun c69 =>
 lb1 (stA w40 p39 0 c69) fun w71 =>
 nret (.inr w71))) fun (i : World)=>u1 i fun w42 =>
 lb2 (slices_Clone_byte_byte a2 w42) fun v73 w74 =>
 lb2 (mk w74 87 ([.int .i64 0,.slice none 0 0])) fun p76 w77 =>
 lb1 (stA w77 p76 0 ([.int .i64 a1,Sl.v v73])) fun w79 =>
 cb1 (nloop (fun s : Sl×Int×World=>evlog_Log_Append_l1 a0 p39 s.1 s.2.1 s.2.2) (s19,2,w79)) fun r84=>Sum.elim (fun (i : World)=>u1 i fun w86 =>
 cb1 (lb1 (dr w86) fun w126 =>
 lb1 (ldL w126 (p39.add 4)) fun v128 =>
 lb1 (ldA 2 w126 p76 0) fun c130 =>
 nand (lb2 (slices_Clone_api_Rec_api_Rec v128 w126) fun v132 w133 =>
 lb2 (bsl w133 87 2 [c130]) fun s135 w136 =>
 lb2 (apS Try.prog 74 v132 s135 w136) fun s138 w139 =>
 lb1 (stV w139 (p39.add 4) (Sl.v s138)) fun w141 =>
 nck (ldA 2 w133 p76 0 = some c130) <|
 nret w141) (lb2 (bsl w126 87 2 [c130]) fun s144 w145 =>
 lb2 (slices_Clone_api_Rec_api_Rec v128 w145) fun v147 w148 =>
 lb2 (apS Try.prog 74 v147 s144 w148) fun s150 w151 =>
 lb1 (stV w151 (p39.add 4) (Sl.v s150)) fun w153 =>
 nck (ldL w145 (p39.add 4) = some v128) <|
 nret w153)) fun w123 =>
 lb1 (stV w123 (p39.add 3) (.int .i64 a1)) fun w156 =>
 lb1 (stV w156 (p24.add 5) (.int .i64 a1)) fun w158 =>
 cb1 (if v28 = true then
 (lb1 (dr w158) fun w164 =>
 lb1 (ldL w164 (p24.add 7)) fun v166 =>
 lb1 (ldA 5 w164 p39 0) fun c168 =>
 lb2 (bsl w164 125 5 [c168]) fun s170 w171 =>
 lb2 (apS Try.prog 117 v166 s170 w171) fun s173 w174 =>
 lb1 (stV w174 (p24.add 7) (Sl.v s173)) fun w176 =>
 nck (ldL w171 (p24.add 7) = some v166) <|
 nret w176)
 else
 (lb1 (dr w158) fun w179 =>
 lb1 (ldL w179 (p24.add 7)) fun v181 =>
 lb1 (ldA 5 w179 p39 0) fun c183 =>
 lb1 (ix v181 (IntKind.wrap .i64 ((v26.n : Int) - 1)) 5) fun p185 =>
 lb1 (stA w179 p185 0 c183) fun w187 =>
 nret w187)) fun w160 =>
 nret (0,w160)) (fun (i : Int×World)=>u2 i fun v87 w88 =>
 nret (v87,w88)) r84)))
set_option maxHeartbeats 1000000 in
set_option maxRecDepth 100000 in
theorem evlog_Log_Append_ok {a0 : Option Addr} {a1 : Int} {a2 : Sl} {w : World} {Q : Int×World→Prop} (h : (evlog_Log_Append a0 a1 a2 w).t Q) : Calls Try.prog 42 #[(.pointer a0),(.int .i64 a1),(Sl.v a2)] w fun e w''=>∃ i,e = .returned (.int .i64 i.1)∧Q i∧w'' = i.2:=by
 refine calls_dec (n:=158) Try.func42 rfl Try.ntmps42 (by simp) fun a ha=>?_
 unfold evlog_Log_Append at h
 refine wp_seq<|region_lit<|qa ha rfl fun a ha=>s_nil<|t_n<|wp_seq<|wp_seq<|region_lit<|qm ha rfl fun a ha=>?_
 obtain ⟨v1,w2,e3,h⟩:=h
 refine q ha (d_call (xs:=[_]) (vs:=[(.pointer a0)]) ha ⟨rfl,trivial⟩ Try.call80 (evlog_Log_bad_ok e3)) fun a ha=>qa ha rfl fun a ha=>s_nil<|t_n<|wp_seq<|region_lit<|qm ha rfl fun a ha=>q ha (d_ne ha rfl rfl) fun a ha=>s_nil<|t_n<|?_
 refine s_condN ha rfl h (fun b4 h=>?_) (fun b4 h=>?_)
 ·refine wp_seq<|region_lit<|qm ha rfl fun a ha=>qa ha rfl fun a ha=>s_nil<|t_n<|wp_ret<|t_r<|?_
  have hS:=ha
  exact ret1 Try.results42 hS rfl ⟨(v1,w2),rfl,h,rfl⟩
 ·refine wp_skip<|t_n<|wp_seq<|wp_block<|wp_seq<|region_lit<|qm ha rfl fun a ha=>q ha (d_lenS ha rfl Try.runUnderlying72) fun a ha=>q ha (d_gt ha rfl rfl) fun a ha=>qa ha rfl fun a ha=>s_nil<|t_n<|?_
  refine s_condN ha rfl h (fun b5 h=>?_) (fun b5 h=>?_)
  ·refine wp_seq<|region_lit<|qa ha rfl fun a ha=>s_nil<|t_n<|wp_ret<|b_r<|t_r<|?_
   have hS:=ha
   exact ret1 Try.results42 hS rfl ⟨(6,w2),rfl,h,rfl⟩
  ·refine wp_seq<|?_
   refine reg_joinN (n:=158) (ι:=Bool×World) (Lf:=fun i=>[(28,(.bool i.1)),(0,(.pointer a0)),(1,(.int .i64 a1)),(2,(Sl.v a2))]) (wf:=fun i=>i.2) (un2 h) (fun i h a ha=>?_) (fun h hk9=>?_)
   ·obtain ⟨v6,w7⟩:=i
    have ha : Has 158 [(28,(.bool v6)),(0,(.pointer a0)),(1,(.int .i64 a1)),(2,(Sl.v a2))] a:=ha
    refine t_n<|?_
    refine s_condN ha rfl h (fun b15 h=>?_) (fun b15 h=>?_)
    ·refine wp_seq<|region_lit<|qa ha rfl fun a ha=>s_nil<|t_n<|wp_ret<|b_r<|t_r<|?_
     have hS:=ha
     exact ret1 Try.results42 hS rfl ⟨(14,w7),rfl,h,rfl⟩
    ·refine wp_skip<|b_n<|t_n<|wp_seq<|region_lit<|qm ha rfl fun a ha=>?_
     obtain ⟨v16,w17,e18,h⟩:=h
     refine q ha (d_call (xs:=[_]) (vs:=[(.int .i64 a1)]) ha ⟨rfl,trivial⟩ Try.call81 (octet_Key_ok e18)) fun a ha=>qm ha rfl fun a ha=>?_
     obtain ⟨s19,w20,e21,h⟩:=h
     refine q ha (d_apS ha rfl rfl e21) fun a ha=>qa ha rfl fun a ha=>s_nil<|t_n<|wp_seq<|region_lit<|qm ha rfl fun a ha=>q ha (d_lenS ha rfl Try.runUnderlying72) fun a ha=>q ha (d_add ha rfl rfl) fun a ha=>q ha (d_sub ha rfl rfl) fun a ha=>?_
     obtain ⟨v22,e23,h⟩:=h
     refine q ha (d_quo ha rfl rfl e23) fun a ha=>qa ha rfl fun a ha=>s_nil<|t_n<|wp_seq<|region_lit<|qm ha rfl fun a ha=>?_
     obtain ⟨p24,e25,h⟩:=h
     refine q ha (d_nilp ha rfl e25) fun a ha=>q ha (d_fa ha rfl Try.runUnderlying119 rfl rfl Try.sizeOf117 (by decide)) fun a ha=>?_
     obtain ⟨v26,e27,h⟩:=h
     refine q ha (d_ld ha rfl Try.isAgg117 (ldL_c e27)) fun a ha=>q ha (d_lenS ha rfl Try.runUnderlying117) fun a ha=>q ha (d_sub ha rfl rfl) fun a ha=>qa ha rfl fun a ha=>s_nil<|t_n<|wp_seq<|?_
     refine reg_joinN (n:=158) (ι:=Bool×World) (Lf:=fun i=>[(11,(.bool i.1)),(0,(.pointer a0)),(1,(.int .i64 a1)),(2,(Sl.v a2)),(8,(Sl.v s19)),(10,(.int .i64 (IntKind.wrap .i64 ((v26.n : Int) - 1))))]) (wf:=fun i=>i.2) (un2 h) (fun i h a ha=>?_) (fun h hk31=>?_)
     ·obtain ⟨v28,w29⟩:=i
      have ha : Has 158 [(11,(.bool v28)),(0,(.pointer a0)),(1,(.int .i64 a1)),(2,(Sl.v a2)),(8,(Sl.v s19)),(10,(.int .i64 (IntKind.wrap .i64 ((v26.n : Int) - 1))))] a:=ha
      refine t_n<|wp_seq<|region_lit<|?_
      obtain ⟨p39,w40,e41,h⟩:=h
      refine q ha (d_alloc Try.zeroValue125 (by kernel_rfl) e41) fun a ha=>s_nil<|t_n<|?_
      refine seq_joinNX (n:=158) (ι:=World) (Lf:=fun i=>[(0,(.pointer a0)),(1,(.int .i64 a1)),(2,(Sl.v a2)),(8,(Sl.v s19)),(10,(.int .i64 (IntKind.wrap .i64 ((v26.n : Int) - 1)))),(11,(.bool v28)),(12,(.pointer (some p39)))]) (wf:=fun i=>i) (unX h) (fun i h a ha=>?_) (fun h hk46=>?_)
      ·obtain ⟨w42,rfl⟩ : ∃ x,x = i:=⟨i,rfl⟩
       try dsimp only [Sum.elim_inl,Sum.elim_inr,u1,u2,u3,u4,u5,u6] at h
       have ha : Has 158 [(0,(.pointer a0)),(1,(.int .i64 a1)),(2,(Sl.v a2)),(8,(Sl.v s19)),(10,(.int .i64 (IntKind.wrap .i64 ((v26.n : Int) - 1)))),(11,(.bool v28)),(12,(.pointer (some p39)))] a:=ha
       refine wp_seq<|region_lit<|qm ha rfl fun a ha=>qm ha rfl fun a ha=>?_
       obtain ⟨v73,w74,e75,h⟩:=h
       refine q ha (d_call (xs:=[_]) (vs:=[(Sl.v a2)]) ha ⟨rfl,trivial⟩ Try.call83 (slices_Clone_byte_byte_ok e75)) fun a ha=>q ha (d_build (vs:=[(0,(.int .i64 a1)),(1,(Sl.v v73))]) (pl:=#[(0,1),(1,1)]) (cs:=([.int .i64 a1,Sl.v v73])) ha ⟨rfl,rfl,rfl,rfl,trivial⟩ Try.zeroValue87 Try.runUnderlying87 (by intro w; kernel_rfl) (by kernel_rfl)) fun a ha=>?_
       obtain ⟨p76,w77,e78,h⟩:=h
       refine q ha (d_alloc Try.zeroValue87 (by kernel_rfl) e78) fun a ha=>?_
       obtain ⟨w79,e80,h⟩:=h
       refine q ha (d_stA ha rfl rfl Try.sizeOf87 rfl e80) fun a ha=>s_nil<|t_n<|wp_seq<|wp_seq<|region_lit<|qa ha rfl fun a ha=>s_nil<|t_n<|wp_block<|?_
       refine s_loopN2 (n:=158) (L1:=fun i=>[(0,(.pointer a0)),(1,(.int .i64 a1)),(10,(.int .i64 (IntKind.wrap .i64 ((v26.n : Int) - 1)))),(11,(.bool v28)),(12,(.pointer (some p39))),(15,(.pointer (some p76)))]) (w1:=fun i=>i) (L2:=fun i=>[(6,(.int .i64 i.1))]) (w2:=fun i=>i.2) (e1:=.exit 1) (e2:=.ret) (I:=fun (s : Sl×Int×World) a w=>Has 158 [(8,(Sl.v s.1)),(16,(.int .i64 s.2.1)),(0,(.pointer a0)),(1,(.int .i64 a1)),(10,(.int .i64 (IntKind.wrap .i64 ((v26.n : Int) - 1)))),(11,(.bool v28)),(12,(.pointer (some p39))),(15,(.pointer (some p76)))] a∧w = s.2.2) (un1 h) ⟨ha.sub ⟨rfl,rfl,rfl,rfl,rfl,rfl,rfl,rfl,trivial⟩,rfl⟩ (fun i h a ha=>?_) (fun i h a ha=>?_) (fun hk89 hk90=>?_)
       ·obtain ⟨w86,rfl⟩ : ∃ x,x = i:=⟨i,rfl⟩
        try dsimp only [Sum.elim_inl,Sum.elim_inr,u1,u2,u3,u4,u5,u6] at h
        have ha : Has 158 [(0,(.pointer a0)),(1,(.int .i64 a1)),(10,(.int .i64 (IntKind.wrap .i64 ((v26.n : Int) - 1)))),(11,(.bool v28)),(12,(.pointer (some p39))),(15,(.pointer (some p76)))] a:=ha
        refine b_hit<|t_n<|wp_seq<|?_
        refine reg_joinN (n:=158) (ι:=World) (Lf:=fun i=>[(0,(.pointer a0)),(1,(.int .i64 a1)),(10,(.int .i64 (IntKind.wrap .i64 ((v26.n : Int) - 1)))),(11,(.bool v28)),(12,(.pointer (some p39)))]) (wf:=fun i=>i) (un1 h) (fun i h a ha=>?_) (fun h hk125=>?_)
        ·obtain ⟨w123,rfl⟩ : ∃ x,x = i:=⟨i,rfl⟩
         have ha : Has 158 [(0,(.pointer a0)),(1,(.int .i64 a1)),(10,(.int .i64 (IntKind.wrap .i64 ((v26.n : Int) - 1)))),(11,(.bool v28)),(12,(.pointer (some p39)))] a:=ha
         refine t_n<|wp_seq<|region_lit<|qm ha rfl fun a ha=>qm ha rfl fun a ha=>qm ha rfl fun a ha=>q ha (d_fa ha rfl Try.runUnderlying125 rfl rfl Try.sizeOf3 (by decide)) fun a ha=>?_
         obtain ⟨w156,e157,h⟩:=h
         refine q ha (d_st ha rfl rfl Try.sizeOf3 e157) fun a ha=>q ha (d_nilp ha rfl e25) fun a ha=>q ha (d_fa ha rfl Try.runUnderlying119 rfl rfl Try.sizeOf3 (by decide)) fun a ha=>?_
         obtain ⟨w158,e159,h⟩:=h
         refine q ha (d_st ha rfl rfl Try.sizeOf3 e159) fun a ha=>s_nil<|t_n<|?_
         refine seq_joinN (n:=158) (ι:=World) (Lf:=fun i=>[]) (wf:=fun i=>i) (un1 h) (fun i h a ha=>?_) (fun h hk162=>?_)
         ·obtain ⟨w160,rfl⟩ : ∃ x,x = i:=⟨i,rfl⟩
          have ha : Has 158 [] a:=ha
          refine wp_seq<|region_lit<|qa ha rfl fun a ha=>s_nil<|t_n<|wp_ret<|?_
          have hS:=ha
          exact ret1 Try.results42 hS rfl ⟨(0,w160),rfl,h,rfl⟩
         ·refine wp_seq<|region_lit<|qm ha rfl fun a ha=>s_nil<|t_n<|?_
          refine s_condN ha rfl h (fun b163 h=>?_) (fun b163 h=>?_)
          ·obtain ⟨w164,e165,h⟩:=h
           obtain ⟨v166,e167,h⟩:=h
           obtain ⟨c168,e169,h⟩:=h
           obtain ⟨s170,w171,e172,h⟩:=h
           obtain ⟨s173,w174,e175,h⟩:=h
           obtain ⟨w176,e177,h⟩:=h
           obtain ⟨e178,h⟩:=h
           have ha : Has 158 [(0,(.pointer a0)),(10,(.int .i64 (IntKind.wrap .i64 ((v26.n : Int) - 1)))),(12,(.pointer (some p39))),(140,(.bool v28))] a:=ha.sub ⟨rfl,rfl,rfl,rfl,trivial⟩
           refine region_draw (n:=158) (ds:=(⟨_,(.pointer a0),false,0,2,[],[(0,(.pointer a0))]⟩ :: ⟨_,(.pointer a0),false,0,1,[],[(0,(.pointer a0))]⟩ :: ⟨_,(.pointer (some p24)),false,0,1,[1],[(142,(.pointer a0))]⟩ :: ⟨_,(.pointer (some (p24.add 7))),false,0,1,[1,2],[(143,(.pointer (some p24)))]⟩ :: ⟨_,(Sl.v v166),false,0,1,[1,2,3],[(144,(.pointer (some (p24.add 7))))]⟩ :: ⟨_,(.agg (List.toArray c168)),false,0,0,[],[(12,(.pointer (some p39)))]⟩ :: ⟨_,(Sl.v s170),true,0,0,[5],[(146,(.agg (List.toArray c168)))]⟩ :: ⟨_,(Sl.v s173),true,1,1,(rn 1 6),[(145,(Sl.v v166)),(147,(Sl.v s170))]⟩ :: ⟨_,(.pointer (some p24)),false,2,2,(rn 0 8),[(141,(.pointer a0))]⟩ :: ⟨_,(.pointer (some (p24.add 7))),false,2,2,(rn 0 9),[(149,(.pointer (some p24)))]⟩ :: ⟨_,undef,true,2,2,(rn 0 10),[(150,(.pointer (some (p24.add 7)))),(148,(Sl.v s173))]⟩ :: [])) (W:=(fun j=>match j with | 0=>w164 | 1=>w171 | 2=>w174 | 3=>w176 | _=>w176)) (by kernel_rfl) ha (dr_w e165) (by kernel_rfl) ?_ (reads_of (by kernel_rfl)) (by kernel_rfl) (m:=3) (by kernel_rfl) (fun a ha=>?_)
           ·refine ⟨?_,?_,?_,?_,?_,?_,?_,?_,?_,?_,?_,trivial⟩
            ·exact oa fun j a ha=>d_move ha rfl
            ·exact oa fun j a ha=>d_move ha rfl
            ·exact oa fun j a ha=>d_nilp ha rfl e25
            ·exact oa fun j a ha=>d_fa ha rfl Try.runUnderlying119 rfl rfl Try.sizeOf117 (by decide)
            ·intro j h1 h2; have h1 : 0≤j:=h1; have h2 : j≤1:=h2; rcases (by omega : j = 0∨j = 1) with rfl | rfl
             ·exact ok_do rfl fun a ha=>d_ld ha rfl Try.isAgg117 (ldL_c e167)
             ·exact ok_do rfl fun a ha=>d_ld ha rfl Try.isAgg117 (ldL_c e178)
            ·exact oc 0 (ok_do rfl fun a ha=>d_ldA ha rfl Try.isAgg125 Try.sizeOf125 e169)
            ·exact oc 0 (ok_do rfl fun a ha=>d_bsl (vs:=[(0,(.agg (List.toArray c168)))]) (ps:=[c168]) ha ⟨rfl,rfl,trivial⟩ ⟨rfl,rfl,trivial⟩ rfl Try.runUnderlying117 Try.sizeOf125 Try.zeroValue125 (by decide) e172)
            ·exact oc 1 (ok_do rfl fun a ha=>d_apS ha rfl rfl e175)
            ·exact oa fun j a ha=>d_nilp ha rfl e25
            ·exact oa fun j a ha=>d_fa ha rfl Try.runUnderlying119 rfl rfl Try.sizeOf117 (by decide)
            ·exact oc 2 (ok_do rfl fun a ha=>d_st ha rfl rfl Try.sizeOf117 e177)
           ·have ha : Has 158 [] a:=ha.sub trivial
            have hS : Has 158 [] _:=ha.sub trivial
            exact hk162 w176 h _ hS
          ·obtain ⟨w179,e180,h⟩:=h
           obtain ⟨v181,e182,h⟩:=h
           obtain ⟨c183,e184,h⟩:=h
           obtain ⟨p185,e186,h⟩:=h
           obtain ⟨w187,e188,h⟩:=h
           have ha : Has 158 [(0,(.pointer a0)),(10,(.int .i64 (IntKind.wrap .i64 ((v26.n : Int) - 1)))),(12,(.pointer (some p39))),(140,(.bool v28))] a:=ha.sub ⟨rfl,rfl,rfl,rfl,trivial⟩
           refine region_draw (n:=158) (ds:=(⟨_,(.pointer a0),false,0,0,[],[(0,(.pointer a0))]⟩ :: ⟨_,(.pointer (some p24)),false,0,0,[0],[(151,(.pointer a0))]⟩ :: ⟨_,(.pointer (some (p24.add 7))),false,0,0,[0,1],[(152,(.pointer (some p24)))]⟩ :: ⟨_,(Sl.v v181),false,0,0,[0,1,2],[(153,(.pointer (some (p24.add 7))))]⟩ :: ⟨_,(.int .i64 (IntKind.wrap .i64 ((v26.n : Int) - 1))),false,0,0,[],[(10,(.int .i64 (IntKind.wrap .i64 ((v26.n : Int) - 1))))]⟩ :: ⟨_,(.agg (List.toArray c183)),false,0,0,[],[(12,(.pointer (some p39)))]⟩ :: ⟨_,(.pointer (some p185)),false,0,0,(rn 0 6),[(154,(Sl.v v181)),(155,(.int .i64 (IntKind.wrap .i64 ((v26.n : Int) - 1))))]⟩ :: ⟨_,undef,true,0,0,(rn 0 7),[(157,(.pointer (some p185))),(156,(.agg (List.toArray c183)))]⟩ :: [])) (W:=(fun j=>match j with | 0=>w179 | 1=>w187 | _=>w187)) (by kernel_rfl) ha (dr_w e180) (by kernel_rfl) ?_ (reads_of (by kernel_rfl)) (by kernel_rfl) (m:=1) (by kernel_rfl) (fun a ha=>?_)
           ·refine ⟨?_,?_,?_,?_,?_,?_,?_,?_,trivial⟩
            ·exact oa fun j a ha=>d_move ha rfl
            ·exact oa fun j a ha=>d_nilp ha rfl e25
            ·exact oa fun j a ha=>d_fa ha rfl Try.runUnderlying119 rfl rfl Try.sizeOf117 (by decide)
            ·exact oc 0 (ok_do rfl fun a ha=>d_ld ha rfl Try.isAgg117 (ldL_c e182))
            ·exact oa fun j a ha=>d_move ha rfl
            ·exact oc 0 (ok_do rfl fun a ha=>d_ldA ha rfl Try.isAgg125 Try.sizeOf125 e184)
            ·exact oa fun j a ha=>d_ix ha rfl rfl Try.runUnderlying117 Try.sizeOf125 e186
            ·exact oc 0 (ok_do rfl fun a ha=>d_stA ha rfl rfl Try.sizeOf125 ((ldA_c e184).1) e188)
           ·have ha : Has 158 [] a:=ha.sub trivial
            have hS : Has 158 [] _:=ha.sub trivial
            exact hk162 w187 h _ hS
        ·obtain ⟨w126,e127,h⟩:=h
         obtain ⟨v128,e129,h⟩:=h
         obtain ⟨c130,e131,h⟩:=h
         obtain ⟨h,hB⟩:=h
         obtain ⟨v132,w133,e134,h⟩:=h
         obtain ⟨s135,w136,e137,h⟩:=h
         obtain ⟨s138,w139,e140,h⟩:=h
         obtain ⟨w141,e142,h⟩:=h
         obtain ⟨e143,h⟩:=h
         have hA:=h
         have h:=hB
         obtain ⟨s144,w145,e146,h⟩:=h
         obtain ⟨v147,w148,e149,h⟩:=h
         obtain ⟨s150,w151,e152,h⟩:=h
         obtain ⟨w153,e154,h⟩:=h
         obtain ⟨e155,h⟩:=h
         have hB:=h
         have ha : Has 158 [(0,(.pointer a0)),(1,(.int .i64 a1)),(10,(.int .i64 (IntKind.wrap .i64 ((v26.n : Int) - 1)))),(11,(.bool v28)),(12,(.pointer (some p39))),(15,(.pointer (some p76)))] a:=ha.sub ⟨rfl,rfl,rfl,rfl,rfl,rfl,trivial⟩
         refine region_two (n:=158) (i:=2) (j:=4) (Dp:=[2,4,5,6,7]) (ds1:=(⟨_,(.pointer (some (p39.add 4))),false,0,0,[],[(12,(.pointer (some p39)))]⟩ :: ⟨_,(Sl.v v128),false,0,0,[0],[(127,(.pointer (some (p39.add 4))))]⟩ :: ⟨_,(Sl.v v132),true,0,0,[0,1],[(128,(Sl.v v128))]⟩ :: ⟨_,(.agg (List.toArray c130)),false,0,1,[],[(15,(.pointer (some p76)))]⟩ :: ⟨_,(Sl.v s135),true,1,1,(rn 0 4),[(130,(.agg (List.toArray c130)))]⟩ :: ⟨_,(Sl.v s138),true,2,2,(rn 0 5),[(129,(Sl.v v132)),(131,(Sl.v s135))]⟩ :: ⟨_,(.pointer (some (p39.add 4))),false,3,3,(rn 0 6),[(12,(.pointer (some p39)))]⟩ :: ⟨_,undef,true,3,3,(rn 0 7),[(133,(.pointer (some (p39.add 4)))),(132,(Sl.v s138))]⟩ :: [])) (ds2:=(⟨_,(.pointer (some (p39.add 4))),false,0,1,[],[(12,(.pointer (some p39)))]⟩ :: ⟨_,(Sl.v v128),false,0,1,[0],[(127,(.pointer (some (p39.add 4))))]⟩ :: ⟨_,(Sl.v v147),true,1,1,[0,1,3,4],[(128,(Sl.v v128))]⟩ :: ⟨_,(.agg (List.toArray c130)),false,0,0,[],[(15,(.pointer (some p76)))]⟩ :: ⟨_,(Sl.v s144),true,0,0,[3],[(130,(.agg (List.toArray c130)))]⟩ :: ⟨_,(Sl.v s150),true,2,2,(rn 0 5),[(129,(Sl.v v147)),(131,(Sl.v s144))]⟩ :: ⟨_,(.pointer (some (p39.add 4))),false,3,3,(rn 0 6),[(12,(.pointer (some p39)))]⟩ :: ⟨_,undef,true,3,3,(rn 0 7),[(133,(.pointer (some (p39.add 4)))),(132,(Sl.v s150))]⟩ :: [])) (W1:=(fun j=>match j with | 0=>w126 | 1=>w133 | 2=>w136 | 3=>w139 | 4=>w141 | _=>w141)) (W2:=(fun j=>match j with | 0=>w126 | 1=>w145 | 2=>w148 | 3=>w151 | 4=>w153 | _=>w153)) (m1:=4) (m2:=4) (by kernel_rfl) ha (dr_w e127) (dr_w e127) rfl (by kernel_rfl) (by kernel_rfl) rfl rfl (by decide) (reads_of (by kernel_rfl)) (reads_of (by kernel_rfl)) ?_ ?_ (by kernel_rfl) (by kernel_rfl) (fun a ha=>?_) (fun a ha=>?_)
         ·refine ⟨?_,?_,?_,?_,?_,?_,?_,?_,trivial⟩
          ·exact oa fun j a ha=>d_fa ha rfl Try.runUnderlying125 rfl rfl Try.sizeOf74 (by decide)
          ·exact oc 0 (ok_do rfl fun a ha=>d_ld ha rfl Try.isAgg74 (ldL_c e129))
          ·exact oc 0 (ok_do rfl fun a ha=>d_call (xs:=[_]) (vs:=[(Sl.v v128)]) ha ⟨rfl,trivial⟩ Try.call87 (slices_Clone_api_Rec_api_Rec_ok e134))
          ·intro j h1 h2; have h1 : 0≤j:=h1; have h2 : j≤1:=h2; rcases (by omega : j = 0∨j = 1) with rfl | rfl
           ·exact ok_do rfl fun a ha=>d_ldA ha rfl Try.isAgg87 Try.sizeOf87 e131
           ·exact ok_do rfl fun a ha=>d_ldA ha rfl Try.isAgg87 Try.sizeOf87 e143
          ·exact oc 1 (ok_do rfl fun a ha=>d_bsl (vs:=[(0,(.agg (List.toArray c130)))]) (ps:=[c130]) ha ⟨rfl,rfl,trivial⟩ ⟨rfl,rfl,trivial⟩ rfl Try.runUnderlying74 Try.sizeOf87 Try.zeroValue87 (by decide) e137)
          ·exact oc 2 (ok_do rfl fun a ha=>d_apS ha rfl rfl e140)
          ·exact oa fun j a ha=>d_fa ha rfl Try.runUnderlying125 rfl rfl Try.sizeOf74 (by decide)
          ·exact oc 3 (ok_do rfl fun a ha=>d_st ha rfl rfl Try.sizeOf74 e142)
         ·refine ⟨?_,?_,?_,?_,?_,?_,?_,?_,trivial⟩
          ·exact oa fun j a ha=>d_fa ha rfl Try.runUnderlying125 rfl rfl Try.sizeOf74 (by decide)
          ·intro j h1 h2; have h1 : 0≤j:=h1; have h2 : j≤1:=h2; rcases (by omega : j = 0∨j = 1) with rfl | rfl
           ·exact ok_do rfl fun a ha=>d_ld ha rfl Try.isAgg74 (ldL_c e129)
           ·exact ok_do rfl fun a ha=>d_ld ha rfl Try.isAgg74 (ldL_c e155)
          ·exact oc 1 (ok_do rfl fun a ha=>d_call (xs:=[_]) (vs:=[(Sl.v v128)]) ha ⟨rfl,trivial⟩ Try.call87 (slices_Clone_api_Rec_api_Rec_ok e149))
          ·exact oc 0 (ok_do rfl fun a ha=>d_ldA ha rfl Try.isAgg87 Try.sizeOf87 e131)
          ·exact oc 0 (ok_do rfl fun a ha=>d_bsl (vs:=[(0,(.agg (List.toArray c130)))]) (ps:=[c130]) ha ⟨rfl,rfl,trivial⟩ ⟨rfl,rfl,trivial⟩ rfl Try.runUnderlying74 Try.sizeOf87 Try.zeroValue87 (by decide) e146)
          ·exact oc 2 (ok_do rfl fun a ha=>d_apS ha rfl rfl e152)
          ·exact oa fun j a ha=>d_fa ha rfl Try.runUnderlying125 rfl rfl Try.sizeOf74 (by decide)
          ·exact oc 3 (ok_do rfl fun a ha=>d_st ha rfl rfl Try.sizeOf74 e154)
         ·have h:=hA
          have ha : Has 158 [(0,(.pointer a0)),(1,(.int .i64 a1)),(10,(.int .i64 (IntKind.wrap .i64 ((v26.n : Int) - 1)))),(11,(.bool v28)),(12,(.pointer (some p39)))] a:=ha.sub ⟨rfl,rfl,rfl,rfl,rfl,trivial⟩
          have hS : Has 158 [(0,(.pointer a0)),(1,(.int .i64 a1)),(10,(.int .i64 (IntKind.wrap .i64 ((v26.n : Int) - 1)))),(11,(.bool v28)),(12,(.pointer (some p39)))] _:=ha.sub ⟨rfl,rfl,rfl,rfl,rfl,trivial⟩
          exact hk125 w141 h _ hS
         ·have h:=hB
          have ha : Has 158 [(0,(.pointer a0)),(1,(.int .i64 a1)),(10,(.int .i64 (IntKind.wrap .i64 ((v26.n : Int) - 1)))),(11,(.bool v28)),(12,(.pointer (some p39)))] a:=ha.sub ⟨rfl,rfl,rfl,rfl,rfl,trivial⟩
          have hS : Has 158 [(0,(.pointer a0)),(1,(.int .i64 a1)),(10,(.int .i64 (IntKind.wrap .i64 ((v26.n : Int) - 1)))),(11,(.bool v28)),(12,(.pointer (some p39)))] _:=ha.sub ⟨rfl,rfl,rfl,rfl,rfl,trivial⟩
          exact hk125 w153 h _ hS
       ·obtain ⟨v87,w88⟩:=i
        try dsimp only [Sum.elim_inl,Sum.elim_inr,u1,u2,u3,u4,u5,u6] at h
        have ha : Has 158 [(6,(.int .i64 v87))] a:=ha
        refine b_r<|t_r<|?_
        have hS:=ha
        exact ret1 Try.results42 hS rfl ⟨(v87,w88),rfl,h,rfl⟩
       ·clear h
        intro hX189
        rintro ⟨x81,x82,w83⟩ a wq ⟨ha,hwq⟩ h
        obtain rfl : w83 = wq:=hwq.symm
        have ha : Has 158 [(8,(Sl.v x81)),(16,(.int .i64 x82)),(0,(.pointer a0)),(1,(.int .i64 a1)),(10,(.int .i64 (IntKind.wrap .i64 ((v26.n : Int) - 1)))),(11,(.bool v28)),(12,(.pointer (some p39))),(15,(.pointer (some p76)))] a:=ha
        have h : (evlog_Log_Append_l1 a0 p39 x81 x82 w83).t _:=h
        unfold evlog_Log_Append_l1 at h
        refine wp_seq<|wp_seq<|region_lit<|qm ha rfl fun a ha=>q ha (d_lenS ha rfl Try.runUnderlying72) fun a ha=>q ha (d_gt ha rfl rfl) fun a ha=>s_nil<|t_n<|?_
        refine s_condN ha rfl h (fun b92 h=>?_) (fun b92 h=>?_)
        ·refine wp_skip<|t_n<|wp_seq<|wp_block<|wp_seq<|region_lit<|qm ha rfl fun a ha=>q ha (d_lenS ha rfl Try.runUnderlying72) fun a ha=>q ha (d_min ha rfl rfl) fun a ha=>qa ha rfl fun a ha=>s_nil<|t_n<|wp_seq<|wp_seq<|?_
         obtain ⟨w93,e94,h⟩:=h
         obtain ⟨p95,e96,h⟩:=h
         obtain ⟨v97,e98,h⟩:=h
         obtain ⟨v99,e100,h⟩:=h
         obtain ⟨v101,e102,h⟩:=h
         obtain ⟨v103,w104,e105,h⟩:=h
         obtain ⟨s106,e107,h⟩:=h
         obtain ⟨v108,w109,e110,h⟩:=h
         obtain ⟨v111,w112,e113,h⟩:=h
         obtain ⟨e114,h⟩:=h
         obtain ⟨e115,h⟩:=h
         have ha : Has 158 [(0,(.pointer a0)),(1,(.int .i64 a1)),(8,(Sl.v x81)),(10,(.int .i64 (IntKind.wrap .i64 ((v26.n : Int) - 1)))),(11,(.bool v28)),(12,(.pointer (some p39))),(15,(.pointer (some p76))),(16,(.int .i64 x82)),(17,(.int .i64 (mnI 59 (x81.n : Int))))] a:=ha.sub ⟨rfl,rfl,rfl,rfl,rfl,rfl,rfl,rfl,rfl,trivial⟩
         refine region_draw (n:=158) (ds:=(⟨_,(.pointer a0),false,0,2,[],[(0,(.pointer a0))]⟩ :: ⟨_,(.pointer (some p95)),false,0,2,[0],[(96,(.pointer a0))]⟩ :: ⟨_,(.pointer (some (p95.add 0))),false,0,2,[0,1],[(97,(.pointer (some p95)))]⟩ :: ⟨_,(.pointer v97),false,0,2,[0,1,2],[(98,(.pointer (some (p95.add 0))))]⟩ :: ⟨_,(.pointer a0),false,0,0,[],[(0,(.pointer a0))]⟩ :: ⟨_,(.pointer (some (p39.add 0))),false,0,0,[],[(12,(.pointer (some p39)))]⟩ :: ⟨_,(.int .i64 v99),false,0,0,[5],[(101,(.pointer (some (p39.add 0))))]⟩ :: ⟨_,(.pointer (some (p39.add 2))),false,0,0,[],[(12,(.pointer (some p39)))]⟩ :: ⟨_,(.int .i64 v101),false,0,0,[7],[(103,(.pointer (some (p39.add 2))))]⟩ :: ⟨_,(.int .i64 v103),true,0,0,(rn 4 5),[(100,(.pointer a0)),(102,(.int .i64 v99)),(104,(.int .i64 v101))]⟩ :: ⟨_,(.int .i64 x82),false,0,1,[],[(16,(.int .i64 x82))]⟩ :: ⟨_,(Sl.v x81),false,0,1,[],[(8,(Sl.v x81))]⟩ :: ⟨_,(.int .i64 (mnI 59 (x81.n : Int))),false,0,1,[],[(17,(.int .i64 (mnI 59 (x81.n : Int))))]⟩ :: ⟨_,(.int .i64 (mnI 59 (x81.n : Int))),false,0,1,[],[(17,(.int .i64 (mnI 59 (x81.n : Int))))]⟩ :: ⟨_,(Sl.v s106),false,0,1,[11,12,13],[(107,(Sl.v x81)),(108,(.int .i64 (mnI 59 (x81.n : Int)))),(109,(.int .i64 (mnI 59 (x81.n : Int))))]⟩ :: ⟨_,(.int .i64 (mnI 59 (x81.n : Int))),false,0,1,[],[(17,(.int .i64 (mnI 59 (x81.n : Int))))]⟩ :: ⟨_,(Sl.v x81),false,0,1,[],[(8,(Sl.v x81))]⟩ :: ⟨_,(.int .i64 (x81.n : Int)),false,0,1,[16],[(112,(Sl.v x81))]⟩ :: ⟨_,(.bool ((mnI 59 (x81.n : Int)) == (x81.n : Int))),false,0,1,[15,16,17],[(111,(.int .i64 (mnI 59 (x81.n : Int)))),(113,(.int .i64 (x81.n : Int)))]⟩ :: ⟨_,(Sl.v v108),true,1,1,(rn 4 15),[(106,(.int .i64 x82)),(110,(Sl.v s106)),(114,(.bool ((mnI 59 (x81.n : Int)) == (x81.n : Int))))]⟩ :: ⟨_,(.int .i64 v111),true,2,2,(rn 0 20),[(99,(.pointer v97)),(105,(.int .i64 v103)),(115,(Sl.v v108))]⟩ :: ⟨_,(.int .i64 v111),false,3,3,(rn 0 21),[(116,(.int .i64 v111))]⟩ :: [])) (W:=(fun j=>match j with | 0=>w93 | 1=>w104 | 2=>w109 | 3=>w112 | _=>w112)) (by kernel_rfl) ha (dr_w e94) (by kernel_rfl) ?_ (reads_of (by kernel_rfl)) (by kernel_rfl) (m:=3) (by kernel_rfl) (fun a ha=>?_)
         ·refine ⟨?_,?_,?_,?_,?_,?_,?_,?_,?_,?_,?_,?_,?_,?_,?_,?_,?_,?_,?_,?_,?_,?_,trivial⟩
          ·exact oa fun j a ha=>d_move ha rfl
          ·exact oa fun j a ha=>d_nilp ha rfl e96
          ·exact oa fun j a ha=>d_fa ha rfl Try.runUnderlying119 rfl rfl Try.sizeOf57 (by decide)
          ·intro j h1 h2; have h1 : 0≤j:=h1; have h2 : j≤2:=h2; rcases (by omega : j = 0∨j = 1∨j = 2) with rfl | rfl | rfl
           ·exact ok_do rfl fun a ha=>d_ld ha rfl Try.isAgg57 (ldP_c e98)
           ·exact ok_do rfl fun a ha=>d_ld ha rfl Try.isAgg57 (ldP_c e114)
           ·exact ok_do rfl fun a ha=>d_ld ha rfl Try.isAgg57 (ldP_c e115)
          ·exact oa fun j a ha=>d_move ha rfl
          ·exact oa fun j a ha=>d_fa ha rfl Try.runUnderlying125 rfl rfl Try.sizeOf3 (by decide)
          ·exact oc 0 (ok_do rfl fun a ha=>d_ld ha rfl Try.isAgg3 (ldI_c e100))
          ·exact oa fun j a ha=>d_fa ha rfl Try.runUnderlying125 rfl rfl Try.sizeOf3 (by decide)
          ·exact oc 0 (ok_do rfl fun a ha=>d_ld ha rfl Try.isAgg3 (ldI_c e102))
          ·exact oc 0 (ok_do rfl fun a ha=>d_call (xs:=[_,_,_]) (vs:=[(.pointer a0),(.int .i64 v99),(.int .i64 v101)]) ha ⟨rfl,rfl,rfl,trivial⟩ Try.call85 (evlog_Log_at_ok e105))
          ·exact oa fun j a ha=>d_move ha rfl
          ·exact oa fun j a ha=>d_move ha rfl
          ·exact oa fun j a ha=>d_move ha rfl
          ·exact oa fun j a ha=>d_move ha rfl
          ·exact oa fun j a ha=>d_slS ha rfl Try.runUnderlying72 Try.sizeOf5 rfl ⟨_,rfl⟩ ⟨_,rfl⟩ (fun _=>rfl) e107
          ·exact oa fun j a ha=>d_move ha rfl
          ·exact oa fun j a ha=>d_move ha rfl
          ·exact oa fun j a ha=>d_lenS ha rfl Try.runUnderlying72
          ·exact oa fun j a ha=>d_eq ha rfl rfl
          ·exact oc 1 (ok_do rfl fun a ha=>d_call (xs:=[_,_,_]) (vs:=[(.int .i64 x82),(Sl.v s106),(.bool ((mnI 59 (x81.n : Int)) == (x81.n : Int)))]) ha ⟨rfl,rfl,rfl,trivial⟩ Try.call86 (evlog_laid_ok e110))
          ·exact oc 2 (ok_do rfl fun a ha=>d_call (xs:=[_,_,_]) (vs:=[(.pointer v97),(.int .i64 v103),(Sl.v v108)]) ha ⟨rfl,rfl,rfl,trivial⟩ Try.call84 (sector_Disk_Write_ok e113))
          ·exact oa fun j a ha=>d_assign ha rfl
         ·have ha : Has 158 [(0,(.pointer a0)),(1,(.int .i64 a1)),(8,(Sl.v x81)),(10,(.int .i64 (IntKind.wrap .i64 ((v26.n : Int) - 1)))),(11,(.bool v28)),(12,(.pointer (some p39))),(15,(.pointer (some p76))),(17,(.int .i64 (mnI 59 (x81.n : Int)))),(18,(.int .i64 v111))] a:=ha.sub ⟨rfl,rfl,rfl,rfl,rfl,rfl,rfl,rfl,rfl,trivial⟩
          refine t_n<|wp_seq<|region_lit<|qm ha rfl fun a ha=>q ha (d_ne ha rfl rfl) fun a ha=>s_nil<|t_n<|?_
          refine s_condN ha rfl h (fun b116 h=>?_) (fun b116 h=>?_)
          ·refine wp_seq<|region_lit<|qm ha rfl fun a ha=>qa ha rfl fun a ha=>s_nil<|t_n<|wp_ret<|t_r<|b_r<|t_r<|?_
           have hS : Has 158 [(6,(.int .i64 v111))] _:=ha.sub ⟨rfl,trivial⟩
           refine t_r<|?_
           exact hk90 (v111,w112) h _ hS
          ·refine wp_skip<|t_n<|wp_seq<|region_lit<|qm ha rfl fun a ha=>qm ha rfl fun a ha=>?_
           obtain ⟨s117,e118,h⟩:=h
           refine q ha (d_slS ha rfl Try.runUnderlying72 Try.sizeOf5 ⟨_,rfl⟩ rfl rfl (by simp) e118) fun a ha=>qa ha rfl fun a ha=>s_nil<|t_n<|region_lit<|q ha (d_fa ha rfl Try.runUnderlying125 rfl rfl Try.sizeOf3 (by decide)) fun a ha=>?_
           obtain ⟨v119,e120,h⟩:=h
           refine q ha (d_ld ha rfl Try.isAgg3 (ldI_c e120)) fun a ha=>q ha (d_add ha rfl rfl) fun a ha=>q ha (d_fa ha rfl Try.runUnderlying125 rfl rfl Try.sizeOf3 (by decide)) fun a ha=>?_
           obtain ⟨w121,e122,h⟩:=h
           refine q ha (d_st ha rfl rfl Try.sizeOf3 e122) fun a ha=>s_nil<|b_n<|t_n<|region_lit<|qa ha rfl fun a ha=>s_nil<|?_
           have hS : Has 158 [(8,(Sl.v s117)),(16,(.int .i64 3)),(0,(.pointer a0)),(1,(.int .i64 a1)),(10,(.int .i64 (IntKind.wrap .i64 ((v26.n : Int) - 1)))),(11,(.bool v28)),(12,(.pointer (some p39))),(15,(.pointer (some p76)))] _:=ha.sub ⟨rfl,rfl,rfl,rfl,rfl,rfl,rfl,rfl,trivial⟩
           exact ⟨(s117,3,w121),⟨hS,rfl⟩,h⟩
        ·refine wp_exit<|t_x<|?_
         have hS : Has 158 [(0,(.pointer a0)),(1,(.int .i64 a1)),(10,(.int .i64 (IntKind.wrap .i64 ((v26.n : Int) - 1)))),(11,(.bool v28)),(12,(.pointer (some p39))),(15,(.pointer (some p76)))] _:=ha.sub ⟨rfl,rfl,rfl,rfl,rfl,rfl,trivial⟩
         refine t_x<|?_
         exact hk89 w83 h _ hS
      ·refine wp_seq<|region_lit<|qm ha rfl fun a ha=>s_nil<|t_n<|?_
       refine s_condN ha rfl h (fun b48 h=>?_) (fun b48 h=>?_)
       ·refine wp_seq<|region_lit<|qm ha rfl fun a ha=>?_
        obtain ⟨v49,v50,w51,e52,h⟩:=h
        refine q ha (d_call (xs:=[_]) (vs:=[(.pointer a0)]) ha ⟨rfl,trivial⟩ Try.call82 (evlog_Log_fresh_ok e52)) fun a ha=>qm ha rfl fun a ha=>q ha (d_ext ha rfl rfl) fun a ha=>q ha (d_ext ha rfl rfl) fun a ha=>?_
        obtain ⟨p53,w54,e55,h⟩:=h
        refine q ha (d_alloc Try.zeroValue125 (by kernel_rfl) e55) fun a ha=>?_
        obtain ⟨w57,e58,h⟩:=h
        obtain ⟨e56,h⟩:=h
        refine q ha (d_stA ha rfl rfl Try.sizeOf125 e56 e58) fun a ha=>qa ha rfl fun a ha=>s_nil<|t_n<|wp_seq<|wp_seq<|region_lit<|qm ha rfl fun a ha=>q ha (d_ne ha rfl rfl) fun a ha=>s_nil<|t_n<|?_
        refine s_condN ha rfl h (fun b59 h=>?_) (fun b59 h=>?_)
        ·refine wp_seq<|region_lit<|qm ha rfl fun a ha=>qa ha rfl fun a ha=>s_nil<|t_n<|wp_ret<|t_r<|?_
         have h:=unL h
         refine t_r<|?_
         have hS:=ha
         exact ret1 Try.results42 hS rfl ⟨(v50,w57),rfl,h,rfl⟩
        ·refine wp_skip<|t_n<|region_lit<|?_
         obtain ⟨c61,e62,h⟩:=h
         refine q ha (d_ldA ha rfl Try.isAgg125 Try.sizeOf125 e62) fun a ha=>?_
         obtain ⟨w63,e64,h⟩:=h
         refine q ha (d_stA ha rfl rfl Try.sizeOf125 ((ldA_c e62).1) e64) fun a ha=>s_nil<|?_
         have hS : Has 158 [(0,(.pointer a0)),(1,(.int .i64 a1)),(2,(Sl.v a2)),(8,(Sl.v s19)),(10,(.int .i64 (IntKind.wrap .i64 ((v26.n : Int) - 1)))),(11,(.bool v28)),(12,(.pointer (some p39)))] _:=ha.sub ⟨rfl,rfl,rfl,rfl,rfl,rfl,rfl,trivial⟩
         exact hk46 w63 h _ hS
       ·refine region_lit<|qm ha rfl fun a ha=>q ha (d_nilp ha rfl e25) fun a ha=>q ha (d_fa ha rfl Try.runUnderlying119 rfl rfl Try.sizeOf117 (by decide)) fun a ha=>?_
        obtain ⟨v65,e66,h⟩:=h
        refine q ha (d_ld ha rfl Try.isAgg117 (ldL_c e66)) fun a ha=>qm ha rfl fun a ha=>?_
        obtain ⟨p67,e68,h⟩:=h
        refine q ha (d_ix ha rfl rfl Try.runUnderlying117 Try.sizeOf125 e68) fun a ha=>?_
        obtain ⟨c69,e70,h⟩:=h
        refine q ha (d_ldA ha rfl Try.isAgg125 Try.sizeOf125 e70) fun a ha=>?_
        obtain ⟨w71,e72,h⟩:=h
        refine q ha (d_stA ha rfl rfl Try.sizeOf125 ((ldA_c e70).1) e72) fun a ha=>s_nil<|?_
        have hS : Has 158 [(0,(.pointer a0)),(1,(.int .i64 a1)),(2,(Sl.v a2)),(8,(Sl.v s19)),(10,(.int .i64 (IntKind.wrap .i64 ((v26.n : Int) - 1)))),(11,(.bool v28)),(12,(.pointer (some p39)))] _:=ha.sub ⟨rfl,rfl,rfl,rfl,rfl,rfl,rfl,trivial⟩
        exact hk46 w71 h _ hS
     ·refine region_lit<|qm ha rfl fun a ha=>q ha (d_lt ha rfl rfl) fun a ha=>qm ha rfl fun a ha=>?_
      refine ite_n h (fun b32 h=>?_) (fun b32 h=>?_)
      ·refine qn ha 56 (tn b32) fun a ha=>qn ha 56 (tn b32) fun a ha=>qn ha 56 (tn b32) fun a ha=>qn ha 56 (tn b32) fun a ha=>qn ha 56 (tn b32) fun a ha=>qn ha 56 (tn b32) fun a ha=>qn ha 56 (tn b32) fun a ha=>qn ha 56 (tn b32) fun a ha=>qn ha 56 (tn b32) fun a ha=>qn ha 56 (tn b32) fun a ha=>qn ha 56 (tn b32) fun a ha=>q ha (d_pick_t ha rfl b32 rfl) fun a ha=>qa ha rfl fun a ha=>s_nil<|?_
       have hS : Has 158 [(11,(.bool true)),(0,(.pointer a0)),(1,(.int .i64 a1)),(2,(Sl.v a2)),(8,(Sl.v s19)),(10,(.int .i64 (IntKind.wrap .i64 ((v26.n : Int) - 1))))] _:=ha.sub ⟨rfl,rfl,rfl,rfl,rfl,rfl,trivial⟩
       exact hk31 (true,w20) h _ hS
      ·refine qg ha 56 (nt b32) (d_move ha rfl) fun a ha=>qg ha 56 (nt b32) (d_nilp ha rfl e25) fun a ha=>qg ha 56 (nt b32) (d_fa ha rfl Try.runUnderlying119 rfl rfl Try.sizeOf117 (by decide)) fun a ha=>?_
       obtain ⟨v33,e34,h⟩:=h
       refine qg ha 56 (nt b32) (d_ld ha rfl Try.isAgg117 (ldL_c e34)) fun a ha=>qg ha 56 (nt b32) (d_move ha rfl) fun a ha=>?_
       obtain ⟨p35,e36,h⟩:=h
       refine qg ha 56 (nt b32) (d_ix ha rfl rfl Try.runUnderlying117 Try.sizeOf125 e36) fun a ha=>qg ha 56 (nt b32) (d_fa ha rfl Try.runUnderlying125 rfl rfl Try.sizeOf3 (by decide)) fun a ha=>?_
       obtain ⟨v37,e38,h⟩:=h
       refine qg ha 56 (nt b32) (d_ld ha rfl Try.isAgg3 (ldI_c e38)) fun a ha=>qg ha 56 (nt b32) (d_move ha rfl) fun a ha=>qg ha 56 (nt b32) (d_add ha rfl rfl) fun a ha=>qg ha 56 (nt b32) (d_gt ha rfl rfl) fun a ha=>q ha (d_pick_f ha rfl b32 rfl) fun a ha=>qa ha rfl fun a ha=>s_nil<|?_
       have hS : Has 158 [(11,(.bool (decide (16 < (IntKind.wrap .i64 (v37 + v22)))))),(0,(.pointer a0)),(1,(.int .i64 a1)),(2,(Sl.v a2)),(8,(Sl.v s19)),(10,(.int .i64 (IntKind.wrap .i64 ((v26.n : Int) - 1))))] _:=ha.sub ⟨rfl,rfl,rfl,rfl,rfl,rfl,trivial⟩
       exact hk31 ((decide (16 < (IntKind.wrap .i64 (v37 + v22)))),w20) h _ hS
   ·refine region_lit<|qm ha rfl fun a ha=>qm ha rfl fun a ha=>?_
    obtain ⟨p10,e11,h⟩:=h
    refine q ha (d_nilp ha rfl e11) fun a ha=>q ha (d_fa ha rfl Try.runUnderlying119 rfl rfl Try.sizeOf3 (by decide)) fun a ha=>?_
    obtain ⟨v12,e13,h⟩:=h
    refine q ha (d_ld ha rfl Try.isAgg3 (ldI_c e13)) fun a ha=>q ha (d_le ha rfl rfl) fun a ha=>qm ha rfl fun a ha=>?_
    refine ite_n h (fun b14 h=>?_) (fun b14 h=>?_)
    ·refine qn ha 35 (tn b14) fun a ha=>qn ha 35 (tn b14) fun a ha=>q ha (d_pick_t ha rfl b14 rfl) fun a ha=>qa ha rfl fun a ha=>s_nil<|?_
     have hS : Has 158 [(28,(.bool true)),(0,(.pointer a0)),(1,(.int .i64 a1)),(2,(Sl.v a2))] _:=ha.sub ⟨rfl,rfl,rfl,rfl,trivial⟩
     exact hk9 (true,w2) h _ hS
    ·refine qg ha 35 (nt b14) (d_move ha rfl) fun a ha=>qg ha 35 (nt b14) (d_gt ha rfl rfl) fun a ha=>q ha (d_pick_f ha rfl b14 rfl) fun a ha=>qa ha rfl fun a ha=>s_nil<|?_
     have hS : Has 158 [(28,(.bool (decide (1099511627776 < a1)))),(0,(.pointer a0)),(1,(.int .i64 a1)),(2,(Sl.v a2))] _:=ha.sub ⟨rfl,rfl,rfl,rfl,trivial⟩
     exact hk9 ((decide (1099511627776 < a1)),w2) h _ hS
noncomputable def evlog_Log_Sync (a0 : Option Addr) (w : World) : Option (Int×World) :=
 bind2 (evlog_Log_bad a0 w) fun v1 w2 =>
 if (v1 != 0) = true then
 (some (v1,w2))
 else
 ((a0).bind fun p5 =>
 (ldP w2 (p5.add 0)).bind fun v7 =>
 bind2 (sector_Disk_Sync v7 w2) fun v9 w10 =>
 some (v9,w10))
set_option maxHeartbeats 1000000 in
set_option maxRecDepth 100000 in
theorem evlog_Log_Sync_ok {a0 : Option Addr} {w w' : World} {r0 : Int} (h : evlog_Log_Sync a0 w = some (r0,w')) : Calls Try.prog 41 #[(.pointer a0)] w fun e w''=>e = .returned (.int .i64 r0)∧w'' = w':=by
 refine calls_dec (n:=14) Try.func41 rfl Try.ntmps41 (by simp) fun a ha=>?_
 unfold evlog_Log_Sync at h
 refine wp_seq<|region_lit<|qa ha rfl fun a ha=>s_nil<|t_n<|wp_seq<|wp_seq<|region_lit<|qm ha rfl fun a ha=>?_
 obtain ⟨v1,w2,e3,h⟩:=bs2 h
 refine q ha (d_call (xs:=[_]) (vs:=[(.pointer a0)]) ha ⟨rfl,trivial⟩ Try.call80 (evlog_Log_bad_ok e3)) fun a ha=>qa ha rfl fun a ha=>s_nil<|t_n<|wp_seq<|region_lit<|qm ha rfl fun a ha=>q ha (d_ne ha rfl rfl) fun a ha=>s_nil<|t_n<|?_
 refine s_cond ha rfl h (fun b4 h=>?_) (fun b4 h=>?_)
 ·refine wp_seq<|region_lit<|qm ha rfl fun a ha=>qa ha rfl fun a ha=>s_nil<|t_n<|wp_ret<|t_r<|?_
  have hS:=ha
  cases h
  exact ret1 Try.results41 hS rfl ⟨rfl,rfl⟩
 ·refine wp_skip<|t_n<|wp_seq<|region_lit<|qm ha rfl fun a ha=>?_
  obtain ⟨p5,e6,h⟩:=bs1 h
  refine q ha (d_nilp ha rfl e6) fun a ha=>q ha (d_fa ha rfl Try.runUnderlying119 rfl rfl Try.sizeOf57 (by decide)) fun a ha=>?_
  obtain ⟨v7,e8,h⟩:=bs1 h
  refine q ha (d_ld ha rfl Try.isAgg57 (ldP_c e8)) fun a ha=>?_
  obtain ⟨v9,w10,e11,h⟩:=bs2 h
  refine q ha (d_call (xs:=[_]) (vs:=[(.pointer v7)]) ha ⟨rfl,trivial⟩ Try.call36 (sector_Disk_Sync_ok e11)) fun a ha=>qa ha rfl fun a ha=>s_nil<|t_n<|wp_ret<|?_
  have hS:=ha
  cases h
  exact ret1 Try.results41 hS rfl ⟨rfl,rfl⟩
noncomputable def evlog_Log_High (a0 : Option Addr) (w : World) : Option (Int×World) :=
 if (a0.isNone) = true then
 (some (0,w))
 else
 ((a0).bind fun p2 =>
 (ldI .i64 w (p2.add 5)).bind fun v4 =>
 some (v4,w))
set_option maxHeartbeats 1000000 in
set_option maxRecDepth 100000 in
theorem evlog_Log_High_ok {a0 : Option Addr} {w w' : World} {r0 : Int} (h : evlog_Log_High a0 w = some (r0,w')) : Calls Try.prog 38 #[(.pointer a0)] w fun e w''=>e = .returned (.int .i64 r0)∧w'' = w':=by
 refine calls_dec (n:=9) Try.func38 rfl Try.ntmps38 (by simp) fun a ha=>?_
 unfold evlog_Log_High at h
 refine wp_seq<|region_lit<|qa ha rfl fun a ha=>s_nil<|t_n<|wp_seq<|wp_seq<|region_lit<|qm ha rfl fun a ha=>q ha (d_eqN ha rfl rfl Try.runUnderlying64) fun a ha=>s_nil<|t_n<|?_
 refine s_cond ha rfl h (fun b1 h=>?_) (fun b1 h=>?_)
 ·refine wp_seq<|region_lit<|qa ha rfl fun a ha=>s_nil<|t_n<|wp_ret<|t_r<|?_
  have hS:=ha
  cases h
  exact ret1 Try.results38 hS rfl ⟨rfl,rfl⟩
 ·refine wp_skip<|t_n<|wp_seq<|region_lit<|qm ha rfl fun a ha=>?_
  obtain ⟨p2,e3,h⟩:=bs1 h
  refine q ha (d_nilp ha rfl e3) fun a ha=>q ha (d_fa ha rfl Try.runUnderlying119 rfl rfl Try.sizeOf3 (by decide)) fun a ha=>?_
  obtain ⟨v4,e5,h⟩:=bs1 h
  refine q ha (d_ld ha rfl Try.isAgg3 (ldI_c e5)) fun a ha=>qa ha rfl fun a ha=>s_nil<|t_n<|wp_ret<|?_
  have hS:=ha
  cases h
  exact ret1 Try.results38 hS rfl ⟨rfl,rfl⟩
noncomputable def evlog_Log_Rel (a0 : Option Addr) (w : World) : Option (Int×World) :=
 if (a0.isNone) = true then
 (some (0,w))
 else
 ((a0).bind fun p2 =>
 (ldI .i64 w (p2.add 6)).bind fun v4 =>
 some (v4,w))
set_option maxHeartbeats 1000000 in
set_option maxRecDepth 100000 in
theorem evlog_Log_Rel_ok {a0 : Option Addr} {w w' : World} {r0 : Int} (h : evlog_Log_Rel a0 w = some (r0,w')) : Calls Try.prog 39 #[(.pointer a0)] w fun e w''=>e = .returned (.int .i64 r0)∧w'' = w':=by
 refine calls_dec (n:=9) Try.func39 rfl Try.ntmps39 (by simp) fun a ha=>?_
 unfold evlog_Log_Rel at h
 refine wp_seq<|region_lit<|qa ha rfl fun a ha=>s_nil<|t_n<|wp_seq<|wp_seq<|region_lit<|qm ha rfl fun a ha=>q ha (d_eqN ha rfl rfl Try.runUnderlying64) fun a ha=>s_nil<|t_n<|?_
 refine s_cond ha rfl h (fun b1 h=>?_) (fun b1 h=>?_)
 ·refine wp_seq<|region_lit<|qa ha rfl fun a ha=>s_nil<|t_n<|wp_ret<|t_r<|?_
  have hS:=ha
  cases h
  exact ret1 Try.results39 hS rfl ⟨rfl,rfl⟩
 ·refine wp_skip<|t_n<|wp_seq<|region_lit<|qm ha rfl fun a ha=>?_
  obtain ⟨p2,e3,h⟩:=bs1 h
  refine q ha (d_nilp ha rfl e3) fun a ha=>q ha (d_fa ha rfl Try.runUnderlying119 rfl rfl Try.sizeOf3 (by decide)) fun a ha=>?_
  obtain ⟨v4,e5,h⟩:=bs1 h
  refine q ha (d_ld ha rfl Try.isAgg3 (ldI_c e5)) fun a ha=>qa ha rfl fun a ha=>s_nil<|t_n<|wp_ret<|?_
  have hS:=ha
  cases h
  exact ret1 Try.results39 hS rfl ⟨rfl,rfl⟩
noncomputable def evlog_Log_Used (a0 : Option Addr) (w : World) : Option (Int×World) :=
 if (a0.isNone) = true then
 (some (0,w))
 else
 ((a0).bind fun p2 =>
 (ldL w (p2.add 7)).bind fun v4 =>
 some ((v4.n : Int),w))
set_option maxHeartbeats 1000000 in
set_option maxRecDepth 100000 in
theorem evlog_Log_Used_ok {a0 : Option Addr} {w w' : World} {r0 : Int} (h : evlog_Log_Used a0 w = some (r0,w')) : Calls Try.prog 40 #[(.pointer a0)] w fun e w''=>e = .returned (.int .i64 r0)∧w'' = w':=by
 refine calls_dec (n:=10) Try.func40 rfl Try.ntmps40 (by simp) fun a ha=>?_
 unfold evlog_Log_Used at h
 refine wp_seq<|region_lit<|qa ha rfl fun a ha=>s_nil<|t_n<|wp_seq<|wp_seq<|region_lit<|qm ha rfl fun a ha=>q ha (d_eqN ha rfl rfl Try.runUnderlying64) fun a ha=>s_nil<|t_n<|?_
 refine s_cond ha rfl h (fun b1 h=>?_) (fun b1 h=>?_)
 ·refine wp_seq<|region_lit<|qa ha rfl fun a ha=>s_nil<|t_n<|wp_ret<|t_r<|?_
  have hS:=ha
  cases h
  exact ret1 Try.results40 hS rfl ⟨rfl,rfl⟩
 ·refine wp_skip<|t_n<|wp_seq<|region_lit<|qm ha rfl fun a ha=>?_
  obtain ⟨p2,e3,h⟩:=bs1 h
  refine q ha (d_nilp ha rfl e3) fun a ha=>q ha (d_fa ha rfl Try.runUnderlying119 rfl rfl Try.sizeOf117 (by decide)) fun a ha=>?_
  obtain ⟨v4,e5,h⟩:=bs1 h
  refine q ha (d_ld ha rfl Try.isAgg117 (ldL_c e5)) fun a ha=>q ha (d_lenS ha rfl Try.runUnderlying117) fun a ha=>qa ha rfl fun a ha=>s_nil<|t_n<|wp_ret<|?_
  have hS:=ha
  cases h
  exact ret1 Try.results40 hS rfl ⟨rfl,rfl⟩
noncomputable def evlog_Log_Events_l2 (v25 : Sl) (a1 : Int) (a2 : Int) (a0 : Option Addr) (x27 : Sl) (x28 : Int) (w29 : World) : Option ((Sl×Int×World)⊕(Sl×World)) :=
 if (decide (x28 < (v25.n : Int))) = true then
 (bind2 ((ix v25 x28 2).bind fun p41 =>
 (ldA 2 w29 p41 0).bind fun c43 =>
 bind2 (mk w29 87 ([.int .i64 0,.slice none 0 0])) fun p45 w46 =>
 (stA w46 p45 0 c43).bind fun w48 =>
 bind2 ((dr w48).bind fun w54 =>
 (ldI .i64 w54 (p45.add 0)).bind fun v56 =>
 if (decide (a1≤v56)) = true then
 ((ldI .i64 w54 (p45.add 0)).bind fun v59 =>
 if (decide (v59≤a2)) = true then
 ((ldI .i64 w54 (p45.add 0)).bind fun v62 =>
 (a0).bind fun p64 =>
 (ldI .i64 w54 (p64.add 6)).bind fun v66 =>
 some ((decide (v66 < v62)),w54))
 else
 (some (false,w54)))
 else
 (some (false,w54))) fun v50 w51 =>
 if v50 = true then
 ((dr w51).bind fun w69 =>
 (ldI .i64 w69 (p45.add 0)).bind fun v71 =>
 (ldL w69 (p45.add 1)).bind fun v73 =>
 bind2 (slices_Clone_byte_byte v73 w69) fun v75 w76 =>
 bind2 (bsl w76 87 2 [([.int .i64 v71,Sl.v v75])]) fun s78 w79 =>
 bind2 (apS Try.prog 74 x27 s78 w79) fun s81 w82 =>
 chk (ldI .i64 w76 (p45.add 0) = some v71) <|
 some (s81,w82))
 else
 (some (x27,w51))) fun v37 w38 =>
 some (.inl (v37,(IntKind.wrap .i64 (x28 + 1)),w38)))
 else
 (some (.inr (x27,w29)))
noncomputable def evlog_Log_Events_l1 (v4 : Sl) (a1 : Int) (a2 : Int) (a0 : Option Addr) (x6 : Sl) (x7 : Int) (w8 : World) : Option ((Sl×Int×World)⊕(Sl×World)) :=
 if (decide (x7 < (v4.n : Int))) = true then
 ((ix v4 x7 5).bind fun p16 =>
 (ldA 5 w8 p16 0).bind fun c18 =>
 bind2 (mk w8 125 (List.replicate 4 (.int .i64 0) ++ [.slice none 0 0])) fun p20 w21 =>
 (stA w21 p20 0 c18).bind fun w23 =>
 (ldL w23 (p20.add 4)).bind fun v25 =>
 bind2 (loopF (fun s : Sl×Int×World=>evlog_Log_Events_l2 v25 a1 a2 a0 s.1 s.2.1 s.2.2) (x6,0,w23)) fun v32 w33 =>
 some (.inl (v32,(IntKind.wrap .i64 (x7 + 1)),w33)))
 else
 (some (.inr (x6,w8)))
noncomputable def evlog_Log_Events (a0 : Option Addr) (a1 : Int) (a2 : Int) (w : World) : Option (Sl×World) :=
 if (a0.isNone) = true then
 (some (Sl.nil,w))
 else
 ((a0).bind fun p2 =>
 (ldL w (p2.add 7)).bind fun v4 =>
 bind2 (loopF (fun s : Sl×Int×World=>evlog_Log_Events_l1 v4 a1 a2 a0 s.1 s.2.1 s.2.2) (Sl.nil,0,w)) fun v11 w12 =>
 some (v11,w12))
set_option maxHeartbeats 1000000 in
set_option maxRecDepth 100000 in
theorem evlog_Log_Events_ok {a0 : Option Addr} {a1 : Int} {a2 : Int} {w w' : World} {r0 : Sl} (h : evlog_Log_Events a0 a1 a2 w = some (r0,w')) : Calls Try.prog 44 #[(.pointer a0),(.int .i64 a1),(.int .i64 a2)] w fun e w''=>e = .returned (Sl.v r0)∧w'' = w':=by
 refine calls_dec (n:=61) Try.func44 rfl Try.ntmps44 (by simp) fun a ha=>?_
 unfold evlog_Log_Events at h
 refine wp_seq<|region_lit<|qa ha rfl fun a ha=>s_nil<|t_n<|wp_seq<|wp_seq<|region_lit<|qm ha rfl fun a ha=>q ha (d_eqN ha rfl rfl Try.runUnderlying64) fun a ha=>s_nil<|t_n<|?_
 refine s_cond ha rfl h (fun b1 h=>?_) (fun b1 h=>?_)
 ·refine wp_seq<|region_lit<|qa ha rfl fun a ha=>s_nil<|t_n<|wp_ret<|t_r<|?_
  have hS:=ha
  cases h
  exact ret1 Try.results44 hS rfl ⟨rfl,rfl⟩
 ·refine wp_skip<|t_n<|wp_seq<|region_lit<|qa ha rfl fun a ha=>s_nil<|t_n<|wp_seq<|wp_seq<|region_lit<|qm ha rfl fun a ha=>?_
  obtain ⟨p2,e3,h⟩:=bs1 h
  refine q ha (d_nilp ha rfl e3) fun a ha=>q ha (d_fa ha rfl Try.runUnderlying119 rfl rfl Try.sizeOf117 (by decide)) fun a ha=>?_
  obtain ⟨v4,e5,h⟩:=bs1 h
  refine q ha (d_ld ha rfl Try.isAgg117 (ldL_c e5)) fun a ha=>q ha (d_lenS ha rfl Try.runUnderlying117) fun a ha=>qm ha rfl fun a ha=>s_nil<|t_n<|wp_block<|?_
  obtain ⟨v11,w12,e10,h⟩:=bs2 h
  refine s_loop1 (n:=61) (L:=[(7,(Sl.v v11))]) (w':=w12) (e:=.exit 0) (I:=fun (s : Sl×Int×World) a w=>Has 61 [(7,(Sl.v s.1)),(19,(.int .i64 s.2.1)),(0,(.pointer a0)),(1,(.int .i64 a1)),(2,(.int .i64 a2)),(17,(Sl.v v4)),(18,(.int .i64 (v4.n : Int)))] a∧w = s.2.2) ⟨ha.sub ⟨rfl,rfl,rfl,rfl,rfl,rfl,rfl,trivial⟩,rfl⟩ e10 (fun a ha=>?_) (fun hk13=>?_)
  ·refine b_hit<|t_n<|wp_seq<|region_lit<|qm ha rfl fun a ha=>qa ha rfl fun a ha=>s_nil<|t_n<|wp_ret<|?_
   have hS:=ha
   cases h
   exact ret1 Try.results44 hS rfl ⟨rfl,rfl⟩
  ·clear h
   rintro ⟨x6,x7,w8⟩ a wq o ⟨ha,hwq⟩ h hr14
   obtain rfl : w8 = wq:=hwq.symm
   have ha : Has 61 [(7,(Sl.v x6)),(19,(.int .i64 x7)),(0,(.pointer a0)),(1,(.int .i64 a1)),(2,(.int .i64 a2)),(17,(Sl.v v4)),(18,(.int .i64 (v4.n : Int)))] a:=ha
   have h : evlog_Log_Events_l1 v4 a1 a2 a0 x6 x7 w8 = some o:=h
   unfold evlog_Log_Events_l1 at h
   refine wp_seq<|region_lit<|q ha (d_lt ha rfl rfl) fun a ha=>s_nil<|t_n<|wp_seq<|?_
   refine s_cond ha rfl h (fun b15 h=>?_) (fun b15 h=>?_)
   ·refine wp_skip<|t_n<|wp_seq<|wp_block<|wp_seq<|region_lit<|?_
    obtain ⟨p16,e17,h⟩:=bs1 h
    refine q ha (d_ix ha rfl rfl Try.runUnderlying117 Try.sizeOf125 e17) fun a ha=>?_
    obtain ⟨c18,e19,h⟩:=bs1 h
    refine q ha (d_ldA ha rfl Try.isAgg125 Try.sizeOf125 e19) fun a ha=>?_
    obtain ⟨p20,w21,e22,h⟩:=bs2 h
    refine q ha (d_alloc Try.zeroValue125 (by kernel_rfl) e22) fun a ha=>?_
    obtain ⟨w23,e24,h⟩:=bs1 h
    refine q ha (d_stA ha rfl rfl Try.sizeOf125 ((ldA_c e19).1) e24) fun a ha=>s_nil<|t_n<|wp_seq<|region_lit<|q ha (d_fa ha rfl Try.runUnderlying125 rfl rfl Try.sizeOf74 (by decide)) fun a ha=>?_
    obtain ⟨v25,e26,h⟩:=bs1 h
    refine q ha (d_ld ha rfl Try.isAgg74 (ldL_c e26)) fun a ha=>q ha (d_lenS ha rfl Try.runUnderlying74) fun a ha=>qm ha rfl fun a ha=>s_nil<|t_n<|wp_block<|?_
    obtain ⟨v32,w33,e31,h⟩:=bs2 h
    refine s_loop1 (n:=61) (L:=[(7,(Sl.v v32)),(0,(.pointer a0)),(1,(.int .i64 a1)),(2,(.int .i64 a2)),(17,(Sl.v v4)),(18,(.int .i64 (v4.n : Int))),(19,(.int .i64 x7))]) (w':=w33) (e:=.exit 2) (I:=fun (s : Sl×Int×World) a w=>Has 61 [(7,(Sl.v s.1)),(26,(.int .i64 s.2.1)),(0,(.pointer a0)),(1,(.int .i64 a1)),(2,(.int .i64 a2)),(17,(Sl.v v4)),(18,(.int .i64 (v4.n : Int))),(19,(.int .i64 x7)),(24,(Sl.v v25)),(25,(.int .i64 (v25.n : Int)))] a∧w = s.2.2) ⟨ha.sub ⟨rfl,rfl,rfl,rfl,rfl,rfl,rfl,rfl,rfl,rfl,trivial⟩,rfl⟩ e31 (fun a ha=>?_) (fun hk34=>?_)
    ·refine b_hit<|b_n<|t_n<|region_lit<|q ha (d_add ha rfl rfl) fun a ha=>qm ha rfl fun a ha=>s_nil<|?_
     have hS : Has 61 [(7,(Sl.v v32)),(19,(.int .i64 (IntKind.wrap .i64 (x7 + 1)))),(0,(.pointer a0)),(1,(.int .i64 a1)),(2,(.int .i64 a2)),(17,(Sl.v v4)),(18,(.int .i64 (v4.n : Int)))] _:=ha.sub ⟨rfl,rfl,rfl,rfl,rfl,rfl,rfl,trivial⟩
     cases h
     exact lp_next ⟨hS,rfl⟩
    ·clear h
     rintro ⟨x27,x28,w29⟩ a wq o ⟨ha,hwq⟩ h hr35
     obtain rfl : w29 = wq:=hwq.symm
     have ha : Has 61 [(7,(Sl.v x27)),(26,(.int .i64 x28)),(0,(.pointer a0)),(1,(.int .i64 a1)),(2,(.int .i64 a2)),(17,(Sl.v v4)),(18,(.int .i64 (v4.n : Int))),(19,(.int .i64 x7)),(24,(Sl.v v25)),(25,(.int .i64 (v25.n : Int)))] a:=ha
     have h : evlog_Log_Events_l2 v25 a1 a2 a0 x27 x28 w29 = some o:=h
     unfold evlog_Log_Events_l2 at h
     refine wp_seq<|region_lit<|q ha (d_lt ha rfl rfl) fun a ha=>s_nil<|t_n<|wp_seq<|?_
     refine s_cond ha rfl h (fun b36 h=>?_) (fun b36 h=>?_)
     ·refine wp_skip<|t_n<|?_
      obtain ⟨v37,w38,e39,h⟩:=bs2 h
      refine seq_join (n:=61) (L:=[(7,(Sl.v v37)),(0,(.pointer a0)),(1,(.int .i64 a1)),(2,(.int .i64 a2)),(17,(Sl.v v4)),(18,(.int .i64 (v4.n : Int))),(19,(.int .i64 x7)),(24,(Sl.v v25)),(25,(.int .i64 (v25.n : Int))),(26,(.int .i64 x28))]) (w':=w38) (fun a ha=>?_) (fun hk40=>?_)
      ·refine region_lit<|q ha (d_add ha rfl rfl) fun a ha=>qm ha rfl fun a ha=>s_nil<|?_
       have hS : Has 61 [(7,(Sl.v v37)),(26,(.int .i64 (IntKind.wrap .i64 (x28 + 1)))),(0,(.pointer a0)),(1,(.int .i64 a1)),(2,(.int .i64 a2)),(17,(Sl.v v4)),(18,(.int .i64 (v4.n : Int))),(19,(.int .i64 x7)),(24,(Sl.v v25)),(25,(.int .i64 (v25.n : Int)))] _:=ha.sub ⟨rfl,rfl,rfl,rfl,rfl,rfl,rfl,rfl,rfl,rfl,trivial⟩
       cases h
       exact lp_next ⟨hS,rfl⟩
      ·clear h
       have h:=e39
       refine wp_block<|wp_seq<|region_lit<|?_
       obtain ⟨p41,e42,h⟩:=bs1 h
       refine q ha (d_ix ha rfl rfl Try.runUnderlying74 Try.sizeOf87 e42) fun a ha=>?_
       obtain ⟨c43,e44,h⟩:=bs1 h
       refine q ha (d_ldA ha rfl Try.isAgg87 Try.sizeOf87 e44) fun a ha=>?_
       obtain ⟨p45,w46,e47,h⟩:=bs2 h
       refine q ha (d_alloc Try.zeroValue87 (by kernel_rfl) e47) fun a ha=>?_
       obtain ⟨w48,e49,h⟩:=bs1 h
       refine q ha (d_stA ha rfl rfl Try.sizeOf87 ((ldA_c e44).1) e49) fun a ha=>s_nil<|t_n<|wp_seq<|?_
       obtain ⟨v50,w51,e52,h⟩:=bs2 h
       refine reg_join (n:=61) (L:=[(48,(.bool v50)),(0,(.pointer a0)),(1,(.int .i64 a1)),(2,(.int .i64 a2)),(7,(Sl.v x27)),(11,(.pointer (some p45))),(17,(Sl.v v4)),(18,(.int .i64 (v4.n : Int))),(19,(.int .i64 x7)),(24,(Sl.v v25)),(25,(.int .i64 (v25.n : Int))),(26,(.int .i64 x28))]) (w':=w51) (fun a ha=>?_) (fun hk53=>?_)
       ·refine t_n<|?_
        refine s_cond ha rfl h (fun b68 h=>?_) (fun b68 h=>?_)
        ·obtain ⟨w69,e70,h⟩:=bs1 h
         obtain ⟨v71,e72,h⟩:=bs1 h
         obtain ⟨v73,e74,h⟩:=bs1 h
         obtain ⟨v75,w76,e77,h⟩:=bs2 h
         obtain ⟨s78,w79,e80,h⟩:=bs2 h
         obtain ⟨s81,w82,e83,h⟩:=bs2 h
         obtain ⟨e84,h⟩:=chk_some h
         have ha : Has 61 [(0,(.pointer a0)),(1,(.int .i64 a1)),(2,(.int .i64 a2)),(7,(Sl.v x27)),(11,(.pointer (some p45))),(17,(Sl.v v4)),(18,(.int .i64 (v4.n : Int))),(19,(.int .i64 x7)),(24,(Sl.v v25)),(25,(.int .i64 (v25.n : Int))),(26,(.int .i64 x28)),(48,(.bool v50))] a:=ha.sub ⟨rfl,rfl,rfl,rfl,rfl,rfl,rfl,rfl,rfl,rfl,rfl,rfl,trivial⟩
         refine region_draw (n:=61) (ds:=(⟨_,(Sl.v x27),false,0,2,[],[(7,(Sl.v x27))]⟩ :: ⟨_,(.pointer (some (p45.add 0))),false,0,1,[],[(11,(.pointer (some p45)))]⟩ :: ⟨_,(.int .i64 v71),false,0,1,[1],[(50,(.pointer (some (p45.add 0))))]⟩ :: ⟨_,(.pointer (some (p45.add 1))),false,0,0,[],[(11,(.pointer (some p45)))]⟩ :: ⟨_,(Sl.v v73),false,0,0,[3],[(52,(.pointer (some (p45.add 1))))]⟩ :: ⟨_,(Sl.v v75),true,0,0,[3,4],[(53,(Sl.v v73))]⟩ :: ⟨_,(.agg (List.toArray ([.int .i64 v71,Sl.v v75]))),false,1,1,(rn 1 5),[(51,(.int .i64 v71)),(54,(Sl.v v75))]⟩ :: ⟨_,(Sl.v s78),true,1,1,(rn 1 6),[(55,(.agg (List.toArray ([.int .i64 v71,Sl.v v75]))))]⟩ :: ⟨_,(Sl.v s81),true,2,2,(rn 0 8),[(49,(Sl.v x27)),(56,(Sl.v s78))]⟩ :: ⟨_,(Sl.v s81),false,3,3,(rn 0 9),[(57,(Sl.v s81))]⟩ :: [])) (W:=(fun j=>match j with | 0=>w69 | 1=>w76 | 2=>w79 | 3=>w82 | _=>w82)) (by kernel_rfl) ha (dr_w e70) (by kernel_rfl) ?_ (reads_of (by kernel_rfl)) (by kernel_rfl) (m:=3) (by kernel_rfl) (fun a ha=>?_)
         ·refine ⟨?_,?_,?_,?_,?_,?_,?_,?_,?_,?_,trivial⟩
          ·exact oa fun j a ha=>d_move ha rfl
          ·exact oa fun j a ha=>d_fa ha rfl Try.runUnderlying87 rfl rfl Try.sizeOf3 (by decide)
          ·intro j h1 h2; have h1 : 0≤j:=h1; have h2 : j≤1:=h2; rcases (by omega : j = 0∨j = 1) with rfl | rfl
           ·exact ok_do rfl fun a ha=>d_ld ha rfl Try.isAgg3 (ldI_c e72)
           ·exact ok_do rfl fun a ha=>d_ld ha rfl Try.isAgg3 (ldI_c e84)
          ·exact oa fun j a ha=>d_fa ha rfl Try.runUnderlying87 rfl rfl Try.sizeOf72 (by decide)
          ·exact oc 0 (ok_do rfl fun a ha=>d_ld ha rfl Try.isAgg72 (ldL_c e74))
          ·exact oc 0 (ok_do rfl fun a ha=>d_call (xs:=[_]) (vs:=[(Sl.v v73)]) ha ⟨rfl,trivial⟩ Try.call83 (slices_Clone_byte_byte_ok e77))
          ·exact oa fun j a ha=>d_build (vs:=[(0,(.int .i64 v71)),(1,(Sl.v v75))]) (pl:=#[(0,1),(1,1)]) (cs:=([.int .i64 v71,Sl.v v75])) ha ⟨rfl,rfl,rfl,rfl,trivial⟩ Try.zeroValue87 Try.runUnderlying87 (by intro w; kernel_rfl) (by kernel_rfl)
          ·exact oc 1 (ok_do rfl fun a ha=>d_bsl (vs:=[(0,(.agg (List.toArray ([.int .i64 v71,Sl.v v75]))))]) (ps:=[([.int .i64 v71,Sl.v v75])]) ha ⟨rfl,rfl,trivial⟩ ⟨rfl,rfl,trivial⟩ rfl Try.runUnderlying74 Try.sizeOf87 Try.zeroValue87 (by decide) e80)
          ·exact oc 2 (ok_do rfl fun a ha=>d_apS ha rfl rfl e83)
          ·exact oa fun j a ha=>d_assign ha rfl
         ·have ha : Has 61 [(0,(.pointer a0)),(1,(.int .i64 a1)),(2,(.int .i64 a2)),(7,(Sl.v s81)),(17,(Sl.v v4)),(18,(.int .i64 (v4.n : Int))),(19,(.int .i64 x7)),(24,(Sl.v v25)),(25,(.int .i64 (v25.n : Int))),(26,(.int .i64 x28))] a:=ha.sub ⟨rfl,rfl,rfl,rfl,rfl,rfl,rfl,rfl,rfl,rfl,trivial⟩
          refine b_n<|?_
          have hS : Has 61 [(7,(Sl.v s81)),(0,(.pointer a0)),(1,(.int .i64 a1)),(2,(.int .i64 a2)),(17,(Sl.v v4)),(18,(.int .i64 (v4.n : Int))),(19,(.int .i64 x7)),(24,(Sl.v v25)),(25,(.int .i64 (v25.n : Int))),(26,(.int .i64 x28))] _:=ha.sub ⟨rfl,rfl,rfl,rfl,rfl,rfl,rfl,rfl,rfl,rfl,trivial⟩
          cases h
          exact hk40 _ hS
        ·refine wp_skip<|b_n<|?_
         have hS : Has 61 [(7,(Sl.v x27)),(0,(.pointer a0)),(1,(.int .i64 a1)),(2,(.int .i64 a2)),(17,(Sl.v v4)),(18,(.int .i64 (v4.n : Int))),(19,(.int .i64 x7)),(24,(Sl.v v25)),(25,(.int .i64 (v25.n : Int))),(26,(.int .i64 x28))] _:=ha.sub ⟨rfl,rfl,rfl,rfl,rfl,rfl,rfl,rfl,rfl,rfl,trivial⟩
         cases h
         exact hk40 _ hS
       ·clear h
        have h:=e52
        obtain ⟨w54,e55,h⟩:=bs1 h
        obtain ⟨v56,e57,h⟩:=bs1 h
        refine ite_s h (fun b58 h=>?_) (fun b58 h=>?_)
        ·obtain ⟨v59,e60,h⟩:=bs1 h
         refine ite_s h (fun b61 h=>?_) (fun b61 h=>?_)
         ·obtain ⟨v62,e63,h⟩:=bs1 h
          obtain ⟨p64,e65,h⟩:=bs1 h
          obtain ⟨v66,e67,h⟩:=bs1 h
          have ha : Has 61 [(0,(.pointer a0)),(1,(.int .i64 a1)),(2,(.int .i64 a2)),(7,(Sl.v x27)),(11,(.pointer (some p45))),(17,(Sl.v v4)),(18,(.int .i64 (v4.n : Int))),(19,(.int .i64 x7)),(24,(Sl.v v25)),(25,(.int .i64 (v25.n : Int))),(26,(.int .i64 x28))] a:=ha.sub ⟨rfl,rfl,rfl,rfl,rfl,rfl,rfl,rfl,rfl,rfl,rfl,trivial⟩
          refine region_draw (n:=61) (ds:=(⟨_,(.pointer (some (p45.add 0))),false,0,0,[],[(11,(.pointer (some p45)))]⟩ :: ⟨_,(.int .i64 v56),false,0,0,[0],[(30,(.pointer (some (p45.add 0))))]⟩ :: ⟨_,(.int .i64 a1),false,0,0,[],[(1,(.int .i64 a1))]⟩ :: ⟨_,(.bool (decide (a1≤v56))),false,0,0,[0,1,2],[(31,(.int .i64 v56)),(32,(.int .i64 a1))]⟩ :: ⟨_,(.bool (decide (a1≤v56))),false,0,0,(rn 0 4),[(33,(.bool (decide (a1≤v56))))]⟩ :: ⟨_,(.pointer (some (p45.add 0))),false,0,0,(rn 0 5),[(11,(.pointer (some p45))),(34,(.bool (decide (a1≤v56))))]⟩ :: ⟨_,(.int .i64 v59),false,0,0,(rn 0 6),[(35,(.pointer (some (p45.add 0)))),(34,(.bool (decide (a1≤v56))))]⟩ :: ⟨_,(.int .i64 a2),false,0,0,(rn 0 5),[(2,(.int .i64 a2)),(34,(.bool (decide (a1≤v56))))]⟩ :: ⟨_,(.bool (decide (v59≤a2))),false,0,0,(rn 0 8),[(36,(.int .i64 v59)),(37,(.int .i64 a2)),(34,(.bool (decide (a1≤v56))))]⟩ :: ⟨_,(.bool (decide (v59≤a2))),false,0,0,(rn 0 9),[(34,(.bool (decide (a1≤v56)))),(38,(.bool (decide (v59≤a2))))]⟩ :: ⟨_,(.bool (decide (v59≤a2))),false,0,0,(rn 0 10),[(39,(.bool (decide (v59≤a2))))]⟩ :: ⟨_,(.pointer (some (p45.add 0))),false,0,0,(rn 0 11),[(11,(.pointer (some p45))),(40,(.bool (decide (v59≤a2))))]⟩ :: ⟨_,(.int .i64 v62),false,0,0,(rn 0 12),[(41,(.pointer (some (p45.add 0)))),(40,(.bool (decide (v59≤a2))))]⟩ :: ⟨_,(.pointer a0),false,0,0,(rn 0 11),[(0,(.pointer a0)),(40,(.bool (decide (v59≤a2))))]⟩ :: ⟨_,(.pointer (some p64)),false,0,0,(rn 0 11 ++ [13]),[(43,(.pointer a0)),(40,(.bool (decide (v59≤a2))))]⟩ :: ⟨_,(.pointer (some (p64.add 6))),false,0,0,(rn 0 11 ++ [13,14]),[(44,(.pointer (some p64))),(40,(.bool (decide (v59≤a2))))]⟩ :: ⟨_,(.int .i64 v66),false,0,0,(rn 0 11 ++ [13,14,15]),[(45,(.pointer (some (p64.add 6)))),(40,(.bool (decide (v59≤a2))))]⟩ :: ⟨_,(.bool (decide (v66 < v62))),false,0,0,(rn 0 17),[(42,(.int .i64 v62)),(46,(.int .i64 v66)),(40,(.bool (decide (v59≤a2))))]⟩ :: ⟨_,(.bool (decide (v66 < v62))),false,0,0,(rn 0 18),[(40,(.bool (decide (v59≤a2)))),(47,(.bool (decide (v66 < v62))))]⟩ :: [])) (W:=(fun _=>w54)) (by kernel_rfl) ha (dr_w e55) (by kernel_rfl) ?_ (reads_of (by kernel_rfl)) (by kernel_rfl) (m:=0) (by kernel_rfl) (fun a ha=>?_)
          ·refine ⟨?_,?_,?_,?_,?_,?_,?_,?_,?_,?_,?_,?_,?_,?_,?_,?_,?_,?_,?_,trivial⟩
           ·exact oa fun j a ha=>d_fa ha rfl Try.runUnderlying87 rfl rfl Try.sizeOf3 (by decide)
           ·exact oc (e:=false) 0 (ok_do rfl fun a ha=>d_ld ha rfl Try.isAgg3 (ldI_c e57))
           ·exact oa fun j a ha=>d_move ha rfl
           ·exact oa fun j a ha=>d_ge ha rfl rfl
           ·exact oa fun j a ha=>d_move ha rfl
           ·exact oag 34 b58 fun j a ha=>d_fa ha rfl Try.runUnderlying87 rfl rfl Try.sizeOf3 (by decide)
           ·exact oc (e:=false) 0 (ok_do_g rfl rfl (rfl : List.lookup 34 _ = _) b58 fun a ha=>d_ld ha rfl Try.isAgg3 (ldI_c e60))
           ·exact oag 34 b58 fun j a ha=>d_move ha rfl
           ·exact oag 34 b58 fun j a ha=>d_le ha rfl rfl
           ·exact oa fun j a ha=>d_pick_t ha rfl b58 rfl
           ·exact oa fun j a ha=>d_move ha rfl
           ·exact oag 40 b61 fun j a ha=>d_fa ha rfl Try.runUnderlying87 rfl rfl Try.sizeOf3 (by decide)
           ·exact oc (e:=false) 0 (ok_do_g rfl rfl (rfl : List.lookup 40 _ = _) b61 fun a ha=>d_ld ha rfl Try.isAgg3 (ldI_c e63))
           ·exact oag 40 b61 fun j a ha=>d_move ha rfl
           ·exact oag 40 b61 fun j a ha=>d_nilp ha rfl e65
           ·exact oag 40 b61 fun j a ha=>d_fa ha rfl Try.runUnderlying119 rfl rfl Try.sizeOf3 (by decide)
           ·exact oc (e:=false) 0 (ok_do_g rfl rfl (rfl : List.lookup 40 _ = _) b61 fun a ha=>d_ld ha rfl Try.isAgg3 (ldI_c e67))
           ·exact oag 40 b61 fun j a ha=>d_gt ha rfl rfl
           ·exact oa fun j a ha=>d_pick_t ha rfl b61 rfl
          ·have ha : Has 61 [(0,(.pointer a0)),(1,(.int .i64 a1)),(2,(.int .i64 a2)),(7,(Sl.v x27)),(11,(.pointer (some p45))),(17,(Sl.v v4)),(18,(.int .i64 (v4.n : Int))),(19,(.int .i64 x7)),(24,(Sl.v v25)),(25,(.int .i64 (v25.n : Int))),(26,(.int .i64 x28)),(48,(.bool (decide (v66 < v62))))] a:=ha.sub ⟨rfl,rfl,rfl,rfl,rfl,rfl,rfl,rfl,rfl,rfl,rfl,rfl,trivial⟩
           have hS : Has 61 [(48,(.bool (decide (v66 < v62)))),(0,(.pointer a0)),(1,(.int .i64 a1)),(2,(.int .i64 a2)),(7,(Sl.v x27)),(11,(.pointer (some p45))),(17,(Sl.v v4)),(18,(.int .i64 (v4.n : Int))),(19,(.int .i64 x7)),(24,(Sl.v v25)),(25,(.int .i64 (v25.n : Int))),(26,(.int .i64 x28))] _:=ha.sub ⟨rfl,rfl,rfl,rfl,rfl,rfl,rfl,rfl,rfl,rfl,rfl,rfl,trivial⟩
           cases h
           exact hk53 _ hS
         ·have ha : Has 61 [(0,(.pointer a0)),(1,(.int .i64 a1)),(2,(.int .i64 a2)),(7,(Sl.v x27)),(11,(.pointer (some p45))),(17,(Sl.v v4)),(18,(.int .i64 (v4.n : Int))),(19,(.int .i64 x7)),(24,(Sl.v v25)),(25,(.int .i64 (v25.n : Int))),(26,(.int .i64 x28))] a:=ha.sub ⟨rfl,rfl,rfl,rfl,rfl,rfl,rfl,rfl,rfl,rfl,rfl,trivial⟩
          refine region_draw (n:=61) (ds:=(⟨_,(.pointer (some (p45.add 0))),false,0,0,[],[(11,(.pointer (some p45)))]⟩ :: ⟨_,(.int .i64 v56),false,0,0,[0],[(30,(.pointer (some (p45.add 0))))]⟩ :: ⟨_,(.int .i64 a1),false,0,0,[],[(1,(.int .i64 a1))]⟩ :: ⟨_,(.bool (decide (a1≤v56))),false,0,0,[0,1,2],[(31,(.int .i64 v56)),(32,(.int .i64 a1))]⟩ :: ⟨_,(.bool (decide (a1≤v56))),false,0,0,(rn 0 4),[(33,(.bool (decide (a1≤v56))))]⟩ :: ⟨_,(.pointer (some (p45.add 0))),false,0,0,(rn 0 5),[(11,(.pointer (some p45))),(34,(.bool (decide (a1≤v56))))]⟩ :: ⟨_,(.int .i64 v59),false,0,0,(rn 0 6),[(35,(.pointer (some (p45.add 0)))),(34,(.bool (decide (a1≤v56))))]⟩ :: ⟨_,(.int .i64 a2),false,0,0,(rn 0 5),[(2,(.int .i64 a2)),(34,(.bool (decide (a1≤v56))))]⟩ :: ⟨_,(.bool (decide (v59≤a2))),false,0,0,(rn 0 8),[(36,(.int .i64 v59)),(37,(.int .i64 a2)),(34,(.bool (decide (a1≤v56))))]⟩ :: ⟨_,(.bool (decide (v59≤a2))),false,0,0,(rn 0 9),[(34,(.bool (decide (a1≤v56)))),(38,(.bool (decide (v59≤a2))))]⟩ :: ⟨_,(.bool (decide (v59≤a2))),false,0,0,(rn 0 10),[(39,(.bool (decide (v59≤a2))))]⟩ :: ⟨_,undef,false,0,0,(rn 0 11),[(40,(.bool (decide (v59≤a2))))]⟩ :: ⟨_,undef,false,0,0,(rn 0 12),[(40,(.bool (decide (v59≤a2))))]⟩ :: ⟨_,undef,false,0,0,(rn 0 11),[(40,(.bool (decide (v59≤a2))))]⟩ :: ⟨_,undef,false,0,0,(rn 0 11 ++ [13]),[(40,(.bool (decide (v59≤a2))))]⟩ :: ⟨_,undef,false,0,0,(rn 0 11 ++ [13,14]),[(40,(.bool (decide (v59≤a2))))]⟩ :: ⟨_,undef,false,0,0,(rn 0 11 ++ [13,14,15]),[(40,(.bool (decide (v59≤a2))))]⟩ :: ⟨_,undef,false,0,0,(rn 0 17),[(40,(.bool (decide (v59≤a2))))]⟩ :: ⟨_,(.bool false),false,0,0,(rn 0 18),[(40,(.bool (decide (v59≤a2)))),(47,undef)]⟩ :: [])) (W:=(fun _=>w54)) (by kernel_rfl) ha (dr_w e55) (by kernel_rfl) ?_ (reads_of (by kernel_rfl)) (by kernel_rfl) (m:=0) (by kernel_rfl) (fun a ha=>?_)
          ·refine ⟨?_,?_,?_,?_,?_,?_,?_,?_,?_,?_,?_,?_,?_,?_,?_,?_,?_,?_,?_,trivial⟩
           ·exact oa fun j a ha=>d_fa ha rfl Try.runUnderlying87 rfl rfl Try.sizeOf3 (by decide)
           ·exact oc (e:=false) 0 (ok_do rfl fun a ha=>d_ld ha rfl Try.isAgg3 (ldI_c e57))
           ·exact oa fun j a ha=>d_move ha rfl
           ·exact oa fun j a ha=>d_ge ha rfl rfl
           ·exact oa fun j a ha=>d_move ha rfl
           ·exact oag 34 b58 fun j a ha=>d_fa ha rfl Try.runUnderlying87 rfl rfl Try.sizeOf3 (by decide)
           ·exact oc (e:=false) 0 (ok_do_g rfl rfl (rfl : List.lookup 34 _ = _) b58 fun a ha=>d_ld ha rfl Try.isAgg3 (ldI_c e60))
           ·exact oag 34 b58 fun j a ha=>d_move ha rfl
           ·exact oag 34 b58 fun j a ha=>d_le ha rfl rfl
           ·exact oa fun j a ha=>d_pick_t ha rfl b58 rfl
           ·exact oa fun j a ha=>d_move ha rfl
           ·exact on 40 (nn b61 _ rfl)
           ·exact on 40 (nn b61 _ rfl)
           ·exact on 40 (nn b61 _ rfl)
           ·exact on 40 (nn b61 _ rfl)
           ·exact on 40 (nn b61 _ rfl)
           ·exact on 40 (nn b61 _ rfl)
           ·exact on 40 (nn b61 _ rfl)
           ·exact oa fun j a ha=>d_pick_f ha rfl b61 rfl
          ·have ha : Has 61 [(0,(.pointer a0)),(1,(.int .i64 a1)),(2,(.int .i64 a2)),(7,(Sl.v x27)),(11,(.pointer (some p45))),(17,(Sl.v v4)),(18,(.int .i64 (v4.n : Int))),(19,(.int .i64 x7)),(24,(Sl.v v25)),(25,(.int .i64 (v25.n : Int))),(26,(.int .i64 x28)),(48,(.bool false))] a:=ha.sub ⟨rfl,rfl,rfl,rfl,rfl,rfl,rfl,rfl,rfl,rfl,rfl,rfl,trivial⟩
           have hS : Has 61 [(48,(.bool false)),(0,(.pointer a0)),(1,(.int .i64 a1)),(2,(.int .i64 a2)),(7,(Sl.v x27)),(11,(.pointer (some p45))),(17,(Sl.v v4)),(18,(.int .i64 (v4.n : Int))),(19,(.int .i64 x7)),(24,(Sl.v v25)),(25,(.int .i64 (v25.n : Int))),(26,(.int .i64 x28))] _:=ha.sub ⟨rfl,rfl,rfl,rfl,rfl,rfl,rfl,rfl,rfl,rfl,rfl,rfl,trivial⟩
           cases h
           exact hk53 _ hS
        ·have ha : Has 61 [(0,(.pointer a0)),(1,(.int .i64 a1)),(2,(.int .i64 a2)),(7,(Sl.v x27)),(11,(.pointer (some p45))),(17,(Sl.v v4)),(18,(.int .i64 (v4.n : Int))),(19,(.int .i64 x7)),(24,(Sl.v v25)),(25,(.int .i64 (v25.n : Int))),(26,(.int .i64 x28))] a:=ha.sub ⟨rfl,rfl,rfl,rfl,rfl,rfl,rfl,rfl,rfl,rfl,rfl,trivial⟩
         refine region_draw (n:=61) (ds:=(⟨_,(.pointer (some (p45.add 0))),false,0,0,[],[(11,(.pointer (some p45)))]⟩ :: ⟨_,(.int .i64 v56),false,0,0,[0],[(30,(.pointer (some (p45.add 0))))]⟩ :: ⟨_,(.int .i64 a1),false,0,0,[],[(1,(.int .i64 a1))]⟩ :: ⟨_,(.bool (decide (a1≤v56))),false,0,0,[0,1,2],[(31,(.int .i64 v56)),(32,(.int .i64 a1))]⟩ :: ⟨_,(.bool (decide (a1≤v56))),false,0,0,(rn 0 4),[(33,(.bool (decide (a1≤v56))))]⟩ :: ⟨_,undef,false,0,0,(rn 0 5),[(34,(.bool (decide (a1≤v56))))]⟩ :: ⟨_,undef,false,0,0,(rn 0 6),[(34,(.bool (decide (a1≤v56))))]⟩ :: ⟨_,undef,false,0,0,(rn 0 5),[(34,(.bool (decide (a1≤v56))))]⟩ :: ⟨_,undef,false,0,0,(rn 0 8),[(34,(.bool (decide (a1≤v56))))]⟩ :: ⟨_,(.bool false),false,0,0,(rn 0 9),[(34,(.bool (decide (a1≤v56)))),(38,undef)]⟩ :: ⟨_,(.bool false),false,0,0,(rn 0 10),[(39,(.bool false))]⟩ :: ⟨_,undef,false,0,0,(rn 0 11),[(40,(.bool false))]⟩ :: ⟨_,undef,false,0,0,(rn 0 12),[(40,(.bool false))]⟩ :: ⟨_,undef,false,0,0,(rn 0 11),[(40,(.bool false))]⟩ :: ⟨_,undef,false,0,0,(rn 0 11 ++ [13]),[(40,(.bool false))]⟩ :: ⟨_,undef,false,0,0,(rn 0 11 ++ [13,14]),[(40,(.bool false))]⟩ :: ⟨_,undef,false,0,0,(rn 0 11 ++ [13,14,15]),[(40,(.bool false))]⟩ :: ⟨_,undef,false,0,0,(rn 0 17),[(40,(.bool false))]⟩ :: ⟨_,(.bool false),false,0,0,(rn 0 18),[(40,(.bool false)),(47,undef)]⟩ :: [])) (W:=(fun _=>w54)) (by kernel_rfl) ha (dr_w e55) (by kernel_rfl) ?_ (reads_of (by kernel_rfl)) (by kernel_rfl) (m:=0) (by kernel_rfl) (fun a ha=>?_)
         ·refine ⟨?_,?_,?_,?_,?_,?_,?_,?_,?_,?_,?_,?_,?_,?_,?_,?_,?_,?_,?_,trivial⟩
          ·exact oa fun j a ha=>d_fa ha rfl Try.runUnderlying87 rfl rfl Try.sizeOf3 (by decide)
          ·exact oc (e:=false) 0 (ok_do rfl fun a ha=>d_ld ha rfl Try.isAgg3 (ldI_c e57))
          ·exact oa fun j a ha=>d_move ha rfl
          ·exact oa fun j a ha=>d_ge ha rfl rfl
          ·exact oa fun j a ha=>d_move ha rfl
          ·exact on 34 (nn b58 _ rfl)
          ·exact on 34 (nn b58 _ rfl)
          ·exact on 34 (nn b58 _ rfl)
          ·exact on 34 (nn b58 _ rfl)
          ·exact oa fun j a ha=>d_pick_f ha rfl b58 rfl
          ·exact oa fun j a ha=>d_move ha rfl
          ·exact on 40 (nn Bool.false_ne_true _ rfl)
          ·exact on 40 (nn Bool.false_ne_true _ rfl)
          ·exact on 40 (nn Bool.false_ne_true _ rfl)
          ·exact on 40 (nn Bool.false_ne_true _ rfl)
          ·exact on 40 (nn Bool.false_ne_true _ rfl)
          ·exact on 40 (nn Bool.false_ne_true _ rfl)
          ·exact on 40 (nn Bool.false_ne_true _ rfl)
          ·exact oa fun j a ha=>d_pick_f ha rfl Bool.false_ne_true rfl
         ·have ha : Has 61 [(0,(.pointer a0)),(1,(.int .i64 a1)),(2,(.int .i64 a2)),(7,(Sl.v x27)),(11,(.pointer (some p45))),(17,(Sl.v v4)),(18,(.int .i64 (v4.n : Int))),(19,(.int .i64 x7)),(24,(Sl.v v25)),(25,(.int .i64 (v25.n : Int))),(26,(.int .i64 x28)),(48,(.bool false))] a:=ha.sub ⟨rfl,rfl,rfl,rfl,rfl,rfl,rfl,rfl,rfl,rfl,rfl,rfl,trivial⟩
          have hS : Has 61 [(48,(.bool false)),(0,(.pointer a0)),(1,(.int .i64 a1)),(2,(.int .i64 a2)),(7,(Sl.v x27)),(11,(.pointer (some p45))),(17,(Sl.v v4)),(18,(.int .i64 (v4.n : Int))),(19,(.int .i64 x7)),(24,(Sl.v v25)),(25,(.int .i64 (v25.n : Int))),(26,(.int .i64 x28))] _:=ha.sub ⟨rfl,rfl,rfl,rfl,rfl,rfl,rfl,rfl,rfl,rfl,rfl,rfl,trivial⟩
          cases h
          exact hk53 _ hS
     ·refine wp_exit<|t_x<|?_
      have hS : Has 61 [(7,(Sl.v x27)),(0,(.pointer a0)),(1,(.int .i64 a1)),(2,(.int .i64 a2)),(17,(Sl.v v4)),(18,(.int .i64 (v4.n : Int))),(19,(.int .i64 x7))] _:=ha.sub ⟨rfl,rfl,rfl,rfl,rfl,rfl,rfl,trivial⟩
      cases h
      cases hr35 _ rfl
      refine lp_x<|?_
      exact hk34 _ hS
   ·refine wp_exit<|t_x<|?_
    have hS : Has 61 [(7,(Sl.v x6))] _:=ha.sub ⟨rfl,trivial⟩
    cases h
    cases hr14 _ rfl
    refine lp_x<|?_
    exact hk13 _ hS
def good8 (b : List Int) : Bool :=
 decide (b.length = 64) && b.getD 0 0 == 231 && b.getD 63 0 == 231 && decide (1≤b.getD 1 0) && decide (b.getD 1 0≤3) && decide (b.getD 2 0≤59) && decide (b.getD 3 0≤1) && !(b.getD 3 0 == 0 && b.getD 2 0 != 59)
theorem good8_C (b : List Int) : goodC b = (good8 b && zeroL ((b.take 63).drop (4 + (b.getD 2 0).toNat))):=rfl
section
variable {F0 : Nat → Prop} {g g0 g' : Gh} {w w0 w' : World} {L : List Rs} {s : Sl} {xs : List Int}
theorem ifO {c b : Bool} : (if c = true then some (true,w) else some (b,w)) = some (c || b,w):=by cases c <;> rfl
theorem ifA {c b : Bool} : (if c = true then some (b,w) else some (false,w)) = some (c && b,w):=by cases c <;> rfl
theorem ld1 {ρ : Type} {f : Int→Option ρ} {j : Int} (h : Rd w s 1 (nums .u8 xs)) (h0 : 0≤j) (h1 : j.toNat < xs.length) : ((ix s j 1).bind fun p=>(ldI .u8 w p).bind f) = f (xs.getD j.toNat 0):=by
 obtain ⟨k,rfl⟩ : ∃ k : Nat,j = k:=⟨j.toNat,by omega⟩
 obtain ⟨a,e1,e2⟩:=ld_u8 (i:=k) h (by simpa using h1)
 rw [e1,Option.bind_some,e2,Option.bind_some]; rfl
theorem Rd.ixK {k : IntKind} {j : Nat} {x : Int} (h : Rd w s 1 (nums k xs)) (hx : xs[j]? = some x) : ∃ a,D.ix s (j : Int) 1 = some a∧D.ldI k w a = some x:=by
 have hx' : (nums k xs)[j]? = some (.int k x):=by rw [nums_get,hx]; rfl
 have hi : j < s.n:=by have:=h.len; have h2:=(List.getElem?_eq_some_iff.1 hx').1; omega
 obtain ⟨a,ha,hc⟩:=h.at_ (by omega)
 refine ⟨a.add (j * 1),?_,by rw [Nat.mul_one]; exact ldI_cell (hc j _ hx')⟩
 unfold D.ix
 rw [ha]
 simp only [Option.bind_some]
 rw [if_pos ⟨by omega,by omega⟩]
 simp
theorem PR.sl {sz : Nat} {cs : List Value} {lo hi m : Nat} (h : PR g w s 1 cs) (h1 : lo≤hi) (h2 : hi≤s.n) (h3 : hi≤m) (h4 : m≤s.c) : ∃ z,slS s (lo : Int) (hi : Int) (m : Int) 1 = some z∧PR g w z 1 ((cs.drop lo).take (hi - lo))∧z.n = hi - lo∧z.n≤z.c:=by
 have hl : cs.length = s.n:=by have:=h.rd.len; simpa using this
 refine ⟨⟨if (m : Int) = (lo : Int) then s.p else s.p.map (·.add lo),hi - lo,m - lo⟩,?_,⟨⟨by simp; omega,fun hn=>?_⟩,fun a ha hn=>?_⟩,rfl,by simp only; omega⟩
 ·unfold slS
  rw [if_pos (by omega)]
  simp only [Int.toNat_natCast,Nat.mul_one,Option.some.injEq,Sl.mk.injEq,true_and]
  constructor <;> omega
 ·simp only at hn
  obtain ⟨a,ha,hc⟩:=h.rd.at_ (by omega)
  rw [if_neg (by omega),ha]
  refine ⟨a.add lo,rfl,fun j v hv=>?_⟩
  rw [add_add']
  refine hc _ v ?_
  rw [List.getElem?_take] at hv
  split at hv
  ·rwa [List.getElem?_drop] at hv
  ·cases hv
 ·simp only at ha hn
  rw [if_neg (by omega)] at ha
  obtain ⟨a',ha',-⟩:=h.rd.at_ (by omega)
  rw [ha'] at ha
  cases ha
  have hb : (a'.add lo).block = a'.block:=by unfold Addr.add; split <;> rfl
  rw [hb]
  exact h.per a' ha' (by omega)
theorem PR.slN {k : IntKind} {lo hi m : Nat} (h : PR g w s 1 (nums k xs)) (h1 : lo≤hi) (h2 : hi≤s.n) (h3 : hi≤m) (h4 : m≤s.c) : ∃ z,slS s (lo : Int) (hi : Int) (m : Int) 1 = some z∧PR g w z 1 (nums k ((xs.drop lo).take (hi - lo)))∧z.n = hi - lo∧z.n≤z.c:=by
 have:=h.sl (sz:=1) h1 h2 h3 h4
 rwa [show ((nums k xs).drop lo).take (hi - lo) = nums k ((xs.drop lo).take (hi - lo)) by simp [nums,List.map_take,List.map_drop]] at this
theorem empty_ok (h : Rd w s 1 (nums .u8 xs)) (hn : s.n≤1000) : evlog_empty s w = some (zeroL xs,w):=by
 have hl : xs.length = s.n:=by have:=h.len; simpa [nums] using this
 have lp:=Ex.loop (step:=fun t : Int×World=>slices_IndexFunc_byte_byte_144_l1 s t.1 t.2)
  (Φ:=fun o=>match o with | .inl w'=>w' = w∧(xs.all fun x=>x == 0) = true | .inr (i,w')=>w' = w∧0≤i∧(xs.all fun x=>x == 0) = false)
  (fun m t=>∃ j : Nat,t = ((j : Int),w)∧m + j = xs.length∧((xs.take j).all fun x=>x == 0) = true) (fun m t ⟨j,e,hm,hz⟩=>by
   subst e
   unfold slices_IndexFunc_byte_byte_144_l1
   by_cases hj : j < xs.length
   ·obtain ⟨x,hx⟩ : ∃ x,xs[j]? = some x:=⟨_,List.getElem?_eq_getElem hj⟩
    obtain ⟨a,a1,a2⟩:=h.ixK hx
    refine Ex.t (by simp; omega) (Ex.b1 a1 (Ex.b1 a2 (Ex.b2 (a:=x != 0) (b:=w) rfl ?_)))
    by_cases h0 : x = 0
    ·subst h0
     refine Ex.f (by simp) (Ex.ret ⟨m - 1,by omega,j + 1,by rw [wr64 (by omega) (by omega)]; rfl,by omega,?_⟩)
     rw [List.take_add_one,hx,List.all_append,hz]; rfl
    ·refine Ex.t (by simpa using h0) (Ex.ret ⟨rfl,by omega,?_⟩)
     rw [List.all_eq_false]
     exact ⟨x,List.mem_of_getElem? hx,by simpa using h0⟩
   ·refine Ex.f (by simp; omega) (Ex.ret ⟨rfl,?_⟩)
    rwa [List.take_of_length_le (by omega)] at hz) xs.length ((0 : Int),w) ⟨0,rfl,by omega,by simp⟩
 obtain ⟨o,e,ho⟩:=lp
 unfold evlog_empty slices_ContainsFunc_byte_byte_144 slices_IndexFunc_byte_byte_144
 rw [e]
 unfold zeroL
 cases o with
 | inl w'=>obtain ⟨rfl,hz⟩:=ho; rw [hz]; rfl
 | inr r=>obtain ⟨i,w'⟩:=r; obtain ⟨rfl,h0,hz⟩:=ho; rw [hz]; simp [u1,u2,h0]
theorem by_rng {b : List Int} {j : Nat} (hb : Bytes b) : 0≤b.getD j 0∧b.getD j 0 < 256:=by
 rw [List.getD_eq_getElem?_getD]
 cases e : b[j]? with
 | none=>simp
 | some y=>exact hb y (List.mem_of_getElem? e)
theorem good8_s (h : good8 xs = true) : xs.length = 64∧1≤xs.getD 1 0∧xs.getD 1 0≤3∧xs.getD 2 0≤59∧xs.getD 3 0≤1:=by
 simp only [good8,Bool.and_eq_true,decide_eq_true_eq] at h
 exact ⟨h.1.1.1.1.1.1.1,h.1.1.1.1.2,h.1.1.1.2,h.1.1.2,h.1.2⟩
theorem good_ok (H : Hp F0 g0 w0 g w L) (h : PR g w s 1 (nums .u8 xs)) (hb : Bytes xs) (hc : s.n≤s.c) (hm : s.n≤1000) :
  ∃ z w',evlog_good s w = some ((goodL xs).1,z,(goodL xs).2.2,w')∧Hp F0 g0 w0 g w' L∧Mo g w g w'∧PR g w' z 1 (nums .u8 (goodL xs).2.1)∧z.n≤z.c:=by
 have hn : xs.length = s.n:=by have:=h.rd.len; simpa using this
 have t1 : (if ((s.n : Int) != 64) = true then (some (true,w))
   else ((ix s 0 1).bind fun p6=>(ldI .u8 w p6).bind fun v8=>if (v8 != 231) = true then (some (true,w))
   else ((ix s 63 1).bind fun p11=>(ldI .u8 w p11).bind fun v13=>if (v13 != 231) = true then (some (true,w))
   else ((ix s 1 1).bind fun p16=>(ldI .u8 w p16).bind fun v18=>if (decide (v18 < 1)) = true then (some (true,w))
   else ((ix s 1 1).bind fun p21=>(ldI .u8 w p21).bind fun v23=>if (decide (3 < v23)) = true then (some (true,w))
   else ((ix s 2 1).bind fun p26=>(ldI .u8 w p26).bind fun v28=>if (decide (59 < v28)) = true then (some (true,w))
   else ((ix s 3 1).bind fun p31=>(ldI .u8 w p31).bind fun v33=>if (decide (1 < v33)) = true then (some (true,w))
   else ((ix s 3 1).bind fun p36=>(ldI .u8 w p36).bind fun v38=>if (v38 == 0) = true then ((ix s 2 1).bind fun p41=>(ldI .u8 w p41).bind fun v43=>some ((v43 != 59),w))
   else (some (false,w)))))))))) = some (!good8 xs,w):=by
  by_cases hl : xs.length = 64
  ·have hlt : ∀ j : Int,0≤j→j < 64→j.toNat < xs.length:=fun j h0 h1=>by omega
   rw [if_neg (by simp; omega),ld1 h.rd (by decide) (hlt _ (by decide) (by decide)),ld1 h.rd (by decide) (hlt _ (by decide) (by decide)),ld1 h.rd (by decide) (hlt _ (by decide) (by decide)),ld1 h.rd (by decide) (hlt _ (by decide) (by decide)),
    ld1 h.rd (by decide) (hlt _ (by decide) (by decide)),ld1 h.rd (by decide) (hlt _ (by decide) (by decide)),ld1 h.rd (by decide) (hlt _ (by decide) (by decide)),ld1 h.rd (by decide) (hlt _ (by decide) (by decide))]
   simp only [ifO,ifA,Option.some.injEq,Prod.mk.injEq,and_true]
   simp only [good8,hl,decide_true,Bool.true_and,Bool.not_and,Bool.not_not,bne,← decide_not,Int.not_le,Bool.or_assoc,Bool.not_or]
   rfl
  ·rw [if_pos (by simp; omega)]
   simp [good8,hl]
 unfold evlog_good
 rw [t1,bind2_some,show goodL xs = if goodC xs = true then (xs.getD 1 0,(xs.drop 4).take (xs.getD 2 0).toNat,xs.getD 3 0 == 1) else (0,[],false) from rfl,good8_C]
 cases h8 : good8 xs with
 | false=>exact ⟨Sl.nil,w,by simp,H,Mo.r,PR.nil rfl,Nat.le_refl _⟩
 | true =>
  obtain ⟨hl,k1,k3,k2,_⟩:=good8_s h8
  have hlt : ∀ j : Int,0≤j→j < 64→j.toNat < xs.length:=fun j h0 h1=>by omega
  have r2:=by_rng (j:=2) hb
  obtain ⟨m,hm2⟩ : ∃ m : Nat,xs.getD 2 0 = m:=⟨(xs.getD 2 0).toNat,by omega⟩
  have hw : IntKind.wrap .i64 (4 + IntKind.wrap .i64 (xs.getD (2 : Int).toNat 0)) = ((4 + m : Nat) : Int):=by
   rw [show xs.getD (2 : Int).toNat 0 = (m : Int) from hm2,IntKind.wrap_i64,IntKind.wrap_i64]; omega
  obtain ⟨z1,e1,p1,n1,_⟩:=h.slN (lo:=4 + m) (hi:=63) (m:=s.c) (by omega) (by omega) (by omega) (Nat.le_refl _)
  have e1 : slS s ((4 + m : Nat) : Int) 63 (s.c : Int) 1 = some z1:=e1
  have hz : (xs.take 63).drop (4 + (xs.getD 2 0).toNat) = (xs.drop (4 + m)).take (63 - (4 + m)):=by rw [hm2,Int.toNat_natCast,List.drop_take]
  have e2:=empty_ok p1.rd (by omega)
  rw [if_neg (by simp),ld1 h.rd (by decide) (hlt _ (by decide) (by decide)),hw,e1,Option.bind_some,e2,bind2_some,hz,Bool.true_and]
  cases hzz : zeroL ((xs.drop (4 + m)).take (63 - (4 + m))) with
  | false=>exact ⟨Sl.nil,w,by simp,H,Mo.r,PR.nil rfl,Nat.le_refl _⟩
  | true =>
   obtain ⟨w2,e3,H2,m2⟩:=H.dr
   have h2:=h.mo m2
   obtain ⟨z3,e4,p3,n3,c3⟩:=h2.slN (lo:=4) (hi:=4 + m) (m:=4 + m) (by omega) (by omega) (Nat.le_refl _) (by omega)
   refine ⟨z3,w2,?_,H2,m2,?_,c3⟩
   ·rw [if_neg (by simp),e3,Option.bind_some,ld1 h2.rd (by decide) (hlt _ (by decide) (by decide)),show (4 : Int) = ((4 : Nat) : Int) from rfl,e4,Option.bind_some,ld1 h2.rd (by decide) (hlt _ (by decide) (by decide)),if_pos rfl]
    have : IntKind.wrap .i64 (xs.getD (1 : Int).toNat 0) = xs.getD 1 0:=by rw [show (1 : Int).toNat = 1 from rfl,wr64 (by omega) (by omega)]
    rw [this]; rfl
   ·rw [if_pos rfl]
    simp only
    rw [hm2,Int.toNat_natCast]
    rwa [Nat.add_sub_cancel_left] at p3
end
theorem laid_by {kind : Int} {p : List Int} {l : Bool} (hk : 0≤kind∧kind < 256) (hp : Bytes p) (hl : p.length≤59) : Bytes (laidL kind p l):=by
 intro b hb
 simp only [laidL,List.mem_append,List.mem_cons,List.not_mem_nil,or_false] at hb
 rcases hb with ((h | hb) | hb) | rfl
 ·rcases h with rfl | rfl | rfl | rfl
  ·decide
  ·exact hk
  ·omega
  ·split <;> decide
 ·exact hp b hb
 ·rw [(List.mem_replicate.1 hb).2]; decide
 ·decide
section
variable {F0 : Nat → Prop} {g g0 g' : Gh} {w w0 w' : World} {L : List Rs} {s z y : Sl} {xs p : List Int} {cs ys : List Value} {P : Program} {t e u : TypeId} {sz by_ : Nat} {Z : List Value}
theorem Hp.ocpy (st : ST P t e sz by_ Z) (H : Hp F0 g0 w0 g w (owR e sz z cs :: L)) {b o n c : Nat} (hp : z.p = some ⟨b,0,none⟩) (hn : 0 < z.n) (ho : o + n * sz≤cs.length) (hy : Rd w y sz ys) (h1 : ∀ v∈ys,v.oneCell' = true) :
  ∃ w',cpS P t u ⟨some ⟨b,o,none⟩,n,c⟩ y w = some (((min y.n n : Nat) : Int),w')∧Hp F0 g0 w0 g w' (owR e sz z (putL cs o (ys.take (min y.n n * sz))) :: L)∧Mo g w g w':=by
 have h0:=H.ow
 obtain ⟨b',rest,hp',hB,hr⟩:=h0.at_ hn
 rw [hp] at hp'; cases hp'
 have e1:=cpS_B (u:=u) (c:=c) st hB (by rw [List.length_append]; omega : o + n * sz≤(cs ++ rest).length) hy h1
 have hlen : (ys.take (min y.n n * sz)).length = min y.n n * sz:=by
  rw [List.length_take,hy.len]; exact Nat.min_eq_left (Nat.mul_le_mul_right _ (Nat.min_le_left _ _))
 have hle : min y.n n * sz≤n * sz:=Nat.mul_le_mul_right _ (Nat.min_le_right _ _)
 have e2 : putL (cs ++ rest) o (ys.take (min y.n n * sz)) = putL cs o (ys.take (min y.n n * sz)) ++ rest:=putL_app (by omega)
 rw [e2] at e1
 have hB':=B_wr (cs:=putL cs o (ys.take (min y.n n * sz)) ++ rest) hB
 obtain ⟨g',w'',⟨rfl,rfl⟩,h2,m⟩:=H.up (r':=owR e sz z (putL cs o (ys.take (min y.n n * sz)))) (Ψ:=fun g' w''=>g' = g∧w'' = wr w b (putL cs o (ys.take (min y.n n * sz)) ++ rest)) fun F h hF =>
  ⟨g,_,F,⟨rfl,rfl⟩,⟨⟨by rw [putL_length (by omega)]; exact h0.len,h0.cap,h0.max,.inr ⟨b,rest,hp,hB',hr⟩⟩,h.2⟩,sp_wr hB (hF _ ((h.2 _).2 ⟨_,hp,rfl⟩)) ((h.2 _).2 ⟨_,hp,rfl⟩) H.lt,fun k hk=>⟨hF k hk,.inl hk⟩⟩
 exact ⟨_,e1,h2,m⟩
theorem Hp.oput {T : TypeId} {k : IntKind} (H : Hp F0 g0 w0 g w (owR T 1 z (nums k xs) :: L)) {b : Nat} (hp : z.p = some ⟨b,0,none⟩) {j : Int} (h0 : 0≤j) (hj : j.toNat < xs.length) (v : Int) {ρ : Type} {f : World→Option ρ} :
  ∃ w',((ix z j 1).bind fun p=>(D.stV w p (.int k v)).bind f) = f w'∧Hp F0 g0 w0 g w' (owR T 1 z (nums k (xs.set j.toNat v)) :: L)∧Mo g w g w':=by
 have hl : xs.length = z.n:=by have:=H.ow.len; simpa using this
 obtain ⟨w',e,H1,m⟩:=H.oset (o:=j.toNat) (x:=.int k v) hp (by omega) (by simpa using hj) rfl
 refine ⟨w',?_,?_,m⟩
 ·unfold D.ix
  rw [hp,Option.bind_some,if_pos ⟨h0,by omega⟩,Option.bind_some,add_mk,Nat.mul_one,Nat.zero_add,e,Option.bind_some]
 ·rwa [show (nums k xs).set j.toNat (.int k v) = nums k (xs.set j.toNat v) by simp [nums,List.map_set]] at H1
theorem wr8 {x : Int} (h0 : 0≤x) (h1 : x < 256) : IntKind.wrap .u8 x = x:=by simp [IntKind.wrap,IntKind.bits,IntKind.signed]; omega
theorem laid_l (kind l n : Int) (hp : p.length≤59) : putL (nums .u8 [231,kind,n,l]  ++ nums .u8 (List.replicate 59 0 ++ [231])) 4 (nums .u8 p) = nums .u8 ([231,kind,n,l] ++ p ++ List.replicate (59 - p.length) 0 ++ [231]):=by
 unfold putL
 have e1 : (nums .u8 [231,kind,n,l] ++ nums .u8 (List.replicate 59 0 ++ [231])).take 4 = nums .u8 [231,kind,n,l]:=rfl
 have e2 : (nums .u8 [231,kind,n,l] ++ nums .u8 (List.replicate 59 0 ++ [231])).drop (4 + (nums .u8 p).length) = nums .u8 (List.replicate (59 - p.length) 0 ++ [231]):=by
  rw [List.drop_append,show (nums .u8 [231,kind,n,l]).length = 4 from rfl,List.drop_of_length_le (by rw [show (nums .u8 [231,kind,n,l]).length = 4 from rfl]; omega),List.nil_append,Nat.add_sub_cancel_left,nums_length]
  unfold nums
  rw [← List.map_drop,List.drop_append_of_le_length (by simpa using hp),List.drop_replicate]
 rw [e1,e2]
 simp [nums]
theorem laid_ok (H : Hp F0 g0 w0 g w L) (h : PR g w y 1 (nums .u8 p)) (hp : p.length≤59) {kind : Int} (k0 : 0≤kind) (k1 : kind < 256) (l : Bool) :
  ∃ z w',evlog_laid kind y l w = some (z,w')∧Hp F0 g0 w0 g w' (owR 5 1 z (nums .u8 (laidL kind p l)) :: L)∧Mo g w g w':=by
 have hn : p.length = y.n:=by have:=h.rd.len; simpa using this
 obtain ⟨z,w1,e1,n1,c1,H1,m1⟩:=H.mkS st29 (m:=64) (by decide) (by decide)
 rw [show (64 : Int).toNat = 64 from rfl] at n1 c1 H1
 have hz : (List.replicate 64 [Value.int .u8 0]).flatten = nums .u8 (List.replicate 64 0):=by rw [zeros_u8]
 rw [hz] at H1
 obtain ⟨b,rest,hpz,-,-⟩:=H1.ow.at_ (by omega)
 have w8k:=wr8 k0 k1
 have w8n : IntKind.wrap .u8 (y.n : Int) = (p.length : Int):=by rw [hn]; exact wr8 (by omega) (by omega)
 unfold evlog_laid
 rw [e1,bind2_some,w8k,w8n]
 obtain ⟨w2,e2,H2,m2⟩:=H1.oput hpz (j:=0) (by decide) (by decide) 231 (f:=fun w6=>(ix z 1 1).bind fun p8=>(stV w6 p8 (.int .u8 kind)).bind fun w10=>(ix z 2 1).bind fun p12=>(stV w10 p12 (.int .u8 (p.length : Int))).bind fun w14=>(ix z 63 1).bind fun p16=>(stV w14 p16 (.int .u8 231)).bind fun w18 =>
  (if l = true then ((ix z 3 1).bind fun p24=>(stV w18 p24 (.int .u8 1)).bind fun w26=>some w26) else (some w18)).bind fun w20=>(slS z 4 (z.n : Int) (z.c : Int) 1).bind fun s28=>bind2 (cpS Try.prog 72 72 s28 y w20) fun v30 w31=>some (z,w31))
 rw [e2]
 obtain ⟨w3,e3,H3,m3⟩:=H2.oput hpz (j:=1) (by decide) (by simp) kind (f:=fun w10=>(ix z 2 1).bind fun p12=>(stV w10 p12 (.int .u8 (p.length : Int))).bind fun w14=>(ix z 63 1).bind fun p16=>(stV w14 p16 (.int .u8 231)).bind fun w18 =>
  (if l = true then ((ix z 3 1).bind fun p24=>(stV w18 p24 (.int .u8 1)).bind fun w26=>some w26) else (some w18)).bind fun w20=>(slS z 4 (z.n : Int) (z.c : Int) 1).bind fun s28=>bind2 (cpS Try.prog 72 72 s28 y w20) fun v30 w31=>some (z,w31))
 rw [e3]
 obtain ⟨w4,e4,H4,m4⟩:=H3.oput hpz (j:=2) (by decide) (by simp) (p.length : Int) (f:=fun w14=>(ix z 63 1).bind fun p16=>(stV w14 p16 (.int .u8 231)).bind fun w18 =>
  (if l = true then ((ix z 3 1).bind fun p24=>(stV w18 p24 (.int .u8 1)).bind fun w26=>some w26) else (some w18)).bind fun w20=>(slS z 4 (z.n : Int) (z.c : Int) 1).bind fun s28=>bind2 (cpS Try.prog 72 72 s28 y w20) fun v30 w31=>some (z,w31))
 rw [e4]
 obtain ⟨w5,e5,H5,m5⟩:=H4.oput hpz (j:=63) (by decide) (by simp) 231 (f:=fun w18 =>
  (if l = true then ((ix z 3 1).bind fun p24=>(stV w18 p24 (.int .u8 1)).bind fun w26=>some w26) else (some w18)).bind fun w20=>(slS z 4 (z.n : Int) (z.c : Int) 1).bind fun s28=>bind2 (cpS Try.prog 72 72 s28 y w20) fun v30 w31=>some (z,w31))
 rw [e5]
 obtain ⟨w6,e6,H6,m6⟩ : ∃ w6,(if l = true then ((ix z 3 1).bind fun p24=>(stV w5 p24 (.int .u8 1)).bind fun w26=>some w26) else (some w5)) = some w6∧Hp F0 g0 w0 g w6 (owR 5 1 z (nums .u8 ([231,kind,(p.length : Int),if l = true then 1 else 0] ++ (List.replicate 59 0 ++ [231]))) :: L)∧Mo g w5 g w6:=by
  cases l with
  | false=>exact ⟨w5,by simp,H5,Mo.r⟩
  | true =>
   obtain ⟨w6,e6,H6,m6⟩:=H5.oput hpz (j:=3) (by decide) (by simp) 1 (f:=fun w26=>some w26)
   exact ⟨w6,by rw [if_pos rfl,e6],H6,m6⟩
 have h6:=h.mo (m1.t (m2.t (m3.t (m4.t (m5.t m6)))))
 obtain ⟨w7,e7,H7,m7⟩:=H6.ocpy st29 (u:=72) (o:=4) (n:=60) (c:=60) hpz (by omega) (by simp) h6.rd nums_one
 have hsl : slS z 4 (z.n : Int) (z.c : Int) 1 = some ⟨some ⟨b,4,none⟩,60,60⟩:=by rw [n1,c1]; unfold slS; rw [hpz,if_pos (by omega)]; rfl
 rw [e6,Option.bind_some,hsl,Option.bind_some,e7,bind2_some]
 refine ⟨z,w7,rfl,?_,m1.t (m2.t (m3.t (m4.t (m5.t (m6.t m7)))))⟩
 have hmin : (nums .u8 p).take (min y.n 60 * 1) = nums .u8 p:=List.take_of_length_le (by rw [nums_length]; omega)
 rw [hmin] at H7
 have:=laid_l (p:=p) kind (if l = true then 1 else 0) (p.length : Int) hp
 rw [show nums .u8 ([231,kind,(p.length : Int),if l = true then 1 else 0] ++ (List.replicate 59 0 ++ [231])) = nums .u8 [231,kind,(p.length : Int),if l = true then 1 else 0] ++ nums .u8 (List.replicate 59 0 ++ [231]) by simp [nums],this] at H7
 exact H7
end
structure LC (cs : List Value) (x : Nat) (base : Int) : Prop where
 d : cs[0]? = some (.pointer (some ⟨x,0,none⟩))
 b : cs[2]? = some (.int .i64 base)
 b0 : 0≤base
 b1 : base≤512
abbrev lbR (p : Nat) (cs : List Value) : Rs:=bxR p cs 119
def sgC (s : Sg) (z : Sl) : List Value:=[.int .i64 s.pos,.int .i64 s.seq,.int .i64 s.fin,.int .i64 s.high,z.v]
def sg0 : List Value:=List.replicate 4 (.int .i64 0) ++ [.slice none 0 0]
def hdV : Option Sg→List Value
 | some s=>sgC s Sl.nil
 | none=>sg0
def rcC (t : Int) (z : Sl) : List Value:=[.int .i64 t,z.v]
section
variable {F0 : Nat → Prop} {g g0 g' : Gh} {w w0 w' : World} {L : List Rs} {s z y : Sl} {xs : List Int} {cs ys : List Value} {x p : Nat} {D : Dk} {base pos i : Int}
theorem at_ok (hc : LC cs x base) (hp : 0≤pos∧pos≤16) (hi : 0≤i∧i≤16) (hb : B w p = some (cs,119)) : evlog_Log_at (some ⟨p,0,none⟩) pos i w = some (base + 2 + pos * 16 + i,w):=by
 have h0:=hc.b0
 have h1:=hc.b1
 unfold evlog_Log_at
 rw [Option.bind_some,add_mk,Nat.zero_add,ldI_B hb hc.b,Option.bind_some]
 congr 2
 rw [IntKind.wrap_i64,IntKind.wrap_i64,IntKind.wrap_i64,IntKind.wrap_i64]; omega
theorem look_len (h : D.Wf) : (D.look base pos i).length≤64:=read_len h _
theorem look_by (h : D.Bt) : Bytes (D.look base pos i):=read_bytes h _
theorem look_ok (hc : LC cs x base) (hp : 0≤pos∧pos≤16) (hi : 0≤i∧i≤16) (H : Hp F0 g0 w0 g w (lbR p cs :: dkR x D :: L)) (hbd : D.W.length < 900000) :
  ∃ z g' w',evlog_Log_look (some ⟨p,0,none⟩) pos i w = some (z,w')∧Hp F0 g0 w0 g' w' (lbR p cs :: dkR x D :: L)∧Mo g w g' w'∧PR g' w' z 1 (nums .u8 (D.look base pos i))∧z.n≤z.c∧z.n≤64:=by
 obtain ⟨w1,e1,H1,m1⟩:=H.dr
 have l0 : ldP w1 ⟨p,0,none⟩ = some (some ⟨x,0,none⟩):=H1.ldP hc.d
 have a1:=at_ok hc hp hi H1.bx
 obtain ⟨o,w2,T,e2,H2,m2⟩:=H1.sw.dread (base + 2 + pos * 16 + i) (by omega)
 have hcap:=H2.ow.cap
 obtain ⟨g3,r3,H3,m3⟩:=H2.keepO
 have hl:=look_len (base:=base) (pos:=pos) (i:=i) H1.sw.dwf
 refine ⟨o,g3,w2,?_,H3.sw,m1.t (m2.t m3),r3,hcap,?_⟩
 ·unfold evlog_Log_look
  rw [e1,Option.bind_some,Option.bind_some,add_mk,Nat.zero_add,l0,Option.bind_some,a1,bind2_some,e2,bind3_some,chk_pos l0]
 ·have:=r3.rd.len
  rw [nums_length] at this
  have h2 : (D.read (base + 2 + pos * 16 + i)).1.length≤64:=hl
  omega
theorem take_no (h : s.n < 8) : octet_TakeKey s 0 w = some (0,0,3,w):=by
 unfold octet_TakeKey
 rw [if_neg (by simp),decide_eq_false (by omega),bind2_some,if_neg (by simp),if_pos (by rw [decide_eq_true_eq,wr64 (by omega) (by omega)]; omega)]
theorem good_len (xs : List Int) : (goodL xs).2.1.length≤59:=by
 unfold goodL
 split
 ·rename_i h
  rw [good8_C] at h
  obtain ⟨_,_,_,k2,_⟩:=good8_s (by simp only [Bool.and_eq_true] at h; exact h.1)
  simp only [List.length_take,List.length_drop]
  omega
 ·simp
theorem good_by (h : Bytes xs) : Bytes (goodL xs).2.1:=by
 unfold goodL
 split
 ·exact fun b hb=>h b (List.mem_of_mem_drop (List.mem_of_mem_take hb))
 ·intro b hb; cases hb
theorem header_ok (hc : LC cs x base) (hp : 0≤pos∧pos≤16) (H : Hp F0 g0 w0 g w (lbR p cs :: dkR x D :: L)) (hbt : D.Bt) (hbd : D.W.length < 900000) :
  ∃ g' w',evlog_Log_header (some ⟨p,0,none⟩) pos w = some (hdV (headL pos (D.look base pos 0)),(headL pos (D.look base pos 0)).isSome,w')∧Hp F0 g0 w0 g' w' (lbR p cs :: dkR x D :: L)∧Mo g w g' w':=by
 obtain ⟨pb,w1,e1,H1,m1⟩:=H.box (T:=125) (cs:=sg0)
 obtain ⟨z,g2,w2,e2,H2,m2,r2,c2,n2⟩:=look_ok (i:=0) hc hp (by omega) H1.b2 hbd
 obtain ⟨q,w3,e3,H3,m3,r3,c3⟩:=good_ok H2 r2 (look_by hbt) c2 (by omega)
 obtain ⟨b,hb⟩ : ∃ b,D.look base pos 0 = b:=⟨_,rfl⟩
 have hby : Bytes b:=by rw [← hb]; exact look_by hbt
 rw [hb] at e3 r3 ⊢
 have hqn : (goodL b).2.1.length = q.n:=by have:=r3.rd.len; simpa using this
 have H3':=H3.m2
 have fin : ∀ (vs : List Value) (ok : Bool),vs.length = 5→(∀ v∈vs,v.oneCell' = true)→∃ g' w',((stA w3 ⟨pb,0,none⟩ 0 vs).bind fun w19=>(ldA 5 w19 ⟨pb,0,none⟩ 0).bind fun v21=>some (v21,ok,w19)) = some (vs,ok,w')∧Hp F0 g0 w0 g' w' (lbR p cs :: dkR x D :: L)∧Mo g w g' w':=fun vs ok hl h1=>by
  obtain ⟨w4,e4,H4,m4⟩:=H3'.stA (o:=0) (vs:=vs) (by rw [hl]; simp [sg0]) h1
  rw [putL_full (by rw [hl]; simp [sg0])] at H4
  have l4 : ldA 5 w4 ⟨pb,0,none⟩ 0 = some vs:=by
   rw [ldA_B H4.bx (by omega),List.drop_zero,List.take_of_length_le (by omega)]
  exact ⟨g2,w4,by rw [e4,Option.bind_some,l4,Option.bind_some],H4.tl,m1.t (m2.t (m3.t m4))⟩
 have e1' : mk w 125 (List.replicate 4 (.int .i64 0) ++ [.slice none 0 0]) = some (⟨pb,0,none⟩,w1):=e1
 have t1 : (if ((goodL b).1 != 1) = true then some (true,w3) else if (!(goodL b).2.2) = true then some (true,w3) else some (((q.n : Int) != 16),w3)) = some (!((goodL b).1 == 1 && (goodL b).2.2 && decide ((goodL b).2.1.length = 16)),w3):=by
  rw [ifO,ifO]
  congr 2
  rw [hqn]
  simp only [bne,Bool.not_and,Bool.or_assoc]
  congr 3
  by_cases h : q.n = 16 <;> simp [h]
  omega
 unfold evlog_Log_header
 rw [e1',bind2_some,e2,bind2_some,e3,bind4_some,t1,bind2_some]
 unfold headL headC
 cases h1 : ((goodL b).1 == 1 && (goodL b).2.2 && decide ((goodL b).2.1.length = 16)) with
 | false =>
  obtain ⟨g',w',e,H',m'⟩:=fin sg0 false rfl (by intro v hv; simp [sg0] at hv; rcases hv with rfl | rfl <;> rfl)
  exact ⟨g',w',e,H',m'⟩
 | true =>
  have h16 : (goodL b).2.1.length = 16:=by simp only [Bool.and_eq_true,decide_eq_true_eq] at h1; exact h1.2
  have k1:=take_ok (i:=0) r3.rd (good_by hby) (by omega) c3 (by omega)
  have k2:=take_ok (i:=8) r3.rd (good_by hby) (by omega) c3 (by omega)
  have k1' : octet_TakeKey q 0 w3 = some (takeK (goodL b).2.1 0,((0 + 8 : Nat) : Int),0,w3):=k1
  have k2' : octet_TakeKey q 8 w3 = some (takeK (goodL b).2.1 8,((8 + 8 : Nat) : Int),0,w3):=k2
  obtain ⟨n,hn⟩ : ∃ n,takeK (goodL b).2.1 0 = n:=⟨_,rfl⟩
  obtain ⟨t,ht⟩ : ∃ t,takeK (goodL b).2.1 8 = t:=⟨_,rfl⟩
  rw [hn] at k1' ⊢
  rw [ht] at k2' ⊢
  have t2 : (if decide (n < 1) = true then some (true,w3) else if decide (4611686018427387904 < n) = true then some (true,w3) else if decide (t < 0) = true then some (true,w3) else some (decide (1099511627776 < t),w3)) = some (!hdC n t,w3):=by
   rw [ifO,ifO,ifO]
   congr 2
   simp only [hdC,Bool.not_and,← decide_not,Int.not_le,Bool.or_assoc]
  rw [if_neg (by simp),k1',bind4_some,k2',bind4_some,t2,bind2_some,Bool.true_and]
  cases h2 : hdC n t with
  | false =>
   obtain ⟨g',w',e,H',m'⟩:=fin sg0 false rfl (by intro v hv; simp [sg0] at hv; rcases hv with rfl | rfl <;> rfl)
   exact ⟨g',w',e,H',m'⟩
  | true =>
   obtain ⟨g',w',e,H',m'⟩:=fin (sgC ⟨pos,n,1,t,[]⟩ Sl.nil) true rfl (by intro v hv; simp [sgC] at hv; rcases hv with rfl | rfl | rfl | rfl | rfl <;> rfl)
   exact ⟨g',w',e,H',m'⟩
def tickC (t : Int) : Bool:=decide (0≤t) && decide (t≤1099511627776)
def RcOk (g : Gh) (w : World) (q : Int→Bool) (o : Option (Int×List Int×Int)) (vs : List Value) (nx : Int) (ok : Bool) : Prop :=
 (∃ t z,vs = rcC t z)∧match o with
 | some r=>ok = q r.1∧(ok = true→nx = r.2.2∧∃ z,vs = rcC r.1 z∧PR g w z 1 (nums .u8 r.2.1)∧z.n≤z.c)
 | none=>ok = false
theorem RcOk.mo {q : Int→Bool} {o : Option (Int×List Int×Int)} {nx : Int} {ok : Bool} (h : RcOk g w q o cs nx ok) (m : Mo g w g' w') : RcOk g' w' q o cs nx ok:=by
 refine ⟨h.1,?_⟩
 have h2:=h.2
 cases o with
 | none=>exact h2
 | some r=>exact ⟨h2.1,fun hk=>by obtain ⟨h3,z,h4,h5,h6⟩:=h2.2 hk; exact ⟨h3,z,h4,h5.mo m,h6⟩⟩
theorem Hp.stA' {b : Nat} {T : TypeId} {vs : List Value} (H : Hp F0 g0 w0 g w (bxR b cs T :: L)) (hl : vs.length = cs.length) (h1 : ∀ v∈vs,v.oneCell' = true) :
  ∃ w',Go.Proofs.Ytejkaciimmfgcaa.D.stA w ⟨b,0,none⟩ 0 vs = some w'∧Hp F0 g0 w0 g w' (bxR b vs T :: L)∧Mo g w g w'∧ldA cs.length w' ⟨b,0,none⟩ 0 = some vs:=by
 obtain ⟨w',e,H',m⟩:=H.stA (o:=0) (vs:=vs) (by omega) h1
 rw [putL_full hl] at H'
 refine ⟨w',e,H',m,?_⟩
 rw [ldA_B H'.bx (by omega),List.drop_zero,List.take_of_length_le (by omega)]
theorem record_ok (hc : LC cs x base) (hp : 0≤pos∧pos≤16) (H : Hp F0 g0 w0 g w (lbR p cs :: dkR x D :: L)) (hbt : D.Bt) (hbd : D.W.length < 900000) (hi : 0≤i∧i≤16) :
  ∃ vs nx ok g' w',evlog_Log_record (some ⟨p,0,none⟩) pos i w = some (vs,nx,ok,w')∧Hp F0 g0 w0 g' w' (lbR p cs :: dkR x D :: L)∧Mo g w g' w'∧RcOk g' w' tickC (D.rcd base pos (16 - i).toNat i 2 []) vs nx ok:=by
 obtain ⟨pb,w1,e1,H1,m1⟩:=H.box (T:=87) (cs:=rcC 0 Sl.nil)
 have e1' : mk w 87 [.int .i64 0,.slice none 0 0] = some (⟨pb,0,none⟩,w1):=e1
 have lp:=Ex.loop (step:=fun s : Int×Sl×Int×World=>evlog_Log_record_l1 (some ⟨p,0,none⟩) pos ⟨pb,0,none⟩ s.1 s.2.1 s.2.2.1 s.2.2.2)
  (Φ:=fun o=>match o with
   | .inl w'=>∃ g',Hp F0 g0 w0 g' w' (bxR pb (rcC 0 Sl.nil) 87 :: lbR p cs :: dkR x D :: L)∧Mo g w1 g' w'∧RcOk g' w' tickC (D.rcd base pos (16 - i).toNat i 2 []) (rcC 0 Sl.nil) 0 false
   | .inr (nx,ok,w')=>∃ vs g',vs.length = 2∧Hp F0 g0 w0 g' w' (bxR pb vs 87 :: lbR p cs :: dkR x D :: L)∧Mo g w1 g' w'∧RcOk g' w' tickC (D.rcd base pos (16 - i).toNat i 2 []) vs nx ok)
  (fun m s=>∃ (j want : Int) (z : Sl) (all : List Int) (g1 : Gh) (w' : World),s = (j,z,want,w')∧(m : Int) + j = 16∧0≤j∧D.rcd base pos m j want all = D.rcd base pos (16 - i).toNat i 2 []∧Bytes all∧(all.length : Int) + 59 * m≤944 ∧
   Hp F0 g0 w0 g1 w' (owR 5 1 z (nums .u8 all) :: bxR pb (rcC 0 Sl.nil) 87 :: lbR p cs :: dkR x D :: L)∧Mo g w1 g1 w') (fun m s hI=>by
   obtain ⟨j,want,z,all,g1,w',rfl,hm,hj,hr,hby,hal,Hi,mi⟩:=hI
   unfold evlog_Log_record_l1
   by_cases hlt : j < 16
   ·obtain ⟨m,rfl⟩ : ∃ k,m = k + 1:=⟨m - 1,by omega⟩
    obtain ⟨q,g2,w2,e2,H2,m2,r2,c2,n2⟩:=look_ok (i:=j) hc hp (by omega) (Hi.perm (L':=lbR p cs :: dkR x D :: owR 5 1 z (nums .u8 all) :: bxR pb (rcC 0 Sl.nil) 87 :: L) (by exact (List.perm_append_comm (l₁:=[owR 5 1 z (nums .u8 all),bxR pb (rcC 0 Sl.nil) 87]) (l₂:=[lbR p cs,dkR x D])).append_right L)) hbd
    obtain ⟨y,w3,e3,H3,m3,r3,c3⟩:=good_ok H2 r2 (look_by hbt) c2 (by omega)
    obtain ⟨b,hb⟩ : ∃ b,D.look base pos j = b:=⟨_,rfl⟩
    have hbb : Bytes b:=by rw [← hb]; exact look_by hbt
    have hgl:=good_len b
    have hgb:=good_by hbb
    rw [Dk.rcd,hb] at hr
    rw [hb] at e3 r3
    have hyn : (goodL b).2.1.length = y.n:=by have:=r3.rd.len; simpa using this
    have mi3:=mi.t (m2.t m3)
    have H3':=H3.perm (L':=owR 5 1 z (nums .u8 all) :: bxR pb (rcC 0 Sl.nil) 87 :: lbR p cs :: dkR x D :: L) (by exact (List.perm_append_comm (l₁:=[lbR p cs,dkR x D]) (l₂:=[owR 5 1 z (nums .u8 all),bxR pb (rcC 0 Sl.nil) 87])).append_right L)
    refine Ex.t (by simpa using hlt) (Ex.b2 e2 (Ex.b4 e3 ?_))
    by_cases hk : (goodL b).1 = want
    ·rw [if_pos hk] at hr
     have hzn : all.length = z.n:=by have:=H3'.ow.len; simpa using this
     obtain ⟨z4,w4,e4,n4,H4,m4⟩:=H3'.apS st29 r3.rd nums_one (by omega)
     have hn4 : nums .u8 all ++ nums .u8 (goodL b).2.1 = nums .u8 (all ++ (goodL b).2.1):=by simp [nums]
     rw [hn4] at H4
     obtain ⟨al,hal2⟩ : ∃ al,all ++ (goodL b).2.1 = al:=⟨_,rfl⟩
     have hall : al.length = z4.n:=by have:=H4.ow.len; rw [hal2] at this; simpa using this
     have haln : al.length = all.length + (goodL b).2.1.length:=by rw [← hal2,List.length_append]
     have halb : Bytes al:=by rw [← hal2]; intro v hv; exact (List.mem_append.1 hv).elim (hby v) (hgb v)
     rw [hal2] at H4 hr
     refine Ex.f (by simpa using hk) (Ex.b2 e4 ?_)
     by_cases hl : (goodL b).2.2 = true
     ·rw [if_pos hl] at hr
      refine Ex.t hl ?_
      by_cases h8 : al.length < 8
      ·rw [if_pos h8] at hr
       refine Ex.b4 (take_no (by omega)) (Ex.b2 (a:=true) (b:=w4) (by simp) (Ex.t rfl (Ex.ret ?_)))
       exact ⟨g2,H4.tl,mi3.t m4,⟨0,Sl.nil,rfl⟩,by rw [← hr]⟩
      ·rw [if_neg h8] at hr
       have hcap:=H4.ow.cap
       have k1 : octet_TakeKey z4 0 w4 = some (takeK al 0,((0 + 8 : Nat) : Int),0,w4):=take_ok (i:=0) H4.ow.rd halb (by omega) hcap (by omega)
       obtain ⟨t,ht⟩ : ∃ t,takeK al 0 = t:=⟨_,rfl⟩
       rw [ht] at k1 hr
       have t1 : (if ((0 : Int) != 0) = true then some (true,w4) else if decide (t < 0) = true then some (true,w4) else some (decide (1099511627776 < t),w4)) = some (!tickC t,w4):=by
        rw [if_neg (by decide),ifO,show (decide (t < 0) || decide (1099511627776 < t)) = !tickC t by simp only [tickC,Bool.not_and,← decide_not,Int.not_le]]
       refine Ex.b4 k1 (Ex.b2 t1 ?_)
       cases hq : tickC t with
       | false =>
        refine Ex.t rfl (Ex.ret ⟨g2,H4.tl,mi3.t m4,⟨0,Sl.nil,rfl⟩,?_⟩)
        rw [← hr]
        exact ⟨hq.symm,fun h=>by cases h⟩
       | true =>
        obtain ⟨g5,r5,H5,m5⟩:=H4.keepO
        obtain ⟨z6,e6,r6,n6,c6⟩:=r5.slN (lo:=8) (hi:=z4.n) (m:=z4.c) (by omega) (Nat.le_refl _) hcap (Nat.le_refl _)
        obtain ⟨w7,e7,H7,m7,l7⟩:=H5.stA' (vs:=rcC t z6) rfl (by intro v hv; simp [rcC] at hv; rcases hv with rfl | rfl <;> rfl)
        refine Ex.f (by simp) (Ex.b1 e6 (Ex.b1 e7 (Ex.ret ⟨rcC t z6,g5,rfl,H7,mi3.t (m4.t (m5.t m7)),⟨t,z6,rfl⟩,?_⟩)))
        rw [← hr]
        refine ⟨hq.symm,fun _=>⟨by rw [wr64 (by omega) (by omega)],z6,rfl,?_,c6⟩⟩
        have r6:=r6.mo m7
        rwa [List.take_of_length_le (by rw [List.length_drop]; omega)] at r6
     ·rw [if_neg hl] at hr
      refine Ex.f hl (Ex.ret ⟨m,by omega,j + 1,3,z4,al,g2,w4,by rw [wr64 (by omega) (by omega)],by omega,by omega,hr,halb,by omega,H4,mi3.t m4⟩)
    ·rw [if_neg hk] at hr
     refine Ex.t (by simpa using hk) (Ex.ret ⟨g2,H3'.tl,mi3,⟨0,Sl.nil,rfl⟩,by rw [← hr]⟩)
   ·obtain rfl : m = 0:=by omega
    refine Ex.f (by simpa using hlt) (Ex.ret ⟨g1,Hi.tl,mi,⟨0,Sl.nil,rfl⟩,?_⟩)
    rw [← hr]; rfl) (16 - i).toNat (i,Sl.nil,2,w1) ⟨i,2,Sl.nil,[],g,w1,rfl,by omega,by omega,rfl,(fun b hb=>by cases hb),by simp; omega,H1.onil,Mo.r⟩
 obtain ⟨o,e2,ho⟩:=lp
 unfold evlog_Log_record
 rw [e1',bind2_some,e2,Option.bind_some]
 cases o with
 | inl w' =>
  obtain ⟨g2,H2,m2,h2⟩:=ho
  obtain ⟨w3,e3,H3,m3,l3⟩:=H2.stA' (vs:=rcC 0 Sl.nil) rfl (by intro v hv; simp [rcC] at hv; rcases hv with rfl | rfl <;> rfl)
  have e3' : stA w' ⟨pb,0,none⟩ 0 [.int .i64 0,.slice none 0 0] = some w3:=e3
  have l3' : ldA 2 w3 ⟨pb,0,none⟩ 0 = some (rcC 0 Sl.nil):=l3
  refine ⟨rcC 0 Sl.nil,0,false,g2,w3,?_,H3.tl,m1.t (m2.t m3),h2.mo m3⟩
  simp only [Sum.elim_inl,u1,e3',Option.bind_some,l3']
 | inr r =>
  obtain ⟨nx,ok,w'⟩:=r
  obtain ⟨vs,g2,hl,H2,m2,h2⟩:=ho
  refine ⟨vs,nx,ok,g2,w',?_,H2.tl,m1.t m2,h2⟩
  have l3' : ldA 2 w' ⟨pb,0,none⟩ 0 = some vs:=by
   rw [ldA_B H2.bx (by omega),List.drop_zero,List.take_of_length_le (by omega)]
  simp only [Sum.elim_inr,u3,l3',Option.bind_some]
end
section
variable {F0 : Nat → Prop} {g g0 g' : Gh} {w w0 w' : World} {L : List Rs} {z : Sl} {α : Type} {f : α → List Value} {sz : Nat} {T : TypeId} {ps : List α} {q q' : α} {j : Nat}
theorem fl_get (hf : ∀ q∈ps,(f q).length = sz) (hj : ps[j]? = some q) {k : Nat} (hk : k < sz) : (ps.flatMap f)[j * sz + k]? = (f q)[k]?:=by
 induction ps generalizing j with
 | nil=>cases hj
 | cons a ps ih =>
  have ha:=hf a (by simp)
  rw [List.flatMap_cons]
  cases j with
  | zero=>cases hj; rw [Nat.zero_mul,Nat.zero_add,List.getElem?_append_left (by omega)]
  | succ j =>
   rw [List.getElem?_append_right (by rw [ha,Nat.succ_mul]; omega),← ih (fun q hq=>hf q (by simp [hq])) (by simpa using hj),ha]
   congr 1
   rw [Nat.succ_mul]; omega
theorem fl_len (hf : ∀ q∈ps,(f q).length = sz) : (ps.flatMap f).length = ps.length * sz:=flatLen ps hf
theorem fl_set (hf : ∀ q∈ps,(f q).length = sz) (hj : ps[j]? = some q) {k : Nat} (hk : k < sz) {v : Value} (h : f q' = (f q).set k v) : (ps.flatMap f).set (j * sz + k) v = (ps.set j q').flatMap f:=by
 induction ps generalizing j with
 | nil=>cases hj
 | cons a ps ih =>
  have ha:=hf a (by simp)
  rw [List.flatMap_cons]
  cases j with
  | zero=>cases hj; rw [Nat.zero_mul,Nat.zero_add,List.set_append_left _ _ (by omega),List.set_cons_zero,List.flatMap_cons,h]
  | succ j =>
   rw [List.set_append_right _ _ (by rw [ha,Nat.succ_mul]; omega),List.set_cons_succ,List.flatMap_cons,← ih (fun q hq=>hf q (by simp [hq])) (by simpa using hj),ha]
   congr 2
   rw [Nat.succ_mul]; omega
theorem fl_put (hf : ∀ q∈ps,(f q).length = sz) (hj : ps[j]? = some q) (h : (f q').length = sz) : putL (ps.flatMap f) (j * sz) (f q') = (ps.set j q').flatMap f:=by
 induction ps generalizing j with
 | nil=>cases hj
 | cons a ps ih =>
  have ha:=hf a (by simp)
  rw [List.flatMap_cons]
  cases j with
  | zero=>cases hj; simp [putL,h,← ha]
  | succ j =>
   have:=ih (fun q hq=>hf q (by simp [hq])) (j:=j) (by simpa using hj)
   rw [List.set_cons_succ,List.flatMap_cons,← this]
   unfold putL
   have e1 : (j + 1) * sz = sz + j * sz:=by rw [Nat.succ_mul]; omega
   rw [e1,takeA _ _ ha,show sz + j * sz + (f q').length = sz + (j * sz + (f q').length) by omega,dropA _ _ ha]
   simp only [List.append_assoc]
structure El (w : World) (z : Sl) (sz : Nat) (b j : Nat) (cs : List Value) : Prop where
 p : z.p = some ⟨b,0,none⟩
 n : j < z.n
 ix : ix z (j : Int) sz = some ⟨b,j * sz,none⟩
 at_ : ∀ (k : Nat) (v : Value),cs[k]? = some v→w.cell? ⟨b,j * sz + k,none⟩ = some v
 ldA : ldA sz w ⟨b,j * sz,none⟩ 0 = some cs
theorem Hp.el (H : Hp F0 g0 w0 g w (owR T sz z (ps.flatMap f) :: L)) (hf : ∀ q∈ps,(f q).length = sz) (hs : 0 < sz) (hj : ps[j]? = some q) : ∃ b,El w z sz b j (f q):=by
 have ho:=H.ow
 have hl:=ho.len
 rw [fl_len hf] at hl
 have hjl : j < ps.length:=(List.getElem?_eq_some_iff.1 hj).1
 have hn : ps.length = z.n:=Nat.eq_of_mul_eq_mul_right hs hl
 obtain ⟨b,rest,hp,hB,hr⟩:=ho.at_ (by omega)
 have hql : (f q).length = sz:=hf q (List.mem_of_getElem? hj)
 have hle : j * sz + sz≤ps.length * sz:=by rw [← Nat.succ_mul]; exact Nat.mul_le_mul_right _ hjl
 have hc : ∀ (k : Nat) (v : Value),(f q)[k]? = some v→w.cell? ⟨b,j * sz + k,none⟩ = some v:=fun k v hv=>by
  have hk : k < sz:=by have:=(List.getElem?_eq_some_iff.1 hv).1; omega
  rw [cell_B hB,List.getElem?_append_left (by rw [fl_len hf]; omega),fl_get hf hj hk,hv]
 refine ⟨b,hp,by omega,?_,hc,ldA_cells sz w _ 0 (f q) hql fun k v hv=>?_⟩
 ·unfold Go.Proofs.Ytejkaciimmfgcaa.D.ix
  rw [hp,Option.bind_some,if_pos ⟨by omega,by omega⟩,add_mk]
  simp
 ·rw [add_mk,Nat.zero_add]; exact hc k v hv
theorem El.i {b : Nat} {cs : List Value} (h : El w z sz b j cs) {k : Nat} {kk : IntKind} {x : Int} (hx : cs[k]? = some (.int kk x)) : ldI kk w ⟨b,j * sz + k,none⟩ = some x:=ldI_cell (h.at_ k _ hx)
theorem El.l {b : Nat} {cs : List Value} (h : El w z sz b j cs) {k : Nat} {x : Sl} (hx : cs[k]? = some x.v) : ldL w ⟨b,j * sz + k,none⟩ = some x:=ldL_cell (h.at_ k _ hx)
theorem Hp.elset (H : Hp F0 g0 w0 g w (owR T sz z (ps.flatMap f) :: L)) (hf : ∀ q∈ps,(f q).length = sz) {b : Nat} (he : El w z sz b j (f q)) (hj : ps[j]? = some q) {k : Nat} (hk : k < sz) {v : Value} (h : f q' = (f q).set k v) (h1 : v.oneCell' = true) :
  ∃ w',D.stV w ⟨b,j * sz + k,none⟩ v = some w'∧Hp F0 g0 w0 g w' (owR T sz z ((ps.set j q').flatMap f) :: L)∧Mo g w g w':=by
 have hjl : j < ps.length:=(List.getElem?_eq_some_iff.1 hj).1
 have hle : j * sz + sz≤ps.length * sz:=by rw [← Nat.succ_mul]; exact Nat.mul_le_mul_right _ hjl
 obtain ⟨w',e,H',m⟩:=H.oset (o:=j * sz + k) (x:=v) he.p (by have:=he.n; omega) (by rw [fl_len hf]; omega) h1
 rw [fl_set hf hj hk h] at H'
 exact ⟨w',e,H',m⟩
theorem Hp.elput (H : Hp F0 g0 w0 g w (owR T sz z (ps.flatMap f) :: L)) (hf : ∀ q∈ps,(f q).length = sz) {b : Nat} {cs : List Value} (he : El w z sz b j cs) (hj : ps[j]? = some q) (h : (f q').length = sz) (h1 : ∀ v∈f q',v.oneCell' = true) :
  ∃ w',D.stA w ⟨b,j * sz,none⟩ 0 (f q') = some w'∧Hp F0 g0 w0 g w' (owR T sz z ((ps.set j q').flatMap f) :: L)∧Mo g w g w':=by
 have hjl : j < ps.length:=(List.getElem?_eq_some_iff.1 hj).1
 have hle : j * sz + sz≤ps.length * sz:=by rw [← Nat.succ_mul]; exact Nat.mul_le_mul_right _ hjl
 obtain ⟨w',e,H',m⟩:=H.osetA (o:=j * sz) (vs:=f q') he.p (by have:=he.n; omega) (by rw [fl_len hf,h]; omega) h1
 rw [fl_put hf hj h] at H'
 exact ⟨w',e,H',m⟩
end
theorem insR_mem {x y : Sg} : ∀ {l : List Sg},y∈insR x l→y = x∨y∈l
 | [],h=>.inl (by simpa [insR] using h)
 | a :: l,h=>by
  unfold insR at h
  split at h
  ·rcases List.mem_cons.1 h with rfl | h
   ·exact .inr (by simp)
   ·exact (insR_mem h).imp id (fun h=>by simp [h])
  ·rcases List.mem_cons.1 h with rfl | h
   ·exact .inl rfl
   ·exact .inr h
theorem insR_len {x : Sg} : ∀ {l : List Sg},(insR x l).length = l.length + 1
 | []=>rfl
 | a :: l=>by
  unfold insR
  split
  ·simp [insR_len]
  ·simp
theorem insS_mem {x y : Sg} {l : List Sg} (h : y∈insS l x) : y = x∨y∈l:=by
 unfold insS at h
 exact (insR_mem (List.mem_reverse.1 h)).imp id (fun h=>List.mem_reverse.1 h)
theorem insS_len {x : Sg} {l : List Sg} : (insS l x).length = l.length + 1:=by simp [insS,insR_len]
theorem sorted_mem {y : Sg} : ∀ {us l : List Sg},y∈us.foldl insS l→y∈us∨y∈l
 | [],l,h=>.inr h
 | a :: us,l,h=>by
  rcases sorted_mem (us:=us) h with h | h
  ·exact .inl (by simp [h])
  ·rcases insS_mem h with rfl | h
   ·exact .inl (by simp)
   ·exact .inr h
theorem sorted_len : ∀ {us l : List Sg},(us.foldl insS l).length = us.length + l.length
 | [],l=>by simp
 | a :: us,l=>by rw [List.foldl_cons,sorted_len,insS_len,List.length_cons]; omega
def sgN (s : Sg) : List Value:=sgC s Sl.nil
theorem sgC_one {s : Sg} {z : Sl} : ∀ v∈sgC s z,v.oneCell' = true:=by intro v hv; simp [sgC] at hv; rcases hv with rfl | rfl | rfl | rfl | rfl <;> rfl
section
variable {F0 : Nat → Prop} {g g0 g' : Gh} {w w0 w' : World} {L : List Rs} {z : Sl} {us : List Sg}
theorem cmp_ok (H : Hp F0 g0 w0 g w L) {a b : Sg} (ha : 0≤a.seq∧a.seq≤4611686018427387904) (hb : 0≤b.seq∧b.seq≤4611686018427387904) :
  ∃ w',evlog_Log_read_1 (sgN a) (sgN b) w = some (a.seq - b.seq,w')∧Hp F0 g0 w0 g w' L∧Mo g w g w':=by
 obtain ⟨p1,w1,e1,H1,m1⟩:=H.box (T:=125) (cs:=sgN a)
 obtain ⟨p2,w2,e2,H2,m2⟩:=H1.box (T:=125) (cs:=sgN b)
 have l1 : ldI .i64 w2 ⟨p1,1,none⟩ = some a.seq:=H2.sw.ldI rfl
 have l2 : ldI .i64 w2 ⟨p2,1,none⟩ = some b.seq:=H2.ldI rfl
 refine ⟨w2,?_,H2.tl.tl,m1.t m2⟩
 unfold evlog_Log_read_1
 rw [e1,bind2_some,e2,bind2_some,add_mk,Nat.zero_add,l1,Option.bind_some,add_mk,Nat.zero_add,l2,Option.bind_some,wr64 (by omega) (by omega)]
theorem sgN_len : ∀ q∈us,(sgN q).length = 5:=fun _ _=>rfl
theorem get_rev {R M S : List Sg} {x : Sg} : (R.reverse ++ x :: M ++ S)[R.length]? = some x:=by
 rw [List.append_assoc,List.getElem?_append_right (by simp),List.length_reverse,Nat.sub_self]; rfl
theorem sort2_ok {S : List Sg} {x : Sg} (hx : 0≤x.seq∧x.seq≤4611686018427387904) (hS : z.n≤1000) : ∀ (R M : List Sg) (w : World),(∀ y∈R,0≤y.seq∧y.seq≤4611686018427387904) →
  Hp F0 g0 w0 g w (owR 125 5 z ((R.reverse ++ x :: M ++ S).flatMap sgN) :: L) →
  ∃ w',loopF (fun s : Int×World=>slices_insertionSortCmpFunc_evlog_seg_107_l2 0 z s.1 s.2) ((R.length : Int),w) = some w'∧Hp F0 g0 w0 g w' (owR 125 5 z (((insR x R).reverse ++ M ++ S).flatMap sgN) :: L)∧Mo g w g w'
 | [],M,w,hR,H=>by
  obtain ⟨w1,e1,H1,m1⟩:=H.dr
  refine ⟨w1,loopF_done ?_,H1,m1⟩
  unfold slices_insertionSortCmpFunc_evlog_seg_107_l2
  simp only [List.length_nil,e1,Option.bind_some]
  rw [if_neg (by simp),bind2_some,if_neg (by simp)]
 | y :: R,M,w,hR,H=>by
  obtain ⟨w1,e1,H1,m1⟩:=H.dr
  have hy:=hR y (by simp)
  have gx : ((y :: R).reverse ++ x :: M ++ S)[R.length + 1]? = some x:=get_rev (R:=y :: R)
  have gy : ((y :: R).reverse ++ x :: M ++ S)[R.length]? = some y:=by
   rw [List.reverse_cons,List.append_assoc,List.append_assoc,List.getElem?_append_right (by simp),List.length_reverse,Nat.sub_self]; rfl
  obtain ⟨b,ex⟩:=H1.el sgN_len (by decide) gx
  obtain ⟨b',ey⟩:=H1.el sgN_len (by decide) gy
  have hbb:=ex.p.symm.trans ey.p
  simp only [Option.some.injEq,Addr.mk.injEq,and_true] at hbb
  subst hbb
  have hxn:=ex.n
  have i1 : ix z (((R.length + 1 : Nat) : Int)) 5 = some ⟨b,(R.length + 1) * 5,none⟩:=ex.ix
  have i2 : ix z (IntKind.wrap .i64 (((R.length + 1 : Nat) : Int) - 1)) 5 = some ⟨b,R.length * 5,none⟩:=by rw [show IntKind.wrap .i64 (((R.length + 1 : Nat) : Int) - 1) = (R.length : Int) by rw [wr64 (by omega) (by omega)]; omega]; exact ey.ix
  obtain ⟨w2,e2,H2,m2⟩:=cmp_ok H1 hx hy
  by_cases hlt : x.seq < y.seq
  ·obtain ⟨w3,e3,H3,m3⟩:=H2.dr
   obtain ⟨_,ex3⟩:=H3.el sgN_len (by decide) gx
   obtain ⟨_,ey3⟩:=H3.el sgN_len (by decide) gy
   have hb1:=ex.p.symm.trans ex3.p
   simp only [Option.some.injEq,Addr.mk.injEq,and_true] at hb1
   subst hb1
   have hb2:=ex.p.symm.trans ey3.p
   simp only [Option.some.injEq,Addr.mk.injEq,and_true] at hb2
   subst hb2
   obtain ⟨w4,e4,H4,m4⟩:=H3.elput (q':=y) sgN_len ex3 gx rfl sgC_one
   have gy4 : (((y :: R).reverse ++ x :: M ++ S).set (R.length + 1) y)[R.length]? = some y:=by rw [List.getElem?_set_ne (by omega)]; exact gy
   obtain ⟨_,ey4⟩:=H4.el sgN_len (by decide) gy4
   have hb3:=ex.p.symm.trans ey4.p
   simp only [Option.some.injEq,Addr.mk.injEq,and_true] at hb3
   subst hb3
   obtain ⟨w5,e5,H5,m5⟩:=H4.elput (q':=x) sgN_len ey4 gy4 rfl sgC_one
   have hset : (((y :: R).reverse ++ x :: M ++ S).set (R.length + 1) y).set R.length x = R.reverse ++ x :: (y :: M) ++ S:=by
    rw [List.reverse_cons,List.append_assoc,List.append_assoc,List.set_append_right _ _ (by simp),List.set_append_right _ _ (by simp)]
    simp
   rw [hset] at H5
   obtain ⟨w6,e6,H6,m6⟩:=sort2_ok hx hS R (y :: M) w5 (fun q hq=>hR q (by simp [hq])) H5
   refine ⟨w6,?_,?_,m1.t (m2.t (m3.t (m4.t (m5.t m6))))⟩
   ·rw [← e6]
    refine loopF_next ?_
    unfold slices_insertionSortCmpFunc_evlog_seg_107_l2
    simp only [List.length_cons,e1,Option.bind_some]
    rw [if_pos (by simp)]
    simp only [i1,i2,Option.bind_some,ex.ldA,ey.ldA,e2,bind2_some]
    rw [if_pos (by simp; omega)]
    simp only [e3,Option.bind_some,ey3.ldA,ex3.ldA,e4,e5]
    rw [show IntKind.wrap .i64 (((R.length + 1 : Nat) : Int) - 1) = (R.length : Int) by rw [wr64 (by omega) (by omega)]; omega]
   ·rw [insR,if_pos hlt]
    have : (y :: insR x R).reverse ++ M ++ S = (insR x R).reverse ++ (y :: M) ++ S:=by simp
    rw [this]; exact H6
  ·refine ⟨w2,loopF_done ?_,?_,m1.t m2⟩
   ·unfold slices_insertionSortCmpFunc_evlog_seg_107_l2
    simp only [List.length_cons,e1,Option.bind_some]
    rw [if_pos (by simp)]
    simp only [i1,i2,Option.bind_some,ex.ldA,ey.ldA,e2,bind2_some]
    rw [if_neg (by simp; omega)]
   ·rw [insR,if_neg hlt]
    have : (x :: y :: R).reverse ++ M ++ S = (y :: R).reverse ++ x :: M ++ S:=by simp
    rw [this]; exact H2
theorem sort1_ok (hs : ∀ y∈us,0≤y.seq∧y.seq≤4611686018427387904) (hn : us.length = z.n) (hz : z.n≤16) : ∀ (m i : Nat) (w : World),m + i = us.length →
  Hp F0 g0 w0 g w (owR 125 5 z (((us.take i).foldl insS [] ++ us.drop i).flatMap sgN) :: L) →
  ∃ w',loopF (fun s : Int×World=>slices_insertionSortCmpFunc_evlog_seg_107_l1 (z.n : Int) 0 z s.1 s.2) ((i : Int),w) = some w'∧Hp F0 g0 w0 g w' (owR 125 5 z ((us.foldl insS []).flatMap sgN) :: L)∧Mo g w g w'
 | 0,i,w,hm,H=>by
  refine ⟨w,loopF_done ?_,?_,Mo.r⟩
  ·unfold slices_insertionSortCmpFunc_evlog_seg_107_l1
   rw [if_neg (by simp; omega)]
  ·rwa [List.take_of_length_le (by omega),List.drop_of_length_le (by omega),List.append_nil] at H
 | m + 1,i,w,hm,H=>by
  have hi : i < us.length:=by omega
  obtain ⟨R,hR⟩ : ∃ R,(us.take i).foldl insS [] = List.reverse R:=⟨((us.take i).foldl insS []).reverse,by simp⟩
  have hRl : R.length = i:=by have:=congrArg List.length hR; rw [sorted_len] at this; simp at this; omega
  have hRm : ∀ y∈R,y∈us:=fun y hy=>by
   have : y∈(us.take i).foldl insS []:=by rw [hR]; simpa using hy
   rcases sorted_mem this with h | h
   ·exact List.mem_of_mem_take h
   ·cases h
  have hd : us.drop i = us[i] :: us.drop (i + 1):=List.drop_eq_getElem_cons hi
  rw [hR,hd] at H
  have H' : Hp F0 g0 w0 g w (owR 125 5 z ((R.reverse ++ us[i] :: [] ++ us.drop (i + 1)).flatMap sgN) :: L):=by simpa using H
  obtain ⟨w1,e1,H1,m1⟩:=sort2_ok (hs _ (List.getElem_mem hi)) (by omega) R [] w (fun y hy=>hs y (hRm y hy)) H'
  have ht : (us.take (i + 1)).foldl insS [] = (insR us[i] R).reverse:=by
   rw [List.take_succ_eq_append_getElem hi,List.foldl_append,hR]
   simp [insS]
  have H1' : Hp F0 g0 w0 g w1 (owR 125 5 z (((us.take (i + 1)).foldl insS [] ++ us.drop (i + 1)).flatMap sgN) :: L):=by rw [ht]; simpa using H1
  obtain ⟨w2,e2,H2,m2⟩:=sort1_ok hs hn hz m (i + 1) w1 (by omega) H1'
  refine ⟨w2,?_,H2,m1.t m2⟩
  rw [← e2]
  refine loopF_next ?_
  unfold slices_insertionSortCmpFunc_evlog_seg_107_l1
  rw [hRl] at e1
  rw [if_pos (by simp; omega),e1,Option.bind_some,wrap_nat (by omega)]
theorem sort_ok (hs : ∀ y∈us,0≤y.seq∧y.seq≤4611686018427387904) (hz : us.length≤16) (H : Hp F0 g0 w0 g w (owR 125 5 z (us.flatMap sgN) :: L)) :
  ∃ w',slices_SortStableFunc_evlog_seg_evlog_seg_107 z w = some w'∧Hp F0 g0 w0 g w' (owR 125 5 z ((us.foldl insS []).flatMap sgN) :: L)∧Mo g w g w':=by
 have hn : us.length = z.n:=by have:=H.ow.len; rw [fl_len sgN_len] at this; omega
 have main : ∃ w',loopF (fun s : Int×World=>slices_insertionSortCmpFunc_evlog_seg_107_l1 (z.n : Int) 0 z s.1 s.2) ((1 : Int),w) = some w'∧Hp F0 g0 w0 g w' (owR 125 5 z ((us.foldl insS []).flatMap sgN) :: L)∧Mo g w g w':=by
  rcases us with _ | ⟨u,us⟩
  ·refine ⟨w,loopF_done ?_,H,Mo.r⟩
   unfold slices_insertionSortCmpFunc_evlog_seg_107_l1
   rw [if_neg (by simp at hn ⊢; omega)]
  ·exact sort1_ok hs hn (by omega) us.length 1 w (by simp) (by simpa [insS,insR] using H)
 obtain ⟨w1,e1,H1,m1⟩:=main
 have l1 : loopF (fun s : Int×Int×World=>slices_stableCmpFunc_evlog_seg_107_l1 (z.n : Int) z s.1 s.2.1 s.2.2) (0,20,w) = some (0,w):=loopF_done (by
  unfold slices_stableCmpFunc_evlog_seg_107_l1
  rw [if_neg (by simp; omega)])
 have l2 : loopF (fun s : Int×World=>slices_stableCmpFunc_evlog_seg_107_l2 (z.n : Int) s.1 s.2) (20,w1) = some w1:=loopF_done (by
  unfold slices_stableCmpFunc_evlog_seg_107_l2
  rw [if_neg (by simp; omega)])
 refine ⟨w1,?_,H1,m1⟩
 unfold slices_SortStableFunc_evlog_seg_evlog_seg_107 slices_stableCmpFunc_evlog_seg_107 slices_insertionSortCmpFunc_evlog_seg_107
 rw [l1,bind2_some,show IntKind.wrap .i64 (0 + 1) = 1 by rw [IntKind.wrap_i64]; rfl,e1,Option.bind_some,Option.bind_some,l2,Option.bind_some,Option.bind_some]
end
theorem stRec : ST Try.prog 74 87 2 32 [.int .i64 0,.slice none 0 0]:=⟨Try.underlying74,⟨Try.t87,.agg #[.int .i64 0,.slice none 0 0],by kernel_rfl,by kernel_rfl,rfl,rfl,rfl⟩,rfl,by decide,by decide⟩
theorem stSeg : ST Try.prog 117 125 5 56 sg0:=⟨Try.underlying117,⟨Try.t125,Value.agg sg0.toArray,by kernel_rfl,by kernel_rfl,rfl,rfl,rfl⟩,rfl,by decide,by decide⟩
def lgC (x c : Nat) (base segs age high rel : Int) (s : Sl) : List Value:=[.pointer (some ⟨x,0,none⟩),.pointer (some ⟨c,0,none⟩),.int .i64 base,.int .i64 segs,.int .i64 age,.int .i64 high,.int .i64 rel,s.v]
def sgF (q : Sg×Sl) : List Value:=sgC q.1 q.2
def rcF (r : Int×Sl) : List Value:=rcC r.1 r.2
theorem rcC_one {t : Int} {z : Sl} : ∀ v∈rcC t z,v.oneCell' = true:=by intro v hv; simp [rcC] at hv; rcases hv with rfl | rfl <;> rfl
def RZ (g : Gh) (w : World) (rz : List (Int×Sl)) (rs : List (Int×List Int)) : Prop:=rz.length = rs.length∧∀ (j : Nat) (r : Int×Sl) (q : Int×List Int),rz[j]? = some r→rs[j]? = some q→r.1 = q.1∧PR g w r.2 1 (nums .u8 q.2)
theorem RZ.mo {g g' : Gh} {w w' : World} {rz : List (Int×Sl)} {rs : List (Int×List Int)} (h : RZ g w rz rs) (m : Mo g w g' w') : RZ g' w' rz rs:=⟨h.1,fun j r q hr hq=>⟨(h.2 j r q hr hq).1,(h.2 j r q hr hq).2.mo m⟩⟩
theorem RZ.nil {g : Gh} {w : World} : RZ g w [] []:=⟨rfl,fun j r q hr=>by simp at hr⟩
theorem RZ.snoc {g : Gh} {w : World} {rz : List (Int×Sl)} {rs : List (Int×List Int)} (h : RZ g w rz rs) {t : Int} {z : Sl} {b : List Int} (hz : PR g w z 1 (nums .u8 b)) : RZ g w (rz ++ [(t,z)]) (rs ++ [(t,b)]):=by
 refine ⟨by simp [h.1],fun j r q hr hq=>?_⟩
 by_cases hj : j < rz.length
 ·rw [List.getElem?_append_left hj] at hr
  rw [List.getElem?_append_left (by rw [← h.1]; exact hj)] at hq
  exact h.2 j r q hr hq
 ·rw [List.getElem?_append_right (by omega)] at hr
  rw [List.getElem?_append_right (by rw [← h.1]; omega)] at hq
  have h0 : j - rz.length = 0:=by have:=(List.getElem?_eq_some_iff.1 hr).1; simp at this; omega
  rw [h0] at hr
  rw [← h.1,h0] at hq
  simp at hr hq
  subst hr; subst hq
  exact ⟨rfl,hz⟩
theorem rcd_next {D : Dk} {base pos : Int} : ∀ {m : Nat} {i want : Int} {all : List Int} {r : Int×List Int×Int},D.rcd base pos m i want all = some r→i + 1≤r.2.2∧r.2.2≤i + m
 | 0,_,_,_,_,h=>by cases h
 | m + 1,i,want,all,r,h=>by
  unfold Dk.rcd at h
  split at h
  ·split at h
   ·split at h
    ·cases h
    ·cases h; simp only; omega
   ·have:=rcd_next h; omega
  ·cases h
section
variable {F0 : Nat → Prop} {g0 : Gh} {w0 : World} {L : List Rs} {s : Sl} {x c p b j : Nat} {D : Dk} {base pos segs age rel : Int}
theorem sgF_len {ps : List (Sg×Sl)} : ∀ q∈ps,(sgF q).length = 5:=fun _ _=>rfl
theorem rcF_len {rz : List (Int×Sl)} : ∀ q∈rz,(rcF q).length = 2:=fun _ _=>rfl
theorem lgC_LC {h : Int} (h0 : 0≤base) (h1 : base≤512) : LC (lgC x c base segs age h rel s) x base:=⟨rfl,rfl,h0,h1⟩
theorem read3_ok (hb0 : 0≤base) (hb1 : base≤512) (hpos : 0≤pos∧pos≤16) (hbt : D.Bt) (hbd : D.W.length < 900000) (hsp : s.p = some ⟨b,0,none⟩) {Φ : World→Prop} :
  ∀ (m : Nat) (ps : List (Sg×Sl)) (q : Sg×Sl) (rz : List (Int×Sl)) (h : Int) (g : Gh) (w : World),(16 : Int)≤m + q.1.fin→1≤q.1.fin→q.1.fin≤16→0≤h→ps[j]? = some q→q.1.pos = pos→RZ g w rz q.1.recs→(rz.length : Int) < q.1.fin →
  Hp F0 g0 w0 g w (lbR p (lgC x c base segs age h rel s) :: dkR x D :: owR 125 5 s (ps.flatMap sgF) :: owR 87 2 q.2 (rz.flatMap rcF) :: L) →
  (∀ g' w' z' rz',Hp F0 g0 w0 g' w' (lbR p (lgC x c base segs age (D.seg base pos m q.1.fin h q.1.recs).2.1 rel s) :: dkR x D :: owR 125 5 s ((ps.set j (⟨q.1.pos,q.1.seq,(D.seg base pos m q.1.fin h q.1.recs).1,q.1.high,(D.seg base pos m q.1.fin h q.1.recs).2.2⟩,z')).flatMap sgF) :: owR 87 2 z' (rz'.flatMap rcF) :: L) →
   Mo g w g' w'→RZ g' w' rz' (D.seg base pos m q.1.fin h q.1.recs).2.2→Φ w') →
  (nloop (fun s : World=>evlog_Log_read_l3 ⟨b,j * 5,none⟩ (some ⟨p,0,none⟩) s) w).t Φ:=by
 intro m
 induction m with
 | zero =>
  intro ps q rz h g w hm h1 h16 hh hj hq hz hzl H hΦ
  have he : q.1.fin = 16:=by omega
  have hset : ps.set j (⟨q.1.pos,q.1.seq,q.1.fin,q.1.high,q.1.recs⟩,q.2) = ps:=by
   obtain ⟨hjl,hj'⟩:=List.getElem?_eq_some_iff.1 hj
   have : ps.set j ps[j] = ps:=List.set_getElem_self hjl
   rw [hj'] at this; exact this
  have rd : ∀ {g1 : Gh} {w1 : World} {L' : List Rs},Hp F0 g0 w0 g1 w1 (owR 125 5 s (ps.flatMap sgF) :: L')→ldI .i64 w1 ⟨b,j * 5 + 0,none⟩ = some pos∧ldI .i64 w1 ⟨b,j * 5 + 2,none⟩ = some q.1.fin:=fun Hs=>by
   obtain ⟨b',e⟩:=Hs.el sgF_len (by decide) hj
   have hbb:=hsp.symm.trans e.p
   simp only [Option.some.injEq,Addr.mk.injEq,and_true] at hbb
   subst hbb
   exact ⟨e.i (k:=0) (by rw [← hq]; rfl),e.i (k:=2) rfl⟩
  obtain ⟨w1,e1,H1,m1⟩:=H.dr
  obtain ⟨r1,r2⟩:=rd H1.m2
  have hrc : ∀ {vs : List Value} {nx : Int} {ok : Bool} {g1 : Gh} {w1 : World},RcOk g1 w1 tickC (D.rcd base pos (16 - q.1.fin).toNat q.1.fin 2 []) vs nx ok→ok = false:=fun hr=>by
   rw [he] at hr; exact hr.2
  refine Nd.next ?_
  unfold evlog_Log_read_l3
  refine Nd.j4 (Ψ:=fun r=>r.2.2.1 = false∧∃ g',Hp F0 g0 w0 g' r.2.2.2 (lbR p (lgC x c base segs age h rel s) :: dkR x D :: owR 125 5 s (ps.flatMap sgF) :: owR 87 2 q.2 (rz.flatMap rcF) :: L)∧Mo g w g' r.2.2.2) (Nd.b1 e1 (Nd.b1 (by rw [add_mk]; exact r1) (Nd.b1 (by rw [add_mk]; exact r2) (Nd.both ?_ ?_)))) ?_
  ·obtain ⟨vs,nx,ok,g2,w2,e2,H2,m2,hr⟩:=record_ok (lgC_LC hb0 hb1) hpos H1 hbt hbd ⟨by omega,h16⟩
   obtain ⟨t,z,rfl⟩:=hr.1
   obtain ⟨pb,w3,e3,H3,m3⟩:=H2.box (T:=87) (cs:=rcC 0 Sl.nil)
   obtain ⟨w4,e4,H4,m4,l4⟩:=H3.stA' (vs:=rcC t z) rfl rcC_one
   exact Nd.b4 e2 (Nd.b2 e3 (Nd.b1 e4 (Nd.ck rfl (Nd.ret ⟨hrc hr,g2,H4.tl,m1.t (m2.t (m3.t m4))⟩))))
  ·obtain ⟨pb,w3,e3,H3,m3⟩:=H1.box (T:=87) (cs:=rcC 0 Sl.nil)
   obtain ⟨vs,nx,ok,g2,w2,e2,H2,m2,hr⟩:=record_ok (lgC_LC hb0 hb1) hpos H3.b2 hbt hbd ⟨by omega,h16⟩
   obtain ⟨t,z,rfl⟩:=hr.1
   obtain ⟨w4,e4,H4,m4,l4⟩:=H2.m2.stA' (vs:=rcC t z) rfl rcC_one
   obtain ⟨k1,k2⟩:=rd H3.m3
   exact Nd.b2 e3 (Nd.b4 e2 (Nd.b1 e4 (Nd.ck rfl (Nd.ck (by rw [add_mk]; exact k1) (Nd.ck (by rw [add_mk]; exact k2) (Nd.ret ⟨hrc hr,g2,H4.tl,m1.t (m3.t (m2.t m4))⟩))))))
  ·rintro pv nx ok w5 ⟨hok,g5,H5,m5⟩
   simp only at hok H5 m5
   obtain ⟨w6,e6,H6,m6⟩:=H5.dr
   refine Nd.j2 (Ψ:=fun r=>r = (true,w6)) (Nd.b1 e6 (Nd.t (by rw [hok]; rfl) (Nd.ret rfl))) ?_
   rintro _ _ he2
   cases he2
   refine Nd.t rfl (Nd.ret (hΦ g5 w6 q.2 rz ?_ (m5.t m6) (hz.mo (m5.t m6))))
   simp only [Dk.seg]
   rw [hset]
   exact H6
 | succ m ih =>
  intro ps q rz h g w hm h1 h16 hh hj hq hz hzl H hΦ
  have hset : ps.set j (⟨q.1.pos,q.1.seq,q.1.fin,q.1.high,q.1.recs⟩,q.2) = ps:=by
   obtain ⟨hjl,hj'⟩:=List.getElem?_eq_some_iff.1 hj
   have : ps.set j ps[j] = ps:=List.set_getElem_self hjl
   rw [hj'] at this; exact this
  have rd : ∀ {g1 : Gh} {w1 : World} {L' : List Rs} {ps : List (Sg×Sl)} {q : Sg×Sl},ps[j]? = some q→Hp F0 g0 w0 g1 w1 (owR 125 5 s (ps.flatMap sgF) :: L')→El w1 s 5 b j (sgF q):=fun hj Hs=>by
   obtain ⟨b',e⟩:=Hs.el sgF_len (by decide) hj
   have hbb:=hsp.symm.trans e.p
   simp only [Option.some.injEq,Addr.mk.injEq,and_true] at hbb
   subst hbb
   exact e
  obtain ⟨w1,e1,H1,m1⟩:=H.dr
  have el1:=rd hj H1.m2
  have r1 : ldI .i64 w1 ⟨b,j * 5 + 0,none⟩ = some pos:=el1.i (by rw [← hq]; rfl)
  have r2 : ldI .i64 w1 ⟨b,j * 5 + 2,none⟩ = some q.1.fin:=el1.i rfl
  obtain ⟨o,ho⟩ : ∃ o,D.rcd base pos (16 - q.1.fin).toNat q.1.fin 2 [] = o:=⟨_,rfl⟩
  refine Nd.next ?_
  unfold evlog_Log_read_l3
  refine Nd.j4 (Ψ:=fun r=>∃ pb vs g',r.1 = ⟨pb,0,none⟩∧RcOk g' r.2.2.2 tickC o vs r.2.1 r.2.2.1∧Hp F0 g0 w0 g' r.2.2.2 (bxR pb vs 87 :: lbR p (lgC x c base segs age h rel s) :: dkR x D :: owR 125 5 s (ps.flatMap sgF) :: owR 87 2 q.2 (rz.flatMap rcF) :: L)∧Mo g w g' r.2.2.2) (Nd.b1 e1 (Nd.b1 (by rw [add_mk]; exact r1) (Nd.b1 (by rw [add_mk]; exact r2) (Nd.both ?_ ?_)))) ?_
  ·obtain ⟨vs,nx,ok,g2,w2,e2,H2,m2,hr⟩:=record_ok (lgC_LC hb0 hb1) hpos H1 hbt hbd ⟨by omega,h16⟩
   rw [ho] at hr
   obtain ⟨t,z,hv⟩:=hr.1
   obtain ⟨pb,w3,e3,H3,m3⟩:=H2.box (T:=87) (cs:=rcC 0 Sl.nil)
   obtain ⟨w4,e4,H4,m4,l4⟩:=H3.stA' (vs:=vs) (by rw [hv]; rfl) (by rw [hv]; exact rcC_one)
   exact Nd.b4 e2 (Nd.b2 e3 (Nd.b1 e4 (Nd.ck (by rw [hv]; rfl) (Nd.ret ⟨pb,vs,g2,rfl,hr.mo (m3.t m4),H4,m1.t (m2.t (m3.t m4))⟩))))
  ·obtain ⟨pb,w3,e3,H3,m3⟩:=H1.box (T:=87) (cs:=rcC 0 Sl.nil)
   obtain ⟨vs,nx,ok,g2,w2,e2,H2,m2,hr⟩:=record_ok (lgC_LC hb0 hb1) hpos H3.b2 hbt hbd ⟨by omega,h16⟩
   rw [ho] at hr
   obtain ⟨t,z,hv⟩:=hr.1
   obtain ⟨w4,e4,H4,m4,l4⟩:=H2.m2.stA' (vs:=vs) (by rw [hv]; rfl) (by rw [hv]; exact rcC_one)
   have el3:=rd hj H3.m3
   exact Nd.b2 e3 (Nd.b4 e2 (Nd.b1 e4 (Nd.ck (by rw [hv]; rfl) (Nd.ck (by rw [add_mk]; exact el3.i (by rw [← hq]; rfl)) (Nd.ck (by rw [add_mk]; exact el3.i rfl) (Nd.ret ⟨pb,vs,g2,rfl,hr.mo m4,H4,m1.t (m3.t (m2.t m4))⟩))))))
  ·rintro pv nx ok w5 ⟨pb,vs,g5,hpv,hr,H5,m5⟩
   simp only at hpv hr H5 m5
   subst hpv
   obtain ⟨w6,e6,H6,m6⟩:=H5.dr
   have stop : D.seg base pos (m + 1) q.1.fin h q.1.recs = (q.1.fin,h,q.1.recs)→Φ w6:=fun hs=>hΦ g5 w6 q.2 rz (by rw [hs]; simp only; rw [hset]; exact H6.tl) (m5.t m6) (by rw [hs]; exact hz.mo (m5.t m6))
   cases o with
   | none =>
    have hok : ok = false:=hr.2
    refine Nd.j2 (Ψ:=fun r=>r = (true,w6)) (Nd.b1 e6 (Nd.t (by rw [hok]; rfl) (Nd.ret rfl))) ?_
    rintro _ _ he2
    cases he2
    exact Nd.t rfl (Nd.ret (stop (by unfold Dk.seg; rw [ho])))
   | some r =>
    obtain ⟨t,bd,n⟩:=r
    obtain ⟨hok,hr2⟩:=hr.2
    simp only at hok hr2
    by_cases hgo : h < t∧t≤1099511627776
    ·have hok1 : ok = true:=by rw [hok]; simp [tickC]; omega
     obtain ⟨hnx,z,rfl,rz6,-⟩:=hr2 hok1
     have hnx:=hnx.symm
     subst hnx
     obtain ⟨hn1,hn2⟩:=rcd_next ho
     simp only at hn1 hn2
     have l6 : ldI .i64 w6 ⟨pb,0,none⟩ = some t:=H6.ldI rfl
     have l6h : ldI .i64 w6 ⟨p,5,none⟩ = some h:=H6.sw.ldI rfl
     refine Nd.j2 (Ψ:=fun r=>r = (false,w6)) (Nd.b1 e6 (Nd.f (by rw [hok1]; simp) (Nd.b1 (by rw [add_mk]; exact l6) (Nd.s1 (Nd.b1 (by rw [add_mk]; exact l6h) (Nd.ret (by rw [decide_eq_false (by omega)]))))))) ?_
     rintro _ _ he2
     cases he2
     refine Nd.f (by simp) ?_
     obtain ⟨w7,e7,H7,m7⟩:=H6.dr
     have el7:=rd hj H7.m3
     have l7 : ldA 2 w7 ⟨pb,0,none⟩ 0 = some (rcC t z):=by rw [ldA_B H7.bx (by exact Nat.le_refl _)]; rfl
     obtain ⟨z8,w8,e8,n8,_,H8,m8⟩:=H7.bsl (T:=87) (sz:=2) (ps:=[rcC t z]) (by intro v hv; simp at hv; subst hv; rfl) (by simp)
     have el8:=rd hj H8.m4
     have hrl : rz.length = q.2.n:=by have:=H8.tl.m4.ow.len; rw [fl_len rcF_len] at this; omega
     obtain ⟨z9,w9,e9,n9,H9,m9⟩:=H8.tl.m4.apS stRec H8.ow.rd (by intro v hv; simp at hv; exact rcC_one v hv) (by rw [n8]; simp; omega)
     have hfl : rz.flatMap rcF ++ [rcC t z].flatten = (rz ++ [(t,z)]).flatMap rcF:=by simp [rcF]
     rw [hfl] at H9
     obtain ⟨w10,e10,H10,m10⟩:=H9.m4.elset (q':=(q.1,z9)) sgF_len (rd hj H9.m4) hj (k:=4) (by decide) (v:=z9.v) rfl rfl
     have hj1 : (ps.set j (q.1,z9))[j]? = some (q.1,z9):=by rw [List.getElem?_set_self (List.getElem?_eq_some_iff.1 hj).1]
     obtain ⟨w11,e11,H11,m11⟩:=H10.dr
     have l11 : ldI .i64 w11 ⟨pb,0,none⟩ = some t:=H11.m2.ldI rfl
     obtain ⟨w12,e12,H12,m12⟩:=H11.elset (q':=(⟨q.1.pos,q.1.seq,n,q.1.high,q.1.recs ++ [(t,bd)]⟩,z9)) sgF_len (rd hj1 H11) hj1 (k:=2) (by decide) (v:=.int .i64 n) rfl rfl
     rw [List.set_set] at H12
     have l12 : ldI .i64 w12 ⟨pb,0,none⟩ = some t:=H12.m2.ldI rfl
     obtain ⟨w13,e13,H13,m13⟩:=H12.m3.stV (o:=5) (x:=.int .i64 t) (by simp [lgC]) rfl
     have H13 : Hp F0 g0 w0 g5 w13 (lbR p (lgC x c base segs age t rel s) :: owR 125 5 s ((ps.set j (⟨q.1.pos,q.1.seq,n,q.1.high,q.1.recs ++ [(t,bd)]⟩,z9)).flatMap sgF) :: owR 87 2 z9 ((rz ++ [(t,z)]).flatMap rcF) :: bxR pb (rcC t z) 87 :: dkR x D :: L):=H13
     have l7s : ldL w7 ⟨b,j * 5 + 4,none⟩ = some q.2:=el7.l rfl
     have l8s : ldL w8 ⟨b,j * 5 + 4,none⟩ = some q.2:=el8.l rfl
     have mm:=m7.t (m8.t (m9.t (m10.t (m11.t (m12.t m13)))))
     refine Nd.b1 e7 (Nd.b1 (by rw [add_mk]; exact l7s) (Nd.b1 l7 (Nd.b2 e8 (Nd.b2 e9 (Nd.b1 (by rw [add_mk]; exact e10) (Nd.ck (by rw [add_mk]; exact l8s) (Nd.b1 e11 (Nd.b1 (by rw [add_mk]; exact l11) (Nd.b1 (by rw [add_mk]; exact e12) (Nd.s1 (Nd.b1 (by rw [add_mk]; exact e13) (Nd.ck (by rw [add_mk]; exact l12) (Nd.ret ?_)))))))))))))
     have hj2 : (ps.set j (⟨q.1.pos,q.1.seq,n,q.1.high,q.1.recs ++ [(t,bd)]⟩,z9))[j]? = some (⟨q.1.pos,q.1.seq,n,q.1.high,q.1.recs ++ [(t,bd)]⟩,z9):=by rw [List.getElem?_set_self (List.getElem?_eq_some_iff.1 hj).1]
     have hseg : D.seg base pos (m + 1) q.1.fin h q.1.recs = D.seg base pos m n t (q.1.recs ++ [(t,bd)]):=by rw [Dk.seg,ho]; simp only; rw [if_pos hgo]
     refine ih _ (⟨q.1.pos,q.1.seq,n,q.1.high,q.1.recs ++ [(t,bd)]⟩,z9) (rz ++ [(t,z)]) t g5 w13 (by simp only; omega) (by simp only; omega) (by simp only; omega) (by omega) hj2 hq ((hz.mo (m5.t (m6.t mm))).snoc (rz6.mo (m6.t mm))) (by simp; omega) H13.m3.tl.m3.sw fun g' w' z' rz' H' m' hz'=>?_
     simp only at H' hz'
     rw [List.set_set] at H'
     exact hΦ g' w' z' rz' (by rw [hseg]; exact H') (m5.t (m6.t (mm.t m'))) (by rw [hseg]; exact hz')
    ·have hs : D.seg base pos (m + 1) q.1.fin h q.1.recs = (q.1.fin,h,q.1.recs):=by unfold Dk.seg; rw [ho]; simp only; rw [if_neg hgo]
     refine Nd.j2 (Ψ:=fun r=>r = (true,w6)) (Nd.b1 e6 ?_) ?_
     ·cases hk : ok with
      | false=>exact Nd.t (by simp) (Nd.ret rfl)
      | true =>
       obtain ⟨-,z,rfl,-,-⟩:=hr2 hk
       have l6 : ldI .i64 w6 ⟨pb,0,none⟩ = some t:=H6.ldI rfl
       have l6h : ldI .i64 w6 ⟨p,5,none⟩ = some h:=H6.sw.ldI rfl
       have ht : t≤1099511627776:=by rw [hk] at hok; have:=hok.symm; simp [tickC] at this; exact this.2
       exact Nd.f (by simp) (Nd.b1 (by rw [add_mk]; exact l6) (Nd.s1 (Nd.b1 (by rw [add_mk]; exact l6h) (Nd.ret (by rw [decide_eq_true (by omega)])))))
     ·rintro _ _ he2
      cases he2
      exact Nd.t rfl (Nd.ret (stop hs))
end
theorem B_mo {g g' : Gh} {w w' : World} (m : Mo g w g' w') {k : Nat} (hg : g k) {x : List Value×TypeId} (h : B w k = some x) : B w' k = some x:=by
 have:=(m.keep k hg).2; unfold B at h ⊢; rw [this]; exact h
structure Cp (g : Gh) (w : World) (c x : Nat) (base count : Int) : Prop where
 per : g c
 at_ : CellsAt w c x base count
section
variable {F F0 : Nat → Prop} {g g' g0 : Gh} {w w' w0 : World} {L : List Rs} {x y c : Nat} {D D' : Dk} {i m base count : Int} {b o : Sl} {bs : List Int}
theorem Cp.mo (h : Cp g w c x base count) (m : Mo g w g' w') : Cp g' w' c x base count:=⟨(m.keep _ h.per).1,B_mo m h.per h.at_.blk,h.at_.b0,h.at_.b1,h.at_.n0,h.at_.n1⟩
theorem Hp.mget (H : Hp F0 g0 w0 g w (dkR x D :: L)) (hc : Cp g w c x base count) (hb : D.Bt) (hbd : D.W.length < 900000) (i : Int) :
  ∃ w',mark_Cells_Get (some ⟨c,0,none⟩) i w = some ((D.get base count i).1,(D.get base count i).2,w')∧Hp F0 g0 w0 g w' (dkR x D :: L)∧Mo g w g w':=by
 obtain ⟨F,h⟩:=H.dk
 obtain ⟨w',e,f⟩:=get_ok h hc.at_ hb hbd i
 exact ⟨w',e,H.old f,H.mold f⟩
theorem Hp.mopen (H : Hp F0 g0 w0 g w (dkR x D :: L)) (hi : -9223372036854775808≤count∧count≤9223372036854775807) (hm : mayOpen D.S.length base count = true) :
  ∃ c g' w',mark_Open (some ⟨x,0,none⟩) base count w = some (some ⟨c,0,none⟩,0,w')∧Hp F0 g0 w0 g' w' (dkR x D :: L)∧Mo g w g' w'∧Cp g' w' c x base count:=by
 obtain ⟨F,h⟩:=H.dk
 obtain ⟨c,w',e,hc,hcn,f⟩:=open_yes h hi hm
 have n : Nw g w (fun k=>g k∨k = c) w':=⟨f _,fun k hk _=>⟨fun h=>h.elim id (fun h=>by omega),.inl⟩,⟨(f (fun _=>False)).size,fun k hk=>⟨.inl hk,(f (fun _=>False)).block k (H.lt k hk) id⟩⟩,
  fun k hk=>hk.elim (fun h'=>Nat.lt_of_lt_of_le (H.lt k h') (f (fun _=>False)).size) (fun h'=>by subst h'; exact B_lt hc.blk)⟩
 exact ⟨c,_,w',e,H.nw n,n.mo,.inr rfl,hc⟩
end
def RcL (g : Gh) (w : World) (z : Sl) (rs : List (Int×List Int)) : Prop:=∃ rz,PR g w z 2 (rz.flatMap rcF)∧RZ g w rz rs
theorem RcL.mo {g g' : Gh} {w w' : World} {z : Sl} {rs : List (Int×List Int)} (h : RcL g w z rs) (m : Mo g w g' w') : RcL g' w' z rs:=by obtain ⟨rz,h1,h2⟩:=h; exact ⟨rz,h1.mo m,h2.mo m⟩
theorem RcL.nil {g : Gh} {w : World} : RcL g w Sl.nil []:=⟨[],PR.nil rfl,RZ.nil⟩
def DzOk (g : Gh) (w : World) (dz : List (Sg×Sl)) : Prop:=∀ q∈dz,RcL g w q.2 q.1.recs
theorem DzOk.mo {g g' : Gh} {w w' : World} {dz : List (Sg×Sl)} (h : DzOk g w dz) (m : Mo g w g' w') : DzOk g' w' dz:=fun q hq=>(h q hq).mo m
theorem mx_max (a b : Int) : mxI a b = max a b:=by unfold mxI; split <;> omega
theorem heads_succ {D : Dk} {base : Int} {n : Nat} : D.heads base (n + 1) = D.heads base n ++ (headL (n : Int) (D.look base n 0)).toList:=by
 unfold Dk.heads
 rw [List.range_succ,List.filterMap_append]
 simp only [List.filterMap_cons,List.filterMap_nil]
 cases headL (n : Int) (D.look base n 0) <;> rfl
theorem headL_wf {pos : Int} {b : List Int} {s : Sg} (h : headL pos b = some s) : s.pos = pos∧1≤s.seq∧s.seq≤4611686018427387904∧s.fin = 1∧0≤s.high∧s.high≤1099511627776∧s.recs = []:=by
 unfold headL at h
 split at h
 ·rename_i hc
  cases h
  simp only [headC,hdC,Bool.and_eq_true,decide_eq_true_eq] at hc
  exact ⟨rfl,hc.2.1.1.1,hc.2.1.1.2,rfl,hc.2.1.2,hc.2.2,rfl⟩
 ·cases h
theorem heads_wf {D : Dk} {base : Int} {n : Nat} {s : Sg} (h : s∈D.heads base n) : 0≤s.pos∧s.pos < n∧1≤s.seq∧s.seq≤4611686018427387904∧s.fin = 1∧0≤s.high∧s.high≤1099511627776∧s.recs = []:=by
 obtain ⟨k,hk,hs⟩:=List.mem_filterMap.1 h
 obtain ⟨h1,h2⟩:=headL_wf hs
 have:=List.mem_range.1 hk
 exact ⟨by omega,by omega,h2⟩
theorem heads_len {D : Dk} {base : Int} {n : Nat} : (D.heads base n).length≤n:=by
 have:=List.length_filterMap_le (fun k : Nat=>headL (k : Int) (D.look base k 0)) (List.range n)
 rwa [List.length_range] at this
section
variable {F0 : Nat → Prop} {g g0 : Gh} {w w0 : World} {L : List Rs} {s : Sl} {x c p b j : Nat} {D : Dk} {base pos segs age rel high : Int}
abbrev seR (s : Sl) (dz : List (Sg×Sl)) : Rs:=owR 125 5 s (dz.flatMap sgF)
theorem read1_ok (hb0 : 0≤base) (hb1 : base≤512) (hs0 : 0≤segs) (hs1 : segs≤16) (hbt : D.Bt) (hbd : D.W.length < 900000) {Φ : World→Prop}
  (H : Hp F0 g0 w0 g w (lbR p (lgC x c base segs age high rel Sl.nil) :: dkR x D :: L))
  (hΦ : ∀ g' w' s',Hp F0 g0 w0 g' w' (lbR p (lgC x c base segs age high rel s') :: dkR x D :: owR 125 5 s' ((D.heads base segs.toNat).flatMap sgN) :: L)→Mo g w g' w'→Φ w') :
  (nloop (fun s : Int×World=>evlog_Log_read_l1 segs (some ⟨p,0,none⟩) s.1 s.2) (0,w)).t Φ:=by
 refine Nd.loop (fun m st=>∃ (j : Nat) (g' : Gh) (w' : World) (s' : Sl),st = ((j : Int),w')∧m + j = segs.toNat∧Hp F0 g0 w0 g' w' (lbR p (lgC x c base segs age high rel s') :: dkR x D :: owR 125 5 s' ((D.heads base j).flatMap sgN) :: L)∧Mo g w g' w') (fun m st hI=>?_) segs.toNat (0,w) ⟨0,g,w,Sl.nil,rfl,by omega,H.onil.b2,Mo.r⟩
 obtain ⟨j,g1,w1,s1,rfl,hm,H1,m1⟩:=hI
 unfold evlog_Log_read_l1
 by_cases hlt : (j : Int) < segs
 ·obtain ⟨g2,w2,e2,H2,m2⟩:=header_ok (pos:=(j : Int)) (lgC_LC hb0 hb1) ⟨by omega,by omega⟩ H1 hbt hbd
  obtain ⟨o,ho⟩ : ∃ o,headL (j : Int) (D.look base j 0) = o:=⟨_,rfl⟩
  rw [ho] at e2
  obtain ⟨vs,hv,hvl,hv1⟩ : ∃ vs : List Value,hdV o = vs∧vs.length = 5∧∀ v∈vs,v.oneCell' = true:=⟨_,rfl,by cases o <;> rfl,by
   cases o with
   | none=>intro v hv; simp [hdV,sg0] at hv; rcases hv with rfl | rfl <;> rfl
   | some s=>exact sgC_one⟩
  rw [hv] at e2
  obtain ⟨pb,w3,e3,H3,m3⟩:=H2.box (T:=125) (cs:=sg0)
  have e3' : mk w2 125 (List.replicate 4 (.int .i64 0) ++ [.slice none 0 0]) = some (⟨pb,0,none⟩,w3):=e3
  obtain ⟨w4,e4,H4,m4,l4⟩:=H3.stA' (vs:=vs) (by rw [hvl]; rfl) hv1
  have mm:=m1.t (m2.t (m3.t m4))
  have hsucc:=heads_succ (D:=D) (base:=base) (n:=j)
  have hlen:=heads_len (D:=D) (base:=base) (n:=j)
  rw [ho] at hsucc
  refine Nd.t (by simpa using hlt) (Nd.j1 (Ψ:=fun w'=>∃ g' s',Hp F0 g0 w0 g' w' (lbR p (lgC x c base segs age high rel s') :: dkR x D :: owR 125 5 s' ((D.heads base (j + 1)).flatMap sgN) :: L)∧Mo g w g' w') (Nd.b3 e2 (Nd.b2 e3' (Nd.b1 e4 (Nd.ck hvl ?_)))) ?_)
  ·cases o with
   | none =>
    refine Nd.f (by simp) (Nd.ret ⟨g2,s1,?_,mm⟩)
    rw [hsucc]
    simpa using H4.tl
   | some q =>
    have hv : sgC q Sl.nil = vs:=hv
    subst hv
    obtain ⟨w5,e5,H5,m5⟩:=H4.dr
    have l5 : ldL w5 ⟨p,7,none⟩ = some s1:=H5.sw.ldL rfl
    have l5a : ldA 5 w5 ⟨pb,0,none⟩ 0 = some (sgC q Sl.nil):=by rw [ldA_B H5.bx (by exact Nat.le_refl _)]; rfl
    obtain ⟨z6,w6,e6,n6,_,H6,m6⟩:=H5.bsl (T:=125) (sz:=5) (ps:=[sgC q Sl.nil]) (by intro v hv; simp at hv; subst hv; rfl) (by simp)
    have l6 : ldL w6 ⟨p,7,none⟩ = some s1:=H6.m2.ldL rfl
    have hsn : (D.heads base j).length = s1.n:=by have:=H6.tl.m3.ow.len; rw [fl_len sgN_len] at this; omega
    obtain ⟨z7,w7,e7,n7,H7,m7⟩:=H6.tl.m3.apS stSeg H6.ow.rd (by intro v hv; simp at hv; exact sgC_one v hv) (by rw [n6]; simp; omega)
    have hfl : (D.heads base j).flatMap sgN ++ [sgC q Sl.nil].flatten = (D.heads base (j + 1)).flatMap sgN:=by rw [hsucc]; simp [sgN]
    rw [hfl] at H7
    obtain ⟨w8,e8,H8,m8⟩:=H7.m2.stV (o:=7) (x:=z7.v) (by simp [lgC]) rfl
    have H8 : Hp F0 g0 w0 g2 w8 (lbR p (lgC x c base segs age high rel z7) :: owR 125 5 z7 ((D.heads base (j + 1)).flatMap sgN) :: bxR pb (sgC q Sl.nil) 125 :: dkR x D :: L):=H8
    exact Nd.t (by simp) (Nd.b1 e5 (Nd.s1 (Nd.b1 (by rw [add_mk]; exact l5) (Nd.b1 l5a (Nd.b2 e6 (Nd.b2 e7 (Nd.b1 (by rw [add_mk]; exact e8) (Nd.ck (by rw [add_mk]; exact l6) (Nd.ret ⟨g2,z7,H8.m2.tl.m2.sw,mm.t (m5.t (m6.t (m7.t m8)))⟩)))))))))
  ·rintro w' ⟨g',s',H',m'⟩
   exact Nd.ret ⟨m - 1,by omega,j + 1,g',w',s',by rw [wrap_nat (by omega)],by omega,H',m'⟩
 ·have hj : j = segs.toNat:=by omega
  subst hj
  exact Nd.f (by simpa using hlt) (Nd.ret (hΦ g1 w1 s1 H1 m1))
theorem segs_map {D : Dk} {base : Int} : ∀ {us : List Sg} {h : Int} {ds : List Sg},(D.segs base us h ds).2.length = ds.length + us.length
 | [],_,_=>rfl
 | u :: us,h,ds=>by rw [Dk.segs,segs_map]; simp; omega
theorem read2_ok (hb0 : 0≤base) (hb1 : base≤512) (hbt : D.Bt) (hbd : D.W.length < 900000) {Φ : World→Prop} : ∀ (us : List Sg) (dz : List (Sg×Sl)) (h : Int) (g : Gh) (w : World),
  (∀ u∈us,0≤u.pos∧u.pos≤16∧u.fin = 1∧u.recs = [])→0≤h→s.n≤16→DzOk g w dz →
  Hp F0 g0 w0 g w (lbR p (lgC x c base segs age h rel s) :: dkR x D :: seR s (dz ++ us.map fun u=>(u,Sl.nil)) :: L) →
  (∀ g' w' dz',Hp F0 g0 w0 g' w' (lbR p (lgC x c base segs age (D.segs base us h (dz.map Prod.fst)).1 rel s) :: dkR x D :: seR s dz' :: L)→Mo g w g' w'→dz'.map Prod.fst = (D.segs base us h (dz.map Prod.fst)).2→DzOk g' w' dz'→Φ w') →
  (nloop (fun t : Int×World=>evlog_Log_read_l2 s (some ⟨p,0,none⟩) t.1 t.2) ((dz.length : Int),w)).t Φ
 | [],dz,h,g,w,hu,hh,hsn,hdz,H,hΦ=>by
  have hl : dz.length = s.n:=by have:=H.m2.ow.len; rw [fl_len sgF_len] at this; simp at this; omega
  refine Nd.next ?_
  unfold evlog_Log_read_l2
  refine Nd.f (by simp; omega) (Nd.ret (hΦ g w dz (by simpa [Dk.segs] using H) Mo.r rfl hdz))
 | u :: us,dz,h,g,w,hu,hh,hsn,hdz,H,hΦ=>by
  obtain ⟨hu1,hu2,hu3,hu4⟩:=hu u (by simp)
  have hl : dz.length + us.length + 1 = s.n:=by have:=H.m2.ow.len; rw [fl_len sgF_len] at this; simp at this; omega
  have hj : (dz ++ (u :: us).map fun u=>(u,Sl.nil))[dz.length]? = some (u,Sl.nil):=by rw [List.getElem?_append_right (Nat.le_refl _),Nat.sub_self]; rfl
  obtain ⟨b,e0⟩:=H.m2.el sgF_len (by decide) hj
  have l0 : ldL w ⟨p,7,none⟩ = some s:=H.ldL rfl
  obtain ⟨w1,e1,H1,m1⟩:=H.dr
  obtain ⟨b',el1⟩:=H1.m2.el sgF_len (by decide) hj
  have hbb:=e0.p.symm.trans el1.p
  simp only [Option.some.injEq,Addr.mk.injEq,and_true] at hbb
  subst hbb
  have l1 : ldI .i64 w1 ⟨p,5,none⟩ = some h:=H1.ldI rfl
  have l1h : ldI .i64 w1 ⟨b,dz.length * 5 + 3,none⟩ = some u.high:=el1.i rfl
  obtain ⟨w2,e2,H2,m2⟩:=H1.stV (o:=5) (x:=.int .i64 (max h u.high)) (by simp [lgC]) rfl
  have H2 : Hp F0 g0 w0 g w2 (lbR p (lgC x c base segs age (max h u.high) rel s) :: dkR x D :: seR s (dz ++ (u :: us).map fun u=>(u,Sl.nil)) :: L):=H2
  refine Nd.next ?_
  unfold evlog_Log_read_l2
  refine Nd.t (by simp; omega) (Nd.s1 (Nd.b1 (by rw [add_mk]; exact l0) (Nd.b1 e0.ix (Nd.b1 e1 (Nd.b1 (by rw [add_mk]; exact l1) (Nd.b1 (by rw [add_mk]; exact l1h) (Nd.b1 (by rw [add_mk,mx_max]; exact e2) (Nd.j1 (Ψ:=fun w'=>∃ g' z' rz',Hp F0 g0 w0 g' w' (lbR p (lgC x c base segs age (D.seg base u.pos 16 u.fin (max h u.high) []).2.1 rel s) :: dkR x D :: seR s ((dz ++ (u :: us).map fun u=>(u,Sl.nil)).set dz.length (⟨u.pos,u.seq,(D.seg base u.pos 16 u.fin (max h u.high) []).1,u.high,(D.seg base u.pos 16 u.fin (max h u.high) []).2.2⟩,z')) :: owR 87 2 z' (rz'.flatMap rcF) :: L)∧Mo g w g' w'∧RZ g' w' rz' (D.seg base u.pos 16 u.fin (max h u.high) []).2.2) ?_ ?_))))))))
  ·refine read3_ok hb0 hb1 ⟨hu1,hu2⟩ hbt hbd e0.p 16 _ (u,Sl.nil) [] (max h u.high) g w2 (by simp only; omega) (by simp only; omega) (by simp only; omega) (by omega) hj rfl (by simp only [hu4]; exact RZ.nil) (by simp only [List.length_nil]; omega) H2.onil.b3 fun g' w' z' rz' H' m' hz'=>?_
   simp only [hu4] at H' hz'
   exact ⟨g',z',rz',H',m1.t (m2.t m'),hz'⟩
  ·rintro w3 ⟨g3,z3,rz3,H3,m3,hz3⟩
   obtain ⟨r,hr⟩ : ∃ r,D.seg base u.pos 16 u.fin (max h u.high) [] = r:=⟨_,rfl⟩
   rw [hr] at H3 hz3
   obtain ⟨g4,p4,H4,m4⟩:=H3.m3.keepO
   have l4 : ldI .i64 w3 ⟨p,5,none⟩ = some r.2.1:=H4.ldI rfl
   have hj4 : ((dz ++ (u :: us).map fun u=>(u,Sl.nil)).set dz.length (⟨u.pos,u.seq,r.1,u.high,r.2.2⟩,z3))[dz.length]? = some (⟨u.pos,u.seq,r.1,u.high,r.2.2⟩,z3):=by rw [List.getElem?_set_self (List.getElem?_eq_some_iff.1 hj).1]
   obtain ⟨b',el4⟩:=H4.m2.el sgF_len (by decide) hj4
   have hbb:=e0.p.symm.trans el4.p
   simp only [Option.some.injEq,Addr.mk.injEq,and_true] at hbb
   subst hbb
   obtain ⟨w5,e5,H5,m5⟩:=H4.m2.elset (q':=(⟨u.pos,u.seq,r.1,r.2.1,r.2.2⟩,z3)) sgF_len el4 hj4 (k:=3) (by decide) (v:=.int .i64 r.2.1) rfl rfl
   rw [List.set_set] at H5
   have hset : (dz ++ (u :: us).map fun u=>(u,Sl.nil)).set dz.length (⟨u.pos,u.seq,r.1,r.2.1,r.2.2⟩,z3) = (dz ++ [(⟨u.pos,u.seq,r.1,r.2.1,r.2.2⟩,z3)]) ++ us.map fun u=>(u,Sl.nil):=by
    rw [List.set_append_right _ _ (Nat.le_refl _),Nat.sub_self]; simp
   rw [hset] at H5
   refine Nd.b1 (by rw [add_mk]; exact l4) (Nd.b1 (by rw [add_mk]; exact e5) (Nd.ret ?_))
   have hseg : D.segs base (u :: us) h (dz.map Prod.fst) = D.segs base us r.2.1 ((dz ++ [((⟨u.pos,u.seq,r.1,r.2.1,r.2.2⟩ : Sg),z3)]).map Prod.fst):=by rw [Dk.segs,hr]; simp
   have hle : 0≤r.2.1:=by
    have key : ∀ (m : Nat) (e h : Int) (rs : List (Int×List Int)),0≤h→0≤(D.seg base u.pos m e h rs).2.1:=by
     intro m
     induction m with
     | zero=>intro e h rs hh; exact hh
     | succ m ih =>
      intro e h rs hh
      unfold Dk.seg
      split
      ·split
       ·exact ih _ _ _ (by omega)
       ·exact hh
      ·exact hh
    rw [← hr]; exact key _ _ _ _ (by omega)
   have:=read2_ok hb0 hb1 hbt hbd (Φ:=Φ) us (dz ++ [(⟨u.pos,u.seq,r.1,r.2.1,r.2.2⟩,z3)]) r.2.1 g4 w5 (fun v hv=>hu v (by simp [hv])) hle hsn (fun q hq=>by
     rcases List.mem_append.1 hq with hq | hq
     ·exact (hdz q hq).mo (m3.t (m4.t m5))
     ·simp at hq; subst hq; exact ⟨rz3,p4.mo m5,hz3.mo (m4.t m5)⟩) H5.b2 fun g' w' dz' H' m' h1 h2=>hΦ g' w' dz' (by rw [hseg]; exact H') (m3.t (m4.t (m5.t m'))) (by rw [hseg]; exact h1) h2
   have hlen : ((dz ++ [((⟨u.pos,u.seq,r.1,r.2.1,r.2.2⟩ : Sg),z3)]).length : Int) = IntKind.wrap .i64 ((dz.length : Int) + 1):=by rw [wrap_nat (by omega)]; simp
   rw [hlen] at this
   exact this
theorem lread_ok (hb0 : 0≤base) (hb1 : base≤512) (hs0 : 0≤segs) (hs1 : segs≤16) (hbt : D.Bt) (hbd : D.W.length < 900000) {Φ : World→Prop} (hc : Cp g w c x base 1)
  (H : Hp F0 g0 w0 g w (lbR p (lgC x c base segs D.age 0 0 Sl.nil) :: dkR x D :: L))
  (hΦ : ∀ g' w' s' dz,Hp F0 g0 w0 g' w' (lbR p (lgC x c base segs D.age (D.readL base segs).high (D.readL base segs).rel s') :: dkR x D :: seR s' dz :: L)→Mo g w g' w'→dz.map Prod.fst = (D.readL base segs).used→DzOk g' w' dz→Φ w') :
  (evlog_Log_read (some ⟨p,0,none⟩) w).t Φ:=by
 have l0 : ldI .i64 w ⟨p,3,none⟩ = some segs:=H.ldI rfl
 unfold evlog_Log_read
 refine Nd.s1 (Nd.b1 (by rw [add_mk]; exact l0) (Nd.j1 (Ψ:=fun w'=>∃ g' s',Hp F0 g0 w0 g' w' (lbR p (lgC x c base segs D.age 0 0 s') :: dkR x D :: owR 125 5 s' ((D.heads base segs.toNat).flatMap sgN) :: L)∧Mo g w g' w') (read1_ok hb0 hb1 hs0 hs1 hbt hbd H fun g' w' s' H' m'=>⟨g',s',H',m'⟩) ?_))
 rintro w1 ⟨g1,s1,H1,m1⟩
 have l1 : ldL w1 ⟨p,7,none⟩ = some s1:=H1.ldL rfl
 have hhl:=heads_len (D:=D) (base:=base) (n:=segs.toNat)
 obtain ⟨w2,e2,H2,m2⟩:=sort_ok (us:=D.heads base segs.toNat) (fun y hy=>by have:=heads_wf hy; omega) (by omega) H1.m2
 obtain ⟨us,hus⟩ : ∃ us,(D.heads base segs.toNat).foldl insS [] = us:=⟨_,rfl⟩
 have husl : us.length≤16:=by rw [← hus,sorted_len]; simp; omega
 have husw : ∀ u∈us,0≤u.pos∧u.pos≤16∧u.fin = 1∧u.recs = []:=fun u hu=>by
  rw [← hus] at hu
  rcases sorted_mem hu with h | h
  ·have:=heads_wf h; exact ⟨this.1,by omega,this.2.2.2.2.1,this.2.2.2.2.2.2.2⟩
  ·cases h
 rw [hus] at H2
 have hmap : us.flatMap sgN = (([] : List (Sg×Sl)) ++ us.map fun u=>(u,Sl.nil)).flatMap sgF:=by rw [List.nil_append,List.flatMap_map]; rfl
 rw [hmap] at H2
 have H3:=H2.b2
 have l3 : ldL w2 ⟨p,7,none⟩ = some s1:=H3.ldL rfl
 have hsn : s1.n≤16:=by have:=H2.ow.len; rw [fl_len sgF_len] at this; simp at this; omega
 have hrl : D.readL base segs = ⟨base,segs,D.age,max (D.segs base us 0 []).1 (D.get base 1 0).1,(D.get base 1 0).1,(D.segs base us 0 []).2⟩:=by unfold Dk.readL; rw [hus]
 refine Nd.b1 (by rw [add_mk]; exact l1) (Nd.b1 e2 (Nd.b1 (by rw [add_mk]; exact l3) (Nd.j1 (Ψ:=fun w'=>∃ g' dz,Hp F0 g0 w0 g' w' (lbR p (lgC x c base segs D.age (D.segs base us 0 []).1 0 s1) :: dkR x D :: seR s1 dz :: L)∧Mo g w g' w'∧dz.map Prod.fst = (D.segs base us 0 []).2∧DzOk g' w' dz) (read2_ok hb0 hb1 hbt hbd us [] 0 g1 w2 husw (Int.le_refl _) hsn (fun q hq=>by cases hq) H3 fun g' w' dz H' m' h1 h2=>⟨g',dz,H',m1.t (m2.t m'),h1,h2⟩) ?_)))
 rintro w4 ⟨g4,dz,H4,m4,hd1,hd2⟩
 have l4 : ldP w4 ⟨p,1,none⟩ = some (some ⟨c,0,none⟩):=H4.ldP rfl
 obtain ⟨w5,e5,H5,m5⟩:=H4.sw.mget (hc.mo m4) hbt hbd 0
 obtain ⟨rl,hrel⟩ : ∃ rl,(D.get base 1 0).1 = rl:=⟨_,rfl⟩
 rw [hrel] at e5 hrl
 obtain ⟨w6,e6,H6,m6⟩:=H5.sw.stV (o:=6) (x:=.int .i64 rl) (by simp [lgC]) rfl
 obtain ⟨w7,e7,H7,m7⟩:=H6.dr
 have l7 : ldI .i64 w7 ⟨p,5,none⟩ = some (D.segs base us 0 []).1:=H7.ldI rfl
 have l7r : ldI .i64 w7 ⟨p,6,none⟩ = some rl:=H7.ldI rfl
 obtain ⟨w8,e8,H8,m8⟩:=H7.stV (o:=5) (x:=.int .i64 (max (D.segs base us 0 []).1 rl)) (by simp [lgC]) rfl
 refine Nd.b1 (by rw [add_mk]; exact l4) (Nd.b3 e5 (Nd.b1 (by rw [add_mk]; exact e6) (Nd.b1 e7 (Nd.b1 (by rw [add_mk]; exact l7) (Nd.b1 (by rw [add_mk]; exact l7r) (Nd.b1 (by rw [add_mk,mx_max]; exact e8) (Nd.ret (hΦ g4 w8 s1 dz ?_ (m4.t (m5.t (m6.t (m7.t m8)))) (by rw [hrl]; exact hd1) (hd2.mo (m5.t (m6.t (m7.t m8))))))))))))
 rw [hrl]
 exact H8
end
theorem Ex.jX {ρ α : Type} {Φ : ρ→Prop} {o : Option (ρ⊕α)} {f : α→Option ρ} {Ψ : α→Prop} (h : Ex o fun r=>match r with | .inl r=>Φ r | .inr a=>Ψ a) (k : ∀ a,Ψ a→Ex (f a) Φ) : Ex (bindX o some f) Φ:=by
 obtain ⟨r,e,h⟩:=h
 subst e
 cases r with
 | inl r=>exact ⟨r,rfl,h⟩
 | inr a=>exact k a h
theorem free_cons {D : Dk} {base rel : Int} {s : Sg} {l : List Sg} : D.free base rel (s :: l) = if l = []∨rel < s.high then ((D.free base rel l).1,(D.free base rel l).2.1,s :: (D.free base rel l).2.2)
  else if (D.write (base + 2 + s.pos * 16 + 0) []).1 = 0 then (D.write (base + 2 + s.pos * 16 + 0) []).2.free base rel l
  else ((D.write (base + 2 + s.pos * 16 + 0) []).1,(D.write (base + 2 + s.pos * 16 + 0) []).2,[]):=rfl
theorem free_W {base rel : Int} : ∀ (us : List Sg) (D : Dk),(D.free base rel us).2.1.W.length≤D.W.length + us.length
 | [],D=>Nat.le_add_right _ _
 | s :: l,D=>by
  have h1:=write_W D (base + 2 + s.pos * 16 + 0) []
  unfold Dk.free
  split
  ·have:=free_W (base:=base) (rel:=rel) l D; simp only [List.length_cons]; omega
  ·split
   ·have:=free_W (base:=base) (rel:=rel) l (D.write (base + 2 + s.pos * 16 + 0) []).2; simp only [List.length_cons]; omega
   ·simp only [List.length_cons]; omega
theorem wipe_W {base pos : Int} : ∀ (m : Nat) (D : Dk) (i n : Int),(D.wipe base pos m i n).2.2.W.length≤D.W.length + m
 | 0,D,_,_=>Nat.le_add_right _ _
 | m + 1,D,i,n=>by
  have h1:=write_W D (base + 2 + pos * 16 + i) []
  unfold Dk.wipe
  split
  ·have:=wipe_W (base:=base) (pos:=pos) m D (i + 1) n; omega
  ·split
   ·have:=wipe_W (base:=base) (pos:=pos) m (D.write (base + 2 + pos * 16 + i) []).2 (i + 1) (n + 1); omega
   ·simp only; omega
section
variable {F0 : Nat → Prop} {g g0 : Gh} {w w0 : World} {L : List Rs} {s : Sl} {x c p : Nat} {D : Dk} {base pos segs age rel high t : Int} {dz : List (Sg × Sl)} {cs : List Value}
theorem rdnil {w : World} : Rd w Sl.nil 1 (nums .u8 []):=Rd.nil rfl
theorem drop_fst {j : Nat} {q : Sg×Sl} (h : dz[j]? = some q) : (dz.map Prod.fst).drop j = q.1 :: (dz.map Prod.fst).drop (j + 1):=by
 obtain ⟨hj,rfl⟩:=List.getElem?_eq_some_iff.1 h
 rw [List.drop_eq_getElem_cons (by simpa using hj)]; simp
theorem free_ok (hb0 : 0≤base) (hb1 : base≤512) (hsn : dz.length≤1000) (hp : ∀ q∈dz,0≤q.1.pos∧q.1.pos≤16) (hbd : D.W.length + dz.length < 900000)
  (H : Hp F0 g0 w0 g w (lbR p (lgC x c base segs age high rel s) :: dkR x D :: seR s dz :: L)) :
  ∃ z w' dz',evlog_Log_free (some ⟨p,0,none⟩) t w = some (z,(D.free base t (dz.map Prod.fst)).1,w')∧Hp F0 g0 w0 g w' (lbR p (lgC x c base segs age high rel s) :: dkR x (D.free base t (dz.map Prod.fst)).2.1 :: seR s dz :: seR z dz' :: L)∧Mo g w g w' ∧
   ((D.free base t (dz.map Prod.fst)).1 = 0→dz'.map Prod.fst = (D.free base t (dz.map Prod.fst)).2.2∧∀ q∈dz',q∈dz):=by
 have hsl : dz.length = s.n:=by have:=H.m2.ow.len; rw [fl_len sgF_len] at this; omega
 have l0 : ldL w ⟨p,7,none⟩ = some s:=H.ldL rfl
 have lp:=Ex.loop (step:=fun r : Sl×Int×World=>evlog_Log_free_l1 s (some ⟨p,0,none⟩) t r.1 r.2.1 r.2.2)
  (Φ:=fun o=>match o with
   | .inl (z,w')=>∃ dz',(D.free base t (dz.map Prod.fst)).1 = 0∧Hp F0 g0 w0 g w' (lbR p (lgC x c base segs age high rel s) :: dkR x (D.free base t (dz.map Prod.fst)).2.1 :: seR s dz :: seR z dz' :: L)∧Mo g w g w'∧dz'.map Prod.fst = (D.free base t (dz.map Prod.fst)).2.2∧∀ q∈dz',q∈dz
   | .inr (z,e,w')=>e = (D.free base t (dz.map Prod.fst)).1∧e≠0∧z = Sl.nil∧Hp F0 g0 w0 g w' (lbR p (lgC x c base segs age high rel s) :: dkR x (D.free base t (dz.map Prod.fst)).2.1 :: seR s dz :: L)∧Mo g w g w')
  (fun m r=>∃ (j : Nat) (D1 : Dk) (acc : List (Sg×Sl)) (z : Sl) (w1 : World),r = (z,(j : Int),w1)∧m + j = dz.length∧D1.W.length + m < 900000∧Hp F0 g0 w0 g w1 (lbR p (lgC x c base segs age high rel s) :: dkR x D1 :: seR s dz :: seR z acc :: L)∧Mo g w g w1∧acc.length≤j∧(∀ q∈acc,q∈dz) ∧
   (D.free base t (dz.map Prod.fst)).1 = (D1.free base t ((dz.map Prod.fst).drop j)).1∧(D.free base t (dz.map Prod.fst)).2.1 = (D1.free base t ((dz.map Prod.fst).drop j)).2.1∧(D.free base t (dz.map Prod.fst)).2.2 = acc.map Prod.fst ++ (D1.free base t ((dz.map Prod.fst).drop j)).2.2)
  (fun m r hI=>by
   obtain ⟨j,D1,acc,z,w1,rfl,hm,hW,H1,m1,hal,hsub,r1,r2,r3⟩:=hI
   unfold evlog_Log_free_l1
   by_cases hlt : j < dz.length
   ·obtain ⟨q,hq⟩ : ∃ q,dz[j]? = some q:=⟨_,List.getElem?_eq_getElem hlt⟩
    have hqm:=List.mem_of_getElem? hq
    have hqp:=hp q hqm
    obtain ⟨b,el⟩:=H1.m2.el sgF_len (by decide) hq
    obtain ⟨pb,w2,e2,H2,m2⟩:=H1.box (T:=125) (cs:=sg0)
    have e2' : mk w1 125 (List.replicate 4 (.int .i64 0) ++ [.slice none 0 0]) = some (⟨pb,0,none⟩,w2):=e2
    obtain ⟨w3,e3,H3,m3,l3⟩:=H2.stA' (vs:=sgF q) rfl sgC_one
    have l3s : ldL w3 ⟨p,7,none⟩ = some s:=H3.sw.ldL rfl
    have l3h : ldI .i64 w3 ⟨pb,3,none⟩ = some q.1.high:=H3.ldI rfl
    have l3a : ldA 5 w3 ⟨pb,0,none⟩ 0 = some (sgF q):=l3
    have mm:=m1.t (m2.t m3)
    rw [drop_fst hq] at r1 r2 r3
    rw [free_cons] at r1 r2 r3
    have hlast : ((dz.map Prod.fst).drop (j + 1) = []) ↔ (j : Int) = IntKind.wrap .i64 ((s.n : Int) - 1):=by
     rw [wr64 (by omega) (by omega),List.drop_eq_nil_iff]; simp; omega
    refine Ex.t (by simp; omega) ?_
    refine Ex.jX (Ψ:=fun r=>∃ (D2 : Dk) (acc2 : List (Sg×Sl)),D2.W.length + (m - 1) < 900000∧Hp F0 g0 w0 g r.2 (lbR p (lgC x c base segs age high rel s) :: dkR x D2 :: seR s dz :: seR r.1 acc2 :: L)∧Mo g w g r.2∧acc2.length≤j + 1∧(∀ q∈acc2,q∈dz) ∧
     (D.free base t (dz.map Prod.fst)).1 = (D2.free base t ((dz.map Prod.fst).drop (j + 1))).1∧(D.free base t (dz.map Prod.fst)).2.1 = (D2.free base t ((dz.map Prod.fst).drop (j + 1))).2.1∧(D.free base t (dz.map Prod.fst)).2.2 = acc2.map Prod.fst ++ (D2.free base t ((dz.map Prod.fst).drop (j + 1))).2.2) ?_ ?_
    ·refine Ex.b1 el.ix (Ex.b1 el.ldA (Ex.b2 e2' (Ex.b1 e3 ?_)))
     by_cases hk : (dz.map Prod.fst).drop (j + 1) = []∨t < q.1.high
     ·rw [if_pos hk] at r1 r2 r3
      refine Ex.b2 (a:=true) (b:=w3) ?_ (Ex.t rfl (Ex.b1 l3a ?_))
      ·rw [Option.bind_some,add_mk,Nat.zero_add,l3s,Option.bind_some]
       by_cases h1 : (dz.map Prod.fst).drop (j + 1) = []
       ·rw [if_pos (by simpa using hlast.1 h1)]
       ·rw [if_neg (by simpa using fun h=>h1 (hlast.2 h)),add_mk,Nat.zero_add,l3h,Option.bind_some,decide_eq_true (by rcases hk with h | h; exact (h1 h).elim; exact h)]
      ·obtain ⟨z4,w4,e4,n4,_,H4,m4⟩:=H3.bsl (T:=125) (sz:=5) (ps:=[sgF q]) (by intro v hv; simp at hv; subst hv; rfl) (by simp)
       have hzn : acc.length = z.n:=by have:=H4.tl.m4.ow.len; rw [fl_len sgF_len] at this; omega
       obtain ⟨z5,w5,e5,n5,H5,m5⟩:=H4.tl.m4.apS stSeg H4.ow.rd (by intro v hv; simp at hv; exact sgC_one v hv) (by rw [n4]; simp; omega)
       have hfl : acc.flatMap sgF ++ [sgF q].flatten = (acc ++ [q]).flatMap sgF:=by simp
       rw [hfl] at H5
       refine Ex.b2 e4 (Ex.b2 e5 (Ex.ret ⟨D1,acc ++ [q],by omega,H5.sw.tl.b3,mm.t (m4.t m5),by simp; omega,?_,r1,r2,by rw [r3]; simp⟩))
       intro q' hq'
       rcases List.mem_append.1 hq' with h | h
       ·exact hsub q' h
       ·simp at h; subst h; exact hqm
     ·rw [if_neg hk] at r1 r2 r3
      have hk1 : ¬ (dz.map Prod.fst).drop (j + 1) = []:=fun h=>hk (.inl h)
      refine Ex.b2 (a:=false) (b:=w3) ?_ (Ex.f (by simp) ?_)
      ·rw [Option.bind_some,add_mk,Nat.zero_add,l3s,Option.bind_some,if_neg (by simpa using fun h=>hk1 (hlast.2 h)),add_mk,Nat.zero_add,l3h,Option.bind_some,decide_eq_false (fun h=>hk (.inr h))]
      ·obtain ⟨w4,e4,H4,m4⟩:=H3.dr
       have l4 : ldP w4 ⟨p,0,none⟩ = some (some ⟨x,0,none⟩):=H4.sw.ldP rfl
       have l4p : ldI .i64 w4 ⟨pb,0,none⟩ = some q.1.pos:=H4.ldI rfl
       have a4:=at_ok (i:=0) (lgC_LC (x:=x) (c:=c) (segs:=segs) (age:=age) (h:=high) (rel:=rel) (s:=s) hb0 hb1) hqp ⟨by omega,by omega⟩ H4.sw.bx
       obtain ⟨w5,e5,H5,m5⟩:=H4.m2.dwrite (i:=base + 2 + q.1.pos * 16 + 0) rdnil (by omega)
       have hww:=write_W D1 (base + 2 + q.1.pos * 16 + 0) []
       refine Ex.b1 e4 (Ex.s1 (Ex.b1 (by rw [add_mk]; exact l4) (Ex.b1 (by rw [add_mk]; exact l4p) (Ex.b2 a4 (Ex.b2 e5 (Ex.ck (by rw [add_mk]; exact l4) ?_))))))
       by_cases he : (D1.write (base + 2 + q.1.pos * 16 + 0) []).1 = 0
       ·rw [if_pos he] at r1 r2 r3
        exact Ex.f (by rw [he]; decide) (Ex.ret ⟨_,acc,by omega,H5.sw.tl.sw,mm.t (m4.t m5),by omega,hsub,r1,r2,r3⟩)
       ·rw [if_neg he] at r1 r2 r3
        refine Ex.t (by simpa using he) (Ex.s1 (Ex.ret ⟨r1.symm,he,rfl,?_,mm.t (m4.t m5)⟩))
        rw [r2]; exact H5.sw.tl.sw.m3.tl
    ·rintro ⟨z6,w6⟩ ⟨D2,acc2,h1,h2,h3,h4,h5,h6,h7,h8⟩
     exact Ex.ret ⟨m - 1,by omega,j + 1,D2,acc2,z6,w6,by rw [wrap_nat (by omega)],by omega,h1,h2,h3,h4,h5,h6,h7,h8⟩
   ·have hd : (dz.map Prod.fst).drop j = []:=by rw [List.drop_eq_nil_iff]; simp; omega
    rw [hd] at r1 r2 r3
    refine Ex.f (by simp; omega) (Ex.ret ⟨acc,r1,?_,m1,by rw [r3]; simp [Dk.free],hsub⟩)
    rw [r2]; exact H1) dz.length (Sl.nil,((0 : Nat) : Int),w) ⟨0,D,[],Sl.nil,w,rfl,by omega,by omega,H.onil.b3,Mo.r,by simp,(fun q hq=>by cases hq),rfl,rfl,by simp⟩
 obtain ⟨o,e2,ho⟩:=lp
 have e2' : loopF (fun r : Sl×Int×World=>evlog_Log_free_l1 s (some ⟨p,0,none⟩) t r.1 r.2.1 r.2.2) (Sl.nil,0,w) = some o:=e2
 unfold evlog_Log_free
 rw [Option.bind_some,add_mk,Nat.zero_add,l0,Option.bind_some,e2',Option.bind_some]
 cases o with
 | inl r =>
  obtain ⟨z,w'⟩:=r
  obtain ⟨dz',h0,h1,h2,h3,h4⟩:=ho
  exact ⟨z,w',dz',by simp only [Sum.elim_inl,u2]; rw [h0],h1,h2,fun _=>⟨h3,h4⟩⟩
 | inr r =>
  obtain ⟨z,e,w'⟩:=r
  obtain ⟨rfl,h0,rfl,h1,h2⟩:=ho
  exact ⟨Sl.nil,w',[],by simp only [Sum.elim_inr,u3],h1.onil.b3,h2,fun h=>(h0 h).elim⟩
theorem wipe_ok (hc : LC cs x base) (hp : 0≤pos∧pos≤16) : ∀ (m : Nat) (D : Dk) (i n : Int) (g : Gh) (w : World),(m : Int) + i = 16→0≤i→D.W.length + m < 900000→0≤n→n + m≤1000→Hp F0 g0 w0 g w (lbR p cs :: dkR x D :: L) →
  ∃ o g' w',loopF (fun r : Int×Int×World=>evlog_Log_wipe_l1 (some ⟨p,0,none⟩) pos r.1 r.2.1 r.2.2) (n,i,w) = some o∧(Sum.elim (fun (i : Int×World)=>u2 i fun v6 w7=>some (v6,0,w7)) (fun (i : Int×Int×World)=>u3 i fun v8 v9 w10=>some (v8,v9,w10)) o = some ((D.wipe base pos m i n).1,(D.wipe base pos m i n).2.1,w')) ∧
   Hp F0 g0 w0 g' w' (lbR p cs :: dkR x (D.wipe base pos m i n).2.2 :: L)∧Mo g w g' w'
 | 0,D,i,n,g,w,hm,hi,hbd,hn0,hn,H=>by
  refine ⟨.inl (n,w),g,w,loopF_done ?_,rfl,H,Mo.r⟩
  unfold evlog_Log_wipe_l1
  rw [if_neg (by simp; omega)]
 | m + 1,D,i,n,g,w,hm,hi,hbd,hn0,hn,H=>by
  obtain ⟨q,g2,w2,e2,H2,m2,r2,c2,n2⟩:=look_ok (i:=i) hc hp (by omega) H (by omega)
  have e3:=empty_ok r2.rd (by omega)
  have hlt : decide (i < 16) = true:=by simp; omega
  by_cases hz : zeroL (D.look base pos i) = true
  ·obtain ⟨o,g',w',h1,h2,h3,h4⟩:=wipe_ok hc hp m D (i + 1) n g2 w2 (by omega) (by omega) (by omega) hn0 (by omega) H2
   refine ⟨o,g',w',?_,?_,?_,m2.t h4⟩
   ·rw [← h1]
    refine loopF_next ?_
    unfold evlog_Log_wipe_l1
    rw [if_pos hlt,e2,bind2_some,e3,bind2_some,if_pos hz]
    simp only [bindX,u2]
    rw [wr64 (by omega) (by omega)]
   ·rw [Dk.wipe,if_pos hz]; exact h2
   ·rw [Dk.wipe,if_pos hz]; exact h3
  ·obtain ⟨w4,e4,H4,m4⟩:=H2.dr
   have l4 : ldP w4 ⟨p,0,none⟩ = some (some ⟨x,0,none⟩):=H4.ldP hc.d
   have a4:=at_ok (i:=i) hc hp (by omega) H4.bx
   obtain ⟨w5,e5,H5,m5⟩:=H4.sw.dwrite (i:=base + 2 + pos * 16 + i) rdnil (by omega)
   have hww:=write_W D (base + 2 + pos * 16 + i) []
   by_cases he : (D.write (base + 2 + pos * 16 + i) []).1 = 0
   ·obtain ⟨o,g',w',h1,h2,h3,h4⟩:=wipe_ok hc hp m (D.write (base + 2 + pos * 16 + i) []).2 (i + 1) (n + 1) g2 w5 (by omega) (by omega) (by omega) (by omega) (by omega) H5.sw
    refine ⟨o,g',w',?_,?_,?_,m2.t (m4.t (m5.t h4))⟩
    ·rw [← h1]
     refine loopF_next ?_
     unfold evlog_Log_wipe_l1
     rw [if_pos hlt,e2,bind2_some,e3,bind2_some,if_neg hz,e4,Option.bind_some,Option.bind_some,add_mk,Nat.zero_add,l4,Option.bind_some,a4,bind2_some,e5,bind2_some,chk_pos l4,if_neg (by simp [he])]
     simp only [bindX,u2]
     rw [wr64 (by omega) (by omega),wr64 (by omega) (by omega)]
    ·rw [Dk.wipe,if_neg hz,if_pos he]; exact h2
    ·rw [Dk.wipe,if_neg hz,if_pos he]; exact h3
   ·refine ⟨.inr (n,(D.write (base + 2 + pos * 16 + i) []).1,w5),g2,w5,loopF_done ?_,?_,?_,m2.t (m4.t m5)⟩
    ·unfold evlog_Log_wipe_l1
     rw [if_pos hlt,e2,bind2_some,e3,bind2_some,if_neg hz,e4,Option.bind_some,Option.bind_some,add_mk,Nat.zero_add,l4,Option.bind_some,a4,bind2_some,e5,bind2_some,chk_pos l4,if_pos (by simpa using he)]
     simp only [Option.bind_some,bindX]
    ·rw [Dk.wipe,if_neg hz,if_neg he]; rfl
    ·rw [Dk.wipe,if_neg hz,if_neg he]; exact H5.sw
theorem wipes_ok (hc : LC cs x base) (hp : 0≤pos∧pos≤16) {i : Int} (hi : 0≤i∧i≤16) (hbd : D.W.length < 890000) (H : Hp F0 g0 w0 g w (lbR p cs :: dkR x D :: L)) :
  ∃ g' w',evlog_Log_wipe (some ⟨p,0,none⟩) pos i w = some ((D.wipe base pos (16 - i).toNat i 0).1,(D.wipe base pos (16 - i).toNat i 0).2.1,w')∧Hp F0 g0 w0 g' w' (lbR p cs :: dkR x (D.wipe base pos (16 - i).toNat i 0).2.2 :: L)∧Mo g w g' w':=by
 obtain ⟨o,g',w',h1,h2,h3,h4⟩:=wipe_ok hc hp (16 - i).toNat D i 0 g w (by omega) hi.1 (by omega) (Int.le_refl _) (by omega) H
 exact ⟨g',w',by unfold evlog_Log_wipe; rw [h1,Option.bind_some,h2],h3,h4⟩
end
def lgR (p x : Nat) (l : Lg) : Rs where
 h g w F:=∃ (c : Nat) (s : Sl) (dz : List (Sg×Sl)),dz.map Prod.fst = l.used∧Cp g w c x l.base 1∧DzOk g w dz∧SepX g w F [lbR p (lgC x c l.base l.segs l.age l.high l.rel s),seR s dz]
 st:=fun ⟨c,s,dz,h1,h2,h3,h4⟩ m hk=>⟨c,s,dz,h1,h2.mo m,h3.mo m,h4.st m hk⟩
 lt:=fun ⟨c,s,dz,h1,h2,h3,h4⟩ hk=>h4.lt hk
section
variable {F0 : Nat → Prop} {g g0 : Gh} {w w0 : World} {L : List Rs} {s : Sl} {x c p : Nat} {D : Dk} {base segs t : Int} {dz : List (Sg × Sl)} {l : Lg}
theorem Hp.lgo (H : Hp F0 g0 w0 g w (lgR p x l :: L)) : ∃ (c : Nat) (s : Sl) (dz : List (Sg×Sl)),dz.map Prod.fst = l.used∧Cp g w c x l.base 1∧DzOk g w dz∧Hp F0 g0 w0 g w (lbR p (lgC x c l.base l.segs l.age l.high l.rel s) :: seR s dz :: L):=by
 obtain ⟨sp,F,⟨c,s,dz,h1,h2,h3,h4⟩,h5,h6⟩:=H
 exact ⟨c,s,dz,h1,h2,h3,sp,h4.sep h5 h6⟩
theorem Hp.lgi (h1 : dz.map Prod.fst = l.used) (h2 : Cp g w c x l.base 1) (h3 : DzOk g w dz) (H : Hp F0 g0 w0 g w (lbR p (lgC x c l.base l.segs l.age l.high l.rel s) :: seR s dz :: L)) : Hp F0 g0 w0 g w (lgR p x l :: L):=by
 obtain ⟨F,k1,k2,k3⟩:=Sep.sepx (l:=[lbR p (lgC x c l.base l.segs l.age l.high l.rel s),seR s dz]) H.sep
 exact ⟨H.sp,F,⟨c,s,dz,h1,h2,h3,k1⟩,k2,k3⟩
theorem logC_s {n : Int} (h : logC n base segs = true) : 2≤segs∧segs≤16∧0≤base∧base≤n - 2 - segs * 16:=by
 simp only [logC,Bool.and_eq_true,decide_eq_true_eq] at h
 exact ⟨h.1.1.1,h.1.1.2,h.1.2,h.2⟩
theorem segs_pos {D : Dk} {base : Int} : ∀ {us : List Sg} {h : Int} {ds : List Sg},(D.segs base us h ds).2.map (fun s=>s.pos) = ds.map (fun s=>s.pos) ++ us.map (fun s=>s.pos)
 | [],_,_=>by simp [Dk.segs]
 | u :: us,h,ds=>by rw [Dk.segs,segs_pos]; simp
theorem read_len2 : (D.readL base segs).used.length≤segs.toNat:=by
 have h1:=heads_len (D:=D) (base:=base) (n:=segs.toNat)
 show (D.segs base ((D.heads base segs.toNat).foldl insS []) 0 []).2.length≤segs.toNat
 rw [segs_map,sorted_len]
 simpa using h1
theorem seg_fin {D : Dk} {base pos : Int} : ∀ (m : Nat) (e h : Int) (rs : List (Int×List Int)),1≤e→e≤16→1≤(D.seg base pos m e h rs).1∧(D.seg base pos m e h rs).1≤16
 | 0,e,h,rs,h1,h2=>⟨h1,h2⟩
 | m + 1,e,h,rs,h1,h2=>by
  unfold Dk.seg
  split
  ·rename_i t b nx hr
   have : e + 1≤nx∧nx≤e + ((16 - e).toNat : Int):=rcd_next hr
   split
   ·exact seg_fin m nx t _ (by omega) (by omega)
   ·exact ⟨h1,h2⟩
  ·exact ⟨h1,h2⟩
theorem segs_fin {D : Dk} {base : Int} : ∀ {us : List Sg} {h : Int} {ds : List Sg} {s : Sg},(∀ u∈us,1≤u.fin∧u.fin≤16)→(∀ u∈ds,1≤u.fin∧u.fin≤16)→s∈(D.segs base us h ds).2→1≤s.fin∧s.fin≤16
 | [],_,ds,s,hu,hd,hs=>hd s hs
 | u :: us,h,ds,s,hu,hd,hs=>by
  rw [Dk.segs] at hs
  refine segs_fin (fun v hv=>hu v (by simp [hv])) (fun v hv=>?_) hs
  rcases List.mem_append.1 hv with hv | hv
  ·exact hd v hv
  ·simp at hv; subst hv
   exact seg_fin _ _ _ _ (hu u (by simp)).1 (hu u (by simp)).2
theorem readL_mem {s : Sg} (hs : s∈(D.readL base segs).used) : 0≤s.pos∧s.pos < segs.toNat∧1≤s.fin∧s.fin≤16:=by
 have hp : s.pos∈(D.segs base ((D.heads base segs.toNat).foldl insS []) 0 []).2.map (fun s=>s.pos):=List.mem_map.2 ⟨s,hs,rfl⟩
 rw [segs_pos] at hp
 simp only [List.map_nil,List.nil_append,List.mem_map] at hp
 obtain ⟨u,hu,hpu⟩:=hp
 have hw : ∀ u∈(D.heads base segs.toNat).foldl insS [],u∈D.heads base segs.toNat:=fun u hu=>by
  rcases sorted_mem hu with h | h
  ·exact h
  ·cases h
 have h1:=heads_wf (hw u hu)
 have h2:=segs_fin (D:=D) (base:=base) (us:=(D.heads base segs.toNat).foldl insS []) (h:=0) (ds:=[]) (s:=s) (fun u hu=>by have:=heads_wf (hw u hu); omega) (fun u hu=>by cases hu) hs
 exact ⟨by omega,by omega,h2.1,h2.2⟩
theorem free_sub {rel : Int} : ∀ {us : List Sg} {D : Dk} {s : Sg},s∈(D.free base rel us).2.2→s∈us
 | [],D,s,h=>by cases h
 | u :: us,D,s,h=>by
  rw [free_cons] at h
  split at h
  ·rcases List.mem_cons.1 h with rfl | h
   ·simp
   ·exact List.mem_cons_of_mem _ (free_sub h)
  ·split at h
   ·exact List.mem_cons_of_mem _ (free_sub h)
   ·cases h
theorem free_len {rel : Int} : ∀ {us : List Sg} {D : Dk},(D.free base rel us).2.2.length≤us.length
 | [],D=>by simp [Dk.free]
 | u :: us,D=>by
  rw [free_cons]
  split
  ·have:=free_len (rel:=rel) (us:=us) (D:=D); simp only [List.length_cons]; omega
  ·split
   ·have:=free_len (rel:=rel) (us:=us) (D:=(D.write (base + 2 + u.pos * 16 + 0) []).2); simp only [List.length_cons]; omega
   ·simp
theorem wipeLast_W {us : List Sg} (h : ∀ s∈us,1≤s.fin) : (wipeLast D base us).2.2.W.length≤D.W.length + 16:=by
 unfold wipeLast
 split
 ·rename_i s hs
  have:=wipe_W (base:=base) (pos:=s.pos) (16 - s.fin).toNat D s.fin 0
  have:=h s (List.mem_of_getLast? hs)
  omega
 ·simp
theorem eopen_ok (H : Hp F0 g0 w0 g w (dkR x D :: L)) (hbt : D.Bt) (hbd : D.W.length < 800000) (hsr : -9223372036854775808≤segs∧segs≤9223372036854775807) {Φ : Option Addr×Int×World→Prop}
  (hΦ : ∀ g' w' (o : Option Nat),(match (D.openL base segs).2.2 with | none=>o = none∧Hp F0 g0 w0 g' w' (dkR x (D.openL base segs).2.1 :: L) | some l=>∃ p,o = some p∧Hp F0 g0 w0 g' w' (lgR p x l :: dkR x (D.openL base segs).2.1 :: L))→Mo g w g' w' →
   Φ (o.map fun p=>⟨p,0,none⟩,(D.openL base segs).1,w')) : (evlog_Open (some ⟨x,0,none⟩) base segs w).t Φ:=by
 have hwf:=H.dwf
 have hn:=hwf.n
 unfold evlog_Open
 refine Nd.f (by simp) (Nd.b2 H.ddown ?_)
 by_cases hd : D.down = true
 ·have ho : D.openL base segs = (10,D,none):=by unfold Dk.openL; rw [if_pos hd]
  rw [ho] at hΦ
  exact Nd.t hd (Nd.ret (hΦ g w none ⟨rfl,H⟩ Mo.r))
 refine Nd.f hd ?_
 have htest : ∀ {Ψ : Bool×World→Prop},Ψ (!logC D.S.length base segs,w)→(if (decide (segs < 2)) = true then nret (true,w) else if (decide (16 < segs)) = true then nret (true,w) else if (decide (base < 0)) = true then nret (true,w) else
   lb2 (sector_Disk_Size (some ⟨x,0,none⟩) w) fun v13 w14=>nret ((decide ((IntKind.wrap .i64 ((IntKind.wrap .i64 (v13 - 2)) - (IntKind.wrap .i64 (segs * 16)))) < base)),w14)).t Ψ:=fun h=>by
  by_cases h1 : segs < 2
  ·refine Nd.t (by simpa using h1) (Nd.ret ?_)
   have : logC D.S.length base segs = false:=by simp [logC]; omega
   rwa [this] at h
  by_cases h2 : 16 < segs
  ·refine Nd.f (by simpa using h1) (Nd.t (by simpa using h2) (Nd.ret ?_))
   have : logC D.S.length base segs = false:=by simp [logC]; omega
   rwa [this] at h
  by_cases h3 : base < 0
  ·refine Nd.f (by simpa using h1) (Nd.f (by simpa using h2) (Nd.t (by simpa using h3) (Nd.ret ?_)))
   have : logC D.S.length base segs = false:=by simp [logC]; omega
   rwa [this] at h
  refine Nd.f (by simpa using h1) (Nd.f (by simpa using h2) (Nd.f (by simpa using h3) (Nd.b2 H.dsize (Nd.ret ?_))))
  have e1 : decide (IntKind.wrap .i64 (IntKind.wrap .i64 ((D.S.length : Int) - 2) - IntKind.wrap .i64 (segs * 16)) < base) = !logC D.S.length base segs:=by
   rw [wr64 (x:=(D.S.length : Int) - 2) (by omega) (by omega),wr64 (x:=segs * 16) (by omega) (by omega),wr64 (by omega) (by omega)]
   by_cases h4 : base≤D.S.length - 2 - segs * 16
   ·rw [show logC D.S.length base segs = true by simp [logC]; omega]; simp; omega
   ·rw [show logC D.S.length base segs = false by simp [logC]; omega]; simp; omega
  rw [e1]; exact h
 cases hl : logC D.S.length base segs with
 | false =>
  have ho : D.openL base segs = (2,D,none):=by unfold Dk.openL; rw [if_neg hd,hl,if_neg (by simp)]
  rw [ho] at hΦ
  refine Nd.j2 (Ψ:=fun r=>r = (true,w)) (htest (by rw [hl]; rfl)) ?_
  rintro _ _ he; cases he
  exact Nd.t rfl (Nd.ret (hΦ g w none ⟨rfl,H⟩ Mo.r))
 | true =>
  obtain ⟨s2,s16,b0,bn⟩:=logC_s hl
  have ho : D.openL base segs = D.tidy (D.readL base segs):=by unfold Dk.openL; rw [if_neg hd,hl,if_pos rfl]
  refine Nd.j2 (Ψ:=fun r=>r = (false,w)) (htest (by rw [hl]; rfl)) ?_
  rintro _ _ he; cases he
  obtain ⟨p,w1,e1,H1,m1⟩:=H.box (T:=119) (cs:=[.pointer (some ⟨x,0,none⟩),.pointer none,.int .i64 base,.int .i64 segs,.int .i64 D.age,.int .i64 0,.int .i64 0,.slice none 0 0])
  obtain ⟨c,g2,w2,e2,H2,m2,hc2⟩:=H1.sw.mopen (base:=base) (count:=1) (by decide) (by simp [mayOpen]; omega)
  obtain ⟨w3,e3,H3,m3⟩:=H2.sw.stV (o:=1) (x:=.pointer (some ⟨c,0,none⟩)) (by simp) rfl
  have H3 : Hp F0 g0 w0 g2 w3 (lbR p (lgC x c base segs D.age 0 0 Sl.nil) :: dkR x D :: L):=H3
  refine Nd.f (by simp) (Nd.b2 H.dage (Nd.b2 e1 (Nd.b3 e2 (Nd.b1 (by rw [add_mk]; exact e3) (Nd.j1 (Ψ:=fun w'=>∃ g' s' dz,Hp F0 g0 w0 g' w' (lbR p (lgC x c base segs D.age (D.readL base segs).high (D.readL base segs).rel s') :: dkR x D :: seR s' dz :: L)∧Mo g w g' w'∧dz.map Prod.fst = (D.readL base segs).used∧DzOk g' w' dz∧Cp g' w' c x base 1)
   (lread_ok b0 (by omega) (by omega) s16 hbt (by omega) (hc2.mo m3) H3 fun g' w' s' dz H' m' h1 h2=>⟨g',s',dz,H',m1.t (m2.t (m3.t m')),h1,h2,hc2.mo (m3.t m')⟩) ?_)))))
  rintro w4 ⟨g4,s4,dz,H4,m4,hd1,hd2,hc4⟩
  obtain ⟨R,hR⟩ : ∃ R,D.readL base segs = R:=⟨_,rfl⟩
  have hRb : R.base = base:=by rw [← hR]; rfl
  have hRs : R.segs = segs:=by rw [← hR]; rfl
  have hRa : R.age = D.age:=by rw [← hR]; rfl
  have hRm : ∀ s∈R.used,0≤s.pos∧s.pos≤16∧1≤s.fin∧s.fin≤16:=fun s hs=>by rw [← hR] at hs; have:=readL_mem hs; omega
  have hRl : R.used.length≤16:=by rw [← hR]; have:=read_len2 (D:=D) (base:=base) (segs:=segs); omega
  rw [hR] at H4 hd1
  have hdl : dz.length = R.used.length:=by rw [← hd1]; simp
  rw [ho,hR] at hΦ
  unfold Dk.tidy at hΦ
  rw [hRb] at hΦ
  have l4 : ldL w4 ⟨p,7,none⟩ = some s4:=H4.ldL rfl
  have l4r : ldI .i64 w4 ⟨p,6,none⟩ = some R.rel:=H4.ldI rfl
  have hs4 : dz.length = s4.n:=by have:=H4.m2.ow.len; rw [fl_len sgF_len] at this; omega
  have hfW:=free_W (base:=base) (rel:=R.rel) R.used D
  have hdp : ∀ q∈dz,0≤q.1.pos∧q.1.pos≤16:=fun q hq=>by
   have h1 : q.1∈R.used:=by rw [← hd1]; exact List.mem_map.2 ⟨q,hq,rfl⟩
   have:=hRm _ h1
   omega
  obtain ⟨z5,w5,dz5,e5,H5,m5,h5⟩:=free_ok (t:=R.rel) b0 (by omega) (by omega) hdp (by omega) H4
  rw [hd1] at e5 H5 h5
  have hfs : ∀ s∈(D.free base R.rel R.used).2.2,s∈R.used:=fun s hs=>free_sub hs
  have hfl:=free_len (D:=D) (base:=base) (rel:=R.rel) (us:=R.used)
  obtain ⟨f,hf⟩ : ∃ f,D.free base R.rel R.used = f:=⟨_,rfl⟩
  rw [hf] at e5 H5 h5 hΦ hfs hfW hfl
  refine Nd.b1 (by rw [add_mk]; exact l4) (Nd.b1 (by rw [add_mk]; exact l4r) (Nd.b3 e5 ?_))
  by_cases hf0 : f.1 = 0
  ·obtain ⟨h5a,h5b⟩:=h5 hf0
   refine Nd.f (by simp [hf0]) ?_
   rw [if_neg (by simp [hf0])] at hΦ
   obtain ⟨w6,e6,H6,m6⟩:=H5.stV (o:=7) (x:=z5.v) (by simp [lgC]) rfl
   have H6 : Hp F0 g0 w0 g4 w6 (lbR p (lgC x c base segs D.age R.high R.rel z5) :: dkR x f.2.1 :: seR s4 dz :: seR z5 dz5 :: L):=H6
   have H6:=H6.m2.tl
   have mm6:=m4.t (m5.t m6)
   have hz5 : dz5.length = z5.n:=by have:=H6.m2.ow.len; rw [fl_len sgF_len] at this; omega
   have hz5l : dz5.length = f.2.2.length:=by rw [← h5a]; simp
   have hwl:=wipeLast_W (D:=f.2.1) (base:=base) (us:=f.2.2) (fun s hs=>(hRm s (hfs s hs)).2.2.1)
   obtain ⟨k,hk⟩ : ∃ k,wipeLast f.2.1 base f.2.2 = k:=⟨_,rfl⟩
   rw [hk] at hΦ hwl
   refine Nd.jX (Ψ:=fun r=>k.2.1 = 0∧r.1 = (R.used.length : Int) - (f.2.2.length : Int) + k.1∧∃ g',Hp F0 g0 w0 g' r.2 (lbR p (lgC x c base segs D.age R.high R.rel z5) :: dkR x k.2.2 :: seR z5 dz5 :: L)∧Mo g w g' r.2∧Mo g4 w4 g' r.2) (Nd.b1 (by rw [add_mk]; exact e6) ?_) ?_
   ·by_cases h0 : 0 < z5.n
    ·obtain ⟨q,hq⟩ : ∃ q,dz5[dz5.length - 1]? = some q:=⟨_,List.getElem?_eq_getElem (by omega)⟩
     have hlast : f.2.2.getLast? = some q.1:=by
      rw [← h5a,List.getLast?_eq_getElem?,List.getElem?_map,List.length_map,hq]; rfl
     have hqm : q.1∈R.used:=hfs _ (List.mem_of_getLast? hlast)
     have hqp:=hRm _ hqm
     obtain ⟨b,el⟩:=H6.m2.el sgF_len (by decide) hq
     have hix : ix z5 (IntKind.wrap .i64 ((z5.n : Int) - 1)) 5 = some ⟨b,(dz5.length - 1) * 5,none⟩:=by
      rw [show IntKind.wrap .i64 ((z5.n : Int) - 1) = ((dz5.length - 1 : Nat) : Int) by rw [wr64 (by omega) (by omega)]; omega]; exact el.ix
     obtain ⟨pb,w7,e7,H7,m7⟩:=H6.box (T:=125) (cs:=sg0)
     have e7' : mk w6 125 (List.replicate 4 (.int .i64 0) ++ [.slice none 0 0]) = some (⟨pb,0,none⟩,w7):=e7
     obtain ⟨w8,e8,H8,m8,l8⟩:=H7.stA' (vs:=sgF q) rfl sgC_one
     have l8p : ldI .i64 w8 ⟨pb,0,none⟩ = some q.1.pos:=H8.ldI rfl
     have l8f : ldI .i64 w8 ⟨pb,2,none⟩ = some q.1.fin:=H8.ldI rfl
     obtain ⟨g9,w9,e9,H9,m9⟩:=wipes_ok (pos:=q.1.pos) (i:=q.1.fin) (lgC_LC b0 (by omega)) ⟨hqp.1,hqp.2.1⟩ ⟨by omega,hqp.2.2.2⟩ (by omega) H8.b2
     have hkk : (f.2.1.wipe base q.1.pos (16 - q.1.fin).toNat q.1.fin 0) = k:=by rw [← hk]; unfold wipeLast; rw [hlast]
     rw [hkk] at e9 H9
     refine Nd.t (by simpa using h0) (Nd.b1 hix (Nd.b1 el.ldA (Nd.b2 e7' (Nd.b1 e8 (Nd.b1 (by rw [add_mk]; exact l8p) (Nd.b1 (by rw [add_mk]; exact l8f) (Nd.b3 e9 ?_)))))))
     have mm9:=m7.t (m8.t m9)
     by_cases hk0 : k.2.1 = 0
     ·refine Nd.f (by simp [hk0]) (Nd.ret ⟨hk0,?_,g9,H9.m2.tl,mm6.t mm9,m5.t (m6.t mm9)⟩)
      simp only
      have hkn : 0≤k.1∧k.1≤16:=by
       have key : ∀ (m : Nat) (D : Dk) (i n : Int),0≤n→n≤(D.wipe base q.1.pos m i n).1∧(D.wipe base q.1.pos m i n).1≤n + m:=by
        intro m
        induction m with
        | zero=>intro D i n hn; simp [Dk.wipe]
        | succ m ih =>
         intro D i n hn
         unfold Dk.wipe
         split
         ·have:=ih D (i + 1) n hn; omega
         ·split
          ·have:=ih (D.write (base + 2 + q.1.pos * 16 + i) []).2 (i + 1) (n + 1) (by omega); omega
          ·simp only; omega
       have:=key (16 - q.1.fin).toNat f.2.1 q.1.fin 0 (Int.le_refl _)
       rw [hkk] at this; omega
      rw [wr64 (x:=(s4.n : Int) - (z5.n : Int)) (by omega) (by omega),wr64 (by omega) (by omega)]; omega
     ·rw [if_pos (by simpa using hk0)] at hΦ
      exact Nd.t (by simpa using hk0) (Nd.j1 (Ψ:=fun r=>Φ r) (Nd.ret (hΦ g9 w9 none ⟨rfl,H9.m2.tl.tl.sw.tl⟩ (mm6.t mm9))) (fun r hr=>Nd.ret hr))
    ·have hnil : f.2.2 = []:=by apply List.eq_nil_of_length_eq_zero; omega
     have hkk : k = (0,0,f.2.1):=by rw [← hk]; unfold wipeLast; rw [hnil]; rfl
     refine Nd.f (by simpa using h0) (Nd.ret ⟨by rw [hkk],?_,g4,by rw [hkk]; exact H6,mm6,m5.t m6⟩)
     simp only
     rw [hkk,wr64 (by omega) (by omega)]; simp only; omega
   ·rintro ⟨n7,w7⟩ ⟨hk0,hn7,g7,H7,m7,m47⟩
    simp only at hn7 H7 m7 m47
    rw [if_neg (by simp [hk0]),← hn7] at hΦ
    have fin : ∀ (D8 : Dk) (w8 : World),Hp F0 g0 w0 g7 w8 (lbR p (lgC x c base segs D.age R.high R.rel z5) :: dkR x D8 :: seR z5 dz5 :: L)→Mo g7 w7 g7 w8→Hp F0 g0 w0 g7 w8 (lgR p x ⟨base,R.segs,R.age,R.high,R.rel,f.2.2⟩ :: dkR x D8 :: L):=fun D8 w8 H8 m8=>by
     refine Hp.lgi (c:=c) (s:=z5) (dz:=dz5) h5a (hc4.mo (m47.t m8)) (fun q hq=>(hd2 q (h5b q hq)).mo (m47.t m8)) ?_
     simp only
     rw [hRs,hRa]
     exact H8.m2.sw
    refine Nd.jX (Ψ:=fun w'=>Φ (some ⟨p,0,none⟩,0,w')) ?_ ?_
    ·by_cases h7 : 0 < n7
     ·rw [if_pos h7] at hΦ
      obtain ⟨w8,e8,H8,m8⟩:=H7.sw.dsync (by omega)
      refine Nd.t (by simpa using h7) (Nd.b2 e8 ?_)
      by_cases hs0 : k.2.2.sync.1 = 0
      ·rw [if_neg (by simp [hs0])] at hΦ
       exact Nd.f (by simp [hs0]) (Nd.ret (hΦ g7 w8 (some p) ⟨p,rfl,fin _ w8 H8.sw m8⟩ (m7.t m8)))
      ·rw [if_pos (by simpa using hs0)] at hΦ
       exact Nd.t (by simpa using hs0) (Nd.j1 (Ψ:=fun r=>Φ r) (Nd.ret (hΦ g7 w8 none ⟨rfl,H8.sw.tl.sw.tl⟩ (m7.t m8))) (fun r hr=>Nd.ret hr))
     ·rw [if_neg h7] at hΦ
      exact Nd.f (by simpa using h7) (Nd.ret (hΦ g7 w7 (some p) ⟨p,rfl,fin _ w7 H7 Mo.r⟩ m7))
    ·rintro w8 h8
     exact Nd.ret h8
  ·rw [if_pos (by simpa using hf0)] at hΦ
   exact Nd.t (by simpa using hf0) (Nd.ret (hΦ g4 w5 none ⟨rfl,H5.tl.sw.tl.sw.tl⟩ (m4.t m5)))
end
noncomputable def grapevineref11_Same_l1 (a0 : Sl) (a1 : Sl) (x2 : Int) (w3 : World) : Option ((Int×World)⊕((World)⊕(Bool×World))) :=
 if (decide (x2 < (a0.n : Int))) = true then
 (bind2 ((dr w3).bind fun w17 =>
 (ix a0 x2 2).bind fun p19 =>
 (ldI .i64 w17 (p19.add 0)).bind fun v21 =>
 (ix a1 x2 2).bind fun p23 =>
 (ldI .i64 w17 (p23.add 0)).bind fun v25 =>
 if (v21 != v25) = true then
 (some (true,w17))
 else
 ((ix a0 x2 2).bind fun p28 =>
 (ldL w17 (p28.add 1)).bind fun v30 =>
 (b2s v30 w17).bind fun s32 =>
 (ix a1 x2 2).bind fun p34 =>
 (ldL w17 (p34.add 1)).bind fun v36 =>
 (b2s v36 w17).bind fun s38 =>
 some ((!sEq s32 s38),w17))) fun v13 w14 =>
 if v13 = true then
 (some (.inr (.inr (false,w14))))
 else
 (some (.inl ((IntKind.wrap .i64 (x2 + 1)),w14))))
 else
 (some (.inr (.inl w3)))
noncomputable def grapevineref11_Same (a0 : Sl) (a1 : Sl) (w : World) : Option (Bool×World) :=
 if ((a0.n : Int) != (a1.n : Int)) = true then
 (some (false,w))
 else
 ((loopF (fun s : Int×World=>grapevineref11_Same_l1 a0 a1 s.1 s.2) (0,w)).bind fun r4=>Sum.elim (fun (i : World)=>u1 i fun w6 =>
 some (true,w6)) (fun (i : Bool×World)=>u2 i fun v7 w8 =>
 some (v7,w8)) r4)
set_option maxHeartbeats 1000000 in
set_option maxRecDepth 100000 in
theorem grapevineref11_Same_ok {a0 : Sl} {a1 : Sl} {w w' : World} {r0 : Bool} (h : grapevineref11_Same a0 a1 w = some (r0,w')) : Calls Try.prog 48 #[(Sl.v a0),(Sl.v a1)] w fun e w''=>e = .returned (.bool r0)∧w'' = w':=by
 refine calls_dec (n:=43) Try.func48 rfl Try.ntmps48 (by simp) fun a ha=>?_
 unfold grapevineref11_Same at h
 refine wp_seq<|region_lit<|qa ha rfl fun a ha=>s_nil<|t_n<|wp_seq<|wp_seq<|region_lit<|qm ha rfl fun a ha=>q ha (d_lenS ha rfl Try.runUnderlying74) fun a ha=>qm ha rfl fun a ha=>q ha (d_lenS ha rfl Try.runUnderlying74) fun a ha=>q ha (d_ne ha rfl rfl) fun a ha=>s_nil<|t_n<|?_
 refine s_cond ha rfl h (fun b1 h=>?_) (fun b1 h=>?_)
 ·refine wp_seq<|region_lit<|qa ha rfl fun a ha=>s_nil<|t_n<|wp_ret<|t_r<|?_
  have hS:=ha
  cases h
  exact ret1 Try.results48 hS rfl ⟨rfl,rfl⟩
 ·refine wp_skip<|t_n<|wp_seq<|wp_seq<|region_lit<|qa ha rfl fun a ha=>s_nil<|t_n<|wp_block<|?_
  obtain ⟨r4,e5,h⟩:=bs1 h
  refine s_loop2 (n:=43) (L1:=fun i=>[]) (w1:=fun i=>i) (L2:=fun i=>[(4,(.bool i.1))]) (w2:=fun i=>i.2) (e1:=.exit 0) (e2:=.ret) (I:=fun (s : Int×World) a w=>Has 43 [(5,(.int .i64 s.1)),(0,(Sl.v a0)),(1,(Sl.v a1))] a∧w = s.2) ⟨ha.sub ⟨rfl,rfl,rfl,trivial⟩,rfl⟩ e5 (fun i hi a ha=>?_) (fun i hi a ha=>?_) (fun hk9 hk10=>?_)
  ·subst hi
   obtain ⟨w6,rfl⟩ : ∃ x,x = i:=⟨i,rfl⟩
   dsimp only [Sum.elim_inl,Sum.elim_inr,u1,u2,u3,u4,u5,u6] at h
   have ha : Has 43 [] a:=ha
   refine b_hit<|t_n<|wp_seq<|region_lit<|qa ha rfl fun a ha=>s_nil<|t_n<|wp_ret<|?_
   have hS:=ha
   cases h
   exact ret1 Try.results48 hS rfl ⟨rfl,rfl⟩
  ·subst hi
   obtain ⟨v7,w8⟩:=i
   dsimp only [Sum.elim_inl,Sum.elim_inr,u1,u2,u3,u4,u5,u6] at h
   have ha : Has 43 [(4,(.bool v7))] a:=ha
   refine b_r<|t_r<|?_
   have hS:=ha
   cases h
   exact ret1 Try.results48 hS rfl ⟨rfl,rfl⟩
  ·clear h
   rintro ⟨x2,w3⟩ a wq o ⟨ha,hwq⟩ h hr11
   obtain rfl : w3 = wq:=hwq.symm
   have ha : Has 43 [(5,(.int .i64 x2)),(0,(Sl.v a0)),(1,(Sl.v a1))] a:=ha
   have h : grapevineref11_Same_l1 a0 a1 x2 w3 = some o:=h
   unfold grapevineref11_Same_l1 at h
   refine wp_seq<|wp_seq<|region_lit<|qm ha rfl fun a ha=>qm ha rfl fun a ha=>q ha (d_lenS ha rfl Try.runUnderlying74) fun a ha=>q ha (d_lt ha rfl rfl) fun a ha=>s_nil<|t_n<|?_
   refine s_cond ha rfl h (fun b12 h=>?_) (fun b12 h=>?_)
   ·refine wp_skip<|t_n<|wp_seq<|wp_block<|wp_seq<|?_
    obtain ⟨v13,w14,e15,h⟩:=bs2 h
    refine reg_join (n:=43) (L:=[(42,(.bool v13)),(0,(Sl.v a0)),(1,(Sl.v a1)),(5,(.int .i64 x2))]) (w':=w14) (fun a ha=>?_) (fun hk16=>?_)
    ·refine t_n<|?_
     refine s_cond ha rfl h (fun b40 h=>?_) (fun b40 h=>?_)
     ·refine wp_seq<|region_lit<|qa ha rfl fun a ha=>s_nil<|t_n<|wp_ret<|b_r<|t_r<|?_
      have hS : Has 43 [(4,(.bool false))] _:=ha.sub ⟨rfl,trivial⟩
      cases h
      cases hr11 _ rfl
      refine lp_r<|?_
      exact hk10 _ rfl _ hS
     ·refine wp_skip<|b_n<|t_n<|region_lit<|qm ha rfl fun a ha=>q ha (d_add ha rfl rfl) fun a ha=>qa ha rfl fun a ha=>s_nil<|?_
      have hS : Has 43 [(5,(.int .i64 (IntKind.wrap .i64 (x2 + 1)))),(0,(Sl.v a0)),(1,(Sl.v a1))] _:=ha.sub ⟨rfl,rfl,rfl,trivial⟩
      cases h
      exact lp_next ⟨hS,rfl⟩
    ·clear h
     have h:=e15
     obtain ⟨w17,e18,h⟩:=bs1 h
     obtain ⟨p19,e20,h⟩:=bs1 h
     obtain ⟨v21,e22,h⟩:=bs1 h
     obtain ⟨p23,e24,h⟩:=bs1 h
     obtain ⟨v25,e26,h⟩:=bs1 h
     refine ite_s h (fun b27 h=>?_) (fun b27 h=>?_)
     ·have ha : Has 43 [(0,(Sl.v a0)),(1,(Sl.v a1)),(5,(.int .i64 x2))] a:=ha.sub ⟨rfl,rfl,rfl,trivial⟩
      refine region_draw (n:=43) (ds:=(⟨_,(Sl.v a0),false,0,0,[],[(0,(Sl.v a0))]⟩ :: ⟨_,(.int .i64 x2),false,0,0,[],[(5,(.int .i64 x2))]⟩ :: ⟨_,(.pointer (some p19)),false,0,0,[0,1],[(17,(Sl.v a0)),(18,(.int .i64 x2))]⟩ :: ⟨_,(.pointer (some (p19.add 0))),false,0,0,[0,1,2],[(19,(.pointer (some p19)))]⟩ :: ⟨_,(.int .i64 v21),false,0,0,(rn 0 4),[(20,(.pointer (some (p19.add 0))))]⟩ :: ⟨_,(Sl.v a1),false,0,0,[],[(1,(Sl.v a1))]⟩ :: ⟨_,(.int .i64 x2),false,0,0,[],[(5,(.int .i64 x2))]⟩ :: ⟨_,(.pointer (some p23)),false,0,0,[5,6],[(22,(Sl.v a1)),(23,(.int .i64 x2))]⟩ :: ⟨_,(.pointer (some (p23.add 0))),false,0,0,[5,6,7],[(24,(.pointer (some p23)))]⟩ :: ⟨_,(.int .i64 v25),false,0,0,(rn 5 4),[(25,(.pointer (some (p23.add 0))))]⟩ :: ⟨_,(.bool (v21 != v25)),false,0,0,(rn 0 10),[(21,(.int .i64 v21)),(26,(.int .i64 v25))]⟩ :: ⟨_,(.bool (v21 != v25)),false,0,0,(rn 0 11),[(27,(.bool (v21 != v25)))]⟩ :: ⟨_,undef,false,0,0,(rn 0 12),[(28,(.bool (v21 != v25)))]⟩ :: ⟨_,undef,false,0,0,(rn 0 12),[(28,(.bool (v21 != v25)))]⟩ :: ⟨_,undef,false,0,0,(rn 0 14),[(28,(.bool (v21 != v25)))]⟩ :: ⟨_,undef,false,0,0,(rn 0 15),[(28,(.bool (v21 != v25)))]⟩ :: ⟨_,undef,false,0,0,(rn 0 16),[(28,(.bool (v21 != v25)))]⟩ :: ⟨_,undef,false,0,0,(rn 0 17),[(28,(.bool (v21 != v25)))]⟩ :: ⟨_,undef,false,0,0,(rn 0 12),[(28,(.bool (v21 != v25)))]⟩ :: ⟨_,undef,false,0,0,(rn 0 12),[(28,(.bool (v21 != v25)))]⟩ :: ⟨_,undef,false,0,0,(rn 0 12 ++ [18,19]),[(28,(.bool (v21 != v25)))]⟩ :: ⟨_,undef,false,0,0,(rn 0 12 ++ [18,19,20]),[(28,(.bool (v21 != v25)))]⟩ :: ⟨_,undef,false,0,0,(rn 0 12 ++ rn 18 4),[(28,(.bool (v21 != v25)))]⟩ :: ⟨_,undef,false,0,0,(rn 0 12 ++ rn 18 5),[(28,(.bool (v21 != v25)))]⟩ :: ⟨_,undef,false,0,0,(rn 0 24),[(28,(.bool (v21 != v25)))]⟩ :: ⟨_,(.bool true),false,0,0,(rn 0 25),[(28,(.bool (v21 != v25))),(41,undef)]⟩ :: [])) (W:=(fun _=>w17)) (by kernel_rfl) ha (dr_w e18) (by kernel_rfl) ?_ (reads_of (by kernel_rfl)) (by kernel_rfl) (m:=0) (by kernel_rfl) (fun a ha=>?_)
      ·refine ⟨?_,?_,?_,?_,?_,?_,?_,?_,?_,?_,?_,?_,?_,?_,?_,?_,?_,?_,?_,?_,?_,?_,?_,?_,?_,?_,trivial⟩
       ·exact oa fun j a ha=>d_move ha rfl
       ·exact oa fun j a ha=>d_move ha rfl
       ·exact oa fun j a ha=>d_ix ha rfl rfl Try.runUnderlying74 Try.sizeOf87 e20
       ·exact oa fun j a ha=>d_fa ha rfl Try.runUnderlying87 rfl rfl Try.sizeOf3 (by decide)
       ·exact oc (e:=false) 0 (ok_do rfl fun a ha=>d_ld ha rfl Try.isAgg3 (ldI_c e22))
       ·exact oa fun j a ha=>d_move ha rfl
       ·exact oa fun j a ha=>d_move ha rfl
       ·exact oa fun j a ha=>d_ix ha rfl rfl Try.runUnderlying74 Try.sizeOf87 e24
       ·exact oa fun j a ha=>d_fa ha rfl Try.runUnderlying87 rfl rfl Try.sizeOf3 (by decide)
       ·exact oc (e:=false) 0 (ok_do rfl fun a ha=>d_ld ha rfl Try.isAgg3 (ldI_c e26))
       ·exact oa fun j a ha=>d_ne ha rfl rfl
       ·exact oa fun j a ha=>d_move ha rfl
       ·exact on 28 (tn b27)
       ·exact on 28 (tn b27)
       ·exact on 28 (tn b27)
       ·exact on 28 (tn b27)
       ·exact on 28 (tn b27)
       ·exact on 28 (tn b27)
       ·exact on 28 (tn b27)
       ·exact on 28 (tn b27)
       ·exact on 28 (tn b27)
       ·exact on 28 (tn b27)
       ·exact on 28 (tn b27)
       ·exact on 28 (tn b27)
       ·exact on 28 (tn b27)
       ·exact oa fun j a ha=>d_pick_t ha rfl b27 rfl
      ·have ha : Has 43 [(0,(Sl.v a0)),(1,(Sl.v a1)),(5,(.int .i64 x2)),(42,(.bool true))] a:=ha.sub ⟨rfl,rfl,rfl,rfl,trivial⟩
       have hS : Has 43 [(42,(.bool true)),(0,(Sl.v a0)),(1,(Sl.v a1)),(5,(.int .i64 x2))] _:=ha.sub ⟨rfl,rfl,rfl,rfl,trivial⟩
       cases h
       exact hk16 _ hS
     ·obtain ⟨p28,e29,h⟩:=bs1 h
      obtain ⟨v30,e31,h⟩:=bs1 h
      obtain ⟨s32,e33,h⟩:=bs1 h
      obtain ⟨p34,e35,h⟩:=bs1 h
      obtain ⟨v36,e37,h⟩:=bs1 h
      obtain ⟨s38,e39,h⟩:=bs1 h
      have ha : Has 43 [(0,(Sl.v a0)),(1,(Sl.v a1)),(5,(.int .i64 x2))] a:=ha.sub ⟨rfl,rfl,rfl,trivial⟩
      refine region_draw (n:=43) (ds:=(⟨_,(Sl.v a0),false,0,0,[],[(0,(Sl.v a0))]⟩ :: ⟨_,(.int .i64 x2),false,0,0,[],[(5,(.int .i64 x2))]⟩ :: ⟨_,(.pointer (some p19)),false,0,0,[0,1],[(17,(Sl.v a0)),(18,(.int .i64 x2))]⟩ :: ⟨_,(.pointer (some (p19.add 0))),false,0,0,[0,1,2],[(19,(.pointer (some p19)))]⟩ :: ⟨_,(.int .i64 v21),false,0,0,(rn 0 4),[(20,(.pointer (some (p19.add 0))))]⟩ :: ⟨_,(Sl.v a1),false,0,0,[],[(1,(Sl.v a1))]⟩ :: ⟨_,(.int .i64 x2),false,0,0,[],[(5,(.int .i64 x2))]⟩ :: ⟨_,(.pointer (some p23)),false,0,0,[5,6],[(22,(Sl.v a1)),(23,(.int .i64 x2))]⟩ :: ⟨_,(.pointer (some (p23.add 0))),false,0,0,[5,6,7],[(24,(.pointer (some p23)))]⟩ :: ⟨_,(.int .i64 v25),false,0,0,(rn 5 4),[(25,(.pointer (some (p23.add 0))))]⟩ :: ⟨_,(.bool (v21 != v25)),false,0,0,(rn 0 10),[(21,(.int .i64 v21)),(26,(.int .i64 v25))]⟩ :: ⟨_,(.bool (v21 != v25)),false,0,0,(rn 0 11),[(27,(.bool (v21 != v25)))]⟩ :: ⟨_,(Sl.v a0),false,0,0,(rn 0 12),[(0,(Sl.v a0)),(28,(.bool (v21 != v25)))]⟩ :: ⟨_,(.int .i64 x2),false,0,0,(rn 0 12),[(5,(.int .i64 x2)),(28,(.bool (v21 != v25)))]⟩ :: ⟨_,(.pointer (some p28)),false,0,0,(rn 0 14),[(29,(Sl.v a0)),(30,(.int .i64 x2)),(28,(.bool (v21 != v25)))]⟩ :: ⟨_,(.pointer (some (p28.add 1))),false,0,0,(rn 0 15),[(31,(.pointer (some p28))),(28,(.bool (v21 != v25)))]⟩ :: ⟨_,(Sl.v v30),false,0,0,(rn 0 16),[(32,(.pointer (some (p28.add 1)))),(28,(.bool (v21 != v25)))]⟩ :: ⟨_,(.string s32),false,0,0,(rn 0 17),[(33,(Sl.v v30)),(28,(.bool (v21 != v25)))]⟩ :: ⟨_,(Sl.v a1),false,0,0,(rn 0 12),[(1,(Sl.v a1)),(28,(.bool (v21 != v25)))]⟩ :: ⟨_,(.int .i64 x2),false,0,0,(rn 0 12),[(5,(.int .i64 x2)),(28,(.bool (v21 != v25)))]⟩ :: ⟨_,(.pointer (some p34)),false,0,0,(rn 0 12 ++ [18,19]),[(35,(Sl.v a1)),(36,(.int .i64 x2)),(28,(.bool (v21 != v25)))]⟩ :: ⟨_,(.pointer (some (p34.add 1))),false,0,0,(rn 0 12 ++ [18,19,20]),[(37,(.pointer (some p34))),(28,(.bool (v21 != v25)))]⟩ :: ⟨_,(Sl.v v36),false,0,0,(rn 0 12 ++ rn 18 4),[(38,(.pointer (some (p34.add 1)))),(28,(.bool (v21 != v25)))]⟩ :: ⟨_,(.string s38),false,0,0,(rn 0 12 ++ rn 18 5),[(39,(Sl.v v36)),(28,(.bool (v21 != v25)))]⟩ :: ⟨_,(.bool (!sEq s32 s38)),false,0,0,(rn 0 24),[(34,(.string s32)),(40,(.string s38)),(28,(.bool (v21 != v25)))]⟩ :: ⟨_,(.bool (!sEq s32 s38)),false,0,0,(rn 0 25),[(28,(.bool (v21 != v25))),(41,(.bool (!sEq s32 s38)))]⟩ :: [])) (W:=(fun _=>w17)) (by kernel_rfl) ha (dr_w e18) (by kernel_rfl) ?_ (reads_of (by kernel_rfl)) (by kernel_rfl) (m:=0) (by kernel_rfl) (fun a ha=>?_)
      ·refine ⟨?_,?_,?_,?_,?_,?_,?_,?_,?_,?_,?_,?_,?_,?_,?_,?_,?_,?_,?_,?_,?_,?_,?_,?_,?_,?_,trivial⟩
       ·exact oa fun j a ha=>d_move ha rfl
       ·exact oa fun j a ha=>d_move ha rfl
       ·exact oa fun j a ha=>d_ix ha rfl rfl Try.runUnderlying74 Try.sizeOf87 e20
       ·exact oa fun j a ha=>d_fa ha rfl Try.runUnderlying87 rfl rfl Try.sizeOf3 (by decide)
       ·exact oc (e:=false) 0 (ok_do rfl fun a ha=>d_ld ha rfl Try.isAgg3 (ldI_c e22))
       ·exact oa fun j a ha=>d_move ha rfl
       ·exact oa fun j a ha=>d_move ha rfl
       ·exact oa fun j a ha=>d_ix ha rfl rfl Try.runUnderlying74 Try.sizeOf87 e24
       ·exact oa fun j a ha=>d_fa ha rfl Try.runUnderlying87 rfl rfl Try.sizeOf3 (by decide)
       ·exact oc (e:=false) 0 (ok_do rfl fun a ha=>d_ld ha rfl Try.isAgg3 (ldI_c e26))
       ·exact oa fun j a ha=>d_ne ha rfl rfl
       ·exact oa fun j a ha=>d_move ha rfl
       ·exact oag 28 (nt b27) fun j a ha=>d_move ha rfl
       ·exact oag 28 (nt b27) fun j a ha=>d_move ha rfl
       ·exact oag 28 (nt b27) fun j a ha=>d_ix ha rfl rfl Try.runUnderlying74 Try.sizeOf87 e29
       ·exact oag 28 (nt b27) fun j a ha=>d_fa ha rfl Try.runUnderlying87 rfl rfl Try.sizeOf72 (by decide)
       ·exact oc (e:=false) 0 (ok_do_g rfl rfl (rfl : List.lookup 28 _ = _) (nt b27) fun a ha=>d_ld ha rfl Try.isAgg72 (ldL_c e31))
       ·exact oc (e:=false) 0 (ok_do_g rfl rfl (rfl : List.lookup 28 _ = _) (nt b27) fun a ha=>d_b2s ha rfl Try.runUnderlying72 Try.runUnderlying9 Try.runUnderlying5 e33)
       ·exact oag 28 (nt b27) fun j a ha=>d_move ha rfl
       ·exact oag 28 (nt b27) fun j a ha=>d_move ha rfl
       ·exact oag 28 (nt b27) fun j a ha=>d_ix ha rfl rfl Try.runUnderlying74 Try.sizeOf87 e35
       ·exact oag 28 (nt b27) fun j a ha=>d_fa ha rfl Try.runUnderlying87 rfl rfl Try.sizeOf72 (by decide)
       ·exact oc (e:=false) 0 (ok_do_g rfl rfl (rfl : List.lookup 28 _ = _) (nt b27) fun a ha=>d_ld ha rfl Try.isAgg72 (ldL_c e37))
       ·exact oc (e:=false) 0 (ok_do_g rfl rfl (rfl : List.lookup 28 _ = _) (nt b27) fun a ha=>d_b2s ha rfl Try.runUnderlying72 Try.runUnderlying9 Try.runUnderlying5 e39)
       ·exact oag 28 (nt b27) fun j a ha=>d_neT ha rfl rfl
       ·exact oa fun j a ha=>d_pick_f ha rfl b27 rfl
      ·have ha : Has 43 [(0,(Sl.v a0)),(1,(Sl.v a1)),(5,(.int .i64 x2)),(42,(.bool (!sEq s32 s38)))] a:=ha.sub ⟨rfl,rfl,rfl,rfl,trivial⟩
       have hS : Has 43 [(42,(.bool (!sEq s32 s38))),(0,(Sl.v a0)),(1,(Sl.v a1)),(5,(.int .i64 x2))] _:=ha.sub ⟨rfl,rfl,rfl,rfl,trivial⟩
       cases h
       exact hk16 _ hS
   ·refine wp_exit<|t_x<|?_
    have hS : Has 43 [] _:=ha.sub trivial
    cases h
    cases hr11 _ rfl
    refine lp_x<|?_
    exact hk9 _ rfl _ hS
end Go.Proofs.Ytejkaciimmfgcaa.D
