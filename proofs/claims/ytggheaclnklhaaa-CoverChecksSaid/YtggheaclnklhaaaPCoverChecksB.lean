/- CoverChecks -/
import Derived.Scope
import Derived.Test.YtggheaclnklhaaaPCoverChecksA
namespace Go.Proofs.Ytggheaclnklhaaa.D
open Go
set_option linter.unusedVariables false
set_option linter.unusedSimpArgs false
set_option maxHeartbeats 1000000
set_option maxRecDepth 100000
noncomputable section
def bH (a0:Sl) (a1_0:Addr) (w:World):Option (Bool×World) :=
 aE (cK a0 a1_0 w) fun v1 w2 =>
 some ((decide (0<=v1)),w2)
theorem eN {a0 a1_0 w w' r0} (h:bH a0 a1_0 w=some (r0,w')):Calls Try.prog 16 #[(Sl.v a0),(.func (.func 45) #[] #[(.pointer (some a1_0))])] w fun e w''=>e=.returned (.bool r0)/\w''=w':=by
 refine aD (n:=9) Try.func16 rfl Try.ntmps16 (by simp) fun a u=>?_;unfold bH at h;refine wp_seq<|aA<|qa u rfl fun a u=>aC<|t_n<|wp_seq<|aA<|qm u rfl fun a u=>qm u rfl fun a u=>?_;have⟨v1,w2,e3,h⟩:=bs2 h;refine q u (eV (xs:=[_,_]) (vs:=[(Sl.v a0),(.func (.func 45) #[] #[(pV (some a1_0))])]) u ⟨rfl,rfl,aAO⟩ Try.call25 (fD e3)) fun a u=>q u (kV u rfl rfl) fun a u=>qa u rfl fun a u=>aC<|t_n<|wp_ret<|?_;have y:=u;cases h;exact aY Try.results16 y rfl ⟨rfl,rfl⟩
noncomputable def eE (v72:Sl) (p1:Addr) (x74:Int) (w75:World):Option ((Int×World)⊕((World)⊕(Bool×World))) :=
 if (decide (x74<(v72.n:Int)))=true then
 ((ix v72 x74 3).bind fun p85 =>
 (ldA 3 w75 p85 0).bind fun c87 =>
 aE (mk w75 43 ([.int .i64 0,.int .i64 0,.int .i64 0])) fun p89 w90 =>
 (stA w90 p89 0 c87).bind fun w92 =>
 (ldL w92 (p1.add 10)).bind fun v94 =>
 aE (bI v94 p89 w92) fun v96 w97 =>
 if (!v96)=true then
 (some (.inr (.inr (false,w97))))
 else
 (some (.inl ((IntKind.wrap .i64 (x74+1)),w97))))
 else
 (some (.inr (.inl w75)))
noncomputable def eA (v100:Sl) (p1:Addr) (x102:Int) (w103:World):Option ((Int×World)⊕((World)⊕(Bool×World))) :=
 if (decide (x102<(v100.n:Int)))=true then
 ((ix v100 x102 3).bind fun p113 =>
 (ldA 3 w103 p113 0).bind fun c115 =>
 aE (mk w103 43 ([.int .i64 0,.int .i64 0,.int .i64 0])) fun p117 w118 =>
 (stA w118 p117 0 c115).bind fun w120 =>
 aE ((ldL w120 (p1.add 11)).bind fun v126 =>
 aE (bJ v126 p117 w120) fun v128 w129 =>
 if (!v128)=true then
 ((ldL w129 (p1.add 10)).bind fun v132 =>
 aE (bH v132 p117 w129) fun v134 w135 =>
 some ((!v134),w135))
 else
 (some (false,w129))) fun v122 w123 =>
 if v122=true then
 (some (.inr (.inr (false,w123))))
 else
 (some (.inl ((IntKind.wrap .i64 (x102+1)),w123))))
 else
 (some (.inr (.inl w103)))
noncomputable def iH (a0:List Value) (a1:List Value) (w:World):Option (Bool×World) :=
 aE (mk w 40 a0) fun p1 w2 =>
 aE (mk w2 40 a1) fun p4 w5 =>
 aE ((ldI .i64 w5 (p1.add 1)).bind fun v11 =>
 (ldI .i64 w5 (p4.add 1)).bind fun v13 =>
 if (v11 !=v13)=true then
 (some (true,w5))
 else
 ((ldB w5 (p1.add 2)).bind fun v16 =>
 if v16=true then
 ((ldB w5 (p4.add 2)).bind fun v19 =>
 some ((!v19),w5))
 else
 (some (false,w5)))) fun v7 w8 =>
 if v7=true then
 (some (false,w8))
 else
 ((ldA 12 w8 p1 0).bind fun c22 =>
 aE (cX c22 w8) fun v24 w25 =>
 if v24=true then
 (some (true,w25))
 else
 ((ldI .i64 w25 (p1.add 1)).bind fun v28 =>
 if (v28==1)=true then
 (aE ((ldI .i64 w25 (p4.add 3)).bind fun v35 =>
 (ldI .i64 w25 (p1.add 3)).bind fun v37 =>
 if (decide (v35<=v37))=true then
 ((ldI .i64 w25 (p1.add 4)).bind fun v40 =>
 (ldI .i64 w25 (p4.add 4)).bind fun v42 =>
 some ((decide (v40<=v42)),w25))
 else
 (some (false,w25))) fun v31 w32 =>
 some (v31,w32))
 else
 (if (v28==2)=true then
 (aE ((ldS w25 (p4.add 5)).bind fun v49 =>
 (ldS w25 (p1.add 5)).bind fun v51 =>
 if (sLt v49 v51||sEq v49 v51)=true then
 ((ldB w25 (p4.add 7)).bind fun v54 =>
 if v54=true then
 (some (true,w25))
 else
 ((ldB w25 (p1.add 7)).bind fun v57 =>
 if (!v57)=true then
 ((ldS w25 (p1.add 6)).bind fun v60 =>
 (ldS w25 (p4.add 6)).bind fun v62 =>
 some ((sLt v60 v62||sEq v60 v62),w25))
 else
 (some (false,w25))))
 else
 (some (false,w25))) fun v45 w46 =>
 some (v45,w46))
 else
 (if (v28==3)=true then
 ((ldI .u8 w25 (p1.add 8)).bind fun v65 =>
 (ldI .u8 w25 (p4.add 8)).bind fun v67 =>
 some (((oO .u8 (oH .u8 v65 v67) 3)==0),w25))
 else
 ((ldB w25 (p4.add 9)).bind fun v69 =>
 if v69=true then
 (some (false,w25))
 else
 ((ldL w25 (p4.add 10)).bind fun v72 =>
 (bS (fun s:Int×World=>eE v72 p1 s.1 s.2) (0,w25)).bind fun r76=>Sum.elim (fun (i:World)=>u1 i fun w78 =>
 (ldL w78 (p4.add 11)).bind fun v100 =>
 (bS (fun s:Int×World=>eA v100 p1 s.1 s.2) (0,w78)).bind fun r104=>Sum.elim (fun (i:World)=>u1 i fun w106 =>
 some (true,w106)) (fun (i:Bool×World)=>u2 i fun v107 w108 =>
 some (v107,w108)) r104) (fun (i:Bool×World)=>u2 i fun v79 w80 =>
 some (v79,w80)) r76))))))
theorem mU {a0 a1 w w' r0} (h:iH a0 a1 w=some (r0,w')):Calls Try.prog 28 #[(.agg (List.toArray a0)),(.agg (List.toArray a1))] w fun e w''=>e=.returned (.bool r0)/\w''=w':=by
 refine aD (n:=108) Try.func28 rfl Try.ntmps28 (by simp) fun a u=>?_;unfold iH at h;refine wp_seq<|aA<|?_;have⟨p1,w2,e3,h⟩:=bs2 h;refine q u (dP u rfl rfl e3) fun a u=>?_;have⟨p4,w5,e6,h⟩:=bs2 h;refine q u (dP u rfl rfl e6) fun a u=>qa u rfl fun a u=>aC<|t_n<|wp_seq<|wp_seq<|?_;have⟨v7,w8,e9,h⟩:=bs2 h;refine bC (n:=108) (L:=[(22,(bV v7)),(2,(pV (some p1))),(3,(pV (some p4)))]) (w':=w8) (fun a u=>?_) (fun hk10=>?_)
 .refine t_n<|?_;refine aG u rfl h (fun b21 h=>?_) (fun b21 h=>?_)
  .refine wp_seq<|aA<|qa u rfl fun a u=>aC<|t_n<|wp_ret<|t_r<|?_;have y:=u;cases h;exact aY Try.results28 y rfl ⟨rfl,rfl⟩
  refine wp_skip<|t_n<|wp_seq<|wp_seq<|aA<|?_;have⟨c22,e23,h⟩:=bs1 h;refine q u (bO u rfl xB wI e23) fun a u=>?_;have⟨v24,w25,e26,h⟩:=bs2 h;refine q u (dc1 u rfl Try.call41 (eK e26)) fun a u=>aC<|t_n<|?_;refine aG u rfl h (fun b27 h=>?_) (fun b27 h=>?_)
  .refine wp_seq<|aA<|qa u rfl fun a u=>aC<|t_n<|wp_ret<|t_r<|?_;have y:=u;cases h;exact aY Try.results28 y rfl ⟨rfl,rfl⟩
  refine wp_skip<|t_n<|wp_seq<|wp_seq<|aA<|q u (aI u rfl wH rfl rfl wT) fun a u=>?_;have⟨v28,e29,h⟩:=bs1 h;refine q u (aH u rfl wS (aN e29)) fun a u=>aC<|t_n<|wp_block<|wp_seq<|aA<|q u (cF u rfl rfl) fun a u=>qa u rfl fun a u=>aC<|t_n<|?_;refine aG u rfl h (fun b30 h=>?_) (fun b30 h=>?_)
  .refine wp_seq<|?_;have⟨v31,w32,e33,h⟩:=bs2 h;refine bC (n:=108) (L:=[(4,(bV v31))]) (w':=w32) (fun a u=>?_) (fun hk34=>?_)
   .refine t_n<|wp_ret<|b_r<|t_r<|?_;have y:=u;cases h;exact aY Try.results28 y rfl ⟨rfl,rfl⟩
   clear h;have h:=e33;refine aA<|q u (aI u rfl wH rfl rfl wX) fun a u=>?_;have⟨v35,e36,h⟩:=bs1 h;refine q u (aH u rfl xT (aN e36)) fun a u=>q u (aI u rfl wH rfl rfl wX) fun a u=>?_;have⟨v37,e38,h⟩:=bs1 h;refine q u (aH u rfl xT (aN e38)) fun a u=>q u (lR u rfl rfl) fun a u=>qm u rfl fun a u=>?_;refine cQ h (fun b39 h=>?_) (fun b39 h=>?_)
   .refine qg u 34 b39 (aI u rfl wH rfl rfl wX) fun a u=>?_;have⟨v40,e41,h⟩:=bs1 h;refine qg u 34 b39 (aH u rfl xT (aN e41)) fun a u=>qg u 34 b39 (aI u rfl wH rfl rfl wX) fun a u=>?_;have⟨v42,e43,h⟩:=bs1 h;refine qg u 34 b39 (aH u rfl xT (aN e43)) fun a u=>qg u 34 b39 (lR u rfl rfl) fun a u=>q u (aM u rfl b39 rfl) fun a u=>qa u rfl fun a u=>aC<|?_;have y:=u;cases h;exact hk34 _ (y.sb rfl)
   refine qn u 34 (nm b39) fun a u=>qn u 34 (nm b39) fun a u=>qn u 34 (nm b39) fun a u=>qn u 34 (nm b39) fun a u=>qn u 34 (nm b39) fun a u=>q u (aK u rfl b39 rfl) fun a u=>qa u rfl fun a u=>aC<|?_;have y:=u;cases h;exact hk34 _ (y.sb rfl)
  refine wp_seq<|aA<|q u (cF u rfl rfl) fun a u=>qa u rfl fun a u=>aC<|t_n<|?_;refine aG u rfl h (fun b44 h=>?_) (fun b44 h=>?_)
  .refine wp_seq<|?_;have⟨v45,w46,e47,h⟩:=bs2 h;refine bC (n:=108) (L:=[(4,(bV v45))]) (w':=w46) (fun a u=>?_) (fun hk48=>?_)
   .refine t_n<|wp_ret<|b_r<|t_r<|?_;have y:=u;cases h;exact aY Try.results28 y rfl ⟨rfl,rfl⟩
   clear h;have h:=e47;refine aA<|q u (aI u rfl wH rfl rfl wO) fun a u=>?_;have⟨v49,e50,h⟩:=bs1 h;refine q u (aH u rfl wQ (cJ e50)) fun a u=>q u (aI u rfl wH rfl rfl wO) fun a u=>?_;have⟨v51,e52,h⟩:=bs1 h;refine q u (aH u rfl wQ (cJ e52)) fun a u=>q u (oF u rfl rfl) fun a u=>qm u rfl fun a u=>?_;refine cQ h (fun b53 h=>?_) (fun b53 h=>?_)
   .refine qg u 48 b53 (aI u rfl wH rfl rfl xE) fun a u=>?_;have⟨v54,e55,h⟩:=bs1 h;refine qg u 48 b53 (aH u rfl xZ (kO e55)) fun a u=>qg u 48 b53 (aF u rfl) fun a u=>?_;refine cQ h (fun b56 h=>?_) (fun b56 h=>?_)
    .refine qn u 51 (tn b56) fun a u=>qn u 51 (tn b56) fun a u=>qn u 51 (tn b56) fun a u=>qn u 51 (tn b56) fun a u=>qu u 55 fun a u=>qu u 55 fun a u=>qu u 55 fun a u=>qu u 55 fun a u=>qu u 55 fun a u=>qn u 51 (tn b56) fun a u=>qg u 48 b53 (aM u rfl b56 rfl) fun a u=>q u (aM u rfl b53 rfl) fun a u=>qa u rfl fun a u=>aC<|?_;have y:=u;cases h;exact hk48 _ (y.sb rfl)
    refine qg u 51 (nt b56) (aI u rfl wH rfl rfl xE) fun a u=>?_;have⟨v57,e58,h⟩:=bs1 h;refine qg u 51 (nt b56) (aH u rfl xZ (kO e58)) fun a u=>qg u 51 (nt b56) (eY u rfl) fun a u=>qg u 51 (nt b56) (aF u rfl) fun a u=>?_;refine cQ h (fun b59 h=>?_) (fun b59 h=>?_)
    .refine qg u 55 b59 (aI u rfl wH rfl rfl wO) fun a u=>?_;have⟨v60,e61,h⟩:=bs1 h;refine qg u 55 b59 (aH u rfl wQ (cJ e61)) fun a u=>qg u 55 b59 (aI u rfl wH rfl rfl wO) fun a u=>?_;have⟨v62,e63,h⟩:=bs1 h;refine qg u 55 b59 (aH u rfl wQ (cJ e63)) fun a u=>qg u 55 b59 (oF u rfl rfl) fun a u=>qg u 51 (nt b56) (aM u rfl b59 rfl) fun a u=>qg u 48 b53 (aK u rfl b56 rfl) fun a u=>q u (aM u rfl b53 rfl) fun a u=>qa u rfl fun a u=>aC<|?_;have y:=u;cases h;exact hk48 _ (y.sb rfl)
    refine qn u 55 (nm b59) fun a u=>qn u 55 (nm b59) fun a u=>qn u 55 (nm b59) fun a u=>qn u 55 (nm b59) fun a u=>qn u 55 (nm b59) fun a u=>qg u 51 (nt b56) (aK u rfl b59 rfl) fun a u=>qg u 48 b53 (aK u rfl b56 rfl) fun a u=>q u (aM u rfl b53 rfl) fun a u=>qa u rfl fun a u=>aC<|?_;have y:=u;cases h;exact hk48 _ (y.sb rfl)
   refine qn u 48 (nm b53) fun a u=>qn u 48 (nm b53) fun a u=>qn u 48 (nm b53) fun a u=>qu u 51 fun a u=>qu u 51 fun a u=>qu u 51 fun a u=>qu u 51 fun a u=>qu u 55 fun a u=>qu u 55 fun a u=>qu u 55 fun a u=>qu u 55 fun a u=>qu u 55 fun a u=>qu u 51 fun a u=>qn u 48 (nm b53) fun a u=>q u (aK u rfl b53 rfl) fun a u=>qa u rfl fun a u=>aC<|?_;have y:=u;cases h;exact hk48 _ (y.sb rfl)
  refine wp_seq<|aA<|q u (cF u rfl rfl) fun a u=>qa u rfl fun a u=>aC<|t_n<|?_;refine aG u rfl h (fun b64 h=>?_) (fun b64 h=>?_)
  .refine wp_seq<|aA<|q u (aI u rfl wH rfl rfl Try.sizeOf5) fun a u=>?_;have⟨v65,e66,h⟩:=bs1 h;refine q u (aH u rfl Try.isAgg5 (aN e66)) fun a u=>q u (aI u rfl wH rfl rfl Try.sizeOf5) fun a u=>?_;have⟨v67,e68,h⟩:=bs1 h;refine q u (aH u rfl Try.isAgg5 (aN e68)) fun a u=>q u (rP u rfl rfl) fun a u=>q u (tK u rfl rfl) fun a u=>q u (cF u rfl rfl) fun a u=>qa u rfl fun a u=>aC<|t_n<|wp_ret<|b_r<|t_r<|?_;have y:=u;cases h;exact aY Try.results28 y rfl ⟨rfl,rfl⟩
  refine wp_skip<|b_n<|t_n<|wp_seq<|wp_seq<|aA<|q u (aI u rfl wH rfl rfl xE) fun a u=>?_;have⟨v69,e70,h⟩:=bs1 h;refine q u (aH u rfl xZ (kO e70)) fun a u=>aC<|t_n<|?_;refine aG u rfl h (fun b71 h=>?_) (fun b71 h=>?_)
  .refine wp_seq<|aA<|qa u rfl fun a u=>aC<|t_n<|wp_ret<|t_r<|?_;have y:=u;cases h;exact aY Try.results28 y rfl ⟨rfl,rfl⟩
  refine wp_skip<|t_n<|wp_seq<|wp_seq<|aA<|q u (aI u rfl wH rfl rfl xA) fun a u=>?_;have⟨v72,e73,h⟩:=bs1 h;refine q u (aH u rfl xD (bT e73)) fun a u=>q u (cE u rfl wN) fun a u=>qm u rfl fun a u=>aC<|t_n<|wp_block<|?_;have⟨r76,e77,h⟩:=bs1 h;refine dG (n:=108) (L1:=fun i=>[(2,(pV (some p1))),(3,(pV (some p4)))]) (w1:=fun i=>i) (L2:=fun i=>[(4,(bV i.1))]) (w2:=fun i=>i.2) (e1:=.exit 1) (e2:=.ret) (I:=fun (s:Int×World) a w=>Has 108 [(78,(iV s.1)),(2,(pV (some p1))),(3,(pV (some p4))),(76,(Sl.v v72)),(77,(iV (v72.n:Int)))] a/\w=s.2) ⟨u.sub ⟨rfl,rfl,rfl,rfl,rfl,aAO⟩,rfl⟩ e77 (fun i hi a u=>?_) (fun i hi a u=>?_) (fun hk81 hk82=>?_)
  .subst hi;obtain⟨w78,rfl⟩:∃ x,x=i:=⟨i,rfl⟩;dsimp only[Sum.elim_inl,Sum.elim_inr,u1,u2,u3,u4,u5,u6] at h;have u:Has 108 [(2,(pV (some p1))),(3,(pV (some p4)))] a:=u;refine eL<|t_n<|wp_seq<|wp_seq<|aA<|q u (aI u rfl wH rfl rfl xA) fun a u=>?_;have⟨v100,e101,h⟩:=bs1 h;refine q u (aH u rfl xD (bT e101)) fun a u=>q u (cE u rfl wN) fun a u=>qm u rfl fun a u=>aC<|t_n<|wp_block<|?_;have⟨r104,e105,h⟩:=bs1 h;refine dG (n:=108) (L1:=fun i=>[]) (w1:=fun i=>i) (L2:=fun i=>[(4,(bV i.1))]) (w2:=fun i=>i.2) (e1:=.exit 3) (e2:=.ret) (I:=fun (s:Int×World) a w=>Has 108 [(91,(iV s.1)),(2,(pV (some p1))),(89,(Sl.v v100)),(90,(iV (v100.n:Int)))] a/\w=s.2) ⟨u.sub ⟨rfl,rfl,rfl,rfl,aAO⟩,rfl⟩ e105 (fun i hi a u=>?_) (fun i hi a u=>?_) (fun hk109 hk110=>?_)
   .subst hi;obtain⟨w106,rfl⟩:∃ x,x=i:=⟨i,rfl⟩;dsimp only[Sum.elim_inl,Sum.elim_inr,u1,u2,u3,u4,u5,u6] at h;have u:Has 108 [] a:=u;refine eL<|t_n<|wp_seq<|aA<|qa u rfl fun a u=>aC<|t_n<|wp_ret<|?_;have y:=u;cases h;exact aY Try.results28 y rfl ⟨rfl,rfl⟩
   .subst hi;obtain⟨v107,w108⟩:=i;dsimp only[Sum.elim_inl,Sum.elim_inr,u1,u2,u3,u4,u5,u6] at h;have u:Has 108 [(4,(bV v107))] a:=u;refine b_r<|t_r<|?_;have y:=u;cases h;exact aY Try.results28 y rfl ⟨rfl,rfl⟩
   clear h;rintro⟨x102,w103⟩ a wq o ⟨u,hwq⟩ h hr111;obtain rfl:w103=wq:=hwq.symm;have u:Has 108 [(91,(iV x102)),(2,(pV (some p1))),(89,(Sl.v v100)),(90,(iV (v100.n:Int)))] a:=u;have h:eA v100 p1 x102 w103=some o:=h;unfold eA at h;refine wp_seq<|aA<|q u (fZ u rfl rfl) fun a u=>aC<|t_n<|wp_seq<|?_;refine aG u rfl h (fun b112 h=>?_) (fun b112 h=>?_)
   .refine wp_skip<|t_n<|wp_seq<|wp_block<|wp_seq<|aA<|?_;have⟨p113,e114,h⟩:=bs1 h;refine q u (dM u rfl rfl wN wR e114) fun a u=>?_;have⟨c115,e116,h⟩:=bs1 h;refine q u (bO u rfl xN wR e116) fun a u=>?_;have⟨p117,w118,e119,h⟩:=bs2 h;refine q u (cV yB (by kernel_rfl) e119) fun a u=>?_;have⟨w120,e121,h⟩:=bs1 h;refine q u (dY u rfl rfl wR ((iG e116).1) e121) fun a u=>aC<|t_n<|wp_seq<|?_;have⟨v122,w123,e124,h⟩:=bs2 h;refine bC (n:=108) (L:=[(106,(bV v122)),(2,(pV (some p1))),(89,(Sl.v v100)),(90,(iV (v100.n:Int))),(91,(iV x102))]) (w':=w123) (fun a u=>?_) (fun hk125=>?_)
    .refine t_n<|?_;refine aG u rfl h (fun b137 h=>?_) (fun b137 h=>?_)
     .refine wp_seq<|aA<|qa u rfl fun a u=>aC<|t_n<|wp_ret<|b_r<|t_r<|?_;have y:=u;cases h;cases hr111 _ rfl;refine gD<|?_;exact hk110 _ rfl _ (y.sb rfl)
     refine wp_skip<|b_n<|t_n<|aA<|q u (dT u rfl rfl) fun a u=>qm u rfl fun a u=>aC<|?_;have y:=u;cases h;exact cY ⟨y.sb rfl,rfl⟩
    clear h;have h:=e124;refine aA<|q u (aI u rfl wH rfl rfl xA) fun a u=>?_;have⟨v126,e127,h⟩:=bs1 h;refine q u (aH u rfl xD (bT e127)) fun a u=>q u (jU (vs:=[(pV (some p117))]) u ⟨rfl,aAO⟩) fun a u=>?_;have⟨v128,w129,e130,h⟩:=bs2 h;refine q u (eV (xs:=[_,_]) (vs:=[(Sl.v v126),(.func (.func 44) #[] #[(pV (some p117))])]) u ⟨rfl,rfl,aAO⟩ Try.call16 (eM e130)) fun a u=>q u (eY u rfl) fun a u=>qm u rfl fun a u=>?_;refine cQ h (fun b131 h=>?_) (fun b131 h=>?_)
    .refine qg u 100 b131 (aI u rfl wH rfl rfl xA) fun a u=>?_;have⟨v132,e133,h⟩:=bs1 h;refine qg u 100 b131 (aH u rfl xD (bT e133)) fun a u=>qg u 100 b131 (jU (vs:=[(pV (some p117))]) u ⟨rfl,aAO⟩) fun a u=>?_;have⟨v134,w135,e136,h⟩:=bs2 h;refine qg u 100 b131 (eV (xs:=[_,_]) (vs:=[(Sl.v v132),(.func (.func 45) #[] #[(pV (some p117))])]) u ⟨rfl,rfl,aAO⟩ Try.call16 (eN e136)) fun a u=>qg u 100 b131 (eY u rfl) fun a u=>q u (aM u rfl b131 rfl) fun a u=>aC<|?_;have y:=u;cases h;exact hk125 _ (y.sb rfl)
    refine qn u 100 (nm b131) fun a u=>qn u 100 (nm b131) fun a u=>qn u 100 (nm b131) fun a u=>qn u 100 (nm b131) fun a u=>qn u 100 (nm b131) fun a u=>q u (aK u rfl b131 rfl) fun a u=>aC<|?_;have y:=u;cases h;exact hk125 _ (y.sb rfl)
   refine wp_exit<|t_x<|?_;have y:=u;cases h;cases hr111 _ rfl;refine iA<|?_;exact hk109 _ rfl _ (y.sb rfl)
  .subst hi;obtain⟨v79,w80⟩:=i;dsimp only[Sum.elim_inl,Sum.elim_inr,u1,u2,u3,u4,u5,u6] at h;have u:Has 108 [(4,(bV v79))] a:=u;refine b_r<|t_r<|?_;have y:=u;cases h;exact aY Try.results28 y rfl ⟨rfl,rfl⟩
  clear h;rintro⟨x74,w75⟩ a wq o ⟨u,hwq⟩ h hr83;obtain rfl:w75=wq:=hwq.symm;have u:Has 108 [(78,(iV x74)),(2,(pV (some p1))),(3,(pV (some p4))),(76,(Sl.v v72)),(77,(iV (v72.n:Int)))] a:=u;have h:eE v72 p1 x74 w75=some o:=h;unfold eE at h;refine wp_seq<|aA<|q u (fZ u rfl rfl) fun a u=>aC<|t_n<|wp_seq<|?_;refine aG u rfl h (fun b84 h=>?_) (fun b84 h=>?_)
  .refine wp_skip<|t_n<|wp_seq<|wp_block<|wp_seq<|aA<|?_;have⟨p85,e86,h⟩:=bs1 h;refine q u (dM u rfl rfl wN wR e86) fun a u=>?_;have⟨c87,e88,h⟩:=bs1 h;refine q u (bO u rfl xN wR e88) fun a u=>?_;have⟨p89,w90,e91,h⟩:=bs2 h;refine q u (cV yB (by kernel_rfl) e91) fun a u=>?_;have⟨w92,e93,h⟩:=bs1 h;refine q u (dY u rfl rfl wR ((iG e88).1) e93) fun a u=>aC<|t_n<|wp_seq<|aA<|q u (aI u rfl wH rfl rfl xA) fun a u=>?_;have⟨v94,e95,h⟩:=bs1 h;refine q u (aH u rfl xD (bT e95)) fun a u=>q u (jU (vs:=[(pV (some p89))]) u ⟨rfl,aAO⟩) fun a u=>?_;have⟨v96,w97,e98,h⟩:=bs2 h;refine q u (eV (xs:=[_,_]) (vs:=[(Sl.v v94),(.func (.func 42) #[] #[(pV (some p89))])]) u ⟨rfl,rfl,aAO⟩ Try.call16 (eP e98)) fun a u=>q u (eY u rfl) fun a u=>aC<|t_n<|?_;refine aG u rfl h (fun b99 h=>?_) (fun b99 h=>?_)
   .refine wp_seq<|aA<|qa u rfl fun a u=>aC<|t_n<|wp_ret<|b_r<|t_r<|?_;have y:=u;cases h;cases hr83 _ rfl;refine gD<|?_;exact hk82 _ rfl _ (y.sb rfl)
   refine wp_skip<|b_n<|t_n<|aA<|q u (dT u rfl rfl) fun a u=>qm u rfl fun a u=>aC<|?_;have y:=u;cases h;exact cY ⟨y.sb rfl,rfl⟩
  refine wp_exit<|t_x<|?_;have y:=u;cases h;cases hr83 _ rfl;refine iA<|?_;exact hk81 _ rfl _ (y.sb rfl)
 clear h;have h:=e9;refine aA<|q u (aI u rfl wH rfl rfl wT) fun a u=>?_;have⟨v11,e12,h⟩:=bs1 h;refine q u (aH u rfl wS (aN e12)) fun a u=>q u (aI u rfl wH rfl rfl wT) fun a u=>?_;have⟨v13,e14,h⟩:=bs1 h;refine q u (aH u rfl wS (aN e14)) fun a u=>q u (kJ u rfl rfl) fun a u=>qm u rfl fun a u=>?_;refine cQ h (fun b15 h=>?_) (fun b15 h=>?_)
 .refine qn u 14 (tn b15) fun a u=>qn u 14 (tn b15) fun a u=>qn u 14 (tn b15) fun a u=>qu u 17 fun a u=>qu u 17 fun a u=>qu u 17 fun a u=>qn u 14 (tn b15) fun a u=>q u (aM u rfl b15 rfl) fun a u=>aC<|?_;have y:=u;cases h;exact hk10 _ (y.sb rfl)
 refine qg u 14 (nt b15) (aI u rfl wH rfl rfl xE) fun a u=>?_;have⟨v16,e17,h⟩:=bs1 h;refine qg u 14 (nt b15) (aH u rfl xZ (kO e17)) fun a u=>qg u 14 (nt b15) (aF u rfl) fun a u=>?_;refine cQ h (fun b18 h=>?_) (fun b18 h=>?_)
 .refine qg u 17 b18 (aI u rfl wH rfl rfl xE) fun a u=>?_;have⟨v19,e20,h⟩:=bs1 h;refine qg u 17 b18 (aH u rfl xZ (kO e20)) fun a u=>qg u 17 b18 (eY u rfl) fun a u=>qg u 14 (nt b15) (aM u rfl b18 rfl) fun a u=>q u (aK u rfl b15 rfl) fun a u=>aC<|?_;have y:=u;cases h;exact hk10 _ (y.sb rfl)
 refine qn u 17 (nm b18) fun a u=>qn u 17 (nm b18) fun a u=>qn u 17 (nm b18) fun a u=>qg u 14 (nt b15) (aK u rfl b18 rfl) fun a u=>q u (aK u rfl b15 rfl) fun a u=>aC<|?_;have y:=u;cases h;exact hk10 _ (y.sb rfl)
noncomputable def cS (a1:Sl) (a0:Sl) (x1:Int) (w2:World):Option ((Int×World)⊕((World)⊕(Bool×World))) :=
 if (decide (x1<(a1.n:Int)))=true then
 ((ix a1 x1 12).bind fun p12 =>
 (ldA 12 w2 p12 0).bind fun c14 =>
 aE (mk w2 40 ([.string ByteArray.empty,.int .i64 0,.bool false,.int .i64 0,.int .i64 0,.string ByteArray.empty,.string ByteArray.empty,.bool false,.int .u8 0,.bool false,.slice none 0 0,.slice none 0 0])) fun p16 w17 =>
 (stA w17 p16 0 c14).bind fun w19 =>
 aE (bB a0 p16 w19) fun v21 w22 =>
 aE ((dr w22).bind fun w28 =>
 if (decide (v21<0))=true then
 (some (true,w28))
 else
 ((ix a0 v21 12).bind fun p31 =>
 (ldA 12 w28 p31 0).bind fun c33 =>
 (ldA 12 w28 p16 0).bind fun c35 =>
 aE (iH c33 c35 w28) fun v37 w38 =>
 some ((!v37),w38))) fun v24 w25 =>
 if v24=true then
 (some (.inr (.inr (false,w25))))
 else
 (some (.inl ((IntKind.wrap .i64 (x1+1)),w25))))
 else
 (some (.inr (.inl w2)))
noncomputable def gS (a0:Sl) (a1:Sl) (w:World):Option (Bool×World) :=
 (bS (fun s:Int×World=>cS a1 a0 s.1 s.2) (0,w)).bind fun r3=>Sum.elim (fun (i:World)=>u1 i fun w5 =>
 some (true,w5)) (fun (i:Bool×World)=>u2 i fun v6 w7 =>
 some (v6,w7)) r3
theorem lP {a0 a1 w w' r0} (h:gS a0 a1 w=some (r0,w')):Calls Try.prog 19 #[(Sl.v a0),(Sl.v a1)] w fun e w''=>e=.returned (.bool r0)/\w''=w':=by
 refine aD (n:=29) Try.func19 rfl Try.ntmps19 (by simp) fun a u=>?_;unfold gS at h;refine wp_seq<|aA<|qa u rfl fun a u=>aC<|t_n<|wp_seq<|wp_seq<|aA<|qm u rfl fun a u=>q u (cE u rfl wJ) fun a u=>qm u rfl fun a u=>aC<|t_n<|wp_block<|?_;have⟨r3,e4,h⟩:=bs1 h;refine dG (n:=29) (L1:=fun i=>[]) (w1:=fun i=>i) (L2:=fun i=>[(4,(bV i.1))]) (w2:=fun i=>i.2) (e1:=.exit 0) (e2:=.ret) (I:=fun (s:Int×World) a w=>Has 29 [(10,(iV s.1)),(0,(Sl.v a0)),(8,(Sl.v a1)),(9,(iV (a1.n:Int)))] a/\w=s.2) ⟨u.sub ⟨rfl,rfl,rfl,rfl,aAO⟩,rfl⟩ e4 (fun i hi a u=>?_) (fun i hi a u=>?_) (fun hk8 hk9=>?_)
 .subst hi;obtain⟨w5,rfl⟩:∃ x,x=i:=⟨i,rfl⟩;dsimp only[Sum.elim_inl,Sum.elim_inr,u1,u2,u3,u4,u5,u6] at h;have u:Has 29 [] a:=u;refine eL<|t_n<|wp_seq<|aA<|qa u rfl fun a u=>aC<|t_n<|wp_ret<|?_;have y:=u;cases h;exact aY Try.results19 y rfl ⟨rfl,rfl⟩
 .subst hi;obtain⟨v6,w7⟩:=i;dsimp only[Sum.elim_inl,Sum.elim_inr,u1,u2,u3,u4,u5,u6] at h;have u:Has 29 [(4,(bV v6))] a:=u;refine b_r<|t_r<|?_;have y:=u;cases h;exact aY Try.results19 y rfl ⟨rfl,rfl⟩
 clear h;rintro⟨x1,w2⟩ a wq o ⟨u,hwq⟩ h hr10;obtain rfl:w2=wq:=hwq.symm;have u:Has 29 [(10,(iV x1)),(0,(Sl.v a0)),(8,(Sl.v a1)),(9,(iV (a1.n:Int)))] a:=u;have h:cS a1 a0 x1 w2=some o:=h;unfold cS at h;refine wp_seq<|aA<|q u (fZ u rfl rfl) fun a u=>aC<|t_n<|wp_seq<|?_;refine aG u rfl h (fun b11 h=>?_) (fun b11 h=>?_)
 .refine wp_skip<|t_n<|wp_seq<|wp_block<|wp_seq<|aA<|?_;have⟨p12,e13,h⟩:=bs1 h;refine q u (dM u rfl rfl wJ wI e13) fun a u=>?_;have⟨c14,e15,h⟩:=bs1 h;refine q u (bO u rfl xB wI e15) fun a u=>?_;have⟨p16,w17,e18,h⟩:=bs2 h;refine q u (cV wW (by kernel_rfl) e18) fun a u=>?_;have⟨w19,e20,h⟩:=bs1 h;refine q u (dY u rfl rfl wI ((iG e15).1) e20) fun a u=>aC<|t_n<|wp_seq<|aA<|qm u rfl fun a u=>q u (jU (vs:=[(pV (some p16))]) u ⟨rfl,aAO⟩) fun a u=>?_;have⟨v21,w22,e23,h⟩:=bs2 h;refine q u (eV (xs:=[_,_]) (vs:=[(Sl.v a0),(.func (.func 27) #[] #[(pV (some p16))])]) u ⟨rfl,rfl,aAO⟩ Try.call26 (fG e23)) fun a u=>qa u rfl fun a u=>aC<|t_n<|wp_seq<|?_;have⟨v24,w25,e26,h⟩:=bs2 h;refine bC (n:=29) (L:=[(27,(bV v24)),(0,(Sl.v a0)),(8,(Sl.v a1)),(9,(iV (a1.n:Int))),(10,(iV x1))]) (w':=w25) (fun a u=>?_) (fun hk27=>?_)
  .refine t_n<|?_;refine aG u rfl h (fun b40 h=>?_) (fun b40 h=>?_)
   .refine wp_seq<|aA<|qa u rfl fun a u=>aC<|t_n<|wp_ret<|b_r<|t_r<|?_;have y:=u;cases h;cases hr10 _ rfl;refine gD<|?_;exact hk9 _ rfl _ (y.sb rfl)
   refine wp_skip<|b_n<|t_n<|aA<|q u (dT u rfl rfl) fun a u=>qm u rfl fun a u=>aC<|?_;have y:=u;cases h;exact cY ⟨y.sb rfl,rfl⟩
  clear h;have h:=e26;have⟨w28,e29,h⟩:=bs1 h;refine cQ h (fun b30 h=>?_) (fun b30 h=>?_)
  .have u:Has 29 [(0,(Sl.v a0)),(6,(pV (some p16))),(7,(iV v21)),(8,(Sl.v a1)),(9,(iV (a1.n:Int))),(10,(iV x1))] a:=u.sb rfl;refine cC (n:=29) (ds:=(eD (iV v21) 0 [] 7::bA (bV (decide (v21<0))) 0 [0] 17 (iV v21)::eD (bV (decide (v21<0))) 0 [0,1] 18::bA (undef) 0 [0,1,2] 19 (bV (decide (v21<0)))::bA (undef) 0 [0,1,2] 19 (bV (decide (v21<0)))::bA (undef) 0 (rn 0 5) 19 (bV (decide (v21<0)))::bA (undef) 0 (rn 0 6) 19 (bV (decide (v21<0)))::bA (undef) 0 [0,1,2] 19 (bV (decide (v21<0)))::bA (undef) 0 (rn 0 8) 19 (bV (decide (v21<0)))::bA (undef) 0 (rn 0 9) 19 (bV (decide (v21<0)))::eF (bV true) 0 (rn 0 10) [(19,(bV (decide (v21<0)))),(26,undef)]::[])) (W:=(fun _=>w28)) (by kernel_rfl) u (gV e29) (by kernel_rfl) ?_ (bP (by kernel_rfl)) (by kernel_rfl) (m:=0) (by kernel_rfl) (fun a u=>?_)
   .exact⟨oa (aF · rfl),oa (fZ · rfl rfl),oa (aF · rfl),on 19 (tn b30),on 19 (tn b30),on 19 (tn b30),on 19 (tn b30),on 19 (tn b30),on 19 (tn b30),on 19 (tn b30),oa (aM · rfl b30 rfl),aAO⟩
   have u:Has 29 [(0,(Sl.v a0)),(8,(Sl.v a1)),(9,(iV (a1.n:Int))),(10,(iV x1)),(27,(bV true))] a:=u.sb rfl;have y:=u;cases h;exact hk27 _ (y.sb rfl)
  have⟨p31,e32,h⟩:=bs1 h;have⟨c33,e34,h⟩:=bs1 h;have⟨c35,e36,h⟩:=bs1 h;have⟨v37,w38,e39,h⟩:=bs2 h;have u:Has 29 [(0,(Sl.v a0)),(6,(pV (some p16))),(7,(iV v21)),(8,(Sl.v a1)),(9,(iV (a1.n:Int))),(10,(iV x1))] a:=u.sb rfl;refine cC (n:=29) (ds:=(eD (iV v21) 0 [] 7::bA (bV (decide (v21<0))) 0 [0] 17 (iV v21)::eD (bV (decide (v21<0))) 0 [0,1] 18::eF (Sl.v a0) 0 [0,1,2] [(0,(Sl.v a0)),(19,(bV (decide (v21<0))))]::eF (iV v21) 0 [0,1,2] [(7,(iV v21)),(19,(bV (decide (v21<0))))]::eF (pV (some p31)) 0 (rn 0 5) [(20,(Sl.v a0)),(21,(iV v21)),(19,(bV (decide (v21<0))))]::eF (.agg (List.toArray c33)) 0 (rn 0 6) [(22,(pV (some p31))),(19,(bV (decide (v21<0))))]::eF (.agg (List.toArray c35)) 0 [0,1,2] [(6,(pV (some p16))),(19,(bV (decide (v21<0))))]::aL (bV v37) true 0 0 (rn 0 8) [(23,(.agg (List.toArray c33))),(24,(.agg (List.toArray c35))),(19,(bV (decide (v21<0))))]::eF (bV (!v37)) 1 (rn 0 9) [(25,(bV v37)),(19,(bV (decide (v21<0))))]::eF (bV (!v37)) 1 (rn 0 10) [(19,(bV (decide (v21<0)))),(26,(bV (!v37)))]::[])) (W:=(fun j=>match j with | 0=>w28 | 1=>w38 | _=>w38)) (by kernel_rfl) u (gV e29) (by kernel_rfl) ?_ (bP (by kernel_rfl)) (by kernel_rfl) (m:=1) (by kernel_rfl) (fun a u=>?_)
  .exact⟨oa (aF · rfl),oa (fZ · rfl rfl),oa (aF · rfl),oag 19 (nt b30) (aF · rfl),oag 19 (nt b30) (aF · rfl),oag 19 (nt b30) (dM · rfl rfl wJ wI e32),oc 0 (kg 19 (nt b30) (bO · rfl xB wI e34)),oc 0 (kg 19 (nt b30) (bO · rfl xB wI e36)),oc 0 (kg 19 (nt b30) (dc2 · rfl rfl Try.call28 (mU e39))),oag 19 (nt b30) (eY · rfl),oa (aK · rfl b30 rfl),aAO⟩
  have u:Has 29 [(0,(Sl.v a0)),(8,(Sl.v a1)),(9,(iV (a1.n:Int))),(10,(iV x1)),(27,(bV (!v37)))] a:=u.sb rfl;have y:=u;cases h;exact hk27 _ (y.sb rfl)
 refine wp_exit<|t_x<|?_;have y:=u;cases h;cases hr10 _ rfl;refine iA<|?_;exact hk8 _ rfl _ (y.sb rfl)
theorem b3F:∀ a:Fin 256,(oO .u8 (a.val:Int) 3==0)=decide ((a.val:Int) % 4=0):=by decide +kernel
theorem vN {a:Int} (h0:0<=a) (h1:a<256):(oO .u8 a 3==0)=decide (a % 4=0):=by
 have:=b3F ⟨a.toNat,by omega⟩;rwa[show((a.toNat:Nat):Int)=a by omega] at this
theorem bnF:∀ a b:Fin 256,(oO .u8 (oH .u8 (a.val:Int) (b.val:Int)) 3==0)=trL (a.val:Int) (b.val:Int):=by decide +kernel
theorem vZ {a b:Int} (h0:0<=a) (h1:a<256) (k0:0<=b) (k1:b<256):(oO .u8 (oH .u8 a b) 3==0)=trL a b:=by
 have:=bnF ⟨a.toNat,by omega⟩ ⟨b.toNat,by omega⟩;rwa[show((a.toNat:Nat):Int)=a by omega,show((b.toNat:Nat):Int)=b by omega] at this
theorem rT {u M:Int} (h1 : -M<=u) (h2:u<=M):u*u<=M*M:=by
 have h:=aAH (show 0<=M-u by omega) (show 0<=M+u by omega);have e:(M-u)*(M+u)=M*M-u*u:=by grind
 omega
theorem wri {x:Int} (h1 : -9223372036854775808<=x) (h2:x<=9223372036854775807):IntKind.wrap .i64 x=x:=by rw[aAE];omega
theorem nC {d:Dc} (h:okD d=true) : -1048576<=d.x/\d.x<=1048576/\-1048576<=d.y/\d.y<=1048576/\0<=d.r/\d.r<=1048576:=by
 simp only[okD,yL,decide_eq_true_eq] at h;omega
theorem vP {a b:Dc} (ha:okD a=true) (hb:okD b=true):IntKind.wrap .i64 (IntKind.wrap .i64 (IntKind.wrap .i64 (a.x-b.x)*IntKind.wrap .i64 (a.x-b.x))+IntKind.wrap .i64 (IntKind.wrap .i64 (a.y-b.y)*IntKind.wrap .i64 (a.y-b.y)))=tD a b:=by
 have h1:=nC ha;have h2:=nC hb;rw[wri (x:=a.x-b.x) (by omega) (by omega),wri (x:=a.y-b.y) (by omega) (by omega)];have n1:=rU (a.x-b.x);have n2:=rU (a.y-b.y);have b1:=rT (u:=a.x-b.x) (M:=2097152) (by omega) (by omega);have b2:=rT (u:=a.y-b.y) (M:=2097152) (by omega) (by omega);rw[wri (x:=(a.x-b.x)*(a.x-b.x)) (by omega) (by omega),wri (x:=(a.y-b.y)*(a.y-b.y)) (by omega) (by omega),wri (by omega) (by omega)];rfl
theorem vD {u:Int} (h1 : -2097152<=u) (h2:u<=2097152):IntKind.wrap .i64 (IntKind.wrap .i64 u*IntKind.wrap .i64 u)=u*u:=by
 rw[wri (x:=u) (by omega) (by omega)];have n1:=rU u;have b1:=rT (u:=u) (M:=2097152) (by omega) (by omega);exact wri (by omega) (by omega)
section
variable {F0 : Nat -> Prop} {g g0 : Gh} {w w0 : World} {L : List Rs} {z : Sl} {α : Type} {R : Gh -> World -> List Value -> α -> Prop} {sz : Nat} {xs : List α} {a b d x : Dc} {ds : List Dc} {q : Nat}
theorem kS {Pd:α->Bool} {step:Int->World->Option ((Int×World)⊕(World⊕(Bool×World)))} (hn:xs.length<=1000)
  (hstep:∀ (i:Nat) (x:α) (w1:World),xs[i]?=some x->Hp F0 g0 w0 g w1 L->Mo g w g w1->Ex (step (i:Int) w1) fun o=>∃ w2,o=(if Pd x=true then .inl (((i+1:Nat):Int),w2) else .inr (.inr (false,w2)))/\Hp F0 g0 w0 g w2 L/\Mo g w1 g w2)
  (hend:∀ w1,Hp F0 g0 w0 g w1 L->Mo g w g w1->step (xs.length:Int) w1=some (.inr (.inl w1))):∀ (m i:Nat) (w1:World),m+i=xs.length->Hp F0 g0 w0 g w1 L->Mo g w g w1 ->
  Ex (bS (fun s:Int×World=>step s.1 s.2) ((i:Int),w1)) fun o=>∃ w2,o=(if (xs.drop i).all Pd=true then .inl w2 else .inr (false,w2))/\Hp F0 g0 w0 g w2 L/\Mo g w1 g w2
 | 0,i,w1,hm,H,mo=>by
  have:i=xs.length:=by omega
  subst this;refine⟨.inl w1,bZ (hend w1 H mo),w1,?_,H,Mo.r⟩;rw[zH (zI _)];rfl
 | m+1,i,w1,hm,H,mo=>by
  have hi:i<xs.length:=by omega
  obtain⟨o,eo,w2,rfl,H2,m2⟩:=hstep i xs[i] w1 (yK hi) H mo;rw[zJ hi,aAC];by_cases hp:Pd xs[i]=true
  .rw[if_pos hp] at eo;obtain⟨o,e3,w3,rfl,H3,m3⟩:=kS hn hstep hend m (i+1) w2 (by omega) H2 (mo.t m2);exact⟨_,(eC eo).trans e3,w3,by rw[hp,aAr],H3,m2.t m3⟩
  rw[if_neg hp] at eo;refine⟨_,bZ eo,w2,?_,H2,m2⟩;have:Pd xs[i]=false:=by simpa using hp
  rw[this];rfl
theorem pH (ha:okD a=true) (hb:okD b=true) (H:Hp F0 g0 w0 g w L):Ex (hJ (dcC a) (dcC b) w) fun r=>r.1=tD a b/\Hp F0 g0 w0 g r.2 L/\Mo g w g r.2:=by
 obtain⟨p,w2,e1,H1,m1⟩:=H.box (T:=43) (cs:=dcC a);obtain⟨u,w3,e2,H2,m2⟩:=H1.box (T:=43) (cs:=dcC b);have a0:ldI .i64 w3 ((⟨p,0,none⟩:Addr).add 0)=some a.x:=by rw[aS];exact H2.sw.ldI rfl
 have a1:ldI .i64 w3 ((⟨p,0,none⟩:Addr).add 1)=some a.y:=by rw[aS];exact H2.sw.ldI rfl
 have b0:ldI .i64 w3 ((⟨u,0,none⟩:Addr).add 0)=some b.x:=by rw[aS];exact H2.ldI rfl
 have b1:ldI .i64 w3 ((⟨u,0,none⟩:Addr).add 1)=some b.y:=by rw[aS];exact H2.ldI rfl
 unfold hJ;exact Ex.b2 e1 (Ex.b2 e2 (Ex.b1 a0 (Ex.b1 b0 (Ex.b1 a0 (Ex.b1 b0 (Ex.b1 a1 (Ex.b1 b1 (Ex.b1 a1 (Ex.b1 b1 (Ex.ret ⟨vP ha hb,H2.tl.tl,m1.t m2⟩))))))))))
theorem qT (ha:okD a=true) (hb:okD b=true) (H:Hp F0 g0 w0 g w L):Ex (gB (dcC a) (dcC b) w) fun r=>r.1=wiD a b/\Hp F0 g0 w0 g r.2 L/\Mo g w g r.2:=by
 obtain⟨p,w2,e1,H1,m1⟩:=H.box (T:=43) (cs:=dcC a);obtain⟨u,w3,e2,H2,m2⟩:=H1.box (T:=43) (cs:=dcC b);obtain⟨w4,e3,H3,m3⟩:=H2.dr;have k1:=nC ha;have k2:=nC hb;have a2:∀ {w'},Hp F0 g0 w0 g w' (bxR u (dcC b) 43::bxR p (dcC a) 43::L)->ldI .i64 w' ((⟨p,0,none⟩:Addr).add 2)=some a.r/\ldI .i64 w' ((⟨u,0,none⟩:Addr).add 2)=some b.r:=fun H=>by rw[aS,aS];exact⟨H.sw.ldI rfl,H.ldI rfl⟩
 obtain⟨⟨v,w5⟩,e5,hv,H5,m5⟩:=pH ha hb H3;simp only at hv H5 m5;unfold gB;refine Ex.b2 e1 (Ex.b2 e2 (Ex.j2 (Ψ:=fun r=>r.1=wiD a b/\Hp F0 g0 w0 g r.2 L/\Mo g w g r.2) (Ex.b1 e3 (Ex.b1 (a2 H3).1 (Ex.b1 (a2 H3).2 ?_))) (fun x y h=>Ex.ret h)));by_cases h:a.r<=b.r
 .refine Ex.t (by simpa using h) (Ex.b1 (H3.sw.ldF rfl) (Ex.b1 (H3.ldF rfl) (Ex.b2 e5 (Ex.b1 (a2 H5).2 (Ex.b1 (a2 H5).1 (Ex.b1 (a2 H5).2 (Ex.b1 (a2 H5).1 (Ex.ck (a2 H3).2 (Ex.ck (a2 H3).1 (Ex.ck (a2 H3).2 (Ex.ck (a2 H3).1 (Ex.ret ⟨?_,H5.tl.tl,m1.t (m2.t (m3.t m5))⟩))))))))))));show decide (v<=_)=_;rw[vD (by omega) (by omega),hv];simp[wiD,h]
 exact Ex.f (by simpa using h) (Ex.ret ⟨by simp[wiD,h],H3.tl.tl,m1.t (m2.t m3)⟩)
theorem uS (ha:okD a=true) (hb:okD b=true) (H:Hp F0 g0 w0 g w L):Ex (gY (dcC a) (dcC b) w) fun r=>r.1=apD a b/\Hp F0 g0 w0 g r.2 L/\Mo g w g r.2:=by
 obtain⟨p,w2,e1,H1,m1⟩:=H.box (T:=43) (cs:=dcC a);obtain⟨u,w3,e2,H2,m2⟩:=H1.box (T:=43) (cs:=dcC b);obtain⟨w4,e3,H3,m3⟩:=H2.dr;have k1:=nC ha;have k2:=nC hb;have a2:∀ {w'},Hp F0 g0 w0 g w' (bxR u (dcC b) 43::bxR p (dcC a) 43::L)->ldI .i64 w' ((⟨p,0,none⟩:Addr).add 2)=some a.r/\ldI .i64 w' ((⟨u,0,none⟩:Addr).add 2)=some b.r:=fun H=>by rw[aS,aS];exact⟨H.sw.ldI rfl,H.ldI rfl⟩
 obtain⟨⟨v,w5⟩,e5,hv,H5,m5⟩:=pH ha hb H3;simp only at hv H5 m5;unfold gY;refine Ex.b2 e1 (Ex.b2 e2 (Ex.b1 e3 (Ex.b1 (H3.sw.ldF rfl) (Ex.b1 (H3.ldF rfl) (Ex.b2 e5 (Ex.b1 (a2 H5).1 (Ex.b1 (a2 H5).2 (Ex.b1 (a2 H5).1 (Ex.b1 (a2 H5).2 (Ex.ck (a2 H3).1 (Ex.ck (a2 H3).2 (Ex.ck (a2 H3).1 (Ex.ck (a2 H3).2 (Ex.ret ⟨?_,H5.tl.tl,m1.t (m2.t (m3.t m5))⟩))))))))))))));show decide (_<v)=_;rw[vD (by omega) (by omega),hv];rfl
theorem uA (hx:okD x=true) (hd:okD d=true) (H:Hp F0 g0 w0 g w (bxR q (dcC d) 43::L)):Ex (fY (dcC x) ⟨q,0,none⟩ w) fun r=>r.1=wiD x d/\Hp F0 g0 w0 g r.2 (bxR q (dcC d) 43::L)/\Mo g w g r.2:=by
 obtain⟨p,w2,e1,H1,m1⟩:=H.box (T:=43) (cs:=dcC x);obtain⟨⟨v,w3⟩,e3,hv,H3,m3⟩:=qT hx hd H1;unfold fY;exact Ex.b2 e1 (Ex.b1 (H1.ldF rfl) (Ex.b1 (H1.sw.ldF rfl) (Ex.b2 e3 (Ex.ret ⟨hv,H3.tl,m1.t m3⟩))))
theorem uK (hx:okD x=true) (hd:okD d=true) (H:Hp F0 g0 w0 g w (bxR q (dcC d) 43::L)):Ex (fV (dcC x) ⟨q,0,none⟩ w) fun r=>r.1=wiD d x/\Hp F0 g0 w0 g r.2 (bxR q (dcC d) 43::L)/\Mo g w g r.2:=by
 obtain⟨p,w2,e1,H1,m1⟩:=H.box (T:=43) (cs:=dcC x);obtain⟨⟨v,w3⟩,e3,hv,H3,m3⟩:=qT hd hx H1;unfold fV;exact Ex.b2 e1 (Ex.b1 (H1.sw.ldF rfl) (Ex.b1 (H1.ldF rfl) (Ex.b2 e3 (Ex.ret ⟨hv,H3.tl,m1.t m3⟩))))
theorem uO (hx:okD x=true) (hd:okD d=true) (H:Hp F0 g0 w0 g w (bxR q (dcC d) 43::L)):Ex (fT (dcC x) ⟨q,0,none⟩ w) fun r=>r.1=apD x d/\Hp F0 g0 w0 g r.2 (bxR q (dcC d) 43::L)/\Mo g w g r.2:=by
 obtain⟨p,w2,e1,H1,m1⟩:=H.box (T:=43) (cs:=dcC x);obtain⟨⟨v,w3⟩,e3,hv,H3,m3⟩:=uS hx hd H1;unfold fT;exact Ex.b2 e1 (Ex.b1 (H1.ldF rfl) (Ex.b1 (H1.sw.ldF rfl) (Ex.b2 e3 (Ex.ret ⟨hv,H3.tl,m1.t m3⟩))))
theorem mR {Pd:Dc->Bool} {cl:List Value->World->Option (Bool×World)} (hs:PL dcR 3 g w z ds) (hn:ds.length<=1000) (hcl:∀ (x:Dc) (w1:World),x∈ds->Hp F0 g0 w0 g w1 L->Ex (cl (dcC x) w1) fun r=>r.1=Pd x/\Hp F0 g0 w0 g r.2 L/\Mo g w1 g r.2) (H:Hp F0 g0 w0 g w L) {loop:Int->World->Option ((Int×World)⊕(World⊕(Int×World)))}
  (hl:∀ x1 w2,loop x1 w2=if (decide (x1<(z.n:Int)))=true then ((D.ix z x1 3).bind fun p12=>(ldA 3 w2 p12 0).bind fun c14=>aE (cl c14 w2) fun v16 w17=>if v16=true then (some (.inr (.inr (x1,w17)))) else (some (.inl ((IntKind.wrap .i64 (x1+1)),w17)))) else (some (.inr (.inl w2)))) :
  Ex (aE ((bS (fun s:Int×World=>loop s.1 s.2) (0,w)).bind fun r3=>Sum.elim (fun (i:World)=>u1 i fun w5=>some ((-1:Int),w5)) (fun (i:Int×World)=>u2 i fun v6 w7=>some (v6,w7)) r3) fun v1 w2=>some ((decide (0<=v1)),w2)) fun r=>r.1=ds.any Pd/\Hp F0 g0 w0 g r.2 L/\Mo g w g r.2:=by
 have hln:=hs.len;obtain⟨o,e,w2,rfl,H2,m2⟩:=iQ (xs:=ds) (Pd:=Pd) (step:=loop) hn (fun i x w1 hx H1 m1=>by
  obtain⟨a,cs,ea,la,rfl,-⟩:=hs.el (R:=dcR) eJ m1 hx;have hi:=(yJ.1 hx).1;obtain⟨⟨v,w3⟩,e3,hv,H3,m3⟩:=hcl x w1 (yW hx) H1;simp only at hv H3 m3;rw[hl];refine Ex.t (by simp;omega) (Ex.b1 ea (Ex.b1 la (Ex.b2 e3 ?_)));subst hv;rw[gR (by omega)];by_cases hp:Pd x=true
  .exact Ex.t hp (Ex.ret ⟨w3,by rw[if_pos hp],H3,m3⟩)
  .exact Ex.f hp (Ex.ret ⟨w3,by rw[if_neg hp],H3,m3⟩)) (fun w1=>by
  rw[hl,if_neg (by simp;omega)]) ds.length 0 w (by omega) H Mo.r
 have e':bS (fun s:Int×World=>loop s.1 s.2) (0,w)=_:=e;rw[e',aAM,yY];have ha:ds.any Pd=(ds.findIdx? Pd).isSome:=List.findIdx?_isSome.symm;rw[ha]
 cases ds.findIdx? Pd with
 | none=>exact⟨(false,w2),rfl,rfl,H2,m2⟩
 | some j=>exact⟨(true,w2),by simp[u2,aE],rfl,H2,m2⟩
theorem pX (hs:PL dcR 3 g w z ds) (hn:ds.length<=1000) (ho:∀ x∈ds,okD x=true) (hd:okD d=true) (H:Hp F0 g0 w0 g w (bxR q (dcC d) 43::L)):Ex (bI z ⟨q,0,none⟩ w) fun r=>r.1=(ds.any fun x=>wiD x d)/\Hp F0 g0 w0 g r.2 (bxR q (dcC d) 43::L)/\Mo g w g r.2 :=
 mR (Pd:=fun x=>wiD x d) (cl:=fun c w=>fY c ⟨q,0,none⟩ w) (loop:=fun i w=>bL z ⟨q,0,none⟩ i w) hs hn (fun x w1 hx H1=>uA (ho x hx) hd H1) H (fun _ _=>rfl)
theorem qF (hs:PL dcR 3 g w z ds) (hn:ds.length<=1000) (ho:∀ x∈ds,okD x=true) (hd:okD d=true) (H:Hp F0 g0 w0 g w (bxR q (dcC d) 43::L)):Ex (bJ z ⟨q,0,none⟩ w) fun r=>r.1=(ds.any fun x=>wiD d x)/\Hp F0 g0 w0 g r.2 (bxR q (dcC d) 43::L)/\Mo g w g r.2 :=
 mR (Pd:=fun x=>wiD d x) (cl:=fun c w=>fV c ⟨q,0,none⟩ w) (loop:=fun i w=>bM z ⟨q,0,none⟩ i w) hs hn (fun x w1 hx H1=>uK (ho x hx) hd H1) H (fun _ _=>rfl)
theorem pP (hs:PL dcR 3 g w z ds) (hn:ds.length<=1000) (ho:∀ x∈ds,okD x=true) (hd:okD d=true) (H:Hp F0 g0 w0 g w (bxR q (dcC d) 43::L)):Ex (bH z ⟨q,0,none⟩ w) fun r=>r.1=(ds.any fun x=>apD x d)/\Hp F0 g0 w0 g r.2 (bxR q (dcC d) 43::L)/\Mo g w g r.2 :=
 mR (Pd:=fun x=>apD x d) (cl:=fun c w=>fT c ⟨q,0,none⟩ w) (loop:=fun i w=>bK z ⟨q,0,none⟩ i w) hs hn (fun x w1 hx H1=>uO (ho x hx) hd H1) H (fun _ _=>rfl)
end
section
variable {F0 : Nat -> Prop} {g g0 : Gh} {w w0 : World} {L : List Rs} {z za ya zb yb : Sl} {a b s : Sd} {us bs : List Sd} {q : Nat}
abbrev sbR (p:Nat) (s:Sd) (z y:Sl):Rs:=bxR p (sdC s z y) 40
structure SbL (w:World) (p:Nat) (s:Sd) (z y:Sl):Prop where
 l0:ldS w ((⟨p,0,none⟩:Addr).add 0)=some s.name
 l1:ldI .i64 w ((⟨p,0,none⟩:Addr).add 1)=some s.kind
 l2:ldB w ((⟨p,0,none⟩:Addr).add 2)=some s.ab
 l3:ldI .i64 w ((⟨p,0,none⟩:Addr).add 3)=some s.low
 l4:ldI .i64 w ((⟨p,0,none⟩:Addr).add 4)=some s.high
 l5:ldS w ((⟨p,0,none⟩:Addr).add 5)=some s.fr
 l6:ldS w ((⟨p,0,none⟩:Addr).add 6)=some s.to
 l7:ldB w ((⟨p,0,none⟩:Addr).add 7)=some s.op
 l8:ldI .u8 w ((⟨p,0,none⟩:Addr).add 8)=some s.tr
 l9:ldB w ((⟨p,0,none⟩:Addr).add 9)=some s.no
 l10:ldL w ((⟨p,0,none⟩:Addr).add 10)=some z
 l11:ldL w ((⟨p,0,none⟩:Addr).add 11)=some y
 f:ldA 12 w ⟨p,0,none⟩ 0=some (sdC s z y)
theorem Hp.sb {p:Nat} {y:Sl} (H:Hp F0 g0 w0 g w (sbR p s z y::L)):SbL w p s z y:=by
 refine⟨?_,?_,?_,?_,?_,?_,?_,?_,?_,?_,?_,?_,H.ldF rfl⟩<;>rw[aS]
 .exact H.ldS rfl
 .exact H.ldI rfl
 .exact H.ldB rfl
 .exact H.ldI rfl
 .exact H.ldI rfl
 .exact H.ldS rfl
 .exact H.ldS rfl
 .exact H.ldB rfl
 .exact H.ldI rfl
 .exact H.ldB rfl
 .exact H.ldL rfl
 exact H.ldL rfl
theorem oP (h0:0<=s.tr) (h1:s.tr<256) (H:Hp F0 g0 w0 g w L):Ex (cX (sdC s za ya) w) fun r=>r.1=nH s/\Hp F0 g0 w0 g r.2 L/\Mo g w g r.2:=by
 obtain⟨p,w2,e1,H1,m1⟩:=H.box (T:=40) (cs:=sdC s za ya);have k:=H1.sb;have H2:=H1.tl;unfold cX nH;refine Ex.b2 e1 (Ex.b1 k.l1 ?_);by_cases e1:s.kind=1
 .rw[if_pos e1];exact Ex.t (by simpa using e1) (Ex.b1 k.l3 (Ex.b1 k.l4 (Ex.ret ⟨rfl,H2,m1⟩)))
 rw[if_neg e1];refine Ex.f (by simpa using e1) ?_;by_cases e2:s.kind=2
 .rw[if_pos e2];refine Ex.t (by simpa using e2) (Ex.j2 (Ψ:=fun r=>r=((!s.op&&!sLt s.fr s.to),w2)) (Ex.b1 k.l7 ?_) (fun x y h=>by cases h;exact Ex.ret ⟨rfl,H2,m1⟩))
  cases s.op with
  | false=>exact Ex.t rfl (Ex.b1 k.l5 (Ex.b1 k.l6 (Ex.ret rfl)))
  | true=>exact Ex.f (by simp) (Ex.ret rfl)
 rw[if_neg e2];refine Ex.f (by simpa using e2) ?_;by_cases e3:s.kind=3
 .rw[if_pos e3];exact Ex.t (by simpa using e3) (Ex.b1 k.l8 (Ex.ret ⟨vN h0 h1,H2,m1⟩))
 rw[if_neg e3];exact Ex.f (by simpa using e3) (Ex.b1 k.l9 (Ex.ret ⟨rfl,H2,m1⟩))
theorem rO {p1:Nat} (pa:PL dcR 3 g w za a.ins) (pb:PL dcR 3 g w z b.ins) (na:a.ins.length<=4) (nb:b.ins.length<=4) (oa:∀ d∈a.ins,okD d=true) (ob:∀ d∈b.ins,okD d=true) (H:Hp F0 g0 w0 g w (sbR p1 a za ya::L)) :
  Ex (bS (fun s:Int×World=>eE z ⟨p1,0,none⟩ s.1 s.2) (0,w)) fun o=>∃ w2,o=(if (b.ins.all fun d=>a.ins.any fun x=>wiD x d)=true then .inl w2 else .inr (false,w2))/\Hp F0 g0 w0 g w2 (sbR p1 a za ya::L)/\Mo g w g w2:=by
 have hln:=pb.len;have h:=kS (xs:=b.ins) (Pd:=fun d=>a.ins.any fun x=>wiD x d) (step:=eE z ⟨p1,0,none⟩) (by omega) (fun i d w1 hd H1 m1=>by
  have hi:=(yJ.1 hd).1;have hod:=ob d (yW hd);obtain⟨ad,cs,ea,la,rfl,-⟩:=pb.el (R:=dcR) eJ m1 hd;obtain⟨p,w2,e2,H2,m2⟩:=H1.box (T:=43) (cs:=[.int .i64 0,.int .i64 0,.int .i64 0]);obtain⟨w3,e3,H3,m3⟩:=H2.stF (vs:=dcC d) rfl nP;obtain⟨⟨v,w4⟩,e4,hv,H4,m4⟩:=pX (PL.mo (R:=dcR) eJ pa (m1.t (m2.t m3))) (by omega) oa hod H3;simp only at hv H4 m4;unfold eE;refine Ex.t (by simp;omega) (Ex.b1 ea (Ex.b1 la (Ex.b2 e2 (Ex.b1 e3 (Ex.b1 H3.sw.sb.l10 (Ex.b2 e4 ?_))))));rw[gR (by omega)];subst hv;by_cases hp:(a.ins.any fun x=>wiD x d)=true
  .exact Ex.f (by simp[hp]) (Ex.ret ⟨w4,by rw[if_pos hp],H4.tl,m2.t (m3.t m4)⟩)
  .exact Ex.t (by simpa using hp) (Ex.ret ⟨w4,by rw[if_neg hp],H4.tl,m2.t (m3.t m4)⟩)) (fun w1 H1 m1=>by
  unfold eE;rw[if_neg (by simp;omega)]) b.ins.length 0 w (by omega) H Mo.r
 rw[yY] at h;exact h
theorem qW {p1:Nat} (pa:PL dcR 3 g w za a.ins) (pa2:PL dcR 3 g w ya a.outs) (pb:PL dcR 3 g w z b.outs) (na:a.ins.length<=4) (na2:a.outs.length<=4) (nb:b.outs.length<=4) (oa:∀ d∈a.ins,okD d=true) (oa2:∀ d∈a.outs,okD d=true) (ob:∀ d∈b.outs,okD d=true) (H:Hp F0 g0 w0 g w (sbR p1 a za ya::L)) :
  Ex (bS (fun s:Int×World=>eA z ⟨p1,0,none⟩ s.1 s.2) (0,w)) fun o=>∃ w2,o=(if (b.outs.all fun d=>(a.outs.any fun x=>wiD d x)||a.ins.any fun x=>apD x d)=true then .inl w2 else .inr (false,w2))/\Hp F0 g0 w0 g w2 (sbR p1 a za ya::L)/\Mo g w g w2:=by
 have hln:=pb.len;have h:=kS (xs:=b.outs) (Pd:=fun d=>(a.outs.any fun x=>wiD d x)||a.ins.any fun x=>apD x d) (step:=eA z ⟨p1,0,none⟩) (by omega) (fun i d w1 hd H1 m1=>by
  have hi:=(yJ.1 hd).1;have hod:=ob d (yW hd);obtain⟨ad,cs,ea,la,rfl,-⟩:=pb.el (R:=dcR) eJ m1 hd;obtain⟨p,w2,e2,H2,m2⟩:=H1.box (T:=43) (cs:=[.int .i64 0,.int .i64 0,.int .i64 0]);obtain⟨w3,e3,H3,m3⟩:=H2.stF (vs:=dcC d) rfl nP;obtain⟨⟨v,w4⟩,e4,hv,H4,m4⟩:=qF (PL.mo (R:=dcR) eJ pa2 (m1.t (m2.t m3))) (by omega) oa2 hod H3;simp only at hv H4 m4;obtain⟨⟨u,w5⟩,e5,hu,H5,m5⟩:=pP (PL.mo (R:=dcR) eJ pa (m1.t (m2.t (m3.t m4)))) (by omega) oa hod H4;simp only at hu H5 m5;unfold eA;refine Ex.t (by simp;omega) (Ex.b1 ea (Ex.b1 la (Ex.b2 e2 (Ex.b1 e3 (Ex.j2 (Ψ:=fun r=>r.1=(!((a.outs.any fun x=>wiD d x)||a.ins.any fun x=>apD x d))/\Hp F0 g0 w0 g r.2 (sbR p1 a za ya::L)/\Mo g w1 g r.2) (Ex.b1 H3.sw.sb.l11 (Ex.b2 e4 ?_)) ?_)))))
  .by_cases hp:v=true
   .exact Ex.f (by simp[hp]) (Ex.ret ⟨by rw[<-hv,hp];rfl,H4.tl,m2.t (m3.t m4)⟩)
   refine Ex.t (by simpa using hp) (Ex.b1 H4.sw.sb.l10 (Ex.b2 e5 (Ex.ret ⟨?_,H5.tl,m2.t (m3.t (m4.t m5))⟩)));have:v=false:=by simpa using hp
   rw[<-hv,this,<-hu];rfl
  rintro x w6 ⟨rfl,H6,m6⟩;simp only at H6 m6;rw[gR (by omega)];by_cases hp:((a.outs.any fun x=>wiD d x)||a.ins.any fun x=>apD x d)=true
  .exact Ex.f (by rw[hp];decide) (Ex.ret ⟨w6,by rw[if_pos hp],H6,m6⟩)
  .exact Ex.t (by simpa using hp) (Ex.ret ⟨w6,by rw[if_neg hp],H6,m6⟩)) (fun w1 H1 m1=>by
  unfold eA;rw[if_neg (by simp;omega)]) b.outs.length 0 w (by omega) H Mo.r
 rw[yY] at h;exact h
theorem rS (pa:PL dcR 3 g w za a.ins) (pa2:PL dcR 3 g w ya a.outs) (pb:PL dcR 3 g w zb b.ins) (pb2:PL dcR 3 g w yb b.outs) (ta:0<=a.tr/\a.tr<256) (tb:0<=b.tr/\b.tr<256) (ka:okS a) (kb:okS b) (H:Hp F0 g0 w0 g w L) :
  Ex (iH (sdC a za ya) (sdC b zb yb) w) fun r=>r.1=pO a b/\Hp F0 g0 w0 g r.2 L/\Mo g w g r.2:=by
 obtain⟨p1,w2,e2,H2,m2⟩:=H.box (T:=40) (cs:=sdC a za ya);obtain⟨p4,w5,e5,H5,m5⟩:=H2.box (T:=40) (cs:=sdC b zb yb);have qa:=H5.sw.sb;have qb:=H5.sb;have H5':=H5.sw;have m25:=m2.t m5;obtain⟨⟨v,w6⟩,e6,hv,H6,m6⟩:=oP (s:=a) (za:=za) (ya:=ya) ta.1 ta.2 H5';simp only at hv H6 m6;have ra:=H6.sb;have rb:=H6.sw.sb;have m26:=m25.t m6;unfold iH pO;refine Ex.b2 e2 (Ex.b2 e5 (Ex.j2 (Ψ:=fun r=>r=(decide (a.kind≠b.kind\/(a.ab=true/\b.ab=false)),w5)) (Ex.b1 qa.l1 (Ex.b1 qb.l1 ?_)) ?_))
 .by_cases h:a.kind=b.kind
  .refine Ex.f (by simpa using h) (Ex.b1 qa.l2 ?_)
   cases ha:a.ab with
   | true=>exact Ex.t rfl (Ex.b1 qb.l2 (Ex.ret (by cases b.ab<;>simp[h])))
   | false=>exact Ex.f (by simp) (Ex.ret (by simp[h]))
  exact Ex.t (by simpa using h) (Ex.ret (by simp[h]))
 rintro _ _ he;cases he;by_cases h0:a.kind≠b.kind\/(a.ab=true/\b.ab=false)
 .rw[if_pos h0];exact Ex.t (decide_eq_true h0) (Ex.ret ⟨rfl,H5.tl.tl,m25⟩)
 rw[if_neg h0];refine Ex.f (by simpa using h0) (Ex.b1 qa.f (Ex.b2 e6 ?_));subst hv;by_cases hn:nH a=true
 .exact Ex.t hn (Ex.ret ⟨by simp only[if_pos hn],H6.tl.tl,m26⟩)
 refine Ex.f hn (Ex.b1 ra.l1 ?_);simp only[if_neg hn];have fin:∀ {v:Bool},(v,w6).1=v/\Hp F0 g0 w0 g (v,w6).2 L/\Mo g w g (v,w6).2:=⟨rfl,H6.tl.tl,m26⟩;by_cases k1:a.kind=1
 .simp only[if_pos k1];refine Ex.t (by simpa using k1) (Ex.j2 (Ψ:=fun r=>r=((decide (b.low<=a.low)&&decide (a.high<=b.high)),w6)) (Ex.b1 rb.l3 (Ex.b1 ra.l3 ?_)) (fun x y h=>by cases h;exact Ex.ret fin));by_cases h:b.low<=a.low
  .exact Ex.t (by simpa using h) (Ex.b1 ra.l4 (Ex.b1 rb.l4 (Ex.ret (by simp[h]))))
  exact Ex.f (by simpa using h) (Ex.ret (by simp[h]))
 simp only[if_neg k1];refine Ex.f (by simpa using k1) ?_;by_cases k2:a.kind=2
 .simp only[if_pos k2];refine Ex.t (by simpa using k2) (Ex.j2 (Ψ:=fun r=>r=((sLe b.fr a.fr&&(b.op||(!a.op&&sLe a.to b.to))),w6)) (Ex.b1 rb.l5 (Ex.b1 ra.l5 ?_)) (fun x y h=>by cases h;exact Ex.ret fin));by_cases h:(sLt b.fr a.fr||sEq b.fr a.fr)=true
  .have h':sLe b.fr a.fr=true:=h;rw[h'];refine Ex.t h (Ex.b1 rb.l7 ?_)
   cases b.op with
   | true=>exact Ex.t rfl (Ex.ret rfl)
   | false =>
    refine Ex.f (by simp) (Ex.b1 ra.l7 ?_)
    cases a.op with
    | true=>exact Ex.f (by simp) (Ex.ret rfl)
    | false=>exact Ex.t rfl (Ex.b1 ra.l6 (Ex.b1 rb.l6 (Ex.ret (by simp[sLe]))))
  have h':sLe b.fr a.fr=false:=by simpa[sLe] using h
  rw[h'];exact Ex.f h (Ex.ret rfl)
 simp only[if_neg k2];refine Ex.f (by simpa using k2) ?_;by_cases k3:a.kind=3
 .simp only[if_pos k3];exact Ex.t (by simpa using k3) (Ex.b1 ra.l8 (Ex.b1 rb.l8 (Ex.ret ⟨vZ ta.1 ta.2 tb.1 tb.2,H6.tl.tl,m26⟩)))
 simp only[if_neg k3];refine Ex.f (by simpa using k3) (Ex.b1 rb.l9 ?_);by_cases k4:b.no=true
 .simp only[if_pos k4];exact Ex.ret fin
 simp only[if_neg k4];have kk:a.kind=b.kind:=Decidable.byContradiction fun h=>h0 (.inl h);obtain⟨oa,oa2,na,na2⟩:=ka k1 k2 k3;obtain⟨ob,ob2,nb,nb2⟩:=kb (kk ▸ k1) (kk ▸ k2) (kk ▸ k3);obtain⟨o,e7,w7,ho,H7,m7⟩:=rO (PL.mo (R:=dcR) eJ pa m26) (PL.mo (R:=dcR) eJ pb m26) na nb oa ob H6;refine(Ex.b1 rb.l10 (Ex.b1 e7 ?_));by_cases c1:(b.ins.all fun d=>a.ins.any fun x=>wiD x d)=true
 .rw[if_pos c1] at ho;subst ho;obtain⟨o,e8,w8,ho,H8,m8⟩:=qW (PL.mo (R:=dcR) eJ pa (m26.t m7)) (PL.mo (R:=dcR) eJ pa2 (m26.t m7)) (PL.mo (R:=dcR) eJ pb2 (m26.t m7)) na na2 nb2 oa oa2 ob2 H7;simp only[Sum.elim_inl,u1];refine Ex.b1 H7.sw.sb.l11 (Ex.b1 e8 ?_);rw[c1,aAr];by_cases c2:(b.outs.all fun d=>(a.outs.any fun x=>wiD d x)||a.ins.any fun x=>apD x d)=true
  .rw[if_pos c2] at ho;subst ho;exact Ex.ret ⟨c2.symm,H8.tl.tl,m26.t (m7.t m8)⟩
  rw[if_neg c2] at ho;subst ho;exact Ex.ret ⟨((aAo _).mp c2).symm,H8.tl.tl,m26.t (m7.t m8)⟩
 rw[if_neg c1] at ho;subst ho;simp only[Sum.elim_inr,u2];exact Ex.ret ⟨by rw[(aAo _).mp c1,Bool.false_and],H7.tl.tl,m26.t m7⟩
theorem oD {α:Type} {P:α->Bool}:∀ (l:List α),match l.findIdx? P with | some i=>l.find? P=l[i]?/\i<l.length | none=>l.find? P=none
 | []=>rfl
 | a::l=>by
  rw[aAc,List.find?_cons]
  cases h:P a with
  | true=>simp
  | false =>
   have:=oD (P:=P) l;simp only[aAd,if_false]
   cases e:l.findIdx? P with
   | none=>rw[e] at this;exact this
   | some i=>rw[e] at this;simp only[yP];exact⟨by simpa using this.1,by simpa using this.2⟩
theorem tZ (H:Hp F0 g0 w0 g w (sbR q s za ya::L)):Ex (fP (sdC a zb yb) ⟨q,0,none⟩ w) fun r=>r.1=sEq a.name s.name/\Hp F0 g0 w0 g r.2 (sbR q s za ya::L)/\Mo g w g r.2:=by
 obtain⟨p,w2,e1,H1,m1⟩:=H.box (T:=40) (cs:=sdC a zb yb);unfold fP;exact Ex.b2 e1 (Ex.b1 H1.sb.l0 (Ex.b1 H1.sw.sb.l0 (Ex.ret ⟨rfl,H1.tl,m1⟩)))
theorem rL (hs:PL sdR 12 g w z us) (hn:us.length<=8) (H:Hp F0 g0 w0 g w (sbR q s za ya::L)):Ex (bB z ⟨q,0,none⟩ w) fun r=>r.1=(match us.findIdx? (fun x=>sEq x.name s.name) with | some i=>((i:Nat):Int) | none=>-1)/\Hp F0 g0 w0 g r.2 (sbR q s za ya::L)/\Mo g w g r.2:=by
 have hln:=hs.len;obtain⟨o,e,w2,rfl,H2,m2⟩:=iQ (xs:=us) (Pd:=fun x=>sEq x.name s.name) (step:=aQ z ⟨q,0,none⟩) (by omega) (fun i x w1 hx H1 m1=>by
  obtain⟨a,cs,ea,la,⟨zi,yo,rfl,-⟩,-⟩:=hs.el (R:=sdR) jB m1 hx;have hi:=(yJ.1 hx).1;obtain⟨⟨v,w3⟩,e3,hv,H3,m3⟩:=tZ (a:=x) (zb:=zi) (yb:=yo) H1;simp only at hv H3 m3;unfold aQ;refine Ex.t (by simp;omega) (Ex.b1 ea (Ex.b1 la (Ex.b2 e3 ?_)));subst hv;rw[gR (by omega)];by_cases hp:sEq x.name s.name=true
  .exact Ex.t hp (Ex.ret ⟨w3,by rw[if_pos hp],H3,m3⟩)
  .exact Ex.f hp (Ex.ret ⟨w3,by rw[if_neg hp],H3,m3⟩)) (fun w1=>by
  unfold aQ;rw[if_neg (by simp;omega)]) us.length 0 w (by omega) H Mo.r
 have e':bS (fun s:Int×World=>aQ z ⟨q,0,none⟩ s.1 s.2) (0,w)=_:=e;unfold bB;rw[e',aAM,yY]
 cases us.findIdx? fun x=>sEq x.name s.name with
 | none=>exact⟨(-1,w2),rfl,rfl,H2,m2⟩
 | some j=>exact⟨((j:Int),w2),by simp[u2],rfl,H2,m2⟩
def inS (us:List Sd) (s:Sd):Bool:=match us.find? (fun x=>sEq x.name s.name) with | some x=>pO x s | none=>false
theorem uF (ha:PL sdR 12 g w za us) (hb:PL sdR 12 g w zb bs) (na:us.length<=8) (nb:bs.length<=8) (ka:∀ s∈us,okS s) (kb:∀ s∈bs,okS s) (H:Hp F0 g0 w0 g w L):Ex (gS za zb w) fun r=>r.1=kQ us bs/\Hp F0 g0 w0 g r.2 L/\Mo g w g r.2:=by
 have hlna:=ha.len;have hlnb:=hb.len;obtain⟨o,e,w2,ho,H2,m2⟩:=kS (xs:=bs) (Pd:=inS us) (step:=fun i w=>cS zb za i w) (by omega) (fun i s w1 hx H1 m1=>by
  obtain⟨a,cs,ea,la,⟨zi,yo,rfl,pi,po,t0,t1⟩,-⟩:=hb.el (R:=sdR) jB m1 hx;have hi:=(yJ.1 hx).1;obtain⟨p,w2,e2,H2,m2⟩:=H1.box (T:=40) (cs:=mH);obtain⟨w3,e3,H3,m3⟩:=H2.stF (vs:=sdC s zi yo) rfl kC;have mo3:=m2.t m3;obtain⟨⟨v,w4⟩,e4,hv,H4,m4⟩:=rL (PL.mo (R:=sdR) jB ha (m1.t mo3)) na H3;simp only at hv H4 m4;obtain⟨w5,e5,H5,m5⟩:=H4.dr;have mo5:=mo3.t (m4.t m5);have hf:=oD (P:=fun x:Sd=>sEq x.name s.name) us;show Ex (cS zb za (i:Int) w1) _;unfold cS;refine Ex.t (by simp;omega) (Ex.b1 ea (Ex.b1 la (Ex.b2 e2 (Ex.b1 e3 (Ex.b2 e4 (Ex.j2 (Ψ:=fun r=>r.1=(!inS us s)/\Hp F0 g0 w0 g r.2 L/\Mo g w1 g r.2) (Ex.b1 e5 ?_) ?_))))))
  .cases hfi:us.findIdx? (fun x=>sEq x.name s.name) with
   | none =>
    rw[hfi] at hf hv;simp only at hf hv;subst hv;exact Ex.t (by simp) (Ex.ret ⟨by unfold inS;rw[hf];rfl,H5.tl,mo5⟩)
   | some j =>
    rw[hfi] at hf hv;simp only at hf hv;subst hv;obtain⟨x,hxj⟩:∃ x,us[j]?=some x:=⟨_,yK hf.2⟩;obtain⟨b,cs',eb,lb,⟨zj,yj,rfl,qi,qo,r0,r1⟩,-⟩:=ha.el (R:=sdR) jB (m1.t mo5) hxj;obtain⟨⟨u,w6⟩,e6,hu,H6,m6⟩:=rS qi qo (PL.mo (R:=dcR) eJ pi mo5) (PL.mo (R:=dcR) eJ po mo5) ⟨r0,r1⟩ ⟨t0,t1⟩ (ka x (yW hxj)) (kb s (yW hx)) H5;simp only at hu H6 m6;exact Ex.f (by simp) (Ex.b1 eb (Ex.b1 lb (Ex.b1 H5.sb.f (Ex.b2 e6 (Ex.ret ⟨by unfold inS;rw[hf.1,hxj,hu],H6.tl,mo5.t m6⟩)))))
  rintro v w6 ⟨rfl,H6,m6⟩;simp only at H6 m6;rw[gR (by omega)];by_cases hp:inS us s=true
  .exact Ex.f (by simp[hp]) (Ex.ret ⟨w6,by rw[if_pos hp],H6,m6⟩)
  .exact Ex.t (by simpa using hp) (Ex.ret ⟨w6,by rw[if_neg hp],H6,m6⟩)) (fun w1 H1 m1=>by
  show cS zb za (bs.length:Int) w1=_;unfold cS;rw[if_neg (by simp;omega)]) bs.length 0 w (by omega) H Mo.r
 rw[yY] at ho;have e':bS (fun s:Int×World=>cS zb za s.1 s.2) (0,w)=some o:=e;unfold gS;rw[e',aAM];have hi:kQ us bs=bs.all (inS us):=rfl;rw[hi];by_cases hp:bs.all (inS us)=true
 .rw[if_pos hp] at ho;subst ho;exact⟨(true,w2),rfl,hp.symm,H2,m2⟩
 rw[if_neg hp] at ho;subst ho;exact⟨(false,w2),rfl,((aAo _).mp hp).symm,H2,m2⟩
end
section
variable {P : Program} {n : Nat} {L : List (Nat × Value)} {a : Act} {w w' : World}
def mkM (P:Program) (t:TypeId) (w:World):Option (Option Nat×World):=match (Instr.makeMap t none).run P w with | .ok (.map m) w'=>some (m,w') | _=>none
theorem vV {d ty pos af g t} {m:Option Nat} (h:mkM P t w=some (m,w')):cT P ⟨d,.makeMap t none,ty,pos,af,g⟩ a w (.map m) w':=by
 unfold mkM at h;split at h
 .rename_i m w1 e;cases h;exact bY (by simp[execOp,e])
 cases h
def upM (P:Program) (t:TypeId) (m:Option Nat) (k v:Value) (w:World):Option World:=match (Instr.mapUpdate t (.map m) k v).run P w with | .ok _ w'=>some w' | _=>none
theorem vF {d ty pos af g t x y z} {m:Option Nat} {k v:Value} (ha:Has n L a) (hx:evO L x=some (.map m)) (hy:evO L y=some k) (hz:evO L z=some v) (h:upM P t m k v w=some w'):cT P ⟨d,.mapUpdate t x y z,ty,pos,af,g⟩ a w undef w':=by
 unfold upM at h;split at h
 .rename_i w1 e;cases h;exact pE (by simp[execOp,ha.ev hx,ha.ev hy,ha.ev hz,e])
 cases h
def luI (K:IntKind) (P:Program) (t:TypeId) (m:Option Nat) (k:Value) (w:World):Option (Int×World):=match (Instr.lookup t (.map m) k false).run P w with | .ok (.int k' i) w'=>if k'=K then some (i,w') else none | _=>none
theorem vH {d ty pos af g t x y} {m:Option Nat} {k:Value} {K:IntKind} {i:Int} (ha:Has n L a) (hx:evO L x=some (.map m)) (hy:evO L y=some k) (h:luI K P t m k w=some (i,w')):cT P ⟨d,.lookup t x y false,ty,pos,af,g⟩ a w (.int K i) w':=by
 unfold luI at h;split at h
 .rename_i k' j w1 e;split at h
  .rename_i hk;subst hk;cases h;exact bY (by simp[execOp,ha.ev hx,ha.ev hy,e])
  cases h
 cases h
end
def mpR (r:Nat) (es:Array MapEntry) (c:Nat):Rs where
 h g w F:=w.heap[r]?=some (.map es c)/\∀ k,F k↔k=r
 st h m hk:=⟨by rw[hk r ((h.2 r).2 rfl)];exact h.1,h.2⟩
 lt h hk:=by have:=(h.2 _).1 hk;subst this;exact(zO.1 h.1).1
theorem rH {P:Program} {w:World} {r c:Nat} {es:Array MapEntry} (h:w.heap[r]?=some (.map es c)):(getObj r).run P w = .ok (.map es c) w:=by
 unfold getObj Sem.run;simp[h,Sem.run]
theorem uD {P:Program} {w:World} {r c:Nat} {es:Array MapEntry} {o:Obj} (h:w.heap[r]?=some (.map es c)):(setObj r o).run P w = .ok () { w with heap:=w.heap.setIfInBounds r o }:=by
 unfold setObj Sem.run;simp[h,Sem.run]
theorem rW {P:Program} {w:World} {kt:TypeId} {k:ByteArray} {b:Bool} (hk:∀ w,(underlying kt).run P w = .ok .string w):(Instr.checkKey b 10000 kt (.string k)).run P w = .ok () w:=by
 rw[show 10000=9999+1 from rfl,Instr.checkKey];rw[Sem.run_bind,hk];rfl
theorem uG {P:Program} {t kt et:TypeId} {k:ByteArray} {v:Value} {w:World} {r:Nat} (ht:∀ w,(underlying t).run P w = .ok (.map kt et) w) (hk:∀ w,(underlying kt).run P w = .ok .string w) (h:w.heap[r]?=some (.map #[] 0)):(Instr.mapUpdate t (.map (some r)) (.string k) v).run P w = .ok () { w with heap:=w.heap.setIfInBounds r (.map #[{ key:=.string k,val:=v,born:=0 }] 1) }:=by
 unfold Instr.mapUpdate;rw[Sem.run_bind,ht];simp only[Result.andThen_ok];rw[Sem.run_bind,rH h];simp only[Result.andThen_ok];rw[Sem.run_bind,rW hk];simp only[Result.andThen_ok,Instr.findKey];rw[Sem.run_bind,Sem.run_bind,hk];simp only[Result.andThen_ok,Instr.findNow,Sem.run_pure];rw[uD h];rfl
theorem tY {P:Program} {t kt et:TypeId} {k:ByteArray} {x:Int} {w:World} {r c:Nat} (ht:∀ w,(underlying t).run P w = .ok (.map kt et) w) (hk:∀ w,(underlying kt).run P w = .ok .string w) (h:w.heap[r]?=some (.map #[{ key:=.string k,val:=.int .i64 x,born:=0 }] c)):(Instr.lookup t (.map (some r)) (.string k) false).run P w = .ok (.int .i64 x) w:=by
 unfold Instr.lookup;rw[Sem.run_bind,ht];simp only[Result.andThen_ok];rw[Sem.run_bind,rH h];simp only[Result.andThen_ok];rw[Sem.run_bind,Sem.run_pure];simp only[Result.andThen_ok];rw[Sem.run_bind,rW hk];simp only[Result.andThen_ok,Instr.findKey];rw[Sem.run_bind,Sem.run_bind,hk];have hkk:(k==k)=true:=by
  cases k with
  | mk d=>first | exact beq_self_eq_true _ | (show(d==d)=true;exact beq_self_eq_true d)
 simp[Result.andThen_ok,Instr.findNow,Instr.sameNow,Sem.run_pure,hkk]
section
variable {F0 : Nat -> Prop} {g g0 : Gh} {w w0 : World} {L : List Rs} {r c : Nat} {es : Array MapEntry}
theorem Hp.mp (H:Hp F0 g0 w0 g w (mpR r es c::L)):w.heap[r]?=some (.map es c):=by obtain⟨F,h⟩:=H.hd;exact h.1
theorem Hp.mkm {P:Program} {t:TypeId} (H:Hp F0 g0 w0 g w L):∃ r w',mkM P t w=some (some r,w')/\Hp F0 g0 w0 g w' (mpR r #[] 0::L)/\Mo g w g w' :=
 ⟨w.heap.size,w.alloc (.map #[] 0),rfl,H.add (kP H.lt _) (F:=fun k=>k=w.heap.size) ⟨by show(w.heap.push _)[w.heap.size]?=_;simp,fun _=>Iff.rfl⟩ (fun k hk=>⟨fun hg=>by have:=H.lt k hg;omega,by omega⟩),(kP H.lt _).mo⟩
theorem Hp.upm {P:Program} {t kt et:TypeId} {k:ByteArray} {v:Value} (ht:∀ w,(underlying t).run P w = .ok (.map kt et) w) (hk:∀ w,(underlying kt).run P w = .ok .string w) (H:Hp F0 g0 w0 g w (mpR r #[] 0::L)) :
  ∃ w',upM P t (some r) (.string k) v w=some w'/\Hp F0 g0 w0 g w' (mpR r #[{ key:=.string k,val:=v,born:=0 }] 1::L)/\Mo g w g w':=by
 have hm:=H.mp;have hr:r<w.heap.size:=(zO.1 hm).1;have e:upM P t (some r) (.string k) v w=some { w with heap:=w.heap.setIfInBounds r (.map #[{ key:=.string k,val:=v,born:=0 }] 1) }:=by
  have:(Instr.mapUpdate t (.map (some r)) (.string k) v).run P w = .ok () { w with heap:=w.heap.setIfInBounds r (.map #[{ key:=.string k,val:=v,born:=0 }] 1) }:=by
   exact uG ht hk hm
  unfold upM;rw[this]
 obtain⟨g',w',⟨rfl,rfl⟩,h2,m⟩:=H.up (r':=mpR r #[{ key:=.string k,val:=v,born:=0 }] 1) (Ψ:=fun g' w''=>g'=g/\w''={ w with heap:=w.heap.setIfInBounds r (.map #[{ key:=.string k,val:=v,born:=0 }] 1) }) fun F h hF =>
  ⟨g,_,F,⟨rfl,rfl⟩,⟨by simp[Array.getElem?_setIfInBounds_self_of_lt hr],h.2⟩,⟨⟨rfl,rfl,rfl,by simp,fun k hk hn=>by
   show(w.heap.setIfInBounds r _)[k]?=_;rw[yO];intro he;exact hn ((h.2 k).2 he.symm)⟩,fun _ _ _=>Iff.rfl,⟨by simp,fun k hk=>⟨hk,by
   show(w.heap.setIfInBounds r _)[k]?=_;rw[yO];intro he;exact hF r ((h.2 r).2 rfl) (he ▸ hk)⟩⟩,fun k hk=>by have:=H.lt k hk;simpa using this⟩,fun k hk=>⟨hF k hk,.inl hk⟩⟩
 exact⟨_,e,h2,m⟩
theorem Hp.lum {P:Program} {t kt et:TypeId} {k:ByteArray} {x:Int} (ht:∀ w,(underlying t).run P w = .ok (.map kt et) w) (hk:∀ w,(underlying kt).run P w = .ok .string w) (H:Hp F0 g0 w0 g w (mpR r #[{ key:=.string k,val:=.int .i64 x,born:=0 }] c::L)) :
  luI .i64 P t (some r) (.string k) w=some (x,w):=by
 have hm:=H.mp;have:(Instr.lookup t (.map (some r)) (.string k) false).run P w = .ok (.int .i64 x) w:=tY ht hk hm;unfold luI;rw[this];simp
end
def iC (a0:ByteArray) (a1:ByteArray) (w:World):Option (Int×World) :=
 aE (gI a1 w) fun v1 w2 =>
 if (!v1)=true then
 (some (11,w2))
 else
 (if (sLt a1 a0||sEq a1 a0)=true then
 (some (4,w2))
 else
 (some (0,w2)))
theorem mS {a0 a1 w w' r0} (h:iC a0 a1 w=some (r0,w')):Calls Try.prog 76 #[(.string a0),(.string a1)] w fun e w''=>e=.returned (.int .i64 r0)/\w''=w':=by
 refine aD (n:=13) Try.func76 rfl Try.ntmps76 (by simp) fun a u=>?_;unfold iC at h;refine wp_seq<|aA<|qa u rfl fun a u=>aC<|t_n<|wp_seq<|wp_block<|wp_seq<|aA<|qm u rfl fun a u=>?_;have⟨v1,w2,e3,h⟩:=bs2 h;refine q u (dc1 u rfl Try.call13 (iM e3)) fun a u=>q u (eY u rfl) fun a u=>qa u rfl fun a u=>aC<|t_n<|?_;refine aG u rfl h (fun b4 h=>?_) (fun b4 h=>?_)
 .refine wp_seq<|aA<|qa u rfl fun a u=>aC<|t_n<|wp_ret<|b_r<|t_r<|?_;have y:=u;cases h;exact aY Try.results76 y rfl ⟨rfl,rfl⟩
 refine wp_seq<|aA<|qm u rfl fun a u=>qm u rfl fun a u=>q u (oF u rfl rfl) fun a u=>qa u rfl fun a u=>aC<|t_n<|?_;refine aG u rfl h (fun b5 h=>?_) (fun b5 h=>?_)
 .refine wp_seq<|aA<|qa u rfl fun a u=>aC<|t_n<|wp_ret<|b_r<|t_r<|?_;have y:=u;cases h;exact aY Try.results76 y rfl ⟨rfl,rfl⟩
 refine wp_skip<|b_n<|t_n<|wp_seq<|aA<|qa u rfl fun a u=>aC<|t_n<|wp_ret<|?_;have y:=u;cases h;exact aY Try.results76 y rfl ⟨rfl,rfl⟩
noncomputable def cG (a0:Sl) (x2:ByteArray) (x3:Int) (w4:World):Option ((ByteArray×Int×World)⊕((World)⊕(Int×World))) :=
 if (decide (x3<(a0.n:Int)))=true then
 ((ix a0 x3 2).bind fun p14 =>
 (ldA 2 w4 p14 0).bind fun c16 =>
 aE (mk w4 33 ([.string ByteArray.empty,.int .i64 0])) fun p18 w19 =>
 (stA w19 p18 0 c16).bind fun w21 =>
 (ldS w21 (p18.add 0)).bind fun v23 =>
 aE (iC x2 v23 w21) fun v25 w26 =>
 if (v25 !=0)=true then
 (some (.inr (.inr (v25,w26))))
 else
 (aE ((ldI .i64 w26 (p18.add 1)).bind fun v33 =>
 if (decide (v33<1))=true then
 (some (true,w26))
 else
 ((ldI .i64 w26 (p18.add 1)).bind fun v36 =>
 some ((decide (4<v36)),w26))) fun v29 w30 =>
 if v29=true then
 (some (.inr (.inr (12,w30))))
 else
 ((ldS w30 (p18.add 0)).bind fun v39 =>
 some (.inl (v39,(IntKind.wrap .i64 (x3+1)),w30)))))
 else
 (some (.inr (.inl w4)))
noncomputable def dV (a0:Sl) (w:World):Option (Int×World) :=
 if (decide (8<(a0.n:Int)))=true then
 (some (6,w))
 else
 ((bS (fun s:ByteArray×Int×World=>cG a0 s.1 s.2.1 s.2.2) ((ByteArray.mk #[]),0,w)).bind fun r5=>Sum.elim (fun (i:World)=>u1 i fun w7 =>
 some (0,w7)) (fun (i:Int×World)=>u2 i fun v8 w9 =>
 some (v8,w9)) r5)
theorem jQ {a0 w w' r0} (h:dV a0 w=some (r0,w')):Calls Try.prog 50 #[(Sl.v a0)] w fun e w''=>e=.returned (.int .i64 r0)/\w''=w':=by
 refine aD (n:=34) Try.func50 rfl Try.ntmps50 (by simp) fun a u=>?_;unfold dV at h;refine wp_seq<|aA<|qa u rfl fun a u=>aC<|t_n<|wp_seq<|wp_seq<|aA<|qm u rfl fun a u=>q u (cE u rfl xK) fun a u=>q u (hG u rfl rfl) fun a u=>aC<|t_n<|?_;refine aG u rfl h (fun b1 h=>?_) (fun b1 h=>?_)
 .refine wp_seq<|aA<|qa u rfl fun a u=>aC<|t_n<|wp_ret<|t_r<|?_;have y:=u;cases h;exact aY Try.results50 y rfl ⟨rfl,rfl⟩
 refine wp_skip<|t_n<|wp_seq<|aA<|qa u rfl fun a u=>aC<|t_n<|wp_seq<|wp_seq<|aA<|qm u rfl fun a u=>q u (cE u rfl xK) fun a u=>qm u rfl fun a u=>aC<|t_n<|wp_block<|?_;have⟨r5,e6,h⟩:=bs1 h;refine dG (n:=34) (L1:=fun i=>[]) (w1:=fun i=>i) (L2:=fun i=>[(2,(iV i.1))]) (w2:=fun i=>i.2) (e1:=.exit 0) (e2:=.ret) (I:=fun (s:ByteArray×Int×World) a w=>Has 34 [(3,(.string s.1)),(12,(iV s.2.1)),(10,(Sl.v a0)),(11,(iV (a0.n:Int)))] a/\w=s.2.2) ⟨u.sub ⟨rfl,rfl,rfl,rfl,aAO⟩,rfl⟩ e6 (fun i hi a u=>?_) (fun i hi a u=>?_) (fun hk10 hk11=>?_)
 .subst hi;obtain⟨w7,rfl⟩:∃ x,x=i:=⟨i,rfl⟩;dsimp only[Sum.elim_inl,Sum.elim_inr,u1,u2,u3,u4,u5,u6] at h;have u:Has 34 [] a:=u;refine eL<|t_n<|wp_seq<|aA<|qa u rfl fun a u=>aC<|t_n<|wp_ret<|?_;have y:=u;cases h;exact aY Try.results50 y rfl ⟨rfl,rfl⟩
 .subst hi;obtain⟨v8,w9⟩:=i;dsimp only[Sum.elim_inl,Sum.elim_inr,u1,u2,u3,u4,u5,u6] at h;have u:Has 34 [(2,(iV v8))] a:=u;refine b_r<|t_r<|?_;have y:=u;cases h;exact aY Try.results50 y rfl ⟨rfl,rfl⟩
 clear h;rintro⟨x2,x3,w4⟩ a wq o ⟨u,hwq⟩ h hr12;obtain rfl:w4=wq:=hwq.symm;have u:Has 34 [(3,(.string x2)),(12,(iV x3)),(10,(Sl.v a0)),(11,(iV (a0.n:Int)))] a:=u;have h:cG a0 x2 x3 w4=some o:=h;unfold cG at h;refine wp_seq<|aA<|q u (fZ u rfl rfl) fun a u=>aC<|t_n<|wp_seq<|?_;refine aG u rfl h (fun b13 h=>?_) (fun b13 h=>?_)
 .refine wp_skip<|t_n<|wp_seq<|wp_block<|wp_seq<|aA<|?_;have⟨p14,e15,h⟩:=bs1 h;refine q u (dM u rfl rfl xK xW e15) fun a u=>?_;have⟨c16,e17,h⟩:=bs1 h;refine q u (bO u rfl Try.isAgg33 xW e17) fun a u=>?_;have⟨p18,w19,e20,h⟩:=bs2 h;refine q u (cV yC (by kernel_rfl) e20) fun a u=>?_;have⟨w21,e22,h⟩:=bs1 h;refine q u (dY u rfl rfl xW ((iG e17).1) e22) fun a u=>aC<|t_n<|wp_seq<|wp_seq<|aA<|qm u rfl fun a u=>q u (aI u rfl xL rfl rfl wO) fun a u=>?_;have⟨v23,e24,h⟩:=bs1 h;refine q u (aH u rfl wQ (cJ e24)) fun a u=>?_;have⟨v25,w26,e27,h⟩:=bs2 h;refine q u (dc2 u rfl rfl Try.call76 (mS e27)) fun a u=>qa u rfl fun a u=>aC<|t_n<|wp_seq<|aA<|qm u rfl fun a u=>q u (kJ u rfl rfl) fun a u=>aC<|t_n<|?_;refine aG u rfl h (fun b28 h=>?_) (fun b28 h=>?_)
  .refine wp_seq<|aA<|qm u rfl fun a u=>qa u rfl fun a u=>aC<|t_n<|wp_ret<|t_r<|b_r<|t_r<|?_;have y:=u;cases h;cases hr12 _ rfl;refine gD<|?_;exact hk11 _ rfl _ (y.sb rfl)
  refine wp_skip<|t_n<|wp_seq<|wp_seq<|?_;have⟨v29,w30,e31,h⟩:=bs2 h;refine bC (n:=34) (L:=[(30,(bV v29)),(5,(pV (some p18))),(10,(Sl.v a0)),(11,(iV (a0.n:Int))),(12,(iV x3))]) (w':=w30) (fun a u=>?_) (fun hk32=>?_)
  .refine t_n<|?_;refine aG u rfl h (fun b38 h=>?_) (fun b38 h=>?_)
   .refine wp_seq<|aA<|qa u rfl fun a u=>aC<|t_n<|wp_ret<|t_r<|b_r<|t_r<|?_;have y:=u;cases h;cases hr12 _ rfl;refine gD<|?_;exact hk11 _ rfl _ (y.sb rfl)
   refine wp_skip<|t_n<|aA<|q u (aI u rfl xL rfl rfl wO) fun a u=>?_;have⟨v39,e40,h⟩:=bs1 h;refine q u (aH u rfl wQ (cJ e40)) fun a u=>qa u rfl fun a u=>aC<|b_n<|t_n<|aA<|q u (dT u rfl rfl) fun a u=>qm u rfl fun a u=>aC<|?_;have y:=u;cases h;exact cY ⟨y.sb rfl,rfl⟩
  clear h;have h:=e31;refine aA<|q u (aI u rfl xL rfl rfl wT) fun a u=>?_;have⟨v33,e34,h⟩:=bs1 h;refine q u (aH u rfl wS (aN e34)) fun a u=>q u (fZ u rfl rfl) fun a u=>qm u rfl fun a u=>?_;refine cQ h (fun b35 h=>?_) (fun b35 h=>?_)
  .refine qn u 26 (tn b35) fun a u=>qn u 26 (tn b35) fun a u=>qn u 26 (tn b35) fun a u=>q u (aM u rfl b35 rfl) fun a u=>aC<|?_;have y:=u;cases h;exact hk32 _ (y.sb rfl)
  refine qg u 26 (nt b35) (aI u rfl xL rfl rfl wT) fun a u=>?_;have⟨v36,e37,h⟩:=bs1 h;refine qg u 26 (nt b35) (aH u rfl wS (aN e37)) fun a u=>qg u 26 (nt b35) (hG u rfl rfl) fun a u=>q u (aK u rfl b35 rfl) fun a u=>aC<|?_;have y:=u;cases h;exact hk32 _ (y.sb rfl)
 refine wp_exit<|t_x<|?_;have y:=u;cases h;cases hr12 _ rfl;refine iA<|?_;exact hk10 _ rfl _ (y.sb rfl)
noncomputable def hM (a0:Int) (w:World):Option (Bool×World) :=
 aE (if (a0==1)=true then
 (some (true,w))
 else
 (some ((a0==2),w))) fun v1 w2 =>
 some (v1,w2)
theorem kT {a0 w w' r0} (h:hM a0 w=some (r0,w')):Calls Try.prog 52 #[(.int .i64 a0)] w fun e w''=>e=.returned (.bool r0)/\w''=w':=by
 refine aD (n:=9) Try.func52 rfl Try.ntmps52 (by simp) fun a u=>?_;unfold hM at h;refine wp_seq<|aA<|qa u rfl fun a u=>aC<|t_n<|wp_seq<|?_;have⟨v1,w2,e3,h⟩:=bs2 h;refine bC (n:=9) (L:=[(2,(bV v1))]) (w':=w2) (fun a u=>?_) (fun hk4=>?_)
 .refine t_n<|wp_ret<|?_;have y:=u;cases h;exact aY Try.results52 y rfl ⟨rfl,rfl⟩
 clear h;have h:=e3;refine aA<|qm u rfl fun a u=>q u (cF u rfl rfl) fun a u=>qm u rfl fun a u=>?_;refine cQ h (fun b5 h=>?_) (fun b5 h=>?_)
 .refine qn u 5 (tn b5) fun a u=>qn u 5 (tn b5) fun a u=>q u (aM u rfl b5 rfl) fun a u=>qa u rfl fun a u=>aC<|?_;have y:=u;cases h;exact hk4 _ (y.sb rfl)
 refine qg u 5 (nt b5) (aF u rfl) fun a u=>qg u 5 (nt b5) (cF u rfl rfl) fun a u=>q u (aK u rfl b5 rfl) fun a u=>qa u rfl fun a u=>aC<|?_;have y:=u;cases h;exact hk4 _ (y.sb rfl)
noncomputable def hE (a0:List Value) (w:World):Option (Int×World) :=
 aE (mk w 55 a0) fun p1 w2 =>
 gG ((ldI .i64 w2 (p1.add 0)).bind fun v10 =>
 aE (if (v10==1)=true then
 (some ((v10==1),w2))
 else
 (some ((v10==3),w2))) fun v12 w13 =>
 if v12=true then
 (some (.inr w13))
 else
 (if (v10==2)=true then
 ((ldS w13 (p1.add 2)).bind fun v19 =>
 if (decide (200<(v19.size:Int)))=true then
 ((some (6,w13)).bind fun g9=>some (.inl g9))
 else
 (some (.inr w13)))
 else
 (if (v10==4)=true then
 none
 else
 ((some (12,w13)).bind fun g9=>some (.inl g9))))) some fun (i:World)=>u1 i fun w4 =>
 some (0,w4)
theorem mK {a0 w w' r0} (h:hE a0 w=some (r0,w')):Calls Try.prog 85 #[(.agg (List.toArray a0))] w fun e w''=>e=.returned (.int .i64 r0)/\w''=w':=by
 refine aD (n:=28) Try.func85 rfl Try.ntmps85 (by simp) fun a u=>?_;unfold hE at h;refine wp_seq<|aA<|?_;have⟨p1,w2,e3,h⟩:=bs2 h;refine q u (dP u rfl rfl e3) fun a u=>qa u rfl fun a u=>aC<|t_n<|?_;obtain⟨o7,e5,h6⟩:=bsX h;clear h;refine hH (n:=28) (ι:=World) (Lf:=fun i=>[]) (wf:=fun i=>i) (C:=fun i=>o7=.inr i) (fun i hi a u=>?_) (fun hk8=>?_)
 .subst hi;obtain⟨w4,rfl⟩:∃ x,x=i:=⟨i,rfl⟩;have h:=h6;dsimp only[gG,u1,u2,u3,u4,u5,u6] at h;have u:Has 28 [] a:=u;refine wp_seq<|aA<|qa u rfl fun a u=>aC<|t_n<|wp_ret<|?_;have y:=u;cases h;exact aY Try.results85 y rfl ⟨rfl,rfl⟩
 have h:=e5;refine wp_seq<|aA<|q u (aI u rfl wZ rfl rfl wT) fun a u=>?_;have⟨v10,e11,h⟩:=bs1 h;refine q u (aH u rfl wS (aN e11)) fun a u=>aC<|t_n<|wp_block<|?_;have⟨v12,w13,e14,h⟩:=bs2 h;refine iD (n:=28) (L:=[(8,(bV v12)),(1,(pV (some p1))),(7,(iV v10))]) (w':=w13) (fun a u=>?_) (fun hk15=>?_)
 .refine aG u rfl h (fun b17 h=>?_) (fun b17 h=>?_)
  .refine wp_skip<|b_n<|?_;have y:=u;cases h;exact hk8 _ rfl _ (y.sb rfl)
  refine wp_seq<|aA<|q u (cF u rfl rfl) fun a u=>qa u rfl fun a u=>aC<|t_n<|?_;refine aG u rfl h (fun b18 h=>?_) (fun b18 h=>?_)
  .refine wp_seq<|aA<|q u (aI u rfl wZ rfl rfl wO) fun a u=>?_;have⟨v19,e20,h⟩:=bs1 h;refine q u (aH u rfl wQ (cJ e20)) fun a u=>q u (kL u rfl wV) fun a u=>q u (hG u rfl rfl) fun a u=>aC<|t_n<|?_;refine aG u rfl h (fun b21 h=>?_) (fun b21 h=>?_)
   .refine wp_seq<|aA<|qa u rfl fun a u=>aC<|t_n<|wp_ret<|b_r<|?_;have y:=u;have⟨g9,e22,h⟩:=bs1 h;cases h;cases h6;have h:=e22;have u:=y;refine t_r<|?_;have y:=u;cases h;exact aY Try.results85 y rfl ⟨rfl,rfl⟩
   refine wp_skip<|b_n<|?_;have y:=u;cases h;exact hk8 _ rfl _ (y.sb rfl)
  refine wp_seq<|aA<|q u (cF u rfl rfl) fun a u=>qa u rfl fun a u=>aC<|t_n<|?_;refine aG u rfl h (fun b23 h=>?_) (fun b23 h=>?_)
  .refine wp_seq<|?_;cases h
  refine wp_seq<|aA<|qa u rfl fun a u=>aC<|t_n<|wp_ret<|b_r<|?_;have y:=u;have⟨g9,e24,h⟩:=bs1 h;cases h;cases h6;have h:=e24;have u:=y;refine t_r<|?_;have y:=u;cases h;exact aY Try.results85 y rfl ⟨rfl,rfl⟩
 clear h;have h:=e14;refine wp_seq<|aA<|q u (cF u rfl rfl) fun a u=>qa u rfl fun a u=>aC<|t_n<|?_;refine aG u rfl h (fun b16 h=>?_) (fun b16 h=>?_)
 .refine wp_skip<|?_;have y:=u;cases h;exact hk15 _ (y.sb rfl)
 refine aA<|q u (cF u rfl rfl) fun a u=>qa u rfl fun a u=>aC<|?_;have y:=u;cases h;exact hk15 _ (y.sb rfl)
noncomputable def kB (a0:Int) (a1:Int) (w:World):Option (Bool×World) :=
 aE (if (a0==5)=true then
 (some ((a0==5),w))
 else
 (if (a0==6)=true then
 (some ((a0==6),w))
 else
 (if (a0==7)=true then
 (some ((a0==7),w))
 else
 (some ((a0==8),w))))) fun v1 w2 =>
 if v1=true then
 (aE (if (a1==1)=true then
 (some (true,w2))
 else
 (some ((a1==2),w2))) fun v9 w10 =>
 some (v9,w10))
 else
 (if (a0==9)=true then
 (some ((a1==2),w2))
 else
 (if (a0==10)=true then
 (some ((a1==4),w2))
 else
 (some (true,w2))))
theorem nR {a0 a1 w w' r0} (h:kB a0 a1 w=some (r0,w')):Calls Try.prog 86 #[(.int .i64 a0),(.int .i64 a1)] w fun e w''=>e=.returned (.bool r0)/\w''=w':=by
 refine aD (n:=25) Try.func86 rfl Try.ntmps86 (by simp) fun a u=>?_;unfold kB at h;refine wp_seq<|aA<|qa u rfl fun a u=>aC<|t_n<|wp_seq<|wp_seq<|aA<|qm u rfl fun a u=>aC<|t_n<|wp_block<|?_;have⟨v1,w2,e3,h⟩:=bs2 h;refine iD (n:=25) (L:=[(6,(bV v1)),(1,(iV a1)),(5,(iV a0))]) (w':=w2) (fun a u=>?_) (fun hk4=>?_)
 .refine aG u rfl h (fun b8 h=>?_) (fun b8 h=>?_)
  .refine wp_seq<|?_;have⟨v9,w10,e11,h⟩:=bs2 h;refine bC (n:=25) (L:=[(4,(bV v9))]) (w':=w10) (fun a u=>?_) (fun hk12=>?_)
   .refine t_n<|wp_ret<|b_r<|t_r<|?_;have y:=u;cases h;exact aY Try.results86 y rfl ⟨rfl,rfl⟩
   clear h;have h:=e11;refine aA<|qm u rfl fun a u=>q u (cF u rfl rfl) fun a u=>qm u rfl fun a u=>?_;refine cQ h (fun b13 h=>?_) (fun b13 h=>?_)
   .refine qn u 13 (tn b13) fun a u=>qn u 13 (tn b13) fun a u=>q u (aM u rfl b13 rfl) fun a u=>qa u rfl fun a u=>aC<|?_;have y:=u;cases h;exact hk12 _ (y.sb rfl)
   refine qg u 13 (nt b13) (aF u rfl) fun a u=>qg u 13 (nt b13) (cF u rfl rfl) fun a u=>q u (aK u rfl b13 rfl) fun a u=>qa u rfl fun a u=>aC<|?_;have y:=u;cases h;exact hk12 _ (y.sb rfl)
  refine wp_seq<|aA<|q u (cF u rfl rfl) fun a u=>qa u rfl fun a u=>aC<|t_n<|?_;refine aG u rfl h (fun b14 h=>?_) (fun b14 h=>?_)
  .refine wp_seq<|aA<|qm u rfl fun a u=>q u (cF u rfl rfl) fun a u=>qa u rfl fun a u=>aC<|t_n<|wp_ret<|b_r<|t_r<|?_;have y:=u;cases h;exact aY Try.results86 y rfl ⟨rfl,rfl⟩
  refine wp_seq<|aA<|q u (cF u rfl rfl) fun a u=>qa u rfl fun a u=>aC<|t_n<|?_;refine aG u rfl h (fun b15 h=>?_) (fun b15 h=>?_)
  .refine wp_seq<|aA<|qm u rfl fun a u=>q u (cF u rfl rfl) fun a u=>qa u rfl fun a u=>aC<|t_n<|wp_ret<|b_r<|t_r<|?_;have y:=u;cases h;exact aY Try.results86 y rfl ⟨rfl,rfl⟩
  refine wp_skip<|b_n<|t_n<|wp_seq<|aA<|qa u rfl fun a u=>aC<|t_n<|wp_ret<|?_;have y:=u;cases h;exact aY Try.results86 y rfl ⟨rfl,rfl⟩
 clear h;have h:=e3;refine wp_seq<|aA<|q u (cF u rfl rfl) fun a u=>qa u rfl fun a u=>aC<|t_n<|?_;refine aG u rfl h (fun b5 h=>?_) (fun b5 h=>?_)
 .refine wp_skip<|?_;have y:=u;cases h;exact hk4 _ (y.sb rfl)
 refine wp_seq<|aA<|q u (cF u rfl rfl) fun a u=>qa u rfl fun a u=>aC<|t_n<|?_;refine aG u rfl h (fun b6 h=>?_) (fun b6 h=>?_)
 .refine wp_skip<|?_;have y:=u;cases h;exact hk4 _ (y.sb rfl)
 refine wp_seq<|aA<|q u (cF u rfl rfl) fun a u=>qa u rfl fun a u=>aC<|t_n<|?_;refine aG u rfl h (fun b7 h=>?_) (fun b7 h=>?_)
 .refine wp_skip<|?_;have y:=u;cases h;exact hk4 _ (y.sb rfl)
 refine aA<|q u (cF u rfl rfl) fun a u=>qa u rfl fun a u=>aC<|?_;have y:=u;cases h;exact hk4 _ (y.sb rfl)
noncomputable def iR (a0:List Value) (w:World):Option (Int×World) :=
 aE (mk w 57 a0) fun p1 w2 =>
 (ldS w2 (p1.add 1)).bind fun v4 =>
 aE (gI v4 w2) fun v6 w7 =>
 if (!v6)=true then
 (some (11,w7))
 else
 (aE ((ldI .i64 w7 (p1.add 2)).bind fun v14 =>
 if (decide (v14<1))=true then
 (some (true,w7))
 else
 ((ldI .i64 w7 (p1.add 2)).bind fun v17 =>
 some ((decide (10<v17)),w7))) fun v10 w11 =>
 if v10=true then
 (some (2,w11))
 else
 ((ldI .i64 w11 (p1.add 2)).bind fun v20 =>
 aE (hM v20 w11) fun v22 w23 =>
 if v22=true then
 (some (0,w23))
 else
 ((ldA 5 w23 (p1.add 3) 0).bind fun c26 =>
 aE (hE c26 w23) fun v28 w29 =>
 if (v28 !=0)=true then
 (some (v28,w29))
 else
 ((ldI .i64 w29 (p1.add 2)).bind fun v32 =>
 (ldI .i64 w29 ((p1.add 3).add 0)).bind fun v34 =>
 aE (kB v32 v34 w29) fun v36 w37 =>
 if (!v36)=true then
 (some (12,w37))
 else
 (aE ((ldI .i64 w37 (p1.add 2)).bind fun v44 =>
 if (v44==10)=true then
 ((ldI .i64 w37 (p1.add 8)).bind fun v47 =>
 if (decide (v47<0))=true then
 (some (true,w37))
 else
 ((ldI .i64 w37 (p1.add 8)).bind fun v50 =>
 some ((decide (1048576<v50)),w37)))
 else
 (some (false,w37))) fun v40 w41 =>
 if v40=true then
 (some (2,w41))
 else
 (some (0,w41)))))))
theorem nW {a0 w w' r0} (h:iR a0 w=some (r0,w')):Calls Try.prog 77 #[(.agg (List.toArray a0))] w fun e w''=>e=.returned (.int .i64 r0)/\w''=w':=by
 refine aD (n:=48) Try.func77 rfl Try.ntmps77 (by simp) fun a u=>?_;unfold iR at h;refine wp_seq<|aA<|?_;have⟨p1,w2,e3,h⟩:=bs2 h;refine q u (dP u rfl rfl e3) fun a u=>qa u rfl fun a u=>aC<|t_n<|wp_seq<|wp_block<|wp_seq<|aA<|q u (aI u rfl wK rfl rfl wO) fun a u=>?_;have⟨v4,e5,h⟩:=bs1 h;refine q u (aH u rfl wQ (cJ e5)) fun a u=>?_;have⟨v6,w7,e8,h⟩:=bs2 h;refine q u (dc1 u rfl Try.call13 (iM e8)) fun a u=>q u (eY u rfl) fun a u=>qa u rfl fun a u=>aC<|t_n<|?_;refine aG u rfl h (fun b9 h=>?_) (fun b9 h=>?_)
 .refine wp_seq<|aA<|qa u rfl fun a u=>aC<|t_n<|wp_ret<|b_r<|t_r<|?_;have y:=u;cases h;exact aY Try.results77 y rfl ⟨rfl,rfl⟩
 refine wp_seq<|?_;have⟨v10,w11,e12,h⟩:=bs2 h;refine bC (n:=48) (L:=[(9,(bV v10)),(1,(pV (some p1)))]) (w':=w11) (fun a u=>?_) (fun hk13=>?_)
 .refine t_n<|?_;refine aG u rfl h (fun b19 h=>?_) (fun b19 h=>?_)
  .refine wp_seq<|aA<|qa u rfl fun a u=>aC<|t_n<|wp_ret<|b_r<|t_r<|?_;have y:=u;cases h;exact aY Try.results77 y rfl ⟨rfl,rfl⟩
  refine wp_seq<|aA<|q u (aI u rfl wK rfl rfl xG) fun a u=>?_;have⟨v20,e21,h⟩:=bs1 h;refine q u (aH u rfl xO (aN e21)) fun a u=>?_;have⟨v22,w23,e24,h⟩:=bs2 h;refine q u (dc1 u rfl Try.call52 (kT e24)) fun a u=>qa u rfl fun a u=>aC<|t_n<|?_;refine aG u rfl h (fun b25 h=>?_) (fun b25 h=>?_)
  .refine wp_seq<|aA<|qa u rfl fun a u=>aC<|t_n<|wp_ret<|b_r<|t_r<|?_;have y:=u;cases h;exact aY Try.results77 y rfl ⟨rfl,rfl⟩
  refine wp_skip<|b_n<|t_n<|wp_seq<|wp_seq<|aA<|q u (aI u rfl wK rfl rfl xH) fun a u=>?_;have⟨c26,e27,h⟩:=bs1 h;refine q u (bO u rfl xV xH e27) fun a u=>?_;have⟨v28,w29,e30,h⟩:=bs2 h;refine q u (dc1 u rfl Try.call85 (mK e30)) fun a u=>qa u rfl fun a u=>aC<|t_n<|wp_seq<|aA<|qm u rfl fun a u=>q u (kJ u rfl rfl) fun a u=>aC<|t_n<|?_;refine aG u rfl h (fun b31 h=>?_) (fun b31 h=>?_)
  .refine wp_seq<|aA<|qm u rfl fun a u=>qa u rfl fun a u=>aC<|t_n<|wp_ret<|t_r<|?_;have y:=u;cases h;exact aY Try.results77 y rfl ⟨rfl,rfl⟩
  refine wp_skip<|t_n<|wp_seq<|wp_seq<|aA<|q u (aI u rfl wK rfl rfl xG) fun a u=>?_;have⟨v32,e33,h⟩:=bs1 h;refine q u (aH u rfl xO (aN e33)) fun a u=>q u (aI u rfl wK rfl rfl xH) fun a u=>q u (aI u rfl wZ rfl rfl wT) fun a u=>?_;have⟨v34,e35,h⟩:=bs1 h;refine q u (aH u rfl wS (aN e35)) fun a u=>?_;have⟨v36,w37,e38,h⟩:=bs2 h;refine q u (dc2 u rfl rfl Try.call86 (nR e38)) fun a u=>q u (eY u rfl) fun a u=>aC<|t_n<|?_;refine aG u rfl h (fun b39 h=>?_) (fun b39 h=>?_)
  .refine wp_seq<|aA<|qa u rfl fun a u=>aC<|t_n<|wp_ret<|t_r<|?_;have y:=u;cases h;exact aY Try.results77 y rfl ⟨rfl,rfl⟩
  refine wp_skip<|t_n<|wp_seq<|wp_seq<|?_;have⟨v40,w41,e42,h⟩:=bs2 h;refine bC (n:=48) (L:=[(47,(bV v40))]) (w':=w41) (fun a u=>?_) (fun hk43=>?_)
  .refine t_n<|?_;refine aG u rfl h (fun b52 h=>?_) (fun b52 h=>?_)
   .refine wp_seq<|aA<|qa u rfl fun a u=>aC<|t_n<|wp_ret<|t_r<|?_;have y:=u;cases h;exact aY Try.results77 y rfl ⟨rfl,rfl⟩
   refine wp_skip<|t_n<|wp_seq<|aA<|qa u rfl fun a u=>aC<|t_n<|wp_ret<|?_;have y:=u;cases h;exact aY Try.results77 y rfl ⟨rfl,rfl⟩
  clear h;have h:=e42;refine aA<|q u (aI u rfl wK rfl rfl xG) fun a u=>?_;have⟨v44,e45,h⟩:=bs1 h;refine q u (aH u rfl xO (aN e45)) fun a u=>q u (cF u rfl rfl) fun a u=>qm u rfl fun a u=>?_;refine cQ h (fun b46 h=>?_) (fun b46 h=>?_)
  .refine qg u 38 b46 (aI u rfl wK rfl rfl wY) fun a u=>?_;have⟨v47,e48,h⟩:=bs1 h;refine qg u 38 b46 (aH u rfl wU (aN e48)) fun a u=>qg u 38 b46 (fZ u rfl rfl) fun a u=>qg u 38 b46 (aF u rfl) fun a u=>?_;refine cQ h (fun b49 h=>?_) (fun b49 h=>?_)
   .refine qn u 42 (tn b49) fun a u=>qn u 42 (tn b49) fun a u=>qn u 42 (tn b49) fun a u=>qg u 38 b46 (aM u rfl b49 rfl) fun a u=>q u (aM u rfl b46 rfl) fun a u=>aC<|?_;have y:=u;cases h;exact hk43 _ (y.sb rfl)
   refine qg u 42 (nt b49) (aI u rfl wK rfl rfl wY) fun a u=>?_;have⟨v50,e51,h⟩:=bs1 h;refine qg u 42 (nt b49) (aH u rfl wU (aN e51)) fun a u=>qg u 42 (nt b49) (hG u rfl rfl) fun a u=>qg u 38 b46 (aK u rfl b49 rfl) fun a u=>q u (aM u rfl b46 rfl) fun a u=>aC<|?_;have y:=u;cases h;exact hk43 _ (y.sb rfl)
  refine qn u 38 (nm b46) fun a u=>qn u 38 (nm b46) fun a u=>qn u 38 (nm b46) fun a u=>qn u 38 (nm b46) fun a u=>qu u 42 fun a u=>qu u 42 fun a u=>qu u 42 fun a u=>qn u 38 (nm b46) fun a u=>q u (aK u rfl b46 rfl) fun a u=>aC<|?_;have y:=u;cases h;exact hk43 _ (y.sb rfl)
 clear h;have h:=e12;refine aA<|q u (aI u rfl wK rfl rfl xG) fun a u=>?_;have⟨v14,e15,h⟩:=bs1 h;refine q u (aH u rfl xO (aN e15)) fun a u=>q u (fZ u rfl rfl) fun a u=>qm u rfl fun a u=>?_;refine cQ h (fun b16 h=>?_) (fun b16 h=>?_)
 .refine qn u 13 (tn b16) fun a u=>qn u 13 (tn b16) fun a u=>qn u 13 (tn b16) fun a u=>q u (aM u rfl b16 rfl) fun a u=>qa u rfl fun a u=>aC<|?_;have y:=u;cases h;exact hk13 _ (y.sb rfl)
 refine qg u 13 (nt b16) (aI u rfl wK rfl rfl xG) fun a u=>?_;have⟨v17,e18,h⟩:=bs1 h;refine qg u 13 (nt b16) (aH u rfl xO (aN e18)) fun a u=>qg u 13 (nt b16) (hG u rfl rfl) fun a u=>q u (aK u rfl b16 rfl) fun a u=>qa u rfl fun a u=>aC<|?_;have y:=u;cases h;exact hk13 _ (y.sb rfl)
noncomputable def eB (a0:Sl) (x2:Int) (x3:Int) (w4:World):Option ((Int×Int×World)⊕((Int×World)⊕(Int×World))) :=
 if (decide (x3<(a0.n:Int)))=true then
 ((ix a0 x3 9).bind fun p15 =>
 (ldA 9 w4 p15 0).bind fun c17 =>
 aE (mk w4 57 ([.int .i64 0,.string ByteArray.empty,.int .i64 0,.int .i64 0,.int .i64 0,.string ByteArray.empty,.bool false,.complex .f64 0 0,.int .i64 0])) fun p19 w20 =>
 (stA w20 p19 0 c17).bind fun w22 =>
 gG ((ldI .i64 w22 (p19.add 0)).bind fun v31 =>
 aE (if (v31==1)=true then
 (some ((v31==1),w22))
 else
 (some ((v31==2),w22))) fun v33 w34 =>
 if v33=true then
 (some (.inr (0,w34)))
 else
 (if (v31==3)=true then
 ((ldA 9 w34 p19 0).bind fun c40 =>
 aE (iR c40 w34) fun v42 w43 =>
 if (v42 !=0)=true then
 ((some (.inr (.inr (v42,w43)))).bind fun g30=>some (.inl g30))
 else
 (some (.inr (0,w43))))
 else
 (if (v31==4)=true then
 (some (.inr (1,w34)))
 else
 (aE (if (v31==5)=true then
 (some ((v31==5),w34))
 else
 (some ((v31==6),w34))) fun v48 w49 =>
 if v48=true then
 (some (.inr (2,w49)))
 else
 ((some (.inr (.inr (2,w49)))).bind fun g30=>some (.inl g30)))))) some fun (i:Int×World)=>u2 i fun v24 w25 =>
 if (decide (x2<v24))=true then
 (some (.inr (.inr (4,w25))))
 else
 (if (decide (16<(IntKind.wrap .i64 (x2+(IntKind.wrap .i64 (1-v24))))))=true then
 (some (.inr (.inr (6,w25))))
 else
 (some (.inl ((IntKind.wrap .i64 (x2+(IntKind.wrap .i64 (1-v24)))),(IntKind.wrap .i64 (x3+1)),w25)))))
 else
 (some (.inr (.inl (x2,w4))))
noncomputable def iI (a0:Sl) (w:World):Option (Int×World) :=
 if (decide (48<(a0.n:Int)))=true then
 (some (6,w))
 else
 ((bS (fun s:Int×Int×World=>eB a0 s.1 s.2.1 s.2.2) (0,0,w)).bind fun r5=>Sum.elim (fun (i:Int×World)=>u2 i fun v7 w8 =>
 if (v7 !=1)=true then
 (some (4,w8))
 else
 (some (0,w8))) (fun (i:Int×World)=>u2 i fun v9 w10 =>
 some (v9,w10)) r5)
theorem mW {a0 w w' r0} (h:iI a0 w=some (r0,w')):Calls Try.prog 51 #[(Sl.v a0)] w fun e w''=>e=.returned (.int .i64 r0)/\w''=w':=by
 refine aD (n:=46) Try.func51 rfl Try.ntmps51 (by simp) fun a u=>?_;unfold iI at h;refine wp_seq<|aA<|qa u rfl fun a u=>aC<|t_n<|wp_seq<|wp_seq<|aA<|qm u rfl fun a u=>q u (cE u rfl xP) fun a u=>q u (hG u rfl rfl) fun a u=>aC<|t_n<|?_;refine aG u rfl h (fun b1 h=>?_) (fun b1 h=>?_)
 .refine wp_seq<|aA<|qa u rfl fun a u=>aC<|t_n<|wp_ret<|t_r<|?_;have y:=u;cases h;exact aY Try.results51 y rfl ⟨rfl,rfl⟩
 refine wp_skip<|t_n<|wp_seq<|aA<|qa u rfl fun a u=>aC<|t_n<|wp_seq<|wp_seq<|aA<|qm u rfl fun a u=>q u (cE u rfl xP) fun a u=>qm u rfl fun a u=>aC<|t_n<|wp_block<|?_;have⟨r5,e6,h⟩:=bs1 h;refine dG (n:=46) (L1:=fun i=>[(3,(iV i.1))]) (w1:=fun i=>i.2) (L2:=fun i=>[(2,(iV i.1))]) (w2:=fun i=>i.2) (e1:=.exit 0) (e2:=.ret) (I:=fun (s:Int×Int×World) a w=>Has 46 [(3,(iV s.1)),(13,(iV s.2.1)),(11,(Sl.v a0)),(12,(iV (a0.n:Int)))] a/\w=s.2.2) ⟨u.sub ⟨rfl,rfl,rfl,rfl,aAO⟩,rfl⟩ e6 (fun i hi a u=>?_) (fun i hi a u=>?_) (fun hk11 hk12=>?_)
 .subst hi;obtain⟨v7,w8⟩:=i;dsimp only[Sum.elim_inl,Sum.elim_inr,u1,u2,u3,u4,u5,u6] at h;have u:Has 46 [(3,(iV v7))] a:=u;refine eL<|t_n<|wp_seq<|wp_seq<|aA<|qm u rfl fun a u=>q u (kJ u rfl rfl) fun a u=>aC<|t_n<|?_;refine aG u rfl h (fun b57 h=>?_) (fun b57 h=>?_)
  .refine wp_seq<|aA<|qa u rfl fun a u=>aC<|t_n<|wp_ret<|t_r<|?_;have y:=u;cases h;exact aY Try.results51 y rfl ⟨rfl,rfl⟩
  refine wp_skip<|t_n<|wp_seq<|aA<|qa u rfl fun a u=>aC<|t_n<|wp_ret<|?_;have y:=u;cases h;exact aY Try.results51 y rfl ⟨rfl,rfl⟩
 .subst hi;obtain⟨v9,w10⟩:=i;dsimp only[Sum.elim_inl,Sum.elim_inr,u1,u2,u3,u4,u5,u6] at h;have u:Has 46 [(2,(iV v9))] a:=u;refine b_r<|t_r<|?_;have y:=u;cases h;exact aY Try.results51 y rfl ⟨rfl,rfl⟩
 clear h;rintro⟨x2,x3,w4⟩ a wq o ⟨u,hwq⟩ h hr13;obtain rfl:w4=wq:=hwq.symm;have u:Has 46 [(3,(iV x2)),(13,(iV x3)),(11,(Sl.v a0)),(12,(iV (a0.n:Int)))] a:=u;have h:eB a0 x2 x3 w4=some o:=h;unfold eB at h;refine wp_seq<|aA<|q u (fZ u rfl rfl) fun a u=>aC<|t_n<|wp_seq<|?_;refine aG u rfl h (fun b14 h=>?_) (fun b14 h=>?_)
 .refine wp_skip<|t_n<|wp_seq<|wp_block<|wp_seq<|aA<|?_;have⟨p15,e16,h⟩:=bs1 h;refine q u (dM u rfl rfl xP xR e16) fun a u=>?_;have⟨c17,e18,h⟩:=bs1 h;refine q u (bO u rfl yD xR e18) fun a u=>?_;have⟨p19,w20,e21,h⟩:=bs2 h;refine q u (cV yA (by kernel_rfl) e21) fun a u=>?_;have⟨w22,e23,h⟩:=bs1 h;refine q u (dY u rfl rfl xR ((iG e18).1) e23) fun a u=>aC<|t_n<|wp_seq<|aA<|qa u rfl fun a u=>aC<|t_n<|?_;obtain⟨o28,e26,h27⟩:=bsX h;clear h;refine hH (n:=46) (ι:=Int×World) (Lf:=fun i=>[(6,(iV i.1)),(3,(iV x2)),(11,(Sl.v a0)),(12,(iV (a0.n:Int))),(13,(iV x3))]) (wf:=fun i=>i.2) (C:=fun i=>o28=.inr i) (fun i hi a u=>?_) (fun hk29=>?_)
  .subst hi;obtain⟨v24,w25⟩:=i;have h:=h27;dsimp only[gG,u1,u2,u3,u4,u5,u6] at h;have u:Has 46 [(6,(iV v24)),(3,(iV x2)),(11,(Sl.v a0)),(12,(iV (a0.n:Int))),(13,(iV x3))] a:=u;refine wp_seq<|wp_seq<|aA<|qm u rfl fun a u=>qm u rfl fun a u=>q u (fZ u rfl rfl) fun a u=>aC<|t_n<|?_;refine aG u rfl h (fun b55 h=>?_) (fun b55 h=>?_)
   .refine wp_seq<|aA<|qa u rfl fun a u=>aC<|t_n<|wp_ret<|t_r<|b_r<|t_r<|?_;have y:=u;cases h;cases hr13 _ rfl;refine gD<|?_;exact hk12 _ rfl _ (y.sb rfl)
   refine wp_skip<|t_n<|wp_seq<|aA<|qm u rfl fun a u=>qm u rfl fun a u=>q u (jO u rfl rfl) fun a u=>q u (dT u rfl rfl) fun a u=>qa u rfl fun a u=>aC<|t_n<|wp_seq<|aA<|qm u rfl fun a u=>q u (hG u rfl rfl) fun a u=>aC<|t_n<|?_;refine aG u rfl h (fun b56 h=>?_) (fun b56 h=>?_)
   .refine wp_seq<|aA<|qa u rfl fun a u=>aC<|t_n<|wp_ret<|b_r<|t_r<|?_;have y:=u;cases h;cases hr13 _ rfl;refine gD<|?_;exact hk12 _ rfl _ (y.sb rfl)
   refine wp_skip<|b_n<|t_n<|aA<|q u (dT u rfl rfl) fun a u=>qm u rfl fun a u=>aC<|?_;have y:=u;cases h;exact cY ⟨y.sb rfl,rfl⟩
  have h:=e26;refine wp_seq<|aA<|q u (aI u rfl wK rfl rfl Try.sizeOf51) fun a u=>?_;have⟨v31,e32,h⟩:=bs1 h;refine q u (aH u rfl Try.isAgg51 (aN e32)) fun a u=>aC<|t_n<|wp_block<|?_;have⟨v33,w34,e35,h⟩:=bs2 h;refine iD (n:=46) (L:=[(19,(bV v33)),(3,(iV x2)),(5,(pV (some p19))),(6,(iV 0)),(11,(Sl.v a0)),(12,(iV (a0.n:Int))),(13,(iV x3)),(18,(iV v31))]) (w':=w34) (fun a u=>?_) (fun hk36=>?_)
  .refine aG u rfl h (fun b38 h=>?_) (fun b38 h=>?_)
   .refine wp_skip<|b_n<|?_;have y:=u;cases h;exact hk29 _ rfl _ (y.sb rfl)
   refine wp_seq<|aA<|q u (cF u rfl rfl) fun a u=>qa u rfl fun a u=>aC<|t_n<|?_;refine aG u rfl h (fun b39 h=>?_) (fun b39 h=>?_)
   .refine wp_seq<|aA<|?_;have⟨c40,e41,h⟩:=bs1 h;refine q u (bO u rfl yD xR e41) fun a u=>?_;have⟨v42,w43,e44,h⟩:=bs2 h;refine q u (dc1 u rfl Try.call77 (nW e44)) fun a u=>qa u rfl fun a u=>aC<|t_n<|wp_seq<|aA<|qm u rfl fun a u=>q u (kJ u rfl rfl) fun a u=>aC<|t_n<|?_;refine aG u rfl h (fun b45 h=>?_) (fun b45 h=>?_)
    .refine wp_seq<|aA<|qm u rfl fun a u=>qa u rfl fun a u=>aC<|t_n<|wp_ret<|b_r<|?_;have y:=u;have⟨g30,e46,h⟩:=bs1 h;cases h;cases h27;have h:=e46;have u:=y;refine t_r<|b_r<|t_r<|?_;have y:=u;cases h;cases hr13 _ rfl;refine gD<|?_;exact hk12 _ rfl _ (y.sb rfl)
    refine wp_skip<|b_n<|?_;have y:=u;cases h;exact hk29 _ rfl _ (y.sb rfl)
   refine wp_seq<|aA<|q u (cF u rfl rfl) fun a u=>qa u rfl fun a u=>aC<|t_n<|?_;refine aG u rfl h (fun b47 h=>?_) (fun b47 h=>?_)
   .refine aA<|qa u rfl fun a u=>aC<|b_n<|?_;have y:=u;cases h;exact hk29 _ rfl _ (y.sb rfl)
   have⟨v48,w49,e50,h⟩:=bs2 h;refine iD (n:=46) (L:=[(31,(bV v48)),(3,(iV x2)),(11,(Sl.v a0)),(12,(iV (a0.n:Int))),(13,(iV x3))]) (w':=w49) (fun a u=>?_) (fun hk51=>?_)
   .refine aG u rfl h (fun b53 h=>?_) (fun b53 h=>?_)
    .refine aA<|qa u rfl fun a u=>aC<|b_n<|?_;have y:=u;cases h;exact hk29 _ rfl _ (y.sb rfl)
    refine wp_seq<|aA<|qa u rfl fun a u=>aC<|t_n<|wp_ret<|b_r<|?_;have y:=u;have⟨g30,e54,h⟩:=bs1 h;cases h;cases h27;have h:=e54;have u:=y;refine t_r<|b_r<|t_r<|?_;have y:=u;cases h;cases hr13 _ rfl;refine gD<|?_;exact hk12 _ rfl _ (y.sb rfl)
   clear h;have h:=e50;refine wp_seq<|aA<|q u (cF u rfl rfl) fun a u=>qa u rfl fun a u=>aC<|t_n<|?_;refine aG u rfl h (fun b52 h=>?_) (fun b52 h=>?_)
   .refine wp_skip<|?_;have y:=u;cases h;exact hk51 _ (y.sb rfl)
   refine aA<|q u (cF u rfl rfl) fun a u=>qa u rfl fun a u=>aC<|?_;have y:=u;cases h;exact hk51 _ (y.sb rfl)
  clear h;have h:=e35;refine wp_seq<|aA<|q u (cF u rfl rfl) fun a u=>qa u rfl fun a u=>aC<|t_n<|?_;refine aG u rfl h (fun b37 h=>?_) (fun b37 h=>?_)
  .refine wp_skip<|?_;have y:=u;cases h;exact hk36 _ (y.sb rfl)
  refine aA<|q u (cF u rfl rfl) fun a u=>qa u rfl fun a u=>aC<|?_;have y:=u;cases h;exact hk36 _ (y.sb rfl)
 refine wp_exit<|t_x<|?_;have y:=u;cases h;cases hr13 _ rfl;refine iA<|?_;exact hk11 _ rfl _ (y.sb rfl)
noncomputable def eU (a0:Sl) (m9:Option Nat) (x12:Int) (w13:World):Option ((Int×World)⊕(World)) :=
 if (decide (x12<(a0.n:Int)))=true then
 ((ix a0 x12 2).bind fun p20 =>
 (ldA 2 w13 p20 0).bind fun c22 =>
 aE (mk w13 33 ([.string ByteArray.empty,.int .i64 0])) fun p24 w25 =>
 (stA w25 p24 0 c22).bind fun w27 =>
 (ldS w27 (p24.add 0)).bind fun v29 =>
 (ldI .i64 w27 (p24.add 1)).bind fun v31 =>
 (upM Try.prog 79 m9 (.string v29) (.int .i64 v31) w27).bind fun w33 =>
 some (.inl ((IntKind.wrap .i64 (x12+1)),w33)))
 else
 (some (.inr w13))
noncomputable def eS (a1:Sl) (m9:Option Nat) (x35:Int) (w36:World):Option ((Int×World)⊕((World)⊕(Int×World))) :=
 if (decide (x35<(a1.n:Int)))=true then
 (gG ((ix a1 x35 9).bind fun p52 =>
 (ldA 9 w36 p52 0).bind fun c54 =>
 aE (mk w36 57 ([.int .i64 0,.string ByteArray.empty,.int .i64 0,.int .i64 0,.int .i64 0,.string ByteArray.empty,.bool false,.complex .f64 0 0,.int .i64 0])) fun p56 w57 =>
 (stA w57 p56 0 c54).bind fun w59 =>
 (ldI .i64 w59 (p56.add 0)).bind fun v61 =>
 if (v61 !=3)=true then
 (some (.inr w59))
 else
 ((ldS w59 (p56.add 1)).bind fun v64 =>
 aE (luI .i64 Try.prog 79 m9 (.string v64) w59) fun v66 w67 =>
 if (v66==0)=true then
 ((some (.inr (.inr (8,w67)))).bind fun g51=>some (.inl g51))
 else
 (aE (aE ((ldI .i64 w67 (p56.add 2)).bind fun v79 =>
 if (v79==2)=true then
 (some ((v66 !=3),w67))
 else
 (some (false,w67))) fun v75 w76 =>
 if v75=true then
 (some (v75,w76))
 else
 (aE ((ldI .i64 w76 (p56.add 2)).bind fun v87 =>
 aE (hM v87 w76) fun v89 w90 =>
 if (!v89)=true then
 ((ldI .i64 w90 ((p56.add 3).add 0)).bind fun v93 =>
 some ((v66 !=v93),w90))
 else
 (some (false,w90))) fun v83 w84 =>
 some (v83,w84))) fun v71 w72 =>
 if v71=true then
 ((some (.inr (.inr (12,w72)))).bind fun g51=>some (.inl g51))
 else
 (some (.inr w72))))) some fun (i:World)=>u1 i fun w46 =>
 some (.inl ((IntKind.wrap .i64 (x35+1)),w46)))
 else
 (some (.inr (.inl w36)))
noncomputable def iU (a0:Sl) (a1:Sl) (w:World):Option (Int×World) :=
 aE (dV a0 w) fun v1 w2 =>
 if (v1 !=0)=true then
 (some (v1,w2))
 else
 (aE (iI a1 w2) fun v5 w6 =>
 if (v5 !=0)=true then
 (some (v5,w6))
 else
 (aE (mkM Try.prog 79 w6) fun m9 w10 =>
 (bS (fun s:Int×World=>eU a0 m9 s.1 s.2) (0,w10)).bind fun w16 =>
 (bS (fun s:Int×World=>eS a1 m9 s.1 s.2) (0,w16)).bind fun r37=>Sum.elim (fun (i:World)=>u1 i fun w39 =>
 some (0,w39)) (fun (i:Int×World)=>u2 i fun v40 w41 =>
 some (v40,w41)) r37))
theorem nS {a0 a1 w w' r0} (h:iU a0 a1 w=some (r0,w')):Calls Try.prog 31 #[(Sl.v a0),(Sl.v a1)] w fun e w''=>e=.returned (.int .i64 r0)/\w''=w':=by
 refine aD (n:=72) Try.func31 rfl Try.ntmps31 (by simp) fun a u=>?_;unfold iU at h;refine wp_seq<|aA<|qa u rfl fun a u=>aC<|t_n<|wp_seq<|wp_seq<|aA<|qm u rfl fun a u=>?_;have⟨v1,w2,e3,h⟩:=bs2 h;refine q u (dc1 u rfl Try.call50 (jQ e3)) fun a u=>qa u rfl fun a u=>aC<|t_n<|wp_seq<|aA<|qm u rfl fun a u=>q u (kJ u rfl rfl) fun a u=>aC<|t_n<|?_;refine aG u rfl h (fun b4 h=>?_) (fun b4 h=>?_)
 .refine wp_seq<|aA<|qm u rfl fun a u=>qa u rfl fun a u=>aC<|t_n<|wp_ret<|t_r<|?_;have y:=u;cases h;exact aY Try.results31 y rfl ⟨rfl,rfl⟩
 refine wp_skip<|t_n<|wp_seq<|wp_seq<|aA<|qm u rfl fun a u=>?_;have⟨v5,w6,e7,h⟩:=bs2 h;refine q u (dc1 u rfl Try.call51 (mW e7)) fun a u=>qa u rfl fun a u=>aC<|t_n<|wp_seq<|aA<|qm u rfl fun a u=>q u (kJ u rfl rfl) fun a u=>aC<|t_n<|?_;refine aG u rfl h (fun b8 h=>?_) (fun b8 h=>?_)
 .refine wp_seq<|aA<|qm u rfl fun a u=>qa u rfl fun a u=>aC<|t_n<|wp_ret<|t_r<|?_;have y:=u;cases h;exact aY Try.results31 y rfl ⟨rfl,rfl⟩
 refine wp_skip<|t_n<|wp_seq<|aA<|?_;have⟨m9,w10,e11,h⟩:=bs2 h;refine q u (vV e11) fun a u=>qa u rfl fun a u=>aC<|t_n<|wp_seq<|wp_seq<|aA<|qm u rfl fun a u=>q u (cE u rfl xK) fun a u=>qm u rfl fun a u=>aC<|t_n<|wp_block<|?_;have⟨w16,e15,h⟩:=bs1 h;refine nQ (n:=72) (L:=[(1,(Sl.v a1)),(7,(.map m9))]) (w':=w16) (e:=.exit 0) (I:=fun (s:Int×World) a w=>Has 72 [(26,(iV s.1)),(1,(Sl.v a1)),(7,(.map m9)),(24,(Sl.v a0)),(25,(iV (a0.n:Int)))] a/\w=s.2) ⟨u.sub ⟨rfl,rfl,rfl,rfl,rfl,aAO⟩,rfl⟩ e15 (fun a u=>?_) (fun hk17=>?_)
 .refine eL<|t_n<|wp_seq<|wp_seq<|aA<|qm u rfl fun a u=>q u (cE u rfl xP) fun a u=>qm u rfl fun a u=>aC<|t_n<|wp_block<|?_;have⟨r37,e38,h⟩:=bs1 h;refine dG (n:=72) (L1:=fun i=>[]) (w1:=fun i=>i) (L2:=fun i=>[(4,(iV i.1))]) (w2:=fun i=>i.2) (e1:=.exit 2) (e2:=.ret) (I:=fun (s:Int×World) a w=>Has 72 [(38,(iV s.1)),(7,(.map m9)),(36,(Sl.v a1)),(37,(iV (a1.n:Int)))] a/\w=s.2) ⟨u.sub ⟨rfl,rfl,rfl,rfl,aAO⟩,rfl⟩ e38 (fun i hi a u=>?_) (fun i hi a u=>?_) (fun hk42 hk43=>?_)
  .subst hi;obtain⟨w39,rfl⟩:∃ x,x=i:=⟨i,rfl⟩;dsimp only[Sum.elim_inl,Sum.elim_inr,u1,u2,u3,u4,u5,u6] at h;have u:Has 72 [] a:=u;refine eL<|t_n<|wp_seq<|aA<|qa u rfl fun a u=>aC<|t_n<|wp_ret<|?_;have y:=u;cases h;exact aY Try.results31 y rfl ⟨rfl,rfl⟩
  .subst hi;obtain⟨v40,w41⟩:=i;dsimp only[Sum.elim_inl,Sum.elim_inr,u1,u2,u3,u4,u5,u6] at h;have u:Has 72 [(4,(iV v40))] a:=u;refine b_r<|t_r<|?_;have y:=u;cases h;exact aY Try.results31 y rfl ⟨rfl,rfl⟩
  clear h;rintro⟨x35,w36⟩ a wq o ⟨u,hwq⟩ h hr44;obtain rfl:w36=wq:=hwq.symm;have u:Has 72 [(38,(iV x35)),(7,(.map m9)),(36,(Sl.v a1)),(37,(iV (a1.n:Int)))] a:=u;have h:eS a1 m9 x35 w36=some o:=h;unfold eS at h;refine wp_seq<|aA<|q u (fZ u rfl rfl) fun a u=>aC<|t_n<|wp_seq<|?_;refine aG u rfl h (fun b45 h=>?_) (fun b45 h=>?_)
  .refine wp_skip<|t_n<|?_;obtain⟨o49,e47,h48⟩:=bsX h;clear h;refine hH (n:=72) (ι:=World) (Lf:=fun i=>[(7,(.map m9)),(36,(Sl.v a1)),(37,(iV (a1.n:Int))),(38,(iV x35))]) (wf:=fun i=>i) (C:=fun i=>o49=.inr i) (fun i hi a u=>?_) (fun hk50=>?_)
   .subst hi;obtain⟨w46,rfl⟩:∃ x,x=i:=⟨i,rfl⟩;have h:=h48;dsimp only[gG,u1,u2,u3,u4,u5,u6] at h;have u:Has 72 [(7,(.map m9)),(36,(Sl.v a1)),(37,(iV (a1.n:Int))),(38,(iV x35))] a:=u;refine aA<|q u (dT u rfl rfl) fun a u=>qm u rfl fun a u=>aC<|?_;have y:=u;cases h;exact cY ⟨y.sb rfl,rfl⟩
   have h:=e47;refine wp_block<|wp_seq<|aA<|?_;have⟨p52,e53,h⟩:=bs1 h;refine q u (dM u rfl rfl xP xR e53) fun a u=>?_;have⟨c54,e55,h⟩:=bs1 h;refine q u (bO u rfl yD xR e55) fun a u=>?_;have⟨p56,w57,e58,h⟩:=bs2 h;refine q u (cV yA (by kernel_rfl) e58) fun a u=>?_;have⟨w59,e60,h⟩:=bs1 h;refine q u (dY u rfl rfl xR ((iG e55).1) e60) fun a u=>aC<|t_n<|wp_seq<|wp_seq<|aA<|q u (aI u rfl wK rfl rfl Try.sizeOf51) fun a u=>?_;have⟨v61,e62,h⟩:=bs1 h;refine q u (aH u rfl Try.isAgg51 (aN e62)) fun a u=>q u (kJ u rfl rfl) fun a u=>aC<|t_n<|?_;refine aG u rfl h (fun b63 h=>?_) (fun b63 h=>?_)
   .refine wp_exit<|t_x<|eL<|?_;have y:=u;cases h;exact hk50 _ rfl _ (y.sb rfl)
   refine wp_skip<|t_n<|wp_seq<|aA<|qm u rfl fun a u=>q u (aI u rfl wK rfl rfl wO) fun a u=>?_;have⟨v64,e65,h⟩:=bs1 h;refine q u (aH u rfl wQ (cJ e65)) fun a u=>?_;have⟨v66,w67,e68,h⟩:=bs2 h;refine q u (vH u rfl rfl e68) fun a u=>qa u rfl fun a u=>aC<|t_n<|wp_block<|wp_seq<|aA<|qm u rfl fun a u=>q u (cF u rfl rfl) fun a u=>qa u rfl fun a u=>aC<|t_n<|?_;refine aG u rfl h (fun b69 h=>?_) (fun b69 h=>?_)
   .refine wp_seq<|aA<|qa u rfl fun a u=>aC<|t_n<|wp_ret<|b_r<|b_r<|?_;have y:=u;have⟨g51,e70,h⟩:=bs1 h;cases h;cases h48;have h:=e70;have u:=y;refine t_r<|?_;have y:=u;cases h;cases hr44 _ rfl;refine gD<|?_;exact hk43 _ rfl _ (y.sb rfl)
   have⟨v71,w72,e73,h⟩:=bs2 h;refine iD (n:=72) (L:=[(52,(bV v71)),(7,(.map m9)),(36,(Sl.v a1)),(37,(iV (a1.n:Int))),(38,(iV x35))]) (w':=w72) (fun a u=>?_) (fun hk74=>?_)
   .refine aG u rfl h (fun b95 h=>?_) (fun b95 h=>?_)
    .refine wp_seq<|aA<|qa u rfl fun a u=>aC<|t_n<|wp_ret<|b_r<|b_r<|?_;have y:=u;have⟨g51,e96,h⟩:=bs1 h;cases h;cases h48;have h:=e96;have u:=y;refine t_r<|?_;have y:=u;cases h;cases hr44 _ rfl;refine gD<|?_;exact hk43 _ rfl _ (y.sb rfl)
    refine wp_skip<|b_n<|b_n<|?_;have y:=u;cases h;exact hk50 _ rfl _ (y.sb rfl)
   clear h;have h:=e73;refine wp_seq<|?_;have⟨v75,w76,e77,h⟩:=bs2 h;refine bC (n:=72) (L:=[(52,(bV v75)),(7,(.map m9)),(11,(pV (some p56))),(12,(iV v66)),(36,(Sl.v a1)),(37,(iV (a1.n:Int))),(38,(iV x35))]) (w':=w76) (fun a u=>?_) (fun hk78=>?_)
   .refine t_n<|?_;refine aG u rfl h (fun b82 h=>?_) (fun b82 h=>?_)
    .refine wp_skip<|?_;have y:=u;cases h;exact hk74 _ (y.sb rfl)
    have⟨v83,w84,e85,h⟩:=bs2 h;refine bC (n:=72) (L:=[(52,(bV v83)),(7,(.map m9)),(36,(Sl.v a1)),(37,(iV (a1.n:Int))),(38,(iV x35))]) (w':=w84) (fun a u=>?_) (fun hk86=>?_)
    .have y:=u;cases h;exact hk74 _ (y.sb rfl)
    clear h;have h:=e85;refine aA<|q u (aI u rfl wK rfl rfl xG) fun a u=>?_;have⟨v87,e88,h⟩:=bs1 h;refine q u (aH u rfl xO (aN e88)) fun a u=>?_;have⟨v89,w90,e91,h⟩:=bs2 h;refine q u (dc1 u rfl Try.call52 (kT e91)) fun a u=>q u (eY u rfl) fun a u=>qm u rfl fun a u=>?_;refine cQ h (fun b92 h=>?_) (fun b92 h=>?_)
    .refine qg u 64 b92 (aF u rfl) fun a u=>qg u 64 b92 (aI u rfl wK rfl rfl xH) fun a u=>qg u 64 b92 (aI u rfl wZ rfl rfl wT) fun a u=>?_;have⟨v93,e94,h⟩:=bs1 h;refine qg u 64 b92 (aH u rfl wS (aN e94)) fun a u=>qg u 64 b92 (kJ u rfl rfl) fun a u=>q u (aM u rfl b92 rfl) fun a u=>qa u rfl fun a u=>aC<|?_;have y:=u;cases h;exact hk86 _ (y.sb rfl)
    refine qn u 64 (nm b92) fun a u=>qn u 64 (nm b92) fun a u=>qn u 64 (nm b92) fun a u=>qn u 64 (nm b92) fun a u=>qn u 64 (nm b92) fun a u=>q u (aK u rfl b92 rfl) fun a u=>qa u rfl fun a u=>aC<|?_;have y:=u;cases h;exact hk86 _ (y.sb rfl)
   clear h;have h:=e77;refine aA<|q u (aI u rfl wK rfl rfl xG) fun a u=>?_;have⟨v79,e80,h⟩:=bs1 h;refine q u (aH u rfl xO (aN e80)) fun a u=>q u (cF u rfl rfl) fun a u=>qm u rfl fun a u=>?_;refine cQ h (fun b81 h=>?_) (fun b81 h=>?_)
   .refine qg u 56 b81 (aF u rfl) fun a u=>qg u 56 b81 (kJ u rfl rfl) fun a u=>q u (aM u rfl b81 rfl) fun a u=>qa u rfl fun a u=>aC<|?_;have y:=u;cases h;exact hk78 _ (y.sb rfl)
   refine qn u 56 (nm b81) fun a u=>qn u 56 (nm b81) fun a u=>q u (aK u rfl b81 rfl) fun a u=>qa u rfl fun a u=>aC<|?_;have y:=u;cases h;exact hk78 _ (y.sb rfl)
  refine wp_exit<|t_x<|?_;have y:=u;cases h;cases hr44 _ rfl;refine iA<|?_;exact hk42 _ rfl _ (y.sb rfl)
 clear h;rintro⟨x12,w13⟩ a wq o ⟨u,hwq⟩ h hr18;obtain rfl:w13=wq:=hwq.symm;have u:Has 72 [(26,(iV x12)),(1,(Sl.v a1)),(7,(.map m9)),(24,(Sl.v a0)),(25,(iV (a0.n:Int)))] a:=u;have h:eU a0 m9 x12 w13=some o:=h;unfold eU at h;refine wp_seq<|aA<|q u (fZ u rfl rfl) fun a u=>aC<|t_n<|wp_seq<|?_;refine aG u rfl h (fun b19 h=>?_) (fun b19 h=>?_)
 .refine wp_skip<|t_n<|wp_seq<|wp_block<|wp_seq<|aA<|?_;have⟨p20,e21,h⟩:=bs1 h;refine q u (dM u rfl rfl xK xW e21) fun a u=>?_;have⟨c22,e23,h⟩:=bs1 h;refine q u (bO u rfl Try.isAgg33 xW e23) fun a u=>?_;have⟨p24,w25,e26,h⟩:=bs2 h;refine q u (cV yC (by kernel_rfl) e26) fun a u=>?_;have⟨w27,e28,h⟩:=bs1 h;refine q u (dY u rfl rfl xW ((iG e23).1) e28) fun a u=>aC<|t_n<|aA<|qm u rfl fun a u=>q u (aI u rfl xL rfl rfl wO) fun a u=>?_;have⟨v29,e30,h⟩:=bs1 h;refine q u (aH u rfl wQ (cJ e30)) fun a u=>q u (aI u rfl xL rfl rfl wT) fun a u=>?_;have⟨v31,e32,h⟩:=bs1 h;refine q u (aH u rfl wS (aN e32)) fun a u=>?_;have⟨w33,e34,h⟩:=bs1 h;refine q u (vF u rfl rfl rfl e34) fun a u=>aC<|b_n<|t_n<|aA<|q u (dT u rfl rfl) fun a u=>qm u rfl fun a u=>aC<|?_;have y:=u;cases h;exact cY ⟨y.sb rfl,rfl⟩
 refine wp_exit<|t_x<|?_;have y:=u;cases h;cases hr18 _ rfl;refine iA<|?_;exact hk17 _ (y.sb rfl)
noncomputable def eW (a0:List Value) (a1:Addr) (w:World):Option (Bool×World) :=
 aE (mk w 33 a0) fun p1 w2 =>
 (ldS w2 (p1.add 0)).bind fun v4 =>
 (ldS w2 a1).bind fun v6 =>
 some ((sEq v4 v6),w2)
theorem kF {a0 a1 w w' r0} (h:eW a0 a1 w=some (r0,w')):Calls Try.prog 34 #[(.agg (List.toArray a0)),(.pointer (some a1))] w fun e w''=>e=.returned (.bool r0)/\w''=w':=by
 refine aD (n:=8) Try.func34 rfl Try.ntmps34 (by simp) fun a u=>?_;unfold eW at h;refine wp_seq<|aA<|?_;have⟨p1,w2,e3,h⟩:=bs2 h;refine q u (dP u rfl rfl e3) fun a u=>qa u rfl fun a u=>aC<|t_n<|wp_seq<|aA<|q u (aI u rfl xL rfl rfl wO) fun a u=>?_;have⟨v4,e5,h⟩:=bs1 h;refine q u (aH u rfl wQ (cJ e5)) fun a u=>?_;have⟨v6,e7,h⟩:=bs1 h;refine q u (aH u rfl wQ (cJ e7)) fun a u=>q u (tL u rfl rfl) fun a u=>qa u rfl fun a u=>aC<|t_n<|wp_ret<|?_;have y:=u;cases h;exact aY Try.results34 y rfl ⟨rfl,rfl⟩
noncomputable def aT (a0:Sl) (a1_0:Addr) (x1:Int) (w2:World):Option ((Int×World)⊕((World)⊕(Int×World))) :=
 if (decide (x1<(a0.n:Int)))=true then
 ((ix a0 x1 2).bind fun p12 =>
 (ldA 2 w2 p12 0).bind fun c14 =>
 aE (eW c14 a1_0 w2) fun v16 w17 =>
 if v16=true then
 (some (.inr (.inr (x1,w17))))
 else
 (some (.inl ((IntKind.wrap .i64 (x1+1)),w17))))
 else
 (some (.inr (.inl w2)))
noncomputable def aX (a0:Sl) (a1_0:Addr) (w:World):Option (Int×World) :=
 (bS (fun s:Int×World=>aT a0 a1_0 s.1 s.2) (0,w)).bind fun r3=>Sum.elim (fun (i:World)=>u1 i fun w5 =>
 some ((-1),w5)) (fun (i:Int×World)=>u2 i fun v6 w7 =>
 some (v6,w7)) r3
theorem eT {a0 a1_0 w w' r0} (h:aX a0 a1_0 w=some (r0,w')):Calls Try.prog 33 #[(Sl.v a0),(.func (.func 34) #[] #[(.pointer (some a1_0))])] w fun e w''=>e=.returned (.int .i64 r0)/\w''=w':=by
 refine aD (n:=19) Try.func33 rfl Try.ntmps33 (by simp) fun a u=>?_;unfold aX at h;refine wp_seq<|aA<|qa u rfl fun a u=>aC<|t_n<|wp_seq<|wp_seq<|aA<|qm u rfl fun a u=>q u (cE u rfl xK) fun a u=>qm u rfl fun a u=>aC<|t_n<|wp_block<|?_;have⟨r3,e4,h⟩:=bs1 h;refine dG (n:=19) (L1:=fun i=>[]) (w1:=fun i=>i) (L2:=fun i=>[(4,(iV i.1))]) (w2:=fun i=>i.2) (e1:=.exit 0) (e2:=.ret) (I:=fun (s:Int×World) a w=>Has 19 [(8,(iV s.1)),(0,(Sl.v a0)),(1,(.func (.func 34) #[] #[(pV (some a1_0))])),(7,(iV (a0.n:Int)))] a/\w=s.2) ⟨u.sub ⟨rfl,rfl,rfl,rfl,aAO⟩,rfl⟩ e4 (fun i hi a u=>?_) (fun i hi a u=>?_) (fun hk8 hk9=>?_)
 .subst hi;obtain⟨w5,rfl⟩:∃ x,x=i:=⟨i,rfl⟩;dsimp only[Sum.elim_inl,Sum.elim_inr,u1,u2,u3,u4,u5,u6] at h;have u:Has 19 [] a:=u;refine eL<|t_n<|wp_seq<|aA<|qa u rfl fun a u=>aC<|t_n<|wp_ret<|?_;have y:=u;cases h;exact aY Try.results33 y rfl ⟨rfl,rfl⟩
 .subst hi;obtain⟨v6,w7⟩:=i;dsimp only[Sum.elim_inl,Sum.elim_inr,u1,u2,u3,u4,u5,u6] at h;have u:Has 19 [(4,(iV v6))] a:=u;refine b_r<|t_r<|?_;have y:=u;cases h;exact aY Try.results33 y rfl ⟨rfl,rfl⟩
 clear h;rintro⟨x1,w2⟩ a wq o ⟨u,hwq⟩ h hr10;obtain rfl:w2=wq:=hwq.symm;have u:Has 19 [(8,(iV x1)),(0,(Sl.v a0)),(1,(.func (.func 34) #[] #[(pV (some a1_0))])),(7,(iV (a0.n:Int)))] a:=u;have h:aT a0 a1_0 x1 w2=some o:=h;unfold aT at h;refine wp_seq<|aA<|q u (fZ u rfl rfl) fun a u=>aC<|t_n<|wp_seq<|?_;refine aG u rfl h (fun b11 h=>?_) (fun b11 h=>?_)
 .refine wp_skip<|t_n<|wp_seq<|wp_block<|wp_seq<|aA<|qm u rfl fun a u=>qa u rfl fun a u=>aC<|t_n<|wp_seq<|aA<|qm u rfl fun a u=>qm u rfl fun a u=>qm u rfl fun a u=>?_;have⟨p12,e13,h⟩:=bs1 h;refine q u (dM u rfl rfl xK xW e13) fun a u=>?_;have⟨c14,e15,h⟩:=bs1 h;refine q u (bO u rfl Try.isAgg33 xW e15) fun a u=>?_;have⟨v16,w17,e18,h⟩:=bs2 h;refine q u (eG (xs:=[_]) (vs:=[(.agg (List.toArray c14))]) (cv:=[(pV (some a1_0))]) u rfl ⟨rfl,aAO⟩ Try.call34 (kF e18)) fun a u=>aC<|t_n<|?_;refine aG u rfl h (fun b19 h=>?_) (fun b19 h=>?_)
  .refine wp_seq<|aA<|qm u rfl fun a u=>qa u rfl fun a u=>aC<|t_n<|wp_ret<|b_r<|t_r<|?_;have y:=u;cases h;cases hr10 _ rfl;refine gD<|?_;exact hk9 _ rfl _ (y.sb rfl)
  refine wp_skip<|b_n<|t_n<|aA<|q u (dT u rfl rfl) fun a u=>qm u rfl fun a u=>aC<|?_;have y:=u;cases h;exact cY ⟨y.sb rfl,rfl⟩
 refine wp_exit<|t_x<|?_;have y:=u;cases h;cases hr10 _ rfl;refine iA<|?_;exact hk8 _ rfl _ (y.sb rfl)
noncomputable def gE (a0:ByteArray) (a1:Addr) (w:World):Option (Int×World) :=
 aE (mk w 9 ([(.string a0)])) fun p1 w2 =>
 (dr w2).bind fun w4 =>
 (ldL w4 a1).bind fun v6 =>
 (ldL w4 a1).bind fun v8 =>
 aE (aX v8 p1 w4) fun v10 w11 =>
 (ix v6 v10 2).bind fun p13 =>
 (ldI .i64 w11 (p13.add 1)).bind fun v15 =>
 chk (ldL w11 a1=some v6) <|
 some (v15,w11)
theorem lE {a0 a1 w w' r0} (h:gE a0 a1 w=some (r0,w')):Calls Try.prog 32 #[(.string a0),(.pointer (some a1))] w fun e w''=>e=.returned (.int .i64 r0)/\w''=w':=by
 refine aD (n:=11) Try.func32 rfl Try.ntmps32 (by simp) fun a u=>?_;unfold gE at h;refine wp_seq<|aA<|?_;have⟨p1,w2,e3,h⟩:=bs2 h;refine q u (dP u rfl rfl e3) fun a u=>qa u rfl fun a u=>aC<|t_n<|wp_seq<|?_;have⟨w4,e5,h⟩:=bs1 h;have⟨v6,e7,h⟩:=bs1 h;have⟨v8,e9,h⟩:=bs1 h;have⟨v10,w11,e12,h⟩:=bs2 h;have⟨p13,e14,h⟩:=bs1 h;have⟨v15,e16,h⟩:=bs1 h;obtain⟨e17,h⟩:=cZ h;have u:Has 11 [(1,(pV (some a1))),(2,(pV (some p1)))] a:=u.sb rfl;refine cC (n:=11) (ds:=(aL (Sl.v v6) false 0 1 [] [(1,(pV (some a1)))]::bA (Sl.v v8) 0 [] 1 (pV (some a1))::bA (.func (.func 34) #[] #[(pV (some p1))]) 0 [] 2 (pV (some p1))::aL (iV v10) true 0 0 [1,2] [(5,(Sl.v v8)),(6,(.func (.func 34) #[] #[(pV (some p1))]))]::eF (pV (some p13)) 1 (rn 0 4) [(4,(Sl.v v6)),(7,(iV v10))]::bA (pV (some (p13.add 1))) 1 (rn 0 5) 8 (pV (some p13))::bA (iV v15) 1 (rn 0 6) 9 (pV (some (p13.add 1)))::eD (iV v15) 1 (rn 0 7) 10::[])) (W:=(fun j=>match j with | 0=>w4 | 1=>w11 | _=>w11)) (by kernel_rfl) u (gV e5) (by kernel_rfl) ?_ (bP (by kernel_rfl)) (by kernel_rfl) (m:=1) (by kernel_rfl) (fun a u=>?_)
 .refine⟨?_,oc 0 (kd (aH · rfl yG (bT e9))),oa (jU (vs:=[(pV (some p1))]) · ⟨rfl,aAO⟩),oc 0 (kd (eV (xs:=[_,_]) (vs:=[(Sl.v v8),(.func (.func 34) #[] #[(pV (some p1))])]) · ⟨rfl,rfl,aAO⟩ Try.call33 (eT e12))),oa (dM · rfl rfl xK xW e14),oa (aI · rfl xL rfl rfl wT),oc 1 (kd (aH · rfl wS (aN e16))),oa (fN · rfl),aAO⟩;intro j h1 h2;have h1:0<=j:=h1;have h2:j<=1:=h2;rcases(by omega:j=0\/j=1) with rfl | rfl
  .exact kd (aH · rfl yG (bT e7))
  exact kd (aH · rfl yG (bT e17))
 have u:Has 11 [(3,(iV v15))] a:=u.sb rfl;refine t_n<|wp_ret<|?_;have y:=u;cases h;exact aY Try.results32 y rfl ⟨rfl,rfl⟩
noncomputable def iS (a0:Bool) (w:World):Option (Int×World) :=
 if a0=true then
 (some (1,w))
 else
 (some (0,w))
theorem iW {a0 w w' r0} (h:iS a0 w=some (r0,w')):Calls Try.prog 80 #[(.bool a0)] w fun e w''=>e=.returned (.int .i64 r0)/\w''=w':=by
 refine aD (n:=4) Try.func80 rfl Try.ntmps80 (by simp) fun a u=>?_;unfold iS at h;refine wp_seq<|aA<|qa u rfl fun a u=>aC<|t_n<|wp_seq<|wp_seq<|aA<|qm u rfl fun a u=>aC<|t_n<|?_;refine aG u rfl h (fun b1 h=>?_) (fun b1 h=>?_)
 .refine wp_seq<|aA<|qa u rfl fun a u=>aC<|t_n<|wp_ret<|t_r<|?_;have y:=u;cases h;exact aY Try.results80 y rfl ⟨rfl,rfl⟩
 refine wp_skip<|t_n<|wp_seq<|aA<|qa u rfl fun a u=>aC<|t_n<|wp_ret<|?_;have y:=u;cases h;exact aY Try.results80 y rfl ⟨rfl,rfl⟩
noncomputable def dB (a0:ByteArray) (a1:Int) (w:World):Option ((List Value)×World) :=
 aE (mk w 40 ([.string ByteArray.empty,.int .i64 0,.bool false,.int .i64 0,.int .i64 0,.string ByteArray.empty,.string ByteArray.empty,.bool false,.int .u8 0,.bool false,.slice none 0 0,.slice none 0 0])) fun p1 w2 =>
 aE (iS (a1==1) w2) fun v4 w5 =>
 aE (iS (a1==1) w5) fun v7 w8 =>
 aE (iS (a1==3) w8) fun v10 w11 =>
 (stA w11 p1 0 ([.string a0,.int .i64 a1,.bool false,.int .i64 (IntKind.wrap .i64 ((-9223372036854775808)*v4)),.int .i64 (IntKind.wrap .i64 (9223372036854775807*v7)),.string ByteArray.empty,.string ByteArray.empty,.bool (a1==2),.int .u8 (IntKind.wrap .u8 (IntKind.wrap .i64 (3*v10))),.bool false,.slice none 0 0,.slice none 0 0])).bind fun w13 =>
 (ldA 12 w13 p1 0).bind fun v15 =>
 some (v15,w13)
theorem dO {a0 a1 w w' r0} (h:dB a0 a1 w=some (r0,w')):Calls Try.prog 78 #[(.string a0),(.int .i64 a1)] w fun e w''=>e=.returned (.agg (List.toArray r0))/\w''=w':=by
 refine aD (n:=23) Try.func78 rfl Try.ntmps78 (by simp) fun a u=>?_;unfold dB at h;refine wp_seq<|aA<|?_;have⟨p1,w2,e3,h⟩:=bs2 h;refine q u (cV wW (by kernel_rfl) e3) fun a u=>aC<|t_n<|wp_seq<|aA<|qm u rfl fun a u=>qm u rfl fun a u=>qm u rfl fun a u=>q u (cF u rfl rfl) fun a u=>?_;have⟨v4,w5,e6,h⟩:=bs2 h;refine q u (dc1 u rfl Try.call80 (iW e6)) fun a u=>q u (mJ u rfl rfl) fun a u=>qm u rfl fun a u=>q u (cF u rfl rfl) fun a u=>?_;have⟨v7,w8,e9,h⟩:=bs2 h;refine q u (dc1 u rfl Try.call80 (iW e9)) fun a u=>q u (mJ u rfl rfl) fun a u=>qm u rfl fun a u=>q u (cF u rfl rfl) fun a u=>qm u rfl fun a u=>q u (cF u rfl rfl) fun a u=>?_;have⟨v10,w11,e12,h⟩:=bs2 h;refine q u (dc1 u rfl Try.call80 (iW e12)) fun a u=>q u (mJ u rfl rfl) fun a u=>q u (uZ u rfl Try.runUnderlying2 Try.runUnderlying5) fun a u=>q u (fU (vs:=[(0,(.string a0)),(1,(iV a1)),(3,(iV (IntKind.wrap .i64 ((-9223372036854775808)*v4)))),(4,(iV (IntKind.wrap .i64 (9223372036854775807*v7)))),(7,(bV (a1==2))),(8,(.int .u8 (IntKind.wrap .u8 (IntKind.wrap .i64 (3*v10)))))]) (pl:=#[(0,1),(1,1),(2,1),(3,1),(4,1),(5,1),(6,1),(7,1),(8,1),(9,1),(10,1),(11,1)]) (cs:=([.string a0,.int .i64 a1,.bool false,.int .i64 (IntKind.wrap .i64 ((-9223372036854775808)*v4)),.int .i64 (IntKind.wrap .i64 (9223372036854775807*v7)),.string ByteArray.empty,.string ByteArray.empty,.bool (a1==2),.int .u8 (IntKind.wrap .u8 (IntKind.wrap .i64 (3*v10))),.bool false,.slice none 0 0,.slice none 0 0])) u ⟨rfl,rfl,rfl,rfl,rfl,rfl,rfl,rfl,rfl,rfl,rfl,rfl,aAO⟩ wW wH (by intro w;kernel_rfl) (by kernel_rfl)) fun a u=>?_;have⟨w13,e14,h⟩:=bs1 h;refine q u (dY u rfl rfl wI rfl e14) fun a u=>aC<|t_n<|wp_ret<|?_;have⟨v15,e16,h⟩:=bs1 h;have y:=u;cases h;exact uL (vs:=[_]) Try.results78 y ⟨⟨_,rfl,uP xB wI e16⟩,aAO⟩ ⟨rfl,rfl⟩
noncomputable def jD (a0:Option Addr) (w:World):Option (World) :=
 some w
theorem lL {a0 w w'} (h:jD a0 w=some w'):Calls Try.prog 53 #[(.pointer a0)] w fun e w''=>e=.returned (.tuple #[])/\w''=w':=by
 refine aD (n:=2) Try.func53 rfl Try.ntmps53 (by simp) fun a u=>?_;unfold jD at h;refine wp_skip<|?_;have y:=u;cases h;exact mM Try.results53 y ⟨rfl,rfl⟩
structure ND (α:Type) where
 t:(α->Prop)->Prop
 m:∀ {Q Q':α->Prop},(∀ a,Q a->Q' a)->t Q->t Q'
section
variable {α β γ δ ε ζ ρ S R ι : Type}
def cB (a:α):ND α:=⟨fun Q=>Q a,fun h k=>h _ k⟩
def lZ:ND α:=⟨fun _=>False,fun _ k=>k⟩
def nck (p:Prop) (x:ND α):ND α:=⟨fun Q=>p/\x.t Q,fun h k=>⟨k.1,x.m h k.2⟩⟩
def lb1 (o:Option α) (f:α->ND ρ):ND ρ:=⟨fun Q=>∃ a,o=some a/\(f a).t Q,fun h ⟨a,e,k⟩=>⟨a,e,(f a).m h k⟩⟩
def lb2 (o:Option (α×β)) (f:α->β->ND ρ):ND ρ:=⟨fun Q=>∃ a b,o=some (a,b)/\(f a b).t Q,fun h ⟨a,b,e,k⟩=>⟨a,b,e,(f a b).m h k⟩⟩
def lb3 (o:Option (α×β×γ)) (f:α->β->γ->ND ρ):ND ρ:=⟨fun Q=>∃ a b c,o=some (a,b,c)/\(f a b c).t Q,fun h ⟨a,b,c,e,k⟩=>⟨a,b,c,e,(f a b c).m h k⟩⟩
def lb4 (o:Option (α×β×γ×δ)) (f:α->β->γ->δ->ND ρ):ND ρ:=⟨fun Q=>∃ a b c d,o=some (a,b,c,d)/\(f a b c d).t Q,fun h ⟨a,b,c,d,e,k⟩=>⟨a,b,c,d,e,(f a b c d).m h k⟩⟩
def lb5 (o:Option (α×β×γ×δ×ε)) (f:α->β->γ->δ->ε->ND ρ):ND ρ:=⟨fun Q=>∃ a b c d x,o=some (a,b,c,d,x)/\(f a b c d x).t Q,fun h ⟨a,b,c,d,x,e,k⟩=>⟨a,b,c,d,x,e,(f a b c d x).m h k⟩⟩
def cb1 (x:ND α) (f:α->ND ρ):ND ρ:=⟨fun Q=>x.t fun i=>(f i).t Q,fun h=>x.m fun i=>(f i).m h⟩
def cb2 (x:ND (α×β)) (f:α->β->ND ρ):ND ρ:=⟨fun Q=>x.t fun i=>(f i.1 i.2).t Q,fun h=>x.m fun i=>(f i.1 i.2).m h⟩
def cb3 (x:ND (α×β×γ)) (f:α->β->γ->ND ρ):ND ρ:=⟨fun Q=>x.t fun i=>(f i.1 i.2.1 i.2.2).t Q,fun h=>x.m fun i=>(f i.1 i.2.1 i.2.2).m h⟩
def cbX (x:ND (ρ⊕α)) (f:α->ND ρ):ND ρ:=⟨fun Q=>x.t (Sum.elim Q fun i=>(f i).t Q),fun h=>x.m fun i=>by cases i with | inl r=>exact h r | inr i=>exact(f i).m h⟩
def lK (step:S->ND (S⊕R)) (s:S):ND R :=
 ⟨fun Q=>∀ X:S->Prop,(∀ s,(step s).t (Sum.elim X Q)->X s)->X s,fun h k X hX=>k X fun s hs=>hX s ((step s).m (fun i=>by cases i with | inl x=>exact id | inr r=>exact h r) hs)⟩
variable {Q : ρ -> Prop}
theorem un1 {x:ND α} {f:α->ND ρ} (h:(cb1 x f).t Q):x.t fun i=>(f i).t Q:=h
theorem un2 {x:ND (α×β)} {f:α->β->ND ρ} (h:(cb2 x f).t Q):x.t fun i=>(f i.1 i.2).t Q:=h
theorem un3 {x:ND (α×β×γ)} {f:α->β->γ->ND ρ} (h:(cb3 x f).t Q):x.t fun i=>(f i.1 i.2.1 i.2.2).t Q:=h
theorem unX {x:ND (ρ⊕α)} {f:α->ND ρ} (h:(cbX x f).t Q):x.t (Sum.elim Q fun i=>(f i).t Q):=h
theorem unL {x:ND ρ} {K:α->Prop} (h:(cb1 x fun g=>cB (.inl g)).t (Sum.elim Q K)):x.t Q:=h
theorem nB {b:Bool} {A B:ND ρ} {G:Prop} (h:(if b=true then A else B).t Q) (ht:b=true->A.t Q->G) (hf:b≠true->B.t Q->G):G:=by
 by_cases e:b=true
 .exact ht e (by rwa[if_pos e] at h)
 exact hf e (by rwa[if_neg e] at h)
end
section
variable {ρ ι : Type} {P : Program} {n : Nat} {L : List (Nat × Value)} {a : Act} {w : World} {Q : Exit -> Act -> World -> Prop}
theorem cA {c:Operand} {x y:Code} {b:Bool} {A B:ND ρ} {C:ρ->Prop} (ha:Has n L a) (hc:evO L c=some (.bool b)) (h:(if b=true then A else B).t C)
  (ht:b=true->A.t C->x.wp P Q a w) (hf:b=false->B.t C->y.wp P Q a w):(Code.cond c x y).wp P Q a w:=by
 refine wp_cond_split (ha.ev hc) (fun e=>ht e ?_) (fun e=>hf e ?_)
 .rwa[if_pos e] at h
 rwa[if_neg (by simp[e])] at h
theorem lB {x y:Code} {X:ND ι} {Lf:ι->List (Nat×Value)} {wf:ι->World} {C:ι->Prop} (h:X.t C) (hk:∀ i,C i->∀ a,Has n (Lf i) a->y.wp P Q a (wf i))
  (hx:X.t C->(∀ i,C i->∀ a,Has n (Lf i) a->Exit.then (y.wp P Q) Q .normal a (wf i))->x.wp P (Exit.then (y.wp P Q) Q) a w):(Code.seq x y).wp P Q a w :=
 wp_seq (hx h hk)
theorem iY {x y:Code} {X:ND (ρ⊕ι)} {Lf:ι->List (Nat×Value)} {wf:ι->World} {C0:ρ->Prop} {C:ι->Prop} (h:X.t (Sum.elim C0 C)) (hk:∀ i,C i->∀ a,Has n (Lf i) a->y.wp P Q a (wf i))
  (hx:X.t (Sum.elim C0 C)->(∀ i,C i->∀ a,Has n (Lf i) a->Exit.then (y.wp P Q) Q .normal a (wf i))->x.wp P (Exit.then (y.wp P Q) Q) a w):(Code.seq x y).wp P Q a w :=
 wp_seq (hx h hk)
theorem fX {c:Code} {X:ND ι} {Lf:ι->List (Nat×Value)} {wf:ι->World} {C:ι->Prop} (h:X.t C) (hk:∀ i,C i->∀ a,Has n (Lf i) a->Q .normal a (wf i))
  (hx:X.t C->(∀ i,C i->∀ a,Has n (Lf i) a->Q .normal a (wf i))->c.wp P Q a w):c.wp P Q a w:=hx h hk
theorem tB {S R:Type} {step:S->ND (S⊕R)} {I:S->Act->World->Prop} {C:R->Prop} {body:Code} {s0:S}
  (h:(lK step s0).t C) (hI:I s0 a w)
  (hb:∀ (X:S->Prop) s a w,I s a w->(step s).t (Sum.elim X C)->body.wp P (Exit.then (fun a w=>∃ s,I s a w/\X s) Q) a w):(Code.loop body).wp P Q a w:=by
 have key:=h (fun s=>∀ a w,I s a w->∀ (b:Frame) (k:List Item) (cs:List Frame),∃ e a' w',Q e a' w'/\Arrives P (lone (b.at a (.code body :: .inLoop body::k)) cs w) b k cs e a' w') ?_
 .intro b k cs;obtain⟨e,a',w',hq,harr⟩:=key a w hI b k cs;exact⟨e,a',w',hq,.of_steps (.one step_loop) harr⟩
 intro s hs a w hIs b k cs;obtain⟨e,a₁,w₁,hq,harr⟩:=hb _ s a w hIs hs b (.inLoop body::k) cs
 cases e with
 | normal =>
  obtain⟨s',hI',hX⟩:=hq;obtain⟨e₂,a₂,w₂,hq₂,harr₂⟩:=hX a₁ w₁ hI' b k cs;exact⟨e₂,a₂,w₂,hq₂,.of_steps (Steps.trans harr (.one step_inLoop)) harr₂⟩
 | exit id=>exact⟨_,a₁,w₁,hq,.pass rfl (fun _ _=>.inl (by simp)) harr⟩
 | goto l=>exact⟨_,a₁,w₁,hq,.pass rfl (fun _ _=>.inl (by simp)) harr⟩
 | ret=>exact⟨_,a₁,w₁,hq,.pass rfl (fun _ _=>.inl (by simp)) harr⟩
 | panic ch=>exact⟨_,a₁,w₁,hq,.pass rfl (fun _ _=>.inl (by simp)) harr⟩
 | outgrown=>exact⟨_,a₁,w₁,hq,.pass rfl (fun _ _=>.inl (by simp)) harr⟩
theorem oQ {S R1 R2:Type} {step:S->ND (S⊕(R1⊕R2))} {I:S->Act->World->Prop} {C:R1⊕R2->Prop} {body:Code} {s0:S} {e1 e2:Exit} {L1:R1->List (Nat×Value)} {w1:R1->World} {L2:R2->List (Nat×Value)} {w2:R2->World}
  (h:(lK step s0).t C) (hI:I s0 a w) (hk1:∀ i,C (.inl i)->∀ a,Has n (L1 i) a->Q e1 a (w1 i)) (hk2:∀ i,C (.inr i)->∀ a,Has n (L2 i) a->Q e2 a (w2 i))
  (hb:(∀ i,C (.inl i)->∀ a,Has n (L1 i) a->Q e1 a (w1 i))->(∀ i,C (.inr i)->∀ a,Has n (L2 i) a->Q e2 a (w2 i))->∀ (X:S->Prop) s a w,I s a w->(step s).t (Sum.elim X C)->body.wp P (Exit.then (fun a w=>∃ s,I s a w/\X s) Q) a w):(Code.loop body).wp P Q a w:=tB h hI (hb hk1 hk2)
theorem dU {ops:Array Oper} {rest:List Oper} {d ty pos af f} {xs:List Operand} {ts:Array TypeId} {vs:List Value} {pk:ι->Value} {wf:ι->World} {C:ι->Prop} (ha:Has n L a) (hx:evs L xs vs) (hf:∀ (args:Array Value) (w:World),(callFunc f args).run P w = .ok (.enter f args) w)
  (h:Calls P f vs.toArray w fun e w''=>∃ i,e = .returned (pk i)/\C i/\w''=wf i) (hr:∀ i,C i->∀ a',Has n (upd d (pk i) L) a'->wpList P ops Q rest a' (wf i)) (hd:ltb n d=true:=by rfl) :
  wpList P ops Q (⟨d,.call { callee:=.value (.func f),args:=xs.toArray,argTypes:=ts },ty,pos,af,none⟩::rest) a w:=by
 unfold wpList;rw[if_pos (by simp[Region.wanted])];left;unfold Oper.wp;have hrun:(execOp a.eval ⟨d,.call { callee:=.value (.func f),args:=xs.toArray,argTypes:=ts },ty,pos,af,none⟩).run P w = .ok (.enter f vs.toArray) w:=by
  simp[execOp,resolve,Deferred.ofValue,invoke,Act.eval,hf];have:=jZ ha hx;exact this
 rw[hrun];refine h.mono fun e w' ⟨i,he,hC,hw⟩=>?_;subst he;subst hw;exact hr i hC _ (ha.put _ (ltd hd) _)
end
section
variable {α β γ δ ε ζ ρ S R : Type} {Φ : ρ -> Prop}
theorem Nd.ret {r:ρ} (h:Φ r):(cB r).t Φ:=h
theorem Nd.b1 {o:Option α} {a:α} {f:α->ND ρ} (e:o=some a) (h:(f a).t Φ):(lb1 o f).t Φ:=⟨a,e,h⟩
theorem Nd.s1 {a:α} {f:α->ND ρ} (h:(f a).t Φ):(lb1 (some a) f).t Φ:=⟨a,rfl,h⟩
theorem Nd.b2 {o:Option (α×β)} {a:α} {b:β} {f:α->β->ND ρ} (e:o=some (a,b)) (h:(f a b).t Φ):(lb2 o f).t Φ:=⟨a,b,e,h⟩
theorem Nd.b3 {o:Option (α×β×γ)} {a:α} {b:β} {c:γ} {f:α->β->γ->ND ρ} (e:o=some (a,b,c)) (h:(f a b c).t Φ):(lb3 o f).t Φ:=⟨a,b,c,e,h⟩
theorem Nd.b4 {o:Option (α×β×γ×δ)} {a:α} {b:β} {c:γ} {d:δ} {f:α->β->γ->δ->ND ρ} (e:o=some (a,b,c,d)) (h:(f a b c d).t Φ):(lb4 o f).t Φ:=⟨a,b,c,d,e,h⟩
theorem Nd.b5 {o:Option (α×β×γ×δ×ε)} {a:α} {b:β} {c:γ} {d:δ} {x:ε} {f:α->β->γ->δ->ε->ND ρ} (e:o=some (a,b,c,d,x)) (h:(f a b c d x).t Φ):(lb5 o f).t Φ:=⟨a,b,c,d,x,e,h⟩
theorem Nd.ck {p:Prop} {x:ND ρ} (hp:p) (h:x.t Φ):(nck p x).t Φ:=⟨hp,h⟩
theorem Nd.t {c:Prop} [Decidable c] {A B:ND ρ} (hc:c) (h:A.t Φ):(if c then A else B).t Φ:=by rw[if_pos hc];exact h
theorem Nd.f {c:Prop} [Decidable c] {A B:ND ρ} (hc:¬ c) (h:B.t Φ):(if c then A else B).t Φ:=by rw[if_neg hc];exact h
theorem Nd.j1 {x:ND α} {f:α->ND ρ} {Ψ:α->Prop} (h:x.t Ψ) (k:∀ a,Ψ a->(f a).t Φ):(cb1 x f).t Φ:=x.m k h
theorem Nd.j2 {x:ND (α×β)} {f:α->β->ND ρ} {Ψ:α×β->Prop} (h:x.t Ψ) (k:∀ a b,Ψ (a,b)->(f a b).t Φ):(cb2 x f).t Φ:=x.m (fun i hi=>k _ _ hi) h
theorem Nd.j3 {x:ND (α×β×γ)} {f:α->β->γ->ND ρ} {Ψ:α×β×γ->Prop} (h:x.t Ψ) (k:∀ a b c,Ψ (a,b,c)->(f a b c).t Φ):(cb3 x f).t Φ:=x.m (fun i hi=>k _ _ _ hi) h
theorem Nd.jX {x:ND (ρ⊕α)} {f:α->ND ρ} {Ψ:α->Prop} (h:x.t (Sum.elim Φ Ψ)) (k:∀ a,Ψ a->(f a).t Φ):(cbX x f).t Φ:=x.m (fun i=>by cases i with | inl r=>exact id | inr i=>exact k i) h
theorem Nd.mono {x:ND ρ} {Ψ:ρ->Prop} (h:x.t Ψ) (k:∀ r,Ψ r->Φ r):x.t Φ:=x.m k h
theorem Nd.next {step:S->ND (S⊕R)} {s:S} {Φ:R->Prop} (h:(step s).t (Sum.elim (fun s'=>(lK step s').t Φ) Φ)):(lK step s).t Φ:=fun X hX =>
 hX s ((step s).m (fun i=>by cases i with | inl x=>exact fun h=>h X hX | inr r=>exact id) h)
end
def vL (X:List Nat) (ds:List OpD):Bool:=ds.zipIdx.all fun (d,i)=>d.cl.all fun k=>X.contains k||d.o.after.toList.any fun e=>Region.binds .any e&&decide (e.on<i)&&(k==e.on||((ds[e.on]?).any fun d'=>d'.cl.contains k))
def kI (X:List Nat) (ds:List OpD):Bool:=vL X ds&&oJ ds&&sE ds&&tM ds&&nK ds
section
variable {P : Program} {n : Nat} {L0 : List (Nat × Value)} {Q : Exit -> Act -> World -> Prop}
theorem jL {ds:List OpD} {W:Nat->World} {X:List Nat} (hok:kI X ds=true) (hO:∀ (i:Nat) (d:OpD),ds[i]?=some d->¬ i∈X->∀ j,d.lo<=j->j<=d.hi->iJ P n (ds.map (·.o)).toArray d.o d.li d.v (W j) (W (j+if d.e=true then 1 else 0))) (hR:gC ds L0) (hd:∀ (i:Nat) (d:OpD) (t:Nat),ds[i]?=some d->d.o.dst=some t->t<n)
  (hQ:∀ a,Has n (dR ds 0 (fun _=>true) L0) a->Q .normal a (W (cnt ds 0 fun _=>true))) :
  ∀ (fuel:Nat) (listed:Array Bool) (a:Act),listed.size=ds.length->(∀ k∈X,listed.getD k false=true) ->
   (∀ (i:Nat) (d:OpD),ds[i]?=some d->listed.getD i false=true->∀ e∈d.o.after.toList,Region.binds .any e=true->listed.getD e.on false=true) ->
   Has n (dR ds 0 (fun k=>listed.getD k false) L0) a->fuel=((List.range ds.length).filter fun i=>!listed.getD i false).length ->
   wpAny P .any (ds.map (·.o)).toArray Q fuel listed a (W (cnt ds 0 fun k=>listed.getD k false)):=by
 simp only[kI,yL] at hok;obtain⟨⟨⟨⟨hcl,hds⟩,hli⟩,hrg⟩,hed⟩:=hok;have zi:∀ (i:Nat) (d:OpD),ds[i]?=some d->(d,i)∈ds.zipIdx:=fun i d h=>yQ.2 h;have hed':∀ (i:Nat) (d:OpD),ds[i]?=some d->∀ e∈d.o.after.toList,Region.binds .any e=true->e.on<i:=fun i d h e he hb=>by
  have:=yI.1 (yI.1 hed _ (zi i d h)) e he;simpa[hb] using this
 have hcl':∀ (i:Nat) (d:OpD),ds[i]?=some d->∀ k∈d.cl,k∈X\/∃ e∈d.o.after.toList,Region.binds .any e=true/\e.on<i/\(k=e.on\/∃ d',ds[e.on]?=some d'/\k∈d'.cl):=fun i d h k hk=>by
  have:=yI.1 (yI.1 hcl _ (zi i d h)) k hk;rcases zA _ _ ▸ this with this | this
  .exact .inl (by simpa using this)
  right;obtain⟨e,he,hx⟩:=zS.1 this;simp only[yL,decide_eq_true_eq,zA,beq_iff_eq,aAv,yX] at hx;exact⟨e,he,hx.1.1,hx.1.2,hx.2⟩
 have hds':∀ (i k:Nat) (d d':OpD) (t:Nat),ds[i]?=some d->ds[k]?=some d'->i<k->d.o.dst=some t->d'.o.dst=some t->i∈d'.cl:=fun i k d d' t h h' hik ht ht'=>by
  have:=yI.1 hds _ (zi i d h);simp only[ht,aAG] at this;have:=yI.1 this _ (zi k d' h');simpa[hik,ht'] using this
 have hli':∀ (i k:Nat) (d d':OpD) (t:Nat) (u:Value),ds[i]?=some d->ds[k]?=some d'->(t,u)∈d.li->d'.o.dst=some t->k=i\/(k<i/\k∈d.cl)\/(i<k/\i∈d'.cl):=fun i k d d' t u h h' ht ht'=>by
  have:=yI.1 (yI.1 (yI.1 hli _ (zi i d h)) _ ht) _ (zi k d' h');simp only[ht',bne_self_eq_false,aAJ,zA,beq_iff_eq,yL,decide_eq_true_eq,yX] at this;rcases this with(h1 | h1) | h1
  .exact .inl h1
  .exact .inr (.inl h1)
  exact .inr (.inr h1)
 have hrg':∀ (i:Nat) (d:OpD),ds[i]?=some d->d.lo<=(cnt ds 0 fun k=>d.cl.contains k)/\(cnt ds 0 fun k=>k !=i&&!((ds[k]?).any fun d'=>d'.cl.contains i))<=d.hi:=fun i d h=>by
  have:=yI.1 hrg _ (zi i d h);simpa using this
 -- what lies ahead of a listed one is listed
 have closed:∀ (listed:Array Bool),(∀ k∈X,listed.getD k false=true)->(∀ (i:Nat) (d:OpD),ds[i]?=some d->listed.getD i false=true->∀ e∈d.o.after.toList,Region.binds .any e=true->listed.getD e.on false=true) ->
   ∀ (i:Nat) (d:OpD),ds[i]?=some d->(∀ e∈d.o.after.toList,Region.binds .any e=true->listed.getD e.on false=true)->∀ k∈d.cl,listed.getD k false=true:=by
  intro listed hX hc i
  induction i using Nat.strongRecOn with
  | _ i ih =>
   intro d hd0 he k hk;rcases hcl' i d hd0 k hk with hkX | ⟨e,he1,he2,he3,he4⟩
   .exact hX k hkX
   rcases he4 with rfl | ⟨d',hd',hk'⟩
   .exact he e he1 he2
   exact ih e.on he3 d' hd' (hc e.on d' hd' (he e he1 he2)) k hk'
 have opsAt:∀ (i:Nat),(ds.map fun d=>d.o).toArray[i]?=(ds[i]?).map (fun d:OpD=>d.o):=fun i=>by simp
 intro fuel
 induction fuel with
 | zero =>
  intro listed a hsz hX hc ha hf;have hall:∀ k,k<ds.length->listed.getD k false=true:=fun k hk=>by
   cases h:listed.getD k false with
   | true=>rfl
   | false =>
    have:k∈(List.range ds.length).filter fun i=>!listed.getD i false:=by simp[hk];simpa using h
    rw[yT hf.symm] at this;cases this
  have e1:dR ds 0 (fun k=>listed.getD k false) L0=dR ds 0 (fun _=>true) L0:=by
   have key:∀ (l:List OpD) (m:Nat) (L:List (Nat×Value)),m+l.length<=ds.length->dR l m (fun k=>listed.getD k false) L=dR l m (fun _=>true) L:=by
    intro l
    induction l with
    | nil=>intro m L _;rfl
    | cons x xs ih=>intro m L hm;simp only[dR];simp only[zC] at hm;rw[if_pos (hall m (by omega)),if_pos trivial];exact ih _ _ (by omega)
   exact key ds 0 L0 (by omega)
  have e2:(cnt ds 0 fun k=>listed.getD k false)=cnt ds 0 fun _=>true:=rJ ds 0 fun k hk=>by simpa using hall k hk
  rw[e2];refine⟨?_,hQ a (e1 ▸ ha)⟩;unfold Region.ready;rw[aAg];intro i hi;simp at hi;have:=hall i hi;simp only[yH] at this ⊢;have h3:listed[i]?=some true:=by
   cases h4:listed[i]? with
   | none=>simp[h4] at this
   | some b=>simpa[h4] using this
  simp[h3]
 | succ fuel ih =>
  intro listed a hsz hX hc ha hf;have some_ready:Region.ready .any (ds.map (·.o)).toArray listed≠[]:=by
   have hne:((List.range ds.length).filter fun i=>!listed.getD i false)≠[]:=fun h=>by rw[h] at hf;cases hf
   obtain⟨x,hx⟩:=zB _ hne;have hx':x<ds.length/\listed.getD x false=false:=by simpa using hx
   have hmin:∃ m,(m<ds.length/\listed.getD m false=false)/\∀ k,k<m->¬ (k<ds.length/\listed.getD k false=false):=by
    clear hx hf hne
    induction x using Nat.strongRecOn with
    | _ x ihx =>
     by_cases h:∃ k,k<x/\(k<ds.length/\listed.getD k false=false)
     .obtain⟨k,hk,hk'⟩:=h;exact ihx k hk hk'
     exact⟨x,hx',fun k hk hk'=>h ⟨k,hk,hk'⟩⟩
   obtain⟨m,⟨hm1,hm2⟩,hm3⟩:=hmin;intro hr;have:m∈Region.ready .any (ds.map (·.o)).toArray listed:=by
    unfold Region.ready;simp only[yU,yS,yL,yR];have hl:listed[m]?=some false:=by
     have h4:m<listed.size:=by omega
     simp only[yH] at hm2;simpa[h4] using hm2
    refine⟨by simpa using hm1,by simp[hl],?_⟩;rw[opsAt];obtain⟨d,hd0⟩:∃ d,ds[m]?=some d:=⟨_,yK hm1⟩;rw[hd0];simp only[yP,yV];rw[<-zT,yI];intro e he;by_cases hb:Region.binds .any e=true
    .have h5:=hed' m d hd0 e he hb;have h6:listed.getD e.on false=true:=by
      cases h7:listed.getD e.on false with
      | true=>rfl
      | false=>exact(hm3 e.on h5 ⟨by omega,h7⟩).elim
     simp[h6]
    simp at hb;simp[hb]
   rw[hr] at this;cases this
  refine⟨fun h=>(some_ready h).elim,fun i hi=>?_⟩;unfold Region.ready at hi;simp only[yU,yS,yL,yR] at hi;obtain⟨hi1,hi2,hi3⟩:=hi;have hi1':i<ds.length:=by simpa using hi1
  obtain⟨d,hd0⟩:∃ d,ds[i]?=some d:=⟨_,yK hi1'⟩;have hun:listed.getD i false=false:=by
   have h4:i<listed.size:=by omega
   simp only[yH] at hi2 ⊢;simpa[h4] using hi2
  rw[opsAt,hd0] at hi3;simp only[yP,yV] at hi3;rw[<-zT,yI] at hi3;have hed2:∀ e∈d.o.after.toList,Region.binds .any e=true->listed.getD e.on false=true:=fun e he hb=>by
   have:=hi3 e he;simpa[hb] using this
  have hcl2:=closed listed hX hc i d hd0 hed2;have notl:∀ k (d':OpD),ds[k]?=some d'->i∈d'.cl->listed.getD k false=false:=fun k d' hk hik=>by
   cases h:listed.getD k false with
   | false=>rfl
   | true =>
    have:=closed listed hX hc k d' hk (hc k d' hk h) i hik;rw[hun] at this;cases this
  have hj1:d.lo<=cnt ds 0 fun k=>listed.getD k false:=zN (hrg' i d hd0).1 (jE ds 0 fun k d' h1 h2 h3=>by
   simp only[aAN] at h3 ⊢;exact hcl2 k (by simpa using h3))
  have hj2:(cnt ds 0 fun k=>listed.getD k false)<=d.hi:=zN (jE ds 0 fun k d' h1 h2 h3=>by
   simp only[aAN] at h3 ⊢;simp only[yL,bne_iff_ne,yR,Option.any_eq_false];refine⟨fun e=>?_,fun d'' h4=>?_⟩
   .subst e;rw[hun] at h3;cases h3
   rw[h1] at h4;cases h4;simp only[List.contains_eq_mem,decide_eq_false_iff_not];intro h5;rw[notl k d' h1 h5] at h3;cases h3) (hrg' i d hd0).2
  have hop:=hO i d hd0 (fun h=>by have:=hX i h;rw[hun] at this;cases this) _ hj1 hj2;have hLi:Has n d.li a:=by
   have hs:=gC.get 0 hR hd0;refine⟨ha.d,ha.z,fun t v hv=>ha.l t v ?_⟩;have h1:=hs.look hv;obtain⟨u,hu⟩:=kG hv;rw[fM] at h1 ⊢;rw[<-h1];congr 1;refine fO ds 0 fun k d' hk hkd=>?_;simp only[aAN];rcases hli' i k d d' t u hd0 hk hu hkd with rfl | ⟨h2,h3⟩ | ⟨h2,h3⟩
   .rw[hun];simp
   .rw[hcl2 k h3];simp[h2]
   rw[notl k d' hk h3];simp;omega
  have goal:=fun K hk=>hop a hLi K Q hk;unfold wpOp;rw[opsAt,hd0];simp only[yP];have hK:=goal (wpAny P .any (ds.map (·.o)).toArray Q fuel (listed.setIfInBounds i true)) ?_
  .split
   .rename_i hw;rw[if_pos hw] at hK;exact .inl hK
   rename_i hw;rw[if_neg hw] at hK;exact hK
  have hset:∀ k,(listed.setIfInBounds i true).getD k false=dZ (fun k=>listed.getD k false) i k:=fun k=>by
   simp only[dZ,yH];by_cases h:k=i
   .subst h;have:k<listed.size:=by omega
    simp[this]
   rw[yO (Ne.symm h),if_neg h]
  have hset':(fun k=>(listed.setIfInBounds i true).getD k false)=dZ (fun k=>listed.getD k false) i:=funext hset;have hcnt:=lT (S:=fun k=>listed.getD k false) (j:=i) ds 0 i d hd0 (by omega) hun;have hfin:=ih (listed.setIfInBounds i true) (a.put d.o.dst d.v) (by simpa using hsz) ?_ ?_ ?_ ?_
  .rw[hset',hcnt] at hfin;exact hfin
  .intro k hk;rw[hset];simp only[dZ];split
   .rfl
   exact hX k hk
  .intro k d' hk hl e he hb;rw[hset] at hl ⊢;simp only[dZ] at hl ⊢;split
   .rfl
   split at hl
   .rename_i h1 h2;subst h2;rw[hd0] at hk;cases hk;exact hed2 e he hb
   exact hc k d' hk hl e he hb
  .have hput:=ha.put d.o.dst (fun t ht=>hd i d t hd0 ht) d.v;refine⟨hput.d,hput.z,fun t v hv=>hput.l t v ?_⟩;rw[hset'] at hv;rw[jF];rw[fM] at hv ⊢;by_cases ht:d.o.dst=some t
   .rw[if_pos ht];rw[kX ds 0 i d hd0 ht (by simp[dZ]) (fun k' d' h1 h2 h3=>by
     simp only[aAN,dZ];rw[if_neg (by omega)];exact notl k' d' h2 (hds' i k' d d' t hd0 h2 h1 ht h3))] at hv
    simpa using hv
   rw[if_neg ht];rw[<-hv];congr 1;refine fO ds 0 fun k d' hk hkd=>?_;simp only[aAN,dZ];split
   .rename_i h1;subst h1;rw[hd0] at hk;cases hk;exact(ht hkd).elim
   rfl
  have h1:(List.range ds.length).filter (fun k=>!(listed.setIfInBounds i true).getD k false)=((List.range ds.length).filter fun k=>!listed.getD k false).filter (fun k=>k !=i):=by
   rw[aAw];apply aAi;intro k _;rw[hset];simp only[dZ];by_cases h:k=i<;>simp[h]
  rw[h1];have hmem:i∈(List.range ds.length).filter fun k=>!listed.getD k false:=by
   simp only[yU,yS];exact⟨hi1',by rw[hun];rfl⟩
  have hnd:((List.range ds.length).filter fun k=>!listed.getD k false).Nodup:=List.nodup_range.filter _;have:=hnd.erase_eq_filter i;rw[<-this,aAb hmem,<-hf];rfl
def qS (ds:List OpD) (Pv Dp:List Nat):Bool :=
 (Pv.all fun i=>Dp.contains i&&decide (i<ds.length)) &&
 ds.zipIdx.all fun (d,i)=>if Dp.contains i then Pv.contains i||d.o.after.toList.any (fun e=>Region.binds .any e&&Dp.contains e.on) else !d.e&&d.cl.all fun k=>!Dp.contains k
def vJ (ds ds':List OpD) (Dp:List Nat):Prop:=∀ (i:Nat) (d d':OpD),ds[i]?=some d->ds'[i]?=some d'->¬ i∈Dp->d.v=d'.v/\d.cl=d'.cl
theorem dH {listed:Array Bool} {i:Nat} (hi:i<listed.size) (k:Nat):(listed.setIfInBounds i true).getD k false=dZ (fun k=>listed.getD k false) i k:=by
 simp only[dZ,yH];by_cases h:k=i
 .subst h;simp[hi]
 rw[yO (Ne.symm h),if_neg h]
theorem pJ {ds:List OpD} {listed:Array Bool} {a:Act} {i:Nat} {d:OpD} (hds:oJ ds=true) (hd0:ds[i]?=some d) (hi:i<listed.size) (notl:∀ k (d':OpD),ds[k]?=some d'->i∈d'.cl->listed.getD k false=false)
  (ha:Has n (dR ds 0 (fun k=>listed.getD k false) L0) a) (hd:∀ t,d.o.dst=some t->t<n):Has n (dR ds 0 (fun k=>(listed.setIfInBounds i true).getD k false) L0) (a.put d.o.dst d.v):=by
 have hset':(fun k=>(listed.setIfInBounds i true).getD k false)=dZ (fun k=>listed.getD k false) i:=funext (dH hi);have zi:∀ (i:Nat) (d:OpD),ds[i]?=some d->(d,i)∈ds.zipIdx:=fun i d h=>yQ.2 h;have hds':∀ (i k:Nat) (d d':OpD) (t:Nat),ds[i]?=some d->ds[k]?=some d'->i<k->d.o.dst=some t->d'.o.dst=some t->i∈d'.cl:=fun i k d d' t h h' hik ht ht'=>by
  have:=yI.1 hds _ (zi i d h);simp only[ht,aAG] at this;have:=yI.1 this _ (zi k d' h');simpa[hik,ht'] using this
 have hput:=ha.put d.o.dst hd d.v;refine⟨hput.d,hput.z,fun t v hv=>hput.l t v ?_⟩;rw[hset'] at hv;rw[jF];rw[fM] at hv ⊢;by_cases ht:d.o.dst=some t
 .rw[if_pos ht];rw[kX ds 0 i d hd0 ht (by simp[dZ]) (fun k' d' h1 h2 h3=>by
   simp only[aAN,dZ];rw[if_neg (by omega)];exact notl k' d' h2 (hds' i k' d d' t hd0 h2 h1 ht h3))] at hv
  simpa using hv
 rw[if_neg ht];rw[<-hv];congr 1;refine fO ds 0 fun k d' hk hkd=>?_;simp only[aAN,dZ];split
 .rename_i h1;subst h1;rw[hd0] at hk;cases hk;exact(ht hkd).elim
 rfl
theorem nZ {N fuel:Nat} {listed:Array Bool} {i:Nat} (hi:i<listed.size) (hN:i<N) (hun:listed.getD i false=false) (hf:fuel+1=((List.range N).filter fun i=>!listed.getD i false).length) :
  fuel=((List.range N).filter fun k=>!(listed.setIfInBounds i true).getD k false).length:=by
 have h1:(List.range N).filter (fun k=>!(listed.setIfInBounds i true).getD k false)=((List.range N).filter fun k=>!listed.getD k false).filter (fun k=>k !=i):=by
  rw[aAw];apply aAi;intro k _;rw[dH hi];simp only[dZ];by_cases h:k=i<;>simp[h]
 rw[h1];have hmem:i∈(List.range N).filter fun k=>!listed.getD k false:=by
  simp only[yU,yS];exact⟨hN,by rw[hun];rfl⟩
 have hnd:((List.range N).filter fun k=>!listed.getD k false).Nodup:=List.nodup_range.filter _;have:=hnd.erase_eq_filter i;rw[<-this,aAb hmem,<-hf];rfl
theorem qV {ops:List Oper} {fuel:Nat} {listed:Array Bool} (hsz:listed.size=ops.length) (hed:∀ (i:Nat) (o:Oper),ops[i]?=some o->∀ e∈o.after.toList,Region.binds .any e=true->e.on<i)
  (hf:fuel+1=((List.range ops.length).filter fun i=>!listed.getD i false).length):Region.ready .any ops.toArray listed≠[]:=by
 have hne:((List.range ops.length).filter fun i=>!listed.getD i false)≠[]:=fun h=>by rw[h] at hf;cases hf
 obtain⟨x,hx⟩:=zB _ hne;have hx':x<ops.length/\listed.getD x false=false:=by simpa using hx
 have hmin:∃ m,(m<ops.length/\listed.getD m false=false)/\∀ k,k<m->¬ (k<ops.length/\listed.getD k false=false):=by
  clear hx hf hne
  induction x using Nat.strongRecOn with
  | _ x ihx =>
   by_cases h:∃ k,k<x/\(k<ops.length/\listed.getD k false=false)
   .obtain⟨k,hk,hk'⟩:=h;exact ihx k hk hk'
   exact⟨x,hx',fun k hk hk'=>h ⟨k,hk,hk'⟩⟩
 obtain⟨m,⟨hm1,hm2⟩,hm3⟩:=hmin;intro hr;have:m∈Region.ready .any ops.toArray listed:=by
  unfold Region.ready;simp only[yU,yS,yL,yR];have hl:listed[m]?=some false:=by
   have h4:m<listed.size:=by omega
   simp only[yH] at hm2;simpa[h4] using hm2
  refine⟨by simpa using hm1,by simp[hl],?_⟩;rw[zL,yK hm1];simp only[yP,yV];rw[<-zT,yI];intro e he;by_cases hb:Region.binds .any e=true
  .have h5:=hed m ops[m] (yK hm1) e he hb;have h6:listed.getD e.on false=true:=by
    cases h7:listed.getD e.on false with
    | true=>rfl
    | false=>exact(hm3 e.on h5 ⟨by omega,h7⟩).elim
   simp[h6]
  simp at hb;simp[hb]
 rw[hr] at this;cases this
theorem nN {σ:Type} {C:σ->Prop} {piv:σ->Nat} {ds0:List OpD} {D:σ->List OpD} {W:σ->Nat->World} {m:σ->Nat} {X:Nat->List Nat} {Pv Dp:List Nat} {w0:World} {ops:List Oper}
  (hok0:(uJ ds0&&oJ ds0&&sE ds0&&nK ds0)=true) (hdp:qS ds0 Pv Dp=true) (hne:Pv≠[]) (ho0:ds0.map (·.o)=ops) (hR0:gC ds0 L0) (hd:∀ (i:Nat) (d:OpD) (t:Nat),ds0[i]?=some d->d.o.dst=some t->t<n)
  (hO0:∀ (i:Nat) (d:OpD),ds0[i]?=some d->¬ i∈Dp->iJ P n ops.toArray d.o d.li d.v w0 w0)
  (hP:∀ i∈Pv,∀ (d:OpD),ds0[i]?=some d->∀ a,Has n d.li a->∀ (K:Act->World->Prop),(∀ s,C s->piv s=i->∀ v,((D s)[i]?).map (·.v)=some v->K (a.put d.o.dst v) (W s 1))->wpOp P ops.toArray Q i K a w0)
  (hXp:∀ i,i∈X i) (hX:∀ s,C s->∀ k∈X (piv s),k=piv s\/∃ d,ds0[piv s]?=some d/\k∈d.cl)
  (hS:∀ s,C s->(D s).map (·.o)=ops/\kI (X (piv s)) (D s)=true/\vJ ds0 (D s) Dp/\gC (D s) L0/\((D s)[piv s]?).map (·.e)=some true/\(∀ (i:Nat) (d:OpD),(D s)[i]?=some d->i≠piv s->∀ j,d.lo<=j->j<=d.hi->iJ P n ops.toArray d.o d.li d.v (W s j) (W s (j+if d.e=true then 1 else 0)))/\(∀ (i:Nat) (d:OpD),(D s)[i]?=some d->¬ i∈Dp->d.e=false) /\
   ∀ a,Has n (dR (D s) 0 (fun _=>true) L0) a->Q .normal a (W s (cnt (D s) 0 fun _=>true))) :
  ∀ (fuel:Nat) (listed:Array Bool) (a:Act),listed.size=ds0.length->(∀ k∈Dp,listed.getD k false=false) ->
   (∀ (i:Nat) (d:OpD),ds0[i]?=some d->listed.getD i false=true->∀ e∈d.o.after.toList,Region.binds .any e=true->listed.getD e.on false=true) ->
   Has n (dR ds0 0 (fun k=>listed.getD k false) L0) a->fuel=((List.range ds0.length).filter fun i=>!listed.getD i false).length ->
   wpAny P .any ops.toArray Q fuel listed a w0:=by
 simp only[yL] at hok0;obtain⟨⟨⟨hcl,hds⟩,hli⟩,hed⟩:=hok0;unfold qS at hdp;simp only[yL] at hdp;obtain⟨hdp1,hdp2⟩:=hdp;have zi:∀ (i:Nat) (d:OpD),ds0[i]?=some d->(d,i)∈ds0.zipIdx:=fun i d h=>yQ.2 h;have hpv:∀ i∈Pv,i∈Dp/\i<ds0.length:=fun i hi=>by
  have:=yI.1 hdp1 i hi;simpa using this
 have hdep:∀ (i:Nat) (d:OpD),ds0[i]?=some d->i∈Dp->i∈Pv\/∃ e∈d.o.after.toList,Region.binds .any e=true/\e.on∈Dp:=fun i d h hi=>by
  have:=yI.1 hdp2 _ (zi i d h);simp only[yX,hi,if_true,zA,zS,yL] at this;rcases this with h1 | ⟨e,h1,h2⟩
  .exact .inl (by simpa using h1)
  exact .inr ⟨e,h1,h2.1,by simpa using h2.2⟩
 have hind:∀ (i:Nat) (d:OpD),ds0[i]?=some d->¬ i∈Dp->d.e=false/\∀ k∈d.cl,¬ k∈Dp:=fun i d h hi=>by
  have:=yI.1 hdp2 _ (zi i d h);simp only[yX,hi,if_false,yL,yR,yI,decide_eq_true_eq,Bool.not_eq_eq_eq_not,Bool.not_true] at this;exact⟨this.1,fun k hk=>by simpa using this.2 k hk⟩
 have hed':∀ (i:Nat) (d:OpD),ds0[i]?=some d->∀ e∈d.o.after.toList,Region.binds .any e=true->e.on<i:=fun i d h e he hb=>by
  have:=yI.1 (yI.1 hed _ (zi i d h)) e he;simpa[hb] using this
 have hcl':∀ (i:Nat) (d:OpD),ds0[i]?=some d->∀ k∈d.cl,∃ e∈d.o.after.toList,Region.binds .any e=true/\e.on<i/\(k=e.on\/∃ d',ds0[e.on]?=some d'/\k∈d'.cl):=fun i d h k hk=>by
  have:=yI.1 (yI.1 hcl _ (zi i d h)) k hk;obtain⟨e,he,hx⟩:=zS.1 this;simp only[yL,decide_eq_true_eq,zA,beq_iff_eq,aAv,yX] at hx;exact⟨e,he,hx.1.1,hx.1.2,hx.2⟩
 have hli':∀ (i k:Nat) (d d':OpD) (t:Nat) (u:Value),ds0[i]?=some d->ds0[k]?=some d'->(t,u)∈d.li->d'.o.dst=some t->k=i\/(k<i/\k∈d.cl)\/(i<k/\i∈d'.cl):=fun i k d d' t u h h' ht ht'=>by
  have:=yI.1 (yI.1 (yI.1 hli _ (zi i d h)) _ ht) _ (zi k d' h');simp only[ht',bne_self_eq_false,aAJ,zA,beq_iff_eq,yL,decide_eq_true_eq,yX] at this;rcases this with(h1 | h1) | h1
  .exact .inl h1
  .exact .inr (.inl h1)
  exact .inr (.inr h1)
 have closed:∀ (listed:Array Bool),(∀ (i:Nat) (d:OpD),ds0[i]?=some d->listed.getD i false=true->∀ e∈d.o.after.toList,Region.binds .any e=true->listed.getD e.on false=true) ->
   ∀ (i:Nat) (d:OpD),ds0[i]?=some d->(∀ e∈d.o.after.toList,Region.binds .any e=true->listed.getD e.on false=true)->∀ k∈d.cl,listed.getD k false=true:=by
  intro listed hc i
  induction i using Nat.strongRecOn with
  | _ i ih =>
   intro d hd0 he k hk;obtain⟨e,he1,he2,he3,he4⟩:=hcl' i d hd0 k hk;rcases he4 with rfl | ⟨d',hd',hk'⟩
   .exact he e he1 he2
   exact ih e.on he3 d' hd' (hc e.on d' hd' (he e he1 he2)) k hk'
 have hol:ops.length=ds0.length:=by rw[<-ho0];simp
 have opsAt:∀ (i:Nat),ops.toArray[i]?=(ds0[i]?).map (fun d:OpD=>d.o):=fun i=>by rw[<-ho0];simp
 intro fuel
 induction fuel with
 | zero =>
  intro listed a hsz hdl hc ha hf;obtain⟨i,hi⟩:=zB _ hne;obtain⟨h1,h2⟩:=hpv i hi;have:i∈(List.range ds0.length).filter fun i=>!listed.getD i false:=by
   simp only[yU,yS];exact⟨h2,by rw[hdl i h1];rfl⟩
  rw[yT hf.symm] at this;cases this
 | succ fuel ih =>
  intro listed a hsz hdl hc ha hf;refine⟨fun h=>((qV (ops:=ops) (fuel:=fuel) (by omega) (fun i o h=>?_) (by rw[hol];exact hf)) h).elim,fun i hi=>?_⟩
  .have h1:=opsAt i;rw[zL,h] at h1;obtain⟨d,hd0,rfl⟩:=aAh.1 h1.symm;exact hed' i d hd0
  unfold Region.ready at hi;simp only[yU,yS,yL,yR] at hi;obtain⟨hi1,hi2,hi3⟩:=hi;have hi1':i<ds0.length:=by simpa[hol] using hi1
  have hils:i<listed.size:=by omega
  obtain⟨d,hd0⟩:∃ d,ds0[i]?=some d:=⟨_,yK hi1'⟩;have hun:listed.getD i false=false:=by
   simp only[yH] at hi2 ⊢;simpa[hils] using hi2
  rw[opsAt,hd0] at hi3;simp only[yP,yV] at hi3;rw[<-zT,yI] at hi3;have hed2:∀ e∈d.o.after.toList,Region.binds .any e=true->listed.getD e.on false=true:=fun e he hb=>by
   have:=hi3 e he;simpa[hb] using this
  have hcl2:=closed listed hc i d hd0 hed2;have hLi:Has n d.li a:=by
   have hs:=gC.get 0 hR0 hd0;refine⟨ha.d,ha.z,fun t v hv=>ha.l t v ?_⟩;have h1:=hs.look hv;obtain⟨u,hu⟩:=kG hv;rw[fM] at h1 ⊢;rw[<-h1];congr 1;refine fO ds0 0 fun k d' hk hkd=>?_;simp only[aAN];rcases hli' i k d d' t u hd0 hk hu hkd with rfl | ⟨h2,h3⟩ | ⟨h2,h3⟩
   .rw[hun];simp
   .rw[hcl2 k h3];simp[h2]
   have:listed.getD k false=false:=by
    cases h:listed.getD k false with
    | false=>rfl
    | true =>
     have:=closed listed hc k d' hk (hc k d' hk h) i h3;rw[hun] at this;cases this
   rw[this];simp;omega
  have hcset:∀ (k:Nat) (d':OpD),ds0[k]?=some d'->(listed.setIfInBounds i true).getD k false=true->∀ e∈d'.o.after.toList,Region.binds .any e=true->(listed.setIfInBounds i true).getD e.on false=true:=by
   intro k d' hk hl e he hb;rw[dH hils] at hl ⊢;simp only[dZ] at hl ⊢;split
   .rfl
   split at hl
   .rename_i h1 h2;subst h2;rw[hd0] at hk;cases hk;exact hed2 e he hb
   exact hc k d' hk hl e he hb
  by_cases hiD:i∈Dp
  .-- the first act
   have hiP:i∈Pv:=by
    rcases hdep i d hd0 hiD with h | ⟨e,h1,h2,h3⟩
    .exact h
    have:=hed2 e h1 h2;rw[hdl _ h3] at this;cases this
   refine hP i hiP d hd0 a hLi _ fun s hs hps v hv=>?_;obtain⟨s1,s2,s3,s4,s5,s6,s7,s8⟩:=hS s hs;subst hps;have hlen:(D s).length=ds0.length:=by rw[<-hol,<-s1];simp
   obtain⟨ds',hds'⟩:∃ d',(D s)[piv s]?=some d':=⟨_,yK (by omega)⟩;have same:∀ (k:Nat) (d':OpD),(D s)[k]?=some d'->∃ d1,ds0[k]?=some d1/\d1.o=d'.o:=fun k d' hk=>by
    have h1:=congrArg (fun l:List Oper=>l[k]?) (s1.trans ho0.symm);simp only[aAk,hk,yP] at h1;obtain⟨d1,h2,h3⟩:=aAh.1 h1.symm;exact⟨d1,h2,h3⟩
   have hdo:d.o=ds'.o:=by obtain⟨d1,h1,h2⟩:=same _ _ hds';rw[hd0] at h1;cases h1;exact h2
   have hvs:ds'.v=v:=by rw[hds'] at hv;simpa using hv
   have hes:ds'.e=true:=by rw[hds'] at s5;simpa using s5
   have notD:∀ k,listed.getD k false=true->¬ k∈Dp:=fun k hk hkD=>by rw[hdl k hkD] at hk;cases hk
   have henv:dR (D s) 0 (fun k=>listed.getD k false) L0=dR ds0 0 (fun k=>listed.getD k false) L0:=by
    have key:∀ (l l':List OpD) (b:Nat) (L:List (Nat×Value)),(∀ j,l[j]?=(D s)[b+j]?)->(∀ j,l'[j]?=ds0[b+j]?)->dR l b (fun k=>listed.getD k false) L=dR l' b (fun k=>listed.getD k false) L:=by
     intro l
     induction l with
     | nil =>
      intro l' b L h1 h2
      cases l' with
      | nil=>rfl
      | cons x xs =>
       have e1:=h1 0;have e2:=h2 0
       simp only[zM,List.getElem?_nil,zF] at e1 e2;have:=zQ.1 e1.symm;have:=(yJ.1 e2.symm).1;omega
     | cons x xs ihx =>
      intro l' b L h1 h2
      cases l' with
      | nil =>
       have e1:=h1 0;have e2:=h2 0
       simp only[zM,List.getElem?_nil,zF] at e1 e2;have:=zQ.1 e2.symm;have:=(yJ.1 e1.symm).1;omega
      | cons y ys =>
       have e1:=h1 0;have e2:=h2 0
       simp only[zM,zF] at e1 e2;have hrec:∀ L,dR xs (b+1) (fun k=>listed.getD k false) L=dR ys (b+1) (fun k=>listed.getD k false) L:=fun L =>
        ihx ys (b+1) L (fun j=>by have:=h1 (j+1);simp only[zE] at this;rw[this];congr 1;omega) (fun j=>by have:=h2 (j+1);simp only[zE] at this;rw[this];congr 1;omega)
       simp only[dR];by_cases hb:listed.getD b false=true
       .have hag:=(s3 b y x e2.symm e1.symm (notD b hb)).1;obtain⟨d1,k1,k2⟩:=same b x e1.symm;rw[<-e2] at k1;cases k1;rw[if_pos hb,if_pos hb,hrec,k2,hag]
       rw[if_neg hb,if_neg hb,hrec]
    exact key (D s) ds0 0 L0 (fun j=>by rw[aAN]) (fun j=>by rw[aAN])
   have hallX:=s2;simp only[kI,yL] at hallX;have hput:=pJ (n:=n) (L0:=L0) (ds:=D s) (listed:=listed) (a:=a) (i:=piv s) (d:=ds') hallX.1.1.1.2 hds' hils (fun k d' hk hik=>by
    cases h:listed.getD k false with
    | false=>rfl
    | true =>
     obtain⟨d1,k1,k2⟩:=same k d' hk;have hcl3:=(s3 k d1 d' k1 hk (notD k h)).2;rw[<-hcl3] at hik;exact((hind k d1 k1 (notD k h)).2 _ hik hiD).elim) (by rw[henv];exact ha) (fun t ht=>hd _ d t hd0 (by rw[hdo];exact ht))
   have hcnt:cnt (D s) 0 (fun k=>(listed.setIfInBounds (piv s) true).getD k false)=1:=by
    have h0:cnt (D s) 0 (fun k=>listed.getD k false)=0:=by
     have key:∀ (l:List OpD) (b:Nat),(∀ j,l[j]?=(D s)[b+j]?)->cnt l b (fun k=>listed.getD k false)=0:=by
      intro l
      induction l with
      | nil=>intro b _;rfl
      | cons x xs ihx =>
       intro b h1;have e1:=h1 0;simp only[zM,zF] at e1;simp only[cnt];rw[ihx (b+1) (fun j=>by have:=h1 (j+1);simp only[zE] at this;rw[this];congr 1;omega),if_neg];rintro⟨h2,h3⟩;rw[s7 b x e1.symm (notD b h2)] at h3;cases h3
     exact key (D s) 0 (fun j=>by rw[aAN])
    have hset':(fun k=>(listed.setIfInBounds (piv s) true).getD k false)=dZ (fun k=>listed.getD k false) (piv s):=funext (dH hils);rw[hset',lT (D s) 0 (piv s) ds' hds' (by omega) hun,h0,hes];rfl
   have hfin:=jL (P:=P) (n:=n) (L0:=L0) (Q:=Q) (ds:=D s) (W:=W s) s2 (by rw[s1];exact fun i d h hi=>s6 i d h (fun e=>hi (by rw[e];exact hXp _))) s4 (fun i d' t h1 h2=>by
    obtain⟨d1,k1,k2⟩:=same i d' h1;exact hd i d1 t k1 (by rw[k2];exact h2)) s8 fuel (listed.setIfInBounds (piv s) true) (a.put ds'.o.dst ds'.v) (by simp[hsz,hlen]) (fun k hk=>by
     rw[dH hils];simp only[dZ];rcases hX s hs k hk with rfl | ⟨d1,k1,k2⟩
     .simp
     .rw[hd0] at k1;cases k1;rw[hcl2 k k2];simp) (fun k d' hk hl e he hb=>by
     obtain⟨d1,k1,k2⟩:=same k d' hk;exact hcset k d1 k1 hl e (by rw[k2];exact he) hb) hput (by rw[hlen];exact nZ hils hi1' hun hf)
   rw[hcnt,s1] at hfin;rw[hdo,<-hvs];exact hfin
  have hop:=hO0 i d hd0 hiD;unfold wpOp;rw[opsAt,hd0];simp only[yP];have hK:=hop a hLi (wpAny P .any ops.toArray Q fuel (listed.setIfInBounds i true)) Q (ih (listed.setIfInBounds i true) (a.put d.o.dst d.v) (by simpa using hsz) (fun k hk=>by
    rw[dH hils];simp only[dZ];rw[if_neg (fun e:k=i=>hiD (e ▸ hk))];exact hdl k hk) hcset
   (pJ hds hd0 hils (fun k d' hk hik=>by
    cases h:listed.getD k false with
    | false=>rfl
    | true =>
     have:=closed listed hc k d' hk (hc k d' hk h) i hik;rw[hun] at this;cases this) ha (fun t ht=>hd i d t hd0 ht)) (nZ hils hi1' hun hf))
  split
  .rename_i hw;rw[if_pos hw] at hK;exact .inl hK
  rename_i hw;rw[if_neg hw] at hK;exact hK
end
def pB {α:Type} (x y:ND α):ND α:=⟨fun Q=>x.t Q/\y.t Q,fun h k=>⟨x.m h k.1,y.m h k.2⟩⟩
theorem Nd.both {α:Type} {x y:ND α} {Φ:α->Prop} (h:x.t Φ) (k:y.t Φ):(pB x y).t Φ:=⟨h,k⟩
def mD:List Oper->List (List Nat)->List (List Nat)
 | [],acc=>acc
 | o::os,acc=>mD os (acc++[(o.after.toList.filter fun e=>Region.binds .any e).flatMap fun e=>e.on::acc.getD e.on []])
def gL (ds:List OpD) (cls:List (List Nat)):List OpD:=List.zipWith (fun d c=>{ d with cl:=c }) ds cls
def fJ (ds:List OpD):List OpD:=gL ds (mD (ds.map (·.o)) [])
def qB (ds:List OpD) (Dp:List Nat):List (Value×List Nat):=(ds.zipIdx.filter fun x=>!Dp.contains x.2).map fun x=>(x.1.v,x.1.cl)
def kE (n:Nat) (ds:List OpD) (i:Nat) (Pv Dp:List Nat):Bool :=
 let b:=fJ ds
 uJ b&&oJ b&&sE b&&nK b&&qS b Pv Dp&&(ds.all fun d=>d.o.dst.all fun t=>decide (t<n))&&decide (b.length=ds.length) &&
 kI (i::((b[i]?).map (·.cl)).getD []) ds&&((ds[i]?).any fun d=>d.e&&d.lo==0)&&ds.zipIdx.all fun (d,k)=>Dp.contains k||(!d.e&&d.lo==0&&d.cl==((b[k]?).map (·.cl)).getD [])
section
variable {P : Program} {n : Nat} {L0 : List (Nat × Value)} {Q : Exit -> Act -> World -> Prop} {a : Act} {w : World}
theorem iX {ds:List OpD} {cls:List (List Nat)} {k:Nat} {d:OpD} (h:(gL ds cls)[k]?=some d):∃ d',ds[k]?=some d'/\d'.o=d.o/\d'.v=d.v/\d'.e=d.e/\d'.lo=d.lo/\d'.li=d.li/\cls[k]?=some d.cl:=by
 unfold gL at h;rw[aAn] at h
 cases h1:ds[k]? with
 | none=>rw[h1] at h;simp at h
 | some d' =>
  cases h2:cls[k]? with
  | none=>rw[h1,h2] at h;simp at h
  | some c=>rw[h1,h2] at h;simp at h;subst h;exact⟨d',rfl,rfl,rfl,rfl,rfl,rfl,rfl⟩
theorem lA:∀ {ds:List OpD} {cls:List (List Nat)} {L:List (Nat×Value)},gC ds L->gC (gL ds cls) L
 | [],_,_,_=>by simp[gL,gC]
 | _::_,[],_,_=>by simp[gL,gC]
 | d::ds,c::cls,L,h=>⟨h.1,lA h.2⟩
theorem oN:∀ {ds:List OpD} {cls:List (List Nat)},(gL ds cls).length=ds.length->(gL ds cls).map (·.o)=ds.map (·.o)
 | [],_,_=>by simp[gL]
 | _::_,[],h=>by simp[gL] at h
 | d::ds,c::cls,h=>by
  have:=oN (ds:=ds) (cls:=cls) (by simpa[gL] using h);simp only[gL,List.zipWith_cons_cons,aAB] at this ⊢;rw[this]
theorem pA {ds ds':List OpD} {Dp:List Nat} (hl:ds.length=ds'.length) (h:qB ds Dp=qB ds' Dp) {k:Nat} {d d':OpD} (h1:ds[k]?=some d) (h2:ds'[k]?=some d') (hk:¬ k∈Dp):d.v=d'.v/\d.cl=d'.cl:=by
 have key:∀ (l l':List OpD) (b:Nat),l.length=l'.length->((l.zipIdx b).filter fun x=>!Dp.contains x.2).map (fun x=>(x.1.v,x.1.cl))=((l'.zipIdx b).filter fun x=>!Dp.contains x.2).map (fun x=>(x.1.v,x.1.cl))->∀ j x y,l[j]?=some x->l'[j]?=some y->¬ (b+j)∈Dp->x.v=y.v/\x.cl=y.cl:=by
  intro l
  induction l with
  | nil=>intro l' b _ _ j x y hx;simp at hx
  | cons u us ih =>
   intro l' b hl' he j x y hx hy hj
   cases l' with
   | nil=>simp at hl'
   | cons u' us' =>
    simp only[List.zipIdx_cons,zY] at he;by_cases hb:b∈Dp
    .have:(!Dp.contains b)=false:=by simp[hb]
     simp only[this,aAd,if_false] at he
     cases j with
     | zero=>exact(hj (by simpa using hb)).elim
     | succ j=>exact ih us' (b+1) (by simpa using hl') he j x y (by simpa using hx) (by simpa using hy) (by rwa[show b+1+j=b+(j+1) by omega])
    have:(!Dp.contains b)=true:=by simp[hb]
    simp only[this,if_true,aAB,List.cons.injEq,Prod.mk.injEq] at he
    cases j with
    | zero=>simp at hx hy;subst hx;subst hy;exact he.1
    | succ j=>exact ih us' (b+1) (by simpa using hl') he.2 j x y (by simpa using hx) (by simpa using hy) (by rwa[show b+1+j=b+(j+1) by omega])
 exact key ds ds' 0 hl h k d d' h1 h2 (by simpa using hk)
theorem nO {ops:List Oper} {id:Nat} (hm:P.follows .mixedOrders=true) (h:wpAny P .any ops.toArray Q ops.length (Array.replicate ops.length false) a w.drew):(Code.region id ops.toArray true).wp P Q a w:=by
 refine wp_region_any hm ?_;have:ops.toArray.size=ops.length:=by simp
 rw[this];exact h
theorem iN (N k:Nat):(Array.replicate N false).getD k false=false:=by
 simp only[yH,zD];split<;>rfl
theorem rB (l:List OpD):∀ (i:Nat) (L:List (Nat×Value)),dR l i (fun _=>false) L=L:=by
 induction l with
 | nil=>intro i L;rfl
 | cons x xs ih=>intro i L;simp only[dR];rw[if_neg (by simp)];exact ih _ _
theorem pM {ops:Array Oper} {i:Nat} {o:Oper} {li:List (Nat×Value)} {v:Value} {w w':World} (hi:ops[i]?=some o) (h:iJ P n ops o li v w w') (ha:Has n li a) {K:Act->World->Prop} (hk:K (a.put o.dst v) w'):wpOp P ops Q i K a w:=by
 unfold wpOp;rw[hi];simp only;have:=h a ha K Q hk;split
 .rename_i hw;rw[if_pos hw] at this;exact .inl this
 rename_i hw;rw[if_neg hw] at this;exact this
theorem oV {σ : Type} {C : σ -> Prop} {piv : σ -> Nat} {Pv Dp : List Nat} {D : σ -> List OpD} {W : σ -> Nat -> World} {m : σ -> Nat} {ops : List Oper} {id : Nat} (s0 : σ) (hm : P.follows .mixedOrders = true) (ha : Has n L0 a) (hne : Pv ≠ [])
    (hs0 : (D s0).map (·.o) = ops) (hok : ∀ s, kE n (D s) (piv s) Pv Dp = true) (ho : ∀ s, (D s).map (·.o) = ops) (hv : ∀ s, qB (D s) Dp = qB (D s0) Dp) (hR : ∀ s, gC (D s) L0) (hO0 : ∀ (i : Nat) (d : OpD), (D s0)[i]? = some d -> ¬ i ∈ Dp -> iJ P n ops.toArray d.o d.li d.v w.drew w.drew)
    (hP : ∀ i ∈ Pv, ∀ (d : OpD), (D s0)[i]? = some d -> ∀ a, Has n d.li a -> ∀ (K : Act -> World -> Prop), (∀ s, C s -> piv s = i -> ∀ v, ((D s)[i]?).map (·.v) = some v -> K (a.put d.o.dst v) (W s 1)) -> wpOp P ops.toArray Q i K a w.drew)
    (hO : ∀ s, C s -> ∀ (i : Nat) (d : OpD), (D s)[i]? = some d -> i ≠ piv s -> ∀ j, d.lo <= j -> j <= d.hi -> iJ P n ops.toArray d.o d.li d.v (W s j) (W s (j + if d.e = true then 1 else 0))) (hcm : ∀ s, cnt (D s) 0 (fun _ => true) = m s) (hQ : ∀ s, C s -> ∀ a, Has n (dR (D s) 0 (fun _ => true) L0) a -> Q .normal a (W s (m s))) : (Code.region id ops.toArray true).wp P Q a w := by
  have b0 := hok s0
  simp only [kE, yL] at b0
  obtain ⟨⟨⟨⟨⟨⟨⟨⟨⟨c1, c2⟩, c3⟩, c4⟩, c5⟩, c6⟩, c7⟩, c8⟩, c9⟩, c10⟩ := b0
  have hl0 : (fJ (D s0)).length = (D s0).length := by simpa using c7
  have hlo : ops.length = (D s0).length := by rw [<- hs0]; simp
  have hall : ∀ s, (D s).length = (D s0).length := fun s => by rw [<- hlo, <- ho s]; simp
  have zi : ∀ s (i : Nat) (d : OpD), (D s)[i]? = some d -> (d, i) ∈ (D s).zipIdx := fun s i d h => yQ.2 h
  have nd : ∀ s (k : Nat) (d : OpD), (D s)[k]? = some d -> ¬ k ∈ Dp -> d.e = false /\ d.cl = (((fJ (D s))[k]?).map (·.cl)).getD [] := fun s k d h hk => by
    have b := hok s
    simp only [kE, yL] at b
    have := yI.1 b.2 _ (zi s k d h)
    simp only [zA, yL, yR, beq_iff_eq] at this
    rcases this with h | h
    . exact (hk (by simpa using h)).elim
    . exact ⟨h.1.1, h.2⟩
  refine nO hm ?_
  have hmain := nN (P := P) (n := n) (L0 := L0) (Q := Q) (C := C) (piv := piv) (ds0 := fJ (D s0)) (D := D) (W := W) (m := m) (X := fun i => i :: (((fJ (D s0))[i]?).map (·.cl)).getD []) (Pv := Pv) (Dp := Dp) (w0 := w.drew) (ops := ops)
    (by simp only [yL]; exact ⟨⟨⟨c1, c2⟩, c3⟩, c4⟩) c5 hne (by rw [<- hs0]; exact oN hl0) (lA (hR s0)) (fun i d t h ht => by
      obtain ⟨d', h1, h2, _⟩ := iX h
      have := yI.1 c6 d' (yW h1)
      rw [h2, ht] at this
      simpa using this) (fun i d h hi => by
      obtain ⟨d', h1, h2, h3, _, _, h6, _⟩ := iX h
      have := hO0 i d' h1 hi
      rwa [h2, h6, h3] at this) (fun i hi d h a ha K hK => by
      obtain ⟨d', h1, h2, h3, _, _, h6, _⟩ := iX h
      refine hP i hi d' h1 a (h6 ▸ ha) K fun s hs hp v hv => ?_
      rw [h2]; exact hK s hs hp v hv) (fun i => by simp) (fun s hs k hk => by
      rcases aAL.1 hk with h | h
      . exact .inl h
      . right
        cases e : (fJ (D s0))[piv s]? with
        | none => rw [e] at h; simp at h
        | some d => rw [e] at h; exact ⟨d, rfl, by simpa using h⟩) (fun s hs => by
      have b := hok s
      simp only [kE, yL] at b
      obtain ⟨⟨⟨_, b8⟩, b9⟩, b10⟩ := b
      have hpl : fJ (D s) = gL (D s) (mD ops []) := by unfold fJ; rw [ho s]
      have hpl0 : fJ (D s0) = gL (D s0) (mD ops []) := by unfold fJ; rw [hs0]
      have hcl : ∀ k : Nat, (((fJ (D s))[k]?).map (·.cl)).getD [] = (((fJ (D s0))[k]?).map (·.cl)).getD [] := fun k => by
        rw [hpl, hpl0]
        unfold gL
        rw [aAn, aAn]
        cases h1 : (D s)[k]? with
        | none =>
          have : (D s0)[k]? = none := by rw [zQ] at h1 ⊢; rw [<- hall s]; exact h1
          rw [this]
        | some d1 =>
          have : k < (D s0).length := by rw [<- hall s]; exact (yJ.1 h1).1
          rw [yK this]
          cases (mD ops [])[k]? <;> simp
      refine ⟨ho s, by rw [<- hcl (piv s)]; exact b8, fun k d d' h h' hk => ?_, hR s, ?_, hO s hs, fun k d h hk => (nd s k d h hk).1, by rw [hcm s]; exact hQ s hs⟩
      . obtain ⟨d1, h1, h2, h3, _, _, _, h7⟩ := iX h
        have hva := pA (hall s) (hv s) h' h1 hk
        refine ⟨by rw [<- h3, hva.1], ?_⟩
        rw [(nd s k d' h' hk).2, hcl k, h]; rfl
      . cases e : (D s)[piv s]? with
        | none => rw [e] at b9; simp at b9
        | some d => rw [e] at b9; simp at b9; simp [b9.1])
    ops.length (Array.replicate ops.length false) a (by simp [hl0, hlo]) (fun k _ => iN _ _) (fun i d _ h => by rw [iN] at h; cases h)
    (by have : (fun k => (Array.replicate ops.length false).getD k false) = fun _ => false := funext (iN _)
        rw [this, rB]; exact ha)
    (by have : ((List.range (fJ (D s0)).length).filter fun i => !(Array.replicate ops.length false).getD i false) = List.range (fJ (D s0)).length := by
          rw [zZ]; intro k _; rw [iN]; rfl
        rw [this, List.length_range, hl0, hlo])
  exact hmain
theorem iF {i j:Nat} {Dp:List Nat} {ds1 ds2:List OpD} {W1 W2:Nat->World} {m1 m2:Nat} {id:Nat} (hm:P.follows .mixedOrders=true) (ha:Has n L0 a) (h1:W1 0=w.drew) (h2:W2 0=w.drew)
  (ho:ds2.map (·.o)=ds1.map (·.o)) (hok1:kE n ds1 i [i,j] Dp=true) (hok2:kE n ds2 j [i,j] Dp=true) (hv:qB ds2 Dp=qB ds1 Dp) (hli:(ds2[j]?).map (·.li)=(ds1[j]?).map (·.li)) (hij:i≠j)
  (hR1:gC ds1 L0) (hR2:gC ds2 L0) (hO1:Obl P n (ds1.map (·.o)).toArray W1 ds1) (hO2:Obl P n (ds1.map (·.o)).toArray W2 ds2) (hc1:cnt ds1 0 (fun _=>true)=m1) (hc2:cnt ds2 0 (fun _=>true)=m2)
  (hQ1:∀ a,Has n (dR ds1 0 (fun _=>true) L0) a->Q .normal a (W1 m1)) (hQ2:∀ a,Has n (dR ds2 0 (fun _=>true) L0) a->Q .normal a (W2 m2)):(Code.region id (ds1.map (·.o)).toArray true).wp P Q a w:=by
 have opsAt:∀ (k:Nat),(ds1.map (·.o)).toArray[k]?=(ds1[k]?).map (fun d:OpD=>d.o):=fun k=>by simp
 have lo0:∀ {ds:List OpD} {i:Nat} (hok:kE n ds i [i,j] Dp=true) (k:Nat) (d:OpD),ds[k]?=some d->¬ k∈Dp->d.e=false/\d.lo=0:=fun {ds i} hok k d h hk=>by
  simp only[kE,yL] at hok;have:=yI.1 hok.2 _ (yQ.2 h:(d,k)∈ds.zipIdx);simp only[zA,yL,yR,beq_iff_eq] at this;rcases this with h | h
  .exact(hk (by simpa using h)).elim
  exact⟨h.1.1,h.1.2⟩
 have pv:∀ {ds:List OpD} {i j p:Nat} {Pv:List Nat} (hok:kE n ds p Pv Dp=true) (d:OpD),ds[p]?=some d->d.e=true/\d.lo=0:=fun {ds i j p Pv} hok d h=>by
  simp only[kE,yL] at hok;have:=hok.1.2;rw[h] at this;simpa using this
 refine oV (σ:=Bool) (C:=fun _=>True) (piv:=fun s=>if s=true then i else j) (Pv:=[i,j]) (Dp:=Dp) (D:=fun s=>if s=true then ds1 else ds2) (W:=fun s=>if s=true then W1 else W2) (m:=fun s=>if s=true then m1 else m2)
  true hm ha (by simp) rfl (fun s=>?_) (fun s=>?_) (fun s=>?_) (fun s=>?_) (fun k d h hk=>?_) (fun k hk d h a ha K hK=>?_) (fun s _=>?_) (fun s=>?_) (fun s _ a ha=>?_)
 .cases s
  .exact hok2
  exact hok1
 .cases s
  .exact ho
  rfl
 .cases s
  .exact hv
  rfl
 .cases s
  .exact hR2
  exact hR1
 .simp only[if_true] at h;obtain⟨he,hlo⟩:=lo0 hok1 k d h hk;have:=hO1.get h 0 (by omega) (by omega);rw[he,h1] at this;simpa[h1] using this
 .simp only[if_true] at h;have hk':k=i\/k=j:=by simpa using hk
  rcases hk' with rfl | rfl
  .obtain⟨he,hlo⟩:=pv (i:=k) (j:=j) hok1 d h;have hop:=hO1.get h 0 (by omega) (by omega);rw[he,h1] at hop;have hK1:=hK true trivial (by simp) d.v (by simp[h]);exact pM (by rw[opsAt,h];rfl) (by simpa using hop) ha (by simpa using hK1)
  obtain⟨d2,h2',hl2⟩:∃ d2,ds2[k]?=some d2/\d2.li=d.li:=by rw[h] at hli;exact aAh.1 hli
  have ho2:d2.o=d.o:=by
   have:=congrArg (fun l:List Oper=>l[k]?) ho;simp only[aAk,h2',h,yP,Option.some.injEq] at this;exact this
  obtain⟨he,hlo⟩:=pv (i:=i) (j:=k) hok2 d2 h2';have hop:=hO2.get h2' 0 (by omega) (by omega);rw[he,h2,ho2,hl2] at hop;have hK1:=hK false trivial (by simp) d2.v (by simp[h2']);exact pM (by rw[opsAt,h];rfl) (by simpa using hop) ha (by simpa using hK1)
 .cases s
  .exact fun i d h _=>hO2.get h
  exact fun i d h _=>hO1.get h
 .cases s
  .exact hc2
  exact hc1
 cases s
 .exact hQ2 a ha
 exact hQ1 a ha
def sS (P:Program) (n:Nat) (ops:Array Oper) (W:Nat->World) (p:Nat):Nat->List OpD->Prop
 | _,[]=>True
 | i,d::ds=>(if i==p then True else ∀ j,d.lo<=j->j<=d.hi->iJ P n ops d.o d.li d.v (W j) (W (j+if d.e=true then 1 else 0)))/\sS P n ops W p (i+1) ds
theorem sS.get {ops:Array Oper} {W:Nat->World} {p:Nat}:∀ {ds:List OpD} {b:Nat},sS P n ops W p b ds->∀ {i:Nat} {d:OpD},ds[i]?=some d->b+i≠p->∀ j,d.lo<=j->j<=d.hi->iJ P n ops d.o d.li d.v (W j) (W (j+if d.e=true then 1 else 0))
 | [],_,_,_,_,h,_=>by simp at h
 | _::_,b,h,0,_,hd,hp=>by
  simp at hd;subst hd;have h1:=h.1;have:(b==p)=false:=by simpa using hp
  rw[this] at h1;simpa using h1
 | _::_,b,h,i+1,_,hd,hp=>sS.get h.2 (i:=i) (by simpa using hd) (by omega)
end
def fR (a0:List Value) (w:World):Option ((List Value)×World) :=
 aE (mk w 40 a0) fun p1 w2 =>
 aE (mk w2 40 ([.string ByteArray.empty,.int .i64 0,.bool false,.int .i64 0,.int .i64 0,.string ByteArray.empty,.string ByteArray.empty,.bool false,.int .u8 0,.bool false,.slice none 0 0,.slice none 0 0])) fun p4 w5 =>
 (ldS w5 (p1.add 0)).bind fun v7 =>
 (ldI .i64 w5 (p1.add 1)).bind fun v9 =>
 (ldB w5 (p1.add 2)).bind fun v11 =>
 aE (mk w5 40 ([.string ByteArray.empty,.int .i64 0,.bool false,.int .i64 0,.int .i64 0,.string ByteArray.empty,.string ByteArray.empty,.bool false,.int .u8 0,.bool false,.slice none 0 0,.slice none 0 0])) fun p13 w14 =>
 (stA w14 p13 0 ([.string v7,.int .i64 v9,.bool v11,.int .i64 0,.int .i64 0,.string ByteArray.empty,.string ByteArray.empty,.bool false,.int .u8 0,.bool false,.slice none 0 0,.slice none 0 0])).bind fun w16 =>
 ((ldI .i64 w16 (p1.add 1)).bind fun v21 =>
 if (v21==1)=true then
 ((stV w16 (p13.add 3) (.int .i64 1)).bind fun w24 =>
 some w24)
 else
 (if (v21==4)=true then
 ((stV w16 (p13.add 9) (.bool true)).bind fun w27 =>
 some w27)
 else
 (some w16))).bind fun w18 =>
 (ldA 12 w18 p13 0).bind fun c29 =>
 (stA w18 p4 0 c29).bind fun w31 =>
 (ldA 12 w31 p4 0).bind fun v33 =>
 some (v33,w31)
theorem gF {a0 w w' r0} (h:fR a0 w=some (r0,w')):Calls Try.prog 55 #[(.agg (List.toArray a0))] w fun e w''=>e=.returned (.agg (List.toArray r0))/\w''=w':=by
 refine aD (n:=20) Try.func55 rfl Try.ntmps55 (by simp) fun a u=>?_;unfold fR at h;refine wp_seq<|aA<|?_;have⟨p1,w2,e3,h⟩:=bs2 h;refine q u (dP u rfl rfl e3) fun a u=>?_;have⟨p4,w5,e6,h⟩:=bs2 h;refine q u (cV wW (by kernel_rfl) e6) fun a u=>aC<|t_n<|wp_seq<|aA<|q u (aI u rfl wH rfl rfl wO) fun a u=>?_;have⟨v7,e8,h⟩:=bs1 h;refine q u (aH u rfl wQ (cJ e8)) fun a u=>q u (aI u rfl wH rfl rfl wT) fun a u=>?_;have⟨v9,e10,h⟩:=bs1 h;refine q u (aH u rfl wS (aN e10)) fun a u=>q u (aI u rfl wH rfl rfl xE) fun a u=>?_;have⟨v11,e12,h⟩:=bs1 h;refine q u (aH u rfl xZ (kO e12)) fun a u=>q u (fU (vs:=[(0,(.string v7)),(1,(iV v9)),(2,(bV v11))]) (pl:=#[(0,1),(1,1),(2,1),(3,1),(4,1),(5,1),(6,1),(7,1),(8,1),(9,1),(10,1),(11,1)]) (cs:=([.string v7,.int .i64 v9,.bool v11,.int .i64 0,.int .i64 0,.string ByteArray.empty,.string ByteArray.empty,.bool false,.int .u8 0,.bool false,.slice none 0 0,.slice none 0 0])) u ⟨rfl,rfl,rfl,rfl,rfl,rfl,aAO⟩ wW wH (by intro w;kernel_rfl) (by kernel_rfl)) fun a u=>?_;have⟨p13,w14,e15,h⟩:=bs2 h;refine q u (cV wW (by kernel_rfl) e15) fun a u=>?_;have⟨w16,e17,h⟩:=bs1 h;refine q u (dY u rfl rfl wI rfl e17) fun a u=>aC<|t_n<|?_;have⟨w18,e19,h⟩:=bs1 h;refine iD (n:=20) (L:=[(2,(pV (some p4))),(3,(pV (some p13)))]) (w':=w18) (fun a u=>?_) (fun hk20=>?_)
 .refine wp_seq<|aA<|?_;have⟨c29,e30,h⟩:=bs1 h;refine q u (bO u rfl xB wI e30) fun a u=>?_;have⟨w31,e32,h⟩:=bs1 h;refine q u (dY u rfl rfl wI ((iG e30).1) e32) fun a u=>aC<|t_n<|wp_ret<|?_;have⟨v33,e34,h⟩:=bs1 h;have y:=u;cases h;exact uL (vs:=[_]) Try.results55 y ⟨⟨_,rfl,uP xB wI e34⟩,aAO⟩ ⟨rfl,rfl⟩
 clear h;have h:=e19;refine wp_seq<|aA<|q u (aI u rfl wH rfl rfl wT) fun a u=>?_;have⟨v21,e22,h⟩:=bs1 h;refine q u (aH u rfl wS (aN e22)) fun a u=>aC<|t_n<|wp_block<|wp_seq<|aA<|q u (cF u rfl rfl) fun a u=>qa u rfl fun a u=>aC<|t_n<|?_;refine aG u rfl h (fun b23 h=>?_) (fun b23 h=>?_)
 .refine aA<|q u (aI u rfl wH rfl rfl wX) fun a u=>?_;have⟨w24,e25,h⟩:=bs1 h;refine q u (gT u rfl rfl wX e25) fun a u=>aC<|b_n<|?_;have y:=u;cases h;exact hk20 _ (y.sb rfl)
 refine wp_seq<|aA<|q u (cF u rfl rfl) fun a u=>qa u rfl fun a u=>aC<|t_n<|?_;refine aG u rfl h (fun b26 h=>?_) (fun b26 h=>?_)
 .refine aA<|q u (aI u rfl wH rfl rfl xE) fun a u=>?_;have⟨w27,e28,h⟩:=bs1 h;refine q u (gT u rfl rfl xE e28) fun a u=>aC<|b_n<|?_;have y:=u;cases h;exact hk20 _ (y.sb rfl)
 refine wp_skip<|b_n<|?_;have y:=u;cases h;exact hk20 _ (y.sb rfl)
noncomputable def gJ (a0:Option Addr) (a1:Bool) (w:World):ND (World) :=
 cb2 (lb1 (dr w) fun w5 =>
 lb1 (a0) fun p7 =>
 lb1 (ldS w5 (p7.add 0)) fun v9 =>
 lb1 (ldI .i64 w5 (p7.add 1)) fun v11 =>
 pB (lb2 (dB v9 v11 w5) fun v13 w14 =>
 lb2 (mk w14 40 ([.string ByteArray.empty,.int .i64 0,.bool false,.int .i64 0,.int .i64 0,.string ByteArray.empty,.string ByteArray.empty,.bool false,.int .u8 0,.bool false,.slice none 0 0,.slice none 0 0])) fun p16 w17 =>
 lb1 (stA w17 p16 0 v13) fun w20 =>
 nck ((v13).length=12) <|
 cB (p16,w20)) (lb2 (mk w5 40 ([.string ByteArray.empty,.int .i64 0,.bool false,.int .i64 0,.int .i64 0,.string ByteArray.empty,.string ByteArray.empty,.bool false,.int .u8 0,.bool false,.slice none 0 0,.slice none 0 0])) fun p22 w23 =>
 lb2 (dB v9 v11 w23) fun v25 w26 =>
 lb1 (stA w26 p22 0 v25) fun w29 =>
 nck ((v25).length=12) <|
 nck (ldS w23 (p7.add 0)=some v9) <|
 nck (ldI .i64 w23 (p7.add 1)=some v11) <|
 cB (p22,w29))) fun v1 w2 =>
 lb1 (stV w2 (v1.add 2) (.bool a1)) fun w33 =>
 lb1 (jD (some v1) w33) fun w35 =>
 cbX (lb1 (ldA 12 w35 v1 0) fun c43 =>
 lb2 (cX c43 w35) fun v45 w46 =>
 if v45=true then
 (lb1 (ldA 12 w46 v1 0) fun c49 =>
 lb2 (fR c49 w46) fun v51 w52 =>
 lb1 (stA w52 v1 0 v51) fun w55 =>
 nck ((v51).length=12) <|
 if (!a1)=true then
 (cb1 (cB w55) fun g42=>cB (.inl g42))
 else
 (cB (.inr w55)))
 else
 (cB (.inr w46))) fun (i:World)=>u1 i fun w37 =>
 lb1 (dr w37) fun w59 =>
 lb1 (a0) fun p61 =>
 lb1 (ldL w59 (p61.add 2)) fun v63 =>
 lb1 (ldA 12 w59 v1 0) fun c65 =>
 lb2 (bsl w59 40 12 [c65]) fun s67 w68 =>
 lb2 (bsl w68 22 1 [[(Sl.v s67)]]) fun s70 w71 =>
 lb2 (apS Try.prog 47 v63 s70 w71) fun s73 w74 =>
 lb1 (stV w74 (p61.add 2) (Sl.v s73)) fun w76 =>
 nck (ldL w68 (p61.add 2)=some v63) <|
 nck (ldL w71 (p61.add 2)=some v63) <|
 cB w76
theorem jJ {a0 a1 w Q} (h:(gJ a0 a1 w).t Q):Calls Try.prog 56 #[(.pointer a0),(.bool a1),(.func (.func 53) #[] #[])] w fun e w''=>∃ i,e=.returned (.tuple #[])/\Q i/\w''=i:=by
 refine aD (n:=37) Try.func56 rfl Try.ntmps56 (by simp) fun a u=>?_;unfold gJ at h;refine wp_seq<|?_;refine fX (n:=37) (ι:=Addr×World) (Lf:=fun i=>[(6,(pV (some i.1))),(0,(pV a0)),(1,(bV a1)),(2,(.func (.func 53) #[] #[]))]) (wf:=fun i=>i.2) (un2 h) (fun i h a u=>?_) (fun h hk4=>?_)
 .obtain⟨v1,w2⟩:=i;have u:Has 37 [(6,(pV (some v1))),(0,(pV a0)),(1,(bV a1)),(2,(.func (.func 53) #[] #[]))] a:=u;refine t_n<|wp_seq<|aA<|qm u rfl fun a u=>q u (aI u rfl wH rfl rfl xE) fun a u=>?_;obtain⟨w33,e34,h⟩:=h;refine q u (gT u rfl rfl xE e34) fun a u=>aC<|t_n<|wp_seq<|aA<|qm u rfl fun a u=>?_;obtain⟨w35,e36,h⟩:=h;refine q u (eG (xs:=[_]) (vs:=[(pV (some v1))]) (cv:=[]) u rfl ⟨rfl,aAO⟩ Try.call53 (lL e36)) fun a u=>aC<|t_n<|?_;refine iY (n:=37) (ι:=World) (Lf:=fun i=>[(0,(pV a0)),(6,(pV (some v1)))]) (wf:=fun i=>i) (unX h) (fun i h a u=>?_) (fun h hk41=>?_)
  .obtain⟨w37,rfl⟩:∃ x,x=i:=⟨i,rfl⟩
   try dsimp only[Sum.elim_inl,Sum.elim_inr,u1,u2,u3,u4,u5,u6] at h
   have u:Has 37 [(0,(pV a0)),(6,(pV (some v1)))] a:=u;obtain⟨w59,e60,h⟩:=h;obtain⟨p61,e62,h⟩:=h;obtain⟨v63,e64,h⟩:=h;obtain⟨c65,e66,h⟩:=h;obtain⟨s67,w68,e69,h⟩:=h;obtain⟨s70,w71,e72,h⟩:=h;obtain⟨s73,w74,e75,h⟩:=h;obtain⟨w76,e77,h⟩:=h;obtain⟨e78,h⟩:=h;obtain⟨e79,h⟩:=h;have u:Has 37 [(0,(pV a0)),(6,(pV (some v1)))] a:=u.sb rfl;refine cC (n:=37) (ds:=(aL (pV a0) false 0 3 [] [(0,(pV a0))]::aL (pV a0) false 0 2 [] [(0,(pV a0))]::aL (pV (some p61)) false 0 2 [1] [(27,(pV a0))]::aL (pV (some (p61.add 2))) false 0 2 [1,2] [(28,(pV (some p61)))]::aL (Sl.v v63) false 0 2 [1,2,3] [(29,(pV (some (p61.add 2))))]::bA (.agg (List.toArray c65)) 0 [] 6 (pV (some v1))::aL (Sl.v s67) true 0 0 [5] [(31,(.agg (List.toArray c65)))]::aL (Sl.v s70) true 1 1 [5,6] [(32,(Sl.v s67))]::aL (Sl.v s73) true 2 2 (rn 1 7) [(30,(Sl.v v63)),(33,(Sl.v s70))]::bA (pV (some p61)) 3 (rn 0 9) 26 (pV a0)::bA (pV (some (p61.add 2))) 3 (rn 0 10) 35 (pV (some p61))::aL (undef) true 3 3 (rn 0 11) [(36,(pV (some (p61.add 2)))),(34,(Sl.v s73))]::[])) (W:=(fun j=>match j with | 0=>w59 | 1=>w68 | 2=>w71 | 3=>w74 | 4=>w76 | _=>w76)) (by kernel_rfl) u (gV e60) (by kernel_rfl) ?_ (bP (by kernel_rfl)) (by kernel_rfl) (m:=4) (by kernel_rfl) (fun a u=>?_)
   .refine⟨oa (aF · rfl),oa (aF · rfl),oa (bN · rfl e62),oa (aI · rfl wL rfl rfl xC),?_,oc 0 (kd (bO · rfl xB wI e66)),oc 0 (kd (gU (vs:=[(0,(.agg (List.toArray c65)))]) (ps:=[c65]) · ⟨rfl,rfl,aAO⟩ ⟨rfl,rfl,aAO⟩ rfl wJ wI wW (by decide) e69)),oc 1 (kd (gU (vs:=[(0,(Sl.v s67))]) (ps:=[[(Sl.v s67)]]) · ⟨rfl,rfl,aAO⟩ ⟨rfl,rfl,aAO⟩ rfl wP xI xY (by decide) e72)),oc 2 (kd (jR · rfl rfl e75)),oa (bN · rfl e62),oa (aI · rfl wL rfl rfl xC),oc 3 (kd (gT · rfl rfl xC e77)),aAO⟩;intro j h1 h2;have h1:0<=j:=h1;have h2:j<=2:=h2;rcases(by omega:j=0\/j=1\/j=2) with rfl | rfl | rfl
    .exact kd (aH · rfl xJ (bT e64))
    .exact kd (aH · rfl xJ (bT e78))
    exact kd (aH · rfl xJ (bT e79))
   have u:Has 37 [] a:=u.sb rfl;exact mM Try.results56 u ⟨w76,rfl,h,rfl⟩
  refine wp_seq<|aA<|?_;obtain⟨c43,e44,h⟩:=h;refine q u (bO u rfl xB wI e44) fun a u=>?_;obtain⟨v45,w46,e47,h⟩:=h;refine q u (dc1 u rfl Try.call41 (eK e47)) fun a u=>aC<|t_n<|?_;refine cA u rfl h (fun b48 h=>?_) (fun b48 h=>?_)
  .refine wp_seq<|aA<|?_;obtain⟨c49,e50,h⟩:=h;refine q u (bO u rfl xB wI e50) fun a u=>?_;obtain⟨v51,w52,e53,h⟩:=h;refine q u (dc1 u rfl Try.call55 (gF e53)) fun a u=>?_;obtain⟨w55,e56,h⟩:=h;obtain⟨e54,h⟩:=h;refine q u (dY u rfl rfl wI e54 e56) fun a u=>aC<|t_n<|wp_seq<|aA<|qm u rfl fun a u=>q u (eY u rfl) fun a u=>aC<|t_n<|?_;refine cA u rfl h (fun b57 h=>?_) (fun b57 h=>?_)
   .refine wp_ret<|?_;have h:=unL h;refine t_r<|?_;exact oG Try.results56 u ⟨w55,rfl,h,rfl⟩
   refine wp_skip<|?_;exact hk41 w55 h _ (u.sb rfl)
  refine wp_skip<|?_;exact hk41 w46 h _ (u.sb rfl)
 obtain⟨w5,e6,h⟩:=h;obtain⟨p7,e8,h⟩:=h;obtain⟨v9,e10,h⟩:=h;obtain⟨v11,e12,h⟩:=h;obtain⟨h,hB⟩:=h;obtain⟨v13,w14,e15,h⟩:=h;obtain⟨p16,w17,e18,h⟩:=h;obtain⟨w20,e21,h⟩:=h;obtain⟨e19,h⟩:=h;have hA:=h;have h:=hB;obtain⟨p22,w23,e24,h⟩:=h;obtain⟨v25,w26,e27,h⟩:=h;obtain⟨w29,e30,h⟩:=h;obtain⟨e28,h⟩:=h;obtain⟨e31,h⟩:=h;obtain⟨e32,h⟩:=h;have hB:=h;have u:Has 37 [(0,(pV a0)),(1,(bV a1)),(2,(.func (.func 53) #[] #[]))] a:=u.sb rfl;refine iF (n:=37) (i:=8) (j:=9) (Dp:=[8,9,10]) (ds1:=(eD (pV a0) 0 [] 0::bA (pV (some p7)) 0 [0] 7 (pV a0)::bA (pV (some (p7.add 0))) 0 [1,0] 8 (pV (some p7))::bA (.string v9) 0 [2,1,0] 9 (pV (some (p7.add 0)))::eD (pV a0) 0 [] 0::bA (pV (some p7)) 0 [4] 11 (pV a0)::bA (pV (some (p7.add 1))) 0 [5,4] 12 (pV (some p7))::bA (iV v11) 0 [6,5,4] 13 (pV (some (p7.add 1)))::aL (.agg (List.toArray v13)) true 0 0 (rn 0 8) [(10,(.string v9)),(14,(iV v11))]::aL (pV (some p16)) true 1 1 (rn 0 9) []::aL (undef) true 2 2 (rn 0 10) [(6,(pV (some p16))),(15,(.agg (List.toArray v13)))]::[])) (ds2:=(aL (pV a0) false 0 1 [] [(0,(pV a0))]::aL (pV (some p7)) false 0 1 [0] [(7,(pV a0))]::aL (pV (some (p7.add 0))) false 0 1 [1,0] [(8,(pV (some p7)))]::aL (.string v9) false 0 1 [2,1,0] [(9,(pV (some (p7.add 0))))]::aL (pV a0) false 0 1 [] [(0,(pV a0))]::aL (pV (some p7)) false 0 1 [4] [(11,(pV a0))]::aL (pV (some (p7.add 1))) false 0 1 [5,4] [(12,(pV (some p7)))]::aL (iV v11) false 0 1 [6,5,4] [(13,(pV (some (p7.add 1))))]::aL (.agg (List.toArray v25)) true 1 1 (rn 0 8++[9]) [(10,(.string v9)),(14,(iV v11))]::aL (pV (some p22)) true 0 0 [] []::aL (undef) true 2 2 (rn 0 10) [(6,(pV (some p22))),(15,(.agg (List.toArray v25)))]::[])) (W1:=(fun j=>match j with | 0=>w5 | 1=>w14 | 2=>w17 | 3=>w20 | _=>w20)) (W2:=(fun j=>match j with | 0=>w5 | 1=>w23 | 2=>w26 | 3=>w29 | _=>w29)) (m1:=3) (m2:=3) (by kernel_rfl) u (gV e6) (gV e6) rfl (by kernel_rfl) (by kernel_rfl) rfl rfl (by decide) (bP (by kernel_rfl)) (bP (by kernel_rfl)) ?_ ?_ (by kernel_rfl) (by kernel_rfl) (fun a u=>?_) (fun a u=>?_)
 .exact⟨oa (aF · rfl),oa (bN · rfl e8),oa (aI · rfl wL rfl rfl wO),oc 0 (kd (aH · rfl wQ (cJ e10))),oa (aF · rfl),oa (bN · rfl e8),oa (aI · rfl wL rfl rfl wT),oc 0 (kd (aH · rfl wS (aN e12))),oc 0 (kd (dc2 · rfl rfl Try.call78 (dO e15))),oc 1 (kd fun {a} u=>cV wW (by kernel_rfl) e18),oc 2 (kd (dY · rfl rfl wI e19 e21)),aAO⟩
 .refine⟨oa (aF · rfl),oa (bN · rfl e8),oa (aI · rfl wL rfl rfl wO),?_,oa (aF · rfl),oa (bN · rfl e8),oa (aI · rfl wL rfl rfl wT),?_,oc 1 (kd (dc2 · rfl rfl Try.call78 (dO e27))),oc 0 (kd fun {a} u=>cV wW (by kernel_rfl) e24),oc 2 (kd (dY · rfl rfl wI e28 e30)),aAO⟩
  .intro j h1 h2;have h1:0<=j:=h1;have h2:j<=1:=h2;rcases(by omega:j=0\/j=1) with rfl | rfl
   .exact kd (aH · rfl wQ (cJ e10))
   exact kd (aH · rfl wQ (cJ e31))
  intro j h1 h2;have h1:0<=j:=h1;have h2:j<=1:=h2;rcases(by omega:j=0\/j=1) with rfl | rfl
  .exact kd (aH · rfl wS (aN e12))
  exact kd (aH · rfl wS (aN e32))
 .have h:=hA;have u:Has 37 [(0,(pV a0)),(1,(bV a1)),(2,(.func (.func 53) #[] #[])),(6,(pV (some p16)))] a:=u.sb rfl;exact hk4 (p16,w20) h _ (u.sb rfl)
 have h:=hB;have u:Has 37 [(0,(pV a0)),(1,(bV a1)),(2,(.func (.func 53) #[] #[])),(6,(pV (some p22)))] a:=u.sb rfl;exact hk4 (p22,w29) h _ (u.sb rfl)
noncomputable def iZ (a0:Option Addr) (w:World):Option (World) :=
 (a0).bind fun p1 =>
 (ldA 12 w p1 0).bind fun c3 =>
 aE (fR c3 w) fun v5 w6 =>
 (stA w6 p1 0 v5).bind fun w9 =>
 chk ((v5).length=12) <|
 some w9
theorem lM {a0 w w'} (h:iZ a0 w=some w'):Calls Try.prog 54 #[(.pointer a0)] w fun e w''=>e=.returned (.tuple #[])/\w''=w':=by
 refine aD (n:=8) Try.func54 rfl Try.ntmps54 (by simp) fun a u=>?_;unfold iZ at h;refine aA<|qm u rfl fun a u=>qm u rfl fun a u=>?_;have⟨p1,e2,h⟩:=bs1 h;refine q u (bN u rfl e2) fun a u=>?_;have⟨c3,e4,h⟩:=bs1 h;refine q u (bO u rfl xB wI e4) fun a u=>?_;have⟨v5,w6,e7,h⟩:=bs2 h;refine q u (dc1 u rfl Try.call55 (gF e7)) fun a u=>q u (bN u rfl e2) fun a u=>?_;have⟨w9,e10,h⟩:=bs1 h;obtain⟨e8,h⟩:=cZ h;refine q u (dY u rfl rfl wI e8 e10) fun a u=>aC<|?_;have y:=u;cases h;exact mM Try.results54 y ⟨rfl,rfl⟩
noncomputable def gK (a0:Option Addr) (a1:Bool) (w:World):ND (World) :=
 cb2 (lb1 (dr w) fun w5 =>
 lb1 (a0) fun p7 =>
 lb1 (ldS w5 (p7.add 0)) fun v9 =>
 lb1 (ldI .i64 w5 (p7.add 1)) fun v11 =>
 pB (lb2 (dB v9 v11 w5) fun v13 w14 =>
 lb2 (mk w14 40 ([.string ByteArray.empty,.int .i64 0,.bool false,.int .i64 0,.int .i64 0,.string ByteArray.empty,.string ByteArray.empty,.bool false,.int .u8 0,.bool false,.slice none 0 0,.slice none 0 0])) fun p16 w17 =>
 lb1 (stA w17 p16 0 v13) fun w20 =>
 nck ((v13).length=12) <|
 cB (p16,w20)) (lb2 (mk w5 40 ([.string ByteArray.empty,.int .i64 0,.bool false,.int .i64 0,.int .i64 0,.string ByteArray.empty,.string ByteArray.empty,.bool false,.int .u8 0,.bool false,.slice none 0 0,.slice none 0 0])) fun p22 w23 =>
 lb2 (dB v9 v11 w23) fun v25 w26 =>
 lb1 (stA w26 p22 0 v25) fun w29 =>
 nck ((v25).length=12) <|
 nck (ldS w23 (p7.add 0)=some v9) <|
 nck (ldI .i64 w23 (p7.add 1)=some v11) <|
 cB (p22,w29))) fun v1 w2 =>
 lb1 (stV w2 (v1.add 2) (.bool a1)) fun w33 =>
 lb1 (iZ (some v1) w33) fun w35 =>
 cbX (lb1 (ldA 12 w35 v1 0) fun c43 =>
 lb2 (cX c43 w35) fun v45 w46 =>
 if v45=true then
 (lb1 (ldA 12 w46 v1 0) fun c49 =>
 lb2 (fR c49 w46) fun v51 w52 =>
 lb1 (stA w52 v1 0 v51) fun w55 =>
 nck ((v51).length=12) <|
 if (!a1)=true then
 (cb1 (cB w55) fun g42=>cB (.inl g42))
 else
 (cB (.inr w55)))
 else
 (cB (.inr w46))) fun (i:World)=>u1 i fun w37 =>
 lb1 (dr w37) fun w59 =>
 lb1 (a0) fun p61 =>
 lb1 (ldL w59 (p61.add 2)) fun v63 =>
 lb1 (ldA 12 w59 v1 0) fun c65 =>
 lb2 (bsl w59 40 12 [c65]) fun s67 w68 =>
 lb2 (bsl w68 22 1 [[(Sl.v s67)]]) fun s70 w71 =>
 lb2 (apS Try.prog 47 v63 s70 w71) fun s73 w74 =>
 lb1 (stV w74 (p61.add 2) (Sl.v s73)) fun w76 =>
 nck (ldL w68 (p61.add 2)=some v63) <|
 nck (ldL w71 (p61.add 2)=some v63) <|
 cB w76
theorem jK {a0 a1 w Q} (h:(gK a0 a1 w).t Q):Calls Try.prog 56 #[(.pointer a0),(.bool a1),(.func (.func 54) #[] #[])] w fun e w''=>∃ i,e=.returned (.tuple #[])/\Q i/\w''=i:=by
 refine aD (n:=37) Try.func56 rfl Try.ntmps56 (by simp) fun a u=>?_;unfold gK at h;refine wp_seq<|?_;refine fX (n:=37) (ι:=Addr×World) (Lf:=fun i=>[(6,(pV (some i.1))),(0,(pV a0)),(1,(bV a1)),(2,(.func (.func 54) #[] #[]))]) (wf:=fun i=>i.2) (un2 h) (fun i h a u=>?_) (fun h hk4=>?_)
 .obtain⟨v1,w2⟩:=i;have u:Has 37 [(6,(pV (some v1))),(0,(pV a0)),(1,(bV a1)),(2,(.func (.func 54) #[] #[]))] a:=u;refine t_n<|wp_seq<|aA<|qm u rfl fun a u=>q u (aI u rfl wH rfl rfl xE) fun a u=>?_;obtain⟨w33,e34,h⟩:=h;refine q u (gT u rfl rfl xE e34) fun a u=>aC<|t_n<|wp_seq<|aA<|qm u rfl fun a u=>?_;obtain⟨w35,e36,h⟩:=h;refine q u (eG (xs:=[_]) (vs:=[(pV (some v1))]) (cv:=[]) u rfl ⟨rfl,aAO⟩ Try.call54 (lM e36)) fun a u=>aC<|t_n<|?_;refine iY (n:=37) (ι:=World) (Lf:=fun i=>[(0,(pV a0)),(6,(pV (some v1)))]) (wf:=fun i=>i) (unX h) (fun i h a u=>?_) (fun h hk41=>?_)
  .obtain⟨w37,rfl⟩:∃ x,x=i:=⟨i,rfl⟩
   try dsimp only[Sum.elim_inl,Sum.elim_inr,u1,u2,u3,u4,u5,u6] at h
   have u:Has 37 [(0,(pV a0)),(6,(pV (some v1)))] a:=u;obtain⟨w59,e60,h⟩:=h;obtain⟨p61,e62,h⟩:=h;obtain⟨v63,e64,h⟩:=h;obtain⟨c65,e66,h⟩:=h;obtain⟨s67,w68,e69,h⟩:=h;obtain⟨s70,w71,e72,h⟩:=h;obtain⟨s73,w74,e75,h⟩:=h;obtain⟨w76,e77,h⟩:=h;obtain⟨e78,h⟩:=h;obtain⟨e79,h⟩:=h;have u:Has 37 [(0,(pV a0)),(6,(pV (some v1)))] a:=u.sb rfl;refine cC (n:=37) (ds:=(aL (pV a0) false 0 3 [] [(0,(pV a0))]::aL (pV a0) false 0 2 [] [(0,(pV a0))]::aL (pV (some p61)) false 0 2 [1] [(27,(pV a0))]::aL (pV (some (p61.add 2))) false 0 2 [1,2] [(28,(pV (some p61)))]::aL (Sl.v v63) false 0 2 [1,2,3] [(29,(pV (some (p61.add 2))))]::bA (.agg (List.toArray c65)) 0 [] 6 (pV (some v1))::aL (Sl.v s67) true 0 0 [5] [(31,(.agg (List.toArray c65)))]::aL (Sl.v s70) true 1 1 [5,6] [(32,(Sl.v s67))]::aL (Sl.v s73) true 2 2 (rn 1 7) [(30,(Sl.v v63)),(33,(Sl.v s70))]::bA (pV (some p61)) 3 (rn 0 9) 26 (pV a0)::bA (pV (some (p61.add 2))) 3 (rn 0 10) 35 (pV (some p61))::aL (undef) true 3 3 (rn 0 11) [(36,(pV (some (p61.add 2)))),(34,(Sl.v s73))]::[])) (W:=(fun j=>match j with | 0=>w59 | 1=>w68 | 2=>w71 | 3=>w74 | 4=>w76 | _=>w76)) (by kernel_rfl) u (gV e60) (by kernel_rfl) ?_ (bP (by kernel_rfl)) (by kernel_rfl) (m:=4) (by kernel_rfl) (fun a u=>?_)
   .refine⟨oa (aF · rfl),oa (aF · rfl),oa (bN · rfl e62),oa (aI · rfl wL rfl rfl xC),?_,oc 0 (kd (bO · rfl xB wI e66)),oc 0 (kd (gU (vs:=[(0,(.agg (List.toArray c65)))]) (ps:=[c65]) · ⟨rfl,rfl,aAO⟩ ⟨rfl,rfl,aAO⟩ rfl wJ wI wW (by decide) e69)),oc 1 (kd (gU (vs:=[(0,(Sl.v s67))]) (ps:=[[(Sl.v s67)]]) · ⟨rfl,rfl,aAO⟩ ⟨rfl,rfl,aAO⟩ rfl wP xI xY (by decide) e72)),oc 2 (kd (jR · rfl rfl e75)),oa (bN · rfl e62),oa (aI · rfl wL rfl rfl xC),oc 3 (kd (gT · rfl rfl xC e77)),aAO⟩;intro j h1 h2;have h1:0<=j:=h1;have h2:j<=2:=h2;rcases(by omega:j=0\/j=1\/j=2) with rfl | rfl | rfl
    .exact kd (aH · rfl xJ (bT e64))
    .exact kd (aH · rfl xJ (bT e78))
    exact kd (aH · rfl xJ (bT e79))
   have u:Has 37 [] a:=u.sb rfl;exact mM Try.results56 u ⟨w76,rfl,h,rfl⟩
  refine wp_seq<|aA<|?_;obtain⟨c43,e44,h⟩:=h;refine q u (bO u rfl xB wI e44) fun a u=>?_;obtain⟨v45,w46,e47,h⟩:=h;refine q u (dc1 u rfl Try.call41 (eK e47)) fun a u=>aC<|t_n<|?_;refine cA u rfl h (fun b48 h=>?_) (fun b48 h=>?_)
  .refine wp_seq<|aA<|?_;obtain⟨c49,e50,h⟩:=h;refine q u (bO u rfl xB wI e50) fun a u=>?_;obtain⟨v51,w52,e53,h⟩:=h;refine q u (dc1 u rfl Try.call55 (gF e53)) fun a u=>?_;obtain⟨w55,e56,h⟩:=h;obtain⟨e54,h⟩:=h;refine q u (dY u rfl rfl wI e54 e56) fun a u=>aC<|t_n<|wp_seq<|aA<|qm u rfl fun a u=>q u (eY u rfl) fun a u=>aC<|t_n<|?_;refine cA u rfl h (fun b57 h=>?_) (fun b57 h=>?_)
   .refine wp_ret<|?_;have h:=unL h;refine t_r<|?_;exact oG Try.results56 u ⟨w55,rfl,h,rfl⟩
   refine wp_skip<|?_;exact hk41 w55 h _ (u.sb rfl)
  refine wp_skip<|?_;exact hk41 w46 h _ (u.sb rfl)
 obtain⟨w5,e6,h⟩:=h;obtain⟨p7,e8,h⟩:=h;obtain⟨v9,e10,h⟩:=h;obtain⟨v11,e12,h⟩:=h;obtain⟨h,hB⟩:=h;obtain⟨v13,w14,e15,h⟩:=h;obtain⟨p16,w17,e18,h⟩:=h;obtain⟨w20,e21,h⟩:=h;obtain⟨e19,h⟩:=h;have hA:=h;have h:=hB;obtain⟨p22,w23,e24,h⟩:=h;obtain⟨v25,w26,e27,h⟩:=h;obtain⟨w29,e30,h⟩:=h;obtain⟨e28,h⟩:=h;obtain⟨e31,h⟩:=h;obtain⟨e32,h⟩:=h;have hB:=h;have u:Has 37 [(0,(pV a0)),(1,(bV a1)),(2,(.func (.func 54) #[] #[]))] a:=u.sb rfl;refine iF (n:=37) (i:=8) (j:=9) (Dp:=[8,9,10]) (ds1:=(eD (pV a0) 0 [] 0::bA (pV (some p7)) 0 [0] 7 (pV a0)::bA (pV (some (p7.add 0))) 0 [1,0] 8 (pV (some p7))::bA (.string v9) 0 [2,1,0] 9 (pV (some (p7.add 0)))::eD (pV a0) 0 [] 0::bA (pV (some p7)) 0 [4] 11 (pV a0)::bA (pV (some (p7.add 1))) 0 [5,4] 12 (pV (some p7))::bA (iV v11) 0 [6,5,4] 13 (pV (some (p7.add 1)))::aL (.agg (List.toArray v13)) true 0 0 (rn 0 8) [(10,(.string v9)),(14,(iV v11))]::aL (pV (some p16)) true 1 1 (rn 0 9) []::aL (undef) true 2 2 (rn 0 10) [(6,(pV (some p16))),(15,(.agg (List.toArray v13)))]::[])) (ds2:=(aL (pV a0) false 0 1 [] [(0,(pV a0))]::aL (pV (some p7)) false 0 1 [0] [(7,(pV a0))]::aL (pV (some (p7.add 0))) false 0 1 [1,0] [(8,(pV (some p7)))]::aL (.string v9) false 0 1 [2,1,0] [(9,(pV (some (p7.add 0))))]::aL (pV a0) false 0 1 [] [(0,(pV a0))]::aL (pV (some p7)) false 0 1 [4] [(11,(pV a0))]::aL (pV (some (p7.add 1))) false 0 1 [5,4] [(12,(pV (some p7)))]::aL (iV v11) false 0 1 [6,5,4] [(13,(pV (some (p7.add 1))))]::aL (.agg (List.toArray v25)) true 1 1 (rn 0 8++[9]) [(10,(.string v9)),(14,(iV v11))]::aL (pV (some p22)) true 0 0 [] []::aL (undef) true 2 2 (rn 0 10) [(6,(pV (some p22))),(15,(.agg (List.toArray v25)))]::[])) (W1:=(fun j=>match j with | 0=>w5 | 1=>w14 | 2=>w17 | 3=>w20 | _=>w20)) (W2:=(fun j=>match j with | 0=>w5 | 1=>w23 | 2=>w26 | 3=>w29 | _=>w29)) (m1:=3) (m2:=3) (by kernel_rfl) u (gV e6) (gV e6) rfl (by kernel_rfl) (by kernel_rfl) rfl rfl (by decide) (bP (by kernel_rfl)) (bP (by kernel_rfl)) ?_ ?_ (by kernel_rfl) (by kernel_rfl) (fun a u=>?_) (fun a u=>?_)
 .exact⟨oa (aF · rfl),oa (bN · rfl e8),oa (aI · rfl wL rfl rfl wO),oc 0 (kd (aH · rfl wQ (cJ e10))),oa (aF · rfl),oa (bN · rfl e8),oa (aI · rfl wL rfl rfl wT),oc 0 (kd (aH · rfl wS (aN e12))),oc 0 (kd (dc2 · rfl rfl Try.call78 (dO e15))),oc 1 (kd fun {a} u=>cV wW (by kernel_rfl) e18),oc 2 (kd (dY · rfl rfl wI e19 e21)),aAO⟩
 .refine⟨oa (aF · rfl),oa (bN · rfl e8),oa (aI · rfl wL rfl rfl wO),?_,oa (aF · rfl),oa (bN · rfl e8),oa (aI · rfl wL rfl rfl wT),?_,oc 1 (kd (dc2 · rfl rfl Try.call78 (dO e27))),oc 0 (kd fun {a} u=>cV wW (by kernel_rfl) e24),oc 2 (kd (dY · rfl rfl wI e28 e30)),aAO⟩
  .intro j h1 h2;have h1:0<=j:=h1;have h2:j<=1:=h2;rcases(by omega:j=0\/j=1) with rfl | rfl
   .exact kd (aH · rfl wQ (cJ e10))
   exact kd (aH · rfl wQ (cJ e31))
  intro j h1 h2;have h1:0<=j:=h1;have h2:j<=1:=h2;rcases(by omega:j=0\/j=1) with rfl | rfl
  .exact kd (aH · rfl wS (aN e12))
  exact kd (aH · rfl wS (aN e32))
 .have h:=hA;have u:Has 37 [(0,(pV a0)),(1,(bV a1)),(2,(.func (.func 54) #[] #[])),(6,(pV (some p16)))] a:=u.sb rfl;exact hk4 (p16,w20) h _ (u.sb rfl)
 have h:=hB;have u:Has 37 [(0,(pV a0)),(1,(bV a1)),(2,(.func (.func 54) #[] #[])),(6,(pV (some p22)))] a:=u.sb rfl;exact hk4 (p22,w29) h _ (u.sb rfl)
noncomputable def dW (a0:List Value) (a1:Int) (w:World):Option (Addr×Addr×World) :=
 aE (mk w 55 a0) fun p1 w2 =>
 aE (mk w2 2 ([(.int .i64 a1)])) fun p4 w5 =>
 some (p1,p4,w5)
theorem fL {a0 a1 w w' r0_0 r0_1} (h:dW a0 a1 w=some (r0_0,r0_1,w')):Calls Try.prog 62 #[(.agg (List.toArray a0)),(.int .i64 a1)] w fun e w''=>e=.returned (.func (.func 82) #[] #[(.pointer (some r0_0)),(.pointer (some r0_1))])/\w''=w':=by
 refine aD (n:=6) Try.func62 rfl Try.ntmps62 (by simp) fun a u=>?_;unfold dW at h;refine wp_seq<|aA<|?_;have⟨p1,w2,e3,h⟩:=bs2 h;refine q u (dP u rfl rfl e3) fun a u=>?_;have⟨p4,w5,e6,h⟩:=bs2 h;refine q u (dP u rfl rfl e6) fun a u=>qa u rfl fun a u=>aC<|t_n<|wp_seq<|aA<|q u (jU (vs:=[(pV (some p1)),(pV (some p4))]) u ⟨rfl,rfl,aAO⟩) fun a u=>qa u rfl fun a u=>aC<|t_n<|wp_ret<|?_;have y:=u;cases h;exact aY Try.results62 y rfl ⟨rfl,rfl⟩
noncomputable def fB (a0:Option Addr) (a1:Addr) (a2:Addr) (w:World):Option (World) :=
 (a0).bind fun p1 =>
 (stV w (p1.add 7) (.bool false)).bind fun w3 =>
 (ldS w3 (a1.add 2)).bind fun v5 =>
 (stV w3 (p1.add 6) (.string v5)).bind fun w7 =>
 ((ldI .i64 w7 a2).bind fun v12 =>
 if (v12==1)=true then
 ((ldS w7 (p1.add 6)).bind fun v15 =>
 (sR v15 (ByteArray.mk #[0])).bind fun s17 =>
 (stV w7 (p1.add 6) (.string s17)).bind fun w19 =>
 some w19)
 else
 (some w7)).bind fun w9 =>
 (ldI .i64 w9 (p1.add 1)).bind fun v21 =>
 if (v21 !=1)=true then
 (some w9)
 else
 ((stV w9 (p1.add 6) (.string (ByteArray.mk #[]))).bind fun w24 =>
 (ldI .i64 w24 (a1.add 1)).bind fun v26 =>
 (stV w24 (p1.add 4) (.int .i64 v26)).bind fun w28 =>
 (ldI .i64 w28 a2).bind fun v30 =>
 if (v30==0)=true then
 ((ldI .i64 w28 (p1.add 4)).bind fun v33 =>
 (stV w28 (p1.add 4) (.int .i64 (IntKind.wrap .i64 (v33-1)))).bind fun w35 =>
 (ldI .i64 w35 (a1.add 1)).bind fun v37 =>
 if (v37==(-9223372036854775808))=true then
 ((stV w35 (p1.add 3) (.int .i64 1)).bind fun w40 =>
 (stV w40 (p1.add 4) (.int .i64 0)).bind fun w42 =>
 some w42)
 else
 (some w35))
 else
 (some w28))
theorem lG {a0 a1 a2 w w'} (h:fB a0 a1 a2 w=some w'):Calls Try.prog 82 #[(.pointer a0),(.pointer (some a1)),(.pointer (some a2))] w fun e w''=>e=.returned (.tuple #[])/\w''=w':=by
 refine aD (n:=52) Try.func82 rfl Try.ntmps82 (by simp) fun a u=>?_;unfold fB at h;refine wp_seq<|aA<|qm u rfl fun a u=>?_;have⟨p1,e2,h⟩:=bs1 h;refine q u (bN u rfl e2) fun a u=>q u (aI u rfl wH rfl rfl xE) fun a u=>?_;have⟨w3,e4,h⟩:=bs1 h;refine q u (gT u rfl rfl xE e4) fun a u=>aC<|t_n<|wp_seq<|aA<|qm u rfl fun a u=>q u (aI u rfl wZ rfl rfl wO) fun a u=>?_;have⟨v5,e6,h⟩:=bs1 h;refine q u (aH u rfl wQ (cJ e6)) fun a u=>q u (bN u rfl e2) fun a u=>q u (aI u rfl wH rfl rfl wO) fun a u=>?_;have⟨w7,e8,h⟩:=bs1 h;refine q u (gT u rfl rfl wO e8) fun a u=>aC<|t_n<|?_;have⟨w9,e10,h⟩:=bs1 h;refine iD (n:=52) (L:=[(0,(pV a0)),(1,(pV (some a1))),(2,(pV (some a2)))]) (w':=w9) (fun a u=>?_) (fun hk11=>?_)
 .refine wp_seq<|wp_seq<|aA<|qm u rfl fun a u=>q u (bN u rfl e2) fun a u=>q u (aI u rfl wH rfl rfl wT) fun a u=>?_;have⟨v21,e22,h⟩:=bs1 h;refine q u (aH u rfl wS (aN e22)) fun a u=>q u (kJ u rfl rfl) fun a u=>aC<|t_n<|?_;refine aG u rfl h (fun b23 h=>?_) (fun b23 h=>?_)
  .refine wp_ret<|t_r<|?_;have y:=u;cases h;exact oG Try.results82 y ⟨rfl,rfl⟩
  refine wp_skip<|t_n<|wp_seq<|aA<|qm u rfl fun a u=>q u (bN u rfl e2) fun a u=>q u (aI u rfl wH rfl rfl wO) fun a u=>?_;have⟨w24,e25,h⟩:=bs1 h;refine q u (gT u rfl rfl wO e25) fun a u=>aC<|t_n<|wp_seq<|aA<|qm u rfl fun a u=>q u (aI u rfl wZ rfl rfl wX) fun a u=>?_;have⟨v26,e27,h⟩:=bs1 h;refine q u (aH u rfl xT (aN e27)) fun a u=>q u (bN u rfl e2) fun a u=>q u (aI u rfl wH rfl rfl wX) fun a u=>?_;have⟨w28,e29,h⟩:=bs1 h;refine q u (gT u rfl rfl wX e29) fun a u=>aC<|t_n<|wp_seq<|aA<|?_;have⟨v30,e31,h⟩:=bs1 h;refine q u (aH u rfl xT (aN e31)) fun a u=>q u (cF u rfl rfl) fun a u=>aC<|t_n<|?_;refine aG u rfl h (fun b32 h=>?_) (fun b32 h=>?_)
  .refine wp_seq<|aA<|qm u rfl fun a u=>q u (bN u rfl e2) fun a u=>q u (aI u rfl wH rfl rfl wX) fun a u=>?_;have⟨v33,e34,h⟩:=bs1 h;refine q u (aH u rfl xT (aN e34)) fun a u=>q u (jO u rfl rfl) fun a u=>q u (bN u rfl e2) fun a u=>q u (aI u rfl wH rfl rfl wX) fun a u=>?_;have⟨w35,e36,h⟩:=bs1 h;refine q u (gT u rfl rfl wX e36) fun a u=>aC<|t_n<|wp_seq<|aA<|q u (aI u rfl wZ rfl rfl wX) fun a u=>?_;have⟨v37,e38,h⟩:=bs1 h;refine q u (aH u rfl xT (aN e38)) fun a u=>q u (cF u rfl rfl) fun a u=>aC<|t_n<|?_;refine aG u rfl h (fun b39 h=>?_) (fun b39 h=>?_)
   .refine aA<|qm u rfl fun a u=>qm u rfl fun a u=>q u (bN u rfl e2) fun a u=>q u (aI u rfl wH rfl rfl wX) fun a u=>?_;have⟨w40,e41,h⟩:=bs1 h;refine q u (gT u rfl rfl wX e41) fun a u=>q u (bN u rfl e2) fun a u=>q u (aI u rfl wH rfl rfl wX) fun a u=>?_;have⟨w42,e43,h⟩:=bs1 h;refine q u (gT u rfl rfl wX e43) fun a u=>aC<|?_;have y:=u;cases h;exact mM Try.results82 y ⟨rfl,rfl⟩
   refine wp_skip<|?_;have y:=u;cases h;exact mM Try.results82 y ⟨rfl,rfl⟩
  refine wp_skip<|?_;have y:=u;cases h;exact mM Try.results82 y ⟨rfl,rfl⟩
 clear h;have h:=e10;refine wp_seq<|aA<|?_;have⟨v12,e13,h⟩:=bs1 h;refine q u (aH u rfl xT (aN e13)) fun a u=>q u (cF u rfl rfl) fun a u=>aC<|t_n<|?_;refine aG u rfl h (fun b14 h=>?_) (fun b14 h=>?_)
 .refine aA<|qm u rfl fun a u=>q u (bN u rfl e2) fun a u=>q u (aI u rfl wH rfl rfl wO) fun a u=>?_;have⟨v15,e16,h⟩:=bs1 h;refine q u (aH u rfl wQ (cJ e16)) fun a u=>?_;have⟨s17,e18,h⟩:=bs1 h;refine q u (qZ u rfl rfl e18) fun a u=>q u (bN u rfl e2) fun a u=>q u (aI u rfl wH rfl rfl wO) fun a u=>?_;have⟨w19,e20,h⟩:=bs1 h;refine q u (gT u rfl rfl wO e20) fun a u=>aC<|?_;have y:=u;cases h;exact hk11 _ (y.sb rfl)
 refine wp_skip<|?_;have y:=u;cases h;exact hk11 _ (y.sb rfl)
noncomputable def cI (a0:Option Addr) (a1:Bool) (a2_0:Addr) (a2_1:Addr) (w:World):ND (World) :=
 cb2 (lb1 (dr w) fun w5 =>
 lb1 (a0) fun p7 =>
 lb1 (ldS w5 (p7.add 0)) fun v9 =>
 lb1 (ldI .i64 w5 (p7.add 1)) fun v11 =>
 pB (lb2 (dB v9 v11 w5) fun v13 w14 =>
 lb2 (mk w14 40 ([.string ByteArray.empty,.int .i64 0,.bool false,.int .i64 0,.int .i64 0,.string ByteArray.empty,.string ByteArray.empty,.bool false,.int .u8 0,.bool false,.slice none 0 0,.slice none 0 0])) fun p16 w17 =>
 lb1 (stA w17 p16 0 v13) fun w20 =>
 nck ((v13).length=12) <|
 cB (p16,w20)) (lb2 (mk w5 40 ([.string ByteArray.empty,.int .i64 0,.bool false,.int .i64 0,.int .i64 0,.string ByteArray.empty,.string ByteArray.empty,.bool false,.int .u8 0,.bool false,.slice none 0 0,.slice none 0 0])) fun p22 w23 =>
 lb2 (dB v9 v11 w23) fun v25 w26 =>
 lb1 (stA w26 p22 0 v25) fun w29 =>
 nck ((v25).length=12) <|
 nck (ldS w23 (p7.add 0)=some v9) <|
 nck (ldI .i64 w23 (p7.add 1)=some v11) <|
 cB (p22,w29))) fun v1 w2 =>
 lb1 (stV w2 (v1.add 2) (.bool a1)) fun w33 =>
 lb1 (fB (some v1) a2_0 a2_1 w33) fun w35 =>
 cbX (lb1 (ldA 12 w35 v1 0) fun c43 =>
 lb2 (cX c43 w35) fun v45 w46 =>
 if v45=true then
 (lb1 (ldA 12 w46 v1 0) fun c49 =>
 lb2 (fR c49 w46) fun v51 w52 =>
 lb1 (stA w52 v1 0 v51) fun w55 =>
 nck ((v51).length=12) <|
 if (!a1)=true then
 (cb1 (cB w55) fun g42=>cB (.inl g42))
 else
 (cB (.inr w55)))
 else
 (cB (.inr w46))) fun (i:World)=>u1 i fun w37 =>
 lb1 (dr w37) fun w59 =>
 lb1 (a0) fun p61 =>
 lb1 (ldL w59 (p61.add 2)) fun v63 =>
 lb1 (ldA 12 w59 v1 0) fun c65 =>
 lb2 (bsl w59 40 12 [c65]) fun s67 w68 =>
 lb2 (bsl w68 22 1 [[(Sl.v s67)]]) fun s70 w71 =>
 lb2 (apS Try.prog 47 v63 s70 w71) fun s73 w74 =>
 lb1 (stV w74 (p61.add 2) (Sl.v s73)) fun w76 =>
 nck (ldL w68 (p61.add 2)=some v63) <|
 nck (ldL w71 (p61.add 2)=some v63) <|
 cB w76
theorem dD {a0 a1 a2_0 a2_1 w Q} (h:(cI a0 a1 a2_0 a2_1 w).t Q):Calls Try.prog 56 #[(.pointer a0),(.bool a1),(.func (.func 82) #[] #[(.pointer (some a2_0)),(.pointer (some a2_1))])] w fun e w''=>∃ i,e=.returned (.tuple #[])/\Q i/\w''=i:=by
 refine aD (n:=37) Try.func56 rfl Try.ntmps56 (by simp) fun a u=>?_;unfold cI at h;refine wp_seq<|?_;refine fX (n:=37) (ι:=Addr×World) (Lf:=fun i=>[(6,(pV (some i.1))),(0,(pV a0)),(1,(bV a1)),(2,(.func (.func 82) #[] #[(pV (some a2_0)),(pV (some a2_1))]))]) (wf:=fun i=>i.2) (un2 h) (fun i h a u=>?_) (fun h hk4=>?_)
 .obtain⟨v1,w2⟩:=i;have u:Has 37 [(6,(pV (some v1))),(0,(pV a0)),(1,(bV a1)),(2,(.func (.func 82) #[] #[(pV (some a2_0)),(pV (some a2_1))]))] a:=u;refine t_n<|wp_seq<|aA<|qm u rfl fun a u=>q u (aI u rfl wH rfl rfl xE) fun a u=>?_;obtain⟨w33,e34,h⟩:=h;refine q u (gT u rfl rfl xE e34) fun a u=>aC<|t_n<|wp_seq<|aA<|qm u rfl fun a u=>?_;obtain⟨w35,e36,h⟩:=h;refine q u (eG (xs:=[_]) (vs:=[(pV (some v1))]) (cv:=[(pV (some a2_0)),(pV (some a2_1))]) u rfl ⟨rfl,aAO⟩ Try.call82 (lG e36)) fun a u=>aC<|t_n<|?_;refine iY (n:=37) (ι:=World) (Lf:=fun i=>[(0,(pV a0)),(6,(pV (some v1)))]) (wf:=fun i=>i) (unX h) (fun i h a u=>?_) (fun h hk41=>?_)
  .obtain⟨w37,rfl⟩:∃ x,x=i:=⟨i,rfl⟩
   try dsimp only[Sum.elim_inl,Sum.elim_inr,u1,u2,u3,u4,u5,u6] at h
   have u:Has 37 [(0,(pV a0)),(6,(pV (some v1)))] a:=u;obtain⟨w59,e60,h⟩:=h;obtain⟨p61,e62,h⟩:=h;obtain⟨v63,e64,h⟩:=h;obtain⟨c65,e66,h⟩:=h;obtain⟨s67,w68,e69,h⟩:=h;obtain⟨s70,w71,e72,h⟩:=h;obtain⟨s73,w74,e75,h⟩:=h;obtain⟨w76,e77,h⟩:=h;obtain⟨e78,h⟩:=h;obtain⟨e79,h⟩:=h;have u:Has 37 [(0,(pV a0)),(6,(pV (some v1)))] a:=u.sb rfl;refine cC (n:=37) (ds:=(aL (pV a0) false 0 3 [] [(0,(pV a0))]::aL (pV a0) false 0 2 [] [(0,(pV a0))]::aL (pV (some p61)) false 0 2 [1] [(27,(pV a0))]::aL (pV (some (p61.add 2))) false 0 2 [1,2] [(28,(pV (some p61)))]::aL (Sl.v v63) false 0 2 [1,2,3] [(29,(pV (some (p61.add 2))))]::bA (.agg (List.toArray c65)) 0 [] 6 (pV (some v1))::aL (Sl.v s67) true 0 0 [5] [(31,(.agg (List.toArray c65)))]::aL (Sl.v s70) true 1 1 [5,6] [(32,(Sl.v s67))]::aL (Sl.v s73) true 2 2 (rn 1 7) [(30,(Sl.v v63)),(33,(Sl.v s70))]::bA (pV (some p61)) 3 (rn 0 9) 26 (pV a0)::bA (pV (some (p61.add 2))) 3 (rn 0 10) 35 (pV (some p61))::aL (undef) true 3 3 (rn 0 11) [(36,(pV (some (p61.add 2)))),(34,(Sl.v s73))]::[])) (W:=(fun j=>match j with | 0=>w59 | 1=>w68 | 2=>w71 | 3=>w74 | 4=>w76 | _=>w76)) (by kernel_rfl) u (gV e60) (by kernel_rfl) ?_ (bP (by kernel_rfl)) (by kernel_rfl) (m:=4) (by kernel_rfl) (fun a u=>?_)
   .refine⟨oa (aF · rfl),oa (aF · rfl),oa (bN · rfl e62),oa (aI · rfl wL rfl rfl xC),?_,oc 0 (kd (bO · rfl xB wI e66)),oc 0 (kd (gU (vs:=[(0,(.agg (List.toArray c65)))]) (ps:=[c65]) · ⟨rfl,rfl,aAO⟩ ⟨rfl,rfl,aAO⟩ rfl wJ wI wW (by decide) e69)),oc 1 (kd (gU (vs:=[(0,(Sl.v s67))]) (ps:=[[(Sl.v s67)]]) · ⟨rfl,rfl,aAO⟩ ⟨rfl,rfl,aAO⟩ rfl wP xI xY (by decide) e72)),oc 2 (kd (jR · rfl rfl e75)),oa (bN · rfl e62),oa (aI · rfl wL rfl rfl xC),oc 3 (kd (gT · rfl rfl xC e77)),aAO⟩;intro j h1 h2;have h1:0<=j:=h1;have h2:j<=2:=h2;rcases(by omega:j=0\/j=1\/j=2) with rfl | rfl | rfl
    .exact kd (aH · rfl xJ (bT e64))
    .exact kd (aH · rfl xJ (bT e78))
    exact kd (aH · rfl xJ (bT e79))
   have u:Has 37 [] a:=u.sb rfl;exact mM Try.results56 u ⟨w76,rfl,h,rfl⟩
  refine wp_seq<|aA<|?_;obtain⟨c43,e44,h⟩:=h;refine q u (bO u rfl xB wI e44) fun a u=>?_;obtain⟨v45,w46,e47,h⟩:=h;refine q u (dc1 u rfl Try.call41 (eK e47)) fun a u=>aC<|t_n<|?_;refine cA u rfl h (fun b48 h=>?_) (fun b48 h=>?_)
  .refine wp_seq<|aA<|?_;obtain⟨c49,e50,h⟩:=h;refine q u (bO u rfl xB wI e50) fun a u=>?_;obtain⟨v51,w52,e53,h⟩:=h;refine q u (dc1 u rfl Try.call55 (gF e53)) fun a u=>?_;obtain⟨w55,e56,h⟩:=h;obtain⟨e54,h⟩:=h;refine q u (dY u rfl rfl wI e54 e56) fun a u=>aC<|t_n<|wp_seq<|aA<|qm u rfl fun a u=>q u (eY u rfl) fun a u=>aC<|t_n<|?_;refine cA u rfl h (fun b57 h=>?_) (fun b57 h=>?_)
   .refine wp_ret<|?_;have h:=unL h;refine t_r<|?_;exact oG Try.results56 u ⟨w55,rfl,h,rfl⟩
   refine wp_skip<|?_;exact hk41 w55 h _ (u.sb rfl)
  refine wp_skip<|?_;exact hk41 w46 h _ (u.sb rfl)
 obtain⟨w5,e6,h⟩:=h;obtain⟨p7,e8,h⟩:=h;obtain⟨v9,e10,h⟩:=h;obtain⟨v11,e12,h⟩:=h;obtain⟨h,hB⟩:=h;obtain⟨v13,w14,e15,h⟩:=h;obtain⟨p16,w17,e18,h⟩:=h;obtain⟨w20,e21,h⟩:=h;obtain⟨e19,h⟩:=h;have hA:=h;have h:=hB;obtain⟨p22,w23,e24,h⟩:=h;obtain⟨v25,w26,e27,h⟩:=h;obtain⟨w29,e30,h⟩:=h;obtain⟨e28,h⟩:=h;obtain⟨e31,h⟩:=h;obtain⟨e32,h⟩:=h;have hB:=h;have u:Has 37 [(0,(pV a0)),(1,(bV a1)),(2,(.func (.func 82) #[] #[(pV (some a2_0)),(pV (some a2_1))]))] a:=u.sb rfl;refine iF (n:=37) (i:=8) (j:=9) (Dp:=[8,9,10]) (ds1:=(eD (pV a0) 0 [] 0::bA (pV (some p7)) 0 [0] 7 (pV a0)::bA (pV (some (p7.add 0))) 0 [1,0] 8 (pV (some p7))::bA (.string v9) 0 [2,1,0] 9 (pV (some (p7.add 0)))::eD (pV a0) 0 [] 0::bA (pV (some p7)) 0 [4] 11 (pV a0)::bA (pV (some (p7.add 1))) 0 [5,4] 12 (pV (some p7))::bA (iV v11) 0 [6,5,4] 13 (pV (some (p7.add 1)))::aL (.agg (List.toArray v13)) true 0 0 (rn 0 8) [(10,(.string v9)),(14,(iV v11))]::aL (pV (some p16)) true 1 1 (rn 0 9) []::aL (undef) true 2 2 (rn 0 10) [(6,(pV (some p16))),(15,(.agg (List.toArray v13)))]::[])) (ds2:=(aL (pV a0) false 0 1 [] [(0,(pV a0))]::aL (pV (some p7)) false 0 1 [0] [(7,(pV a0))]::aL (pV (some (p7.add 0))) false 0 1 [1,0] [(8,(pV (some p7)))]::aL (.string v9) false 0 1 [2,1,0] [(9,(pV (some (p7.add 0))))]::aL (pV a0) false 0 1 [] [(0,(pV a0))]::aL (pV (some p7)) false 0 1 [4] [(11,(pV a0))]::aL (pV (some (p7.add 1))) false 0 1 [5,4] [(12,(pV (some p7)))]::aL (iV v11) false 0 1 [6,5,4] [(13,(pV (some (p7.add 1))))]::aL (.agg (List.toArray v25)) true 1 1 (rn 0 8++[9]) [(10,(.string v9)),(14,(iV v11))]::aL (pV (some p22)) true 0 0 [] []::aL (undef) true 2 2 (rn 0 10) [(6,(pV (some p22))),(15,(.agg (List.toArray v25)))]::[])) (W1:=(fun j=>match j with | 0=>w5 | 1=>w14 | 2=>w17 | 3=>w20 | _=>w20)) (W2:=(fun j=>match j with | 0=>w5 | 1=>w23 | 2=>w26 | 3=>w29 | _=>w29)) (m1:=3) (m2:=3) (by kernel_rfl) u (gV e6) (gV e6) rfl (by kernel_rfl) (by kernel_rfl) rfl rfl (by decide) (bP (by kernel_rfl)) (bP (by kernel_rfl)) ?_ ?_ (by kernel_rfl) (by kernel_rfl) (fun a u=>?_) (fun a u=>?_)
 .exact⟨oa (aF · rfl),oa (bN · rfl e8),oa (aI · rfl wL rfl rfl wO),oc 0 (kd (aH · rfl wQ (cJ e10))),oa (aF · rfl),oa (bN · rfl e8),oa (aI · rfl wL rfl rfl wT),oc 0 (kd (aH · rfl wS (aN e12))),oc 0 (kd (dc2 · rfl rfl Try.call78 (dO e15))),oc 1 (kd fun {a} u=>cV wW (by kernel_rfl) e18),oc 2 (kd (dY · rfl rfl wI e19 e21)),aAO⟩
 .refine⟨oa (aF · rfl),oa (bN · rfl e8),oa (aI · rfl wL rfl rfl wO),?_,oa (aF · rfl),oa (bN · rfl e8),oa (aI · rfl wL rfl rfl wT),?_,oc 1 (kd (dc2 · rfl rfl Try.call78 (dO e27))),oc 0 (kd fun {a} u=>cV wW (by kernel_rfl) e24),oc 2 (kd (dY · rfl rfl wI e28 e30)),aAO⟩
  .intro j h1 h2;have h1:0<=j:=h1;have h2:j<=1:=h2;rcases(by omega:j=0\/j=1) with rfl | rfl
   .exact kd (aH · rfl wQ (cJ e10))
   exact kd (aH · rfl wQ (cJ e31))
  intro j h1 h2;have h1:0<=j:=h1;have h2:j<=1:=h2;rcases(by omega:j=0\/j=1) with rfl | rfl
  .exact kd (aH · rfl wS (aN e12))
  exact kd (aH · rfl wS (aN e32))
 .have h:=hA;have u:Has 37 [(0,(pV a0)),(1,(bV a1)),(2,(.func (.func 82) #[] #[(pV (some a2_0)),(pV (some a2_1))])),(6,(pV (some p16)))] a:=u.sb rfl;exact hk4 (p16,w20) h _ (u.sb rfl)
 have h:=hB;have u:Has 37 [(0,(pV a0)),(1,(bV a1)),(2,(.func (.func 82) #[] #[(pV (some a2_0)),(pV (some a2_1))])),(6,(pV (some p22)))] a:=u.sb rfl;exact hk4 (p22,w29) h _ (u.sb rfl)
noncomputable def dX (a0:List Value) (a1:Int) (w:World):Option (Addr×Addr×World) :=
 aE (mk w 55 a0) fun p1 w2 =>
 aE (mk w2 2 ([(.int .i64 a1)])) fun p4 w5 =>
 some (p1,p4,w5)
theorem fS {a0 a1 w w' r0_0 r0_1} (h:dX a0 a1 w=some (r0_0,r0_1,w')):Calls Try.prog 63 #[(.agg (List.toArray a0)),(.int .i64 a1)] w fun e w''=>e=.returned (.func (.func 83) #[] #[(.pointer (some r0_0)),(.pointer (some r0_1))])/\w''=w':=by
 refine aD (n:=6) Try.func63 rfl Try.ntmps63 (by simp) fun a u=>?_;unfold dX at h;refine wp_seq<|aA<|?_;have⟨p1,w2,e3,h⟩:=bs2 h;refine q u (dP u rfl rfl e3) fun a u=>?_;have⟨p4,w5,e6,h⟩:=bs2 h;refine q u (dP u rfl rfl e6) fun a u=>qa u rfl fun a u=>aC<|t_n<|wp_seq<|aA<|q u (jU (vs:=[(pV (some p1)),(pV (some p4))]) u ⟨rfl,rfl,aAO⟩) fun a u=>qa u rfl fun a u=>aC<|t_n<|wp_ret<|?_;have y:=u;cases h;exact aY Try.results63 y rfl ⟨rfl,rfl⟩
noncomputable def fC (a0:Option Addr) (a1:Addr) (a2:Addr) (w:World):Option (World) :=
 (a0).bind fun p1 =>
 (ldI .i64 w (p1.add 1)).bind fun v3 =>
 if (v3==1)=true then
 ((ldI .i64 w (a1.add 1)).bind fun v6 =>
 (stV w (p1.add 3) (.int .i64 v6)).bind fun w8 =>
 (ldI .i64 w8 a2).bind fun v10 =>
 if (v10==0)=true then
 ((ldI .i64 w8 (p1.add 3)).bind fun v13 =>
 (stV w8 (p1.add 3) (.int .i64 (IntKind.wrap .i64 (v13+1)))).bind fun w15 =>
 (ldI .i64 w15 (a1.add 1)).bind fun v17 =>
 if (v17==9223372036854775807)=true then
 ((stV w15 (p1.add 3) (.int .i64 1)).bind fun w20 =>
 (stV w20 (p1.add 4) (.int .i64 0)).bind fun w22 =>
 some w22)
 else
 (some w15))
 else
 (some w8))
 else
 ((ldS w (a1.add 2)).bind fun v24 =>
 (stV w (p1.add 5) (.string v24)).bind fun w26 =>
 (ldI .i64 w26 a2).bind fun v28 =>
 if (v28==0)=true then
 ((ldS w26 (p1.add 5)).bind fun v31 =>
 (sR v31 (ByteArray.mk #[0])).bind fun s33 =>
 (stV w26 (p1.add 5) (.string s33)).bind fun w35 =>
 some w35)
 else
 (some w26))
theorem lD {a0 a1 a2 w w'} (h:fC a0 a1 a2 w=some w'):Calls Try.prog 83 #[(.pointer a0),(.pointer (some a1)),(.pointer (some a2))] w fun e w''=>e=.returned (.tuple #[])/\w''=w':=by
 refine aD (n:=46) Try.func83 rfl Try.ntmps83 (by simp) fun a u=>?_;unfold fC at h;refine wp_seq<|wp_seq<|aA<|qm u rfl fun a u=>?_;have⟨p1,e2,h⟩:=bs1 h;refine q u (bN u rfl e2) fun a u=>q u (aI u rfl wH rfl rfl wT) fun a u=>?_;have⟨v3,e4,h⟩:=bs1 h;refine q u (aH u rfl wS (aN e4)) fun a u=>q u (cF u rfl rfl) fun a u=>aC<|t_n<|?_;refine aG u rfl h (fun b5 h=>?_) (fun b5 h=>?_)
 .refine wp_seq<|aA<|qm u rfl fun a u=>q u (aI u rfl wZ rfl rfl wX) fun a u=>?_;have⟨v6,e7,h⟩:=bs1 h;refine q u (aH u rfl xT (aN e7)) fun a u=>q u (bN u rfl e2) fun a u=>q u (aI u rfl wH rfl rfl wX) fun a u=>?_;have⟨w8,e9,h⟩:=bs1 h;refine q u (gT u rfl rfl wX e9) fun a u=>aC<|t_n<|wp_seq<|wp_seq<|aA<|?_;have⟨v10,e11,h⟩:=bs1 h;refine q u (aH u rfl xT (aN e11)) fun a u=>q u (cF u rfl rfl) fun a u=>aC<|t_n<|?_;refine aG u rfl h (fun b12 h=>?_) (fun b12 h=>?_)
  .refine wp_seq<|aA<|qm u rfl fun a u=>q u (bN u rfl e2) fun a u=>q u (aI u rfl wH rfl rfl wX) fun a u=>?_;have⟨v13,e14,h⟩:=bs1 h;refine q u (aH u rfl xT (aN e14)) fun a u=>q u (dT u rfl rfl) fun a u=>q u (bN u rfl e2) fun a u=>q u (aI u rfl wH rfl rfl wX) fun a u=>?_;have⟨w15,e16,h⟩:=bs1 h;refine q u (gT u rfl rfl wX e16) fun a u=>aC<|t_n<|wp_seq<|aA<|q u (aI u rfl wZ rfl rfl wX) fun a u=>?_;have⟨v17,e18,h⟩:=bs1 h;refine q u (aH u rfl xT (aN e18)) fun a u=>q u (cF u rfl rfl) fun a u=>aC<|t_n<|?_;refine aG u rfl h (fun b19 h=>?_) (fun b19 h=>?_)
   .refine aA<|qm u rfl fun a u=>qm u rfl fun a u=>q u (bN u rfl e2) fun a u=>q u (aI u rfl wH rfl rfl wX) fun a u=>?_;have⟨w20,e21,h⟩:=bs1 h;refine q u (gT u rfl rfl wX e21) fun a u=>q u (bN u rfl e2) fun a u=>q u (aI u rfl wH rfl rfl wX) fun a u=>?_;have⟨w22,e23,h⟩:=bs1 h;refine q u (gT u rfl rfl wX e23) fun a u=>aC<|t_n<|wp_ret<|t_r<|?_;have y:=u;cases h;exact oG Try.results83 y ⟨rfl,rfl⟩
   refine wp_skip<|t_n<|wp_ret<|t_r<|?_;have y:=u;cases h;exact oG Try.results83 y ⟨rfl,rfl⟩
  refine wp_skip<|t_n<|wp_ret<|t_r<|?_;have y:=u;cases h;exact oG Try.results83 y ⟨rfl,rfl⟩
 refine wp_skip<|t_n<|wp_seq<|aA<|qm u rfl fun a u=>q u (aI u rfl wZ rfl rfl wO) fun a u=>?_;have⟨v24,e25,h⟩:=bs1 h;refine q u (aH u rfl wQ (cJ e25)) fun a u=>q u (bN u rfl e2) fun a u=>q u (aI u rfl wH rfl rfl wO) fun a u=>?_;have⟨w26,e27,h⟩:=bs1 h;refine q u (gT u rfl rfl wO e27) fun a u=>aC<|t_n<|wp_seq<|aA<|?_;have⟨v28,e29,h⟩:=bs1 h;refine q u (aH u rfl xT (aN e29)) fun a u=>q u (cF u rfl rfl) fun a u=>aC<|t_n<|?_;refine aG u rfl h (fun b30 h=>?_) (fun b30 h=>?_)
 .refine aA<|qm u rfl fun a u=>q u (bN u rfl e2) fun a u=>q u (aI u rfl wH rfl rfl wO) fun a u=>?_;have⟨v31,e32,h⟩:=bs1 h;refine q u (aH u rfl wQ (cJ e32)) fun a u=>?_;have⟨s33,e34,h⟩:=bs1 h;refine q u (qZ u rfl rfl e34) fun a u=>q u (bN u rfl e2) fun a u=>q u (aI u rfl wH rfl rfl wO) fun a u=>?_;have⟨w35,e36,h⟩:=bs1 h;refine q u (gT u rfl rfl wO e36) fun a u=>aC<|?_;have y:=u;cases h;exact mM Try.results83 y ⟨rfl,rfl⟩
 refine wp_skip<|?_;have y:=u;cases h;exact mM Try.results83 y ⟨rfl,rfl⟩
noncomputable def cH (a0:Option Addr) (a1:Bool) (a2_0:Addr) (a2_1:Addr) (w:World):ND (World) :=
 cb2 (lb1 (dr w) fun w5 =>
 lb1 (a0) fun p7 =>
 lb1 (ldS w5 (p7.add 0)) fun v9 =>
 lb1 (ldI .i64 w5 (p7.add 1)) fun v11 =>
 pB (lb2 (dB v9 v11 w5) fun v13 w14 =>
 lb2 (mk w14 40 ([.string ByteArray.empty,.int .i64 0,.bool false,.int .i64 0,.int .i64 0,.string ByteArray.empty,.string ByteArray.empty,.bool false,.int .u8 0,.bool false,.slice none 0 0,.slice none 0 0])) fun p16 w17 =>
 lb1 (stA w17 p16 0 v13) fun w20 =>
 nck ((v13).length=12) <|
 cB (p16,w20)) (lb2 (mk w5 40 ([.string ByteArray.empty,.int .i64 0,.bool false,.int .i64 0,.int .i64 0,.string ByteArray.empty,.string ByteArray.empty,.bool false,.int .u8 0,.bool false,.slice none 0 0,.slice none 0 0])) fun p22 w23 =>
 lb2 (dB v9 v11 w23) fun v25 w26 =>
 lb1 (stA w26 p22 0 v25) fun w29 =>
 nck ((v25).length=12) <|
 nck (ldS w23 (p7.add 0)=some v9) <|
 nck (ldI .i64 w23 (p7.add 1)=some v11) <|
 cB (p22,w29))) fun v1 w2 =>
 lb1 (stV w2 (v1.add 2) (.bool a1)) fun w33 =>
 lb1 (fC (some v1) a2_0 a2_1 w33) fun w35 =>
 cbX (lb1 (ldA 12 w35 v1 0) fun c43 =>
 lb2 (cX c43 w35) fun v45 w46 =>
 if v45=true then
 (lb1 (ldA 12 w46 v1 0) fun c49 =>
 lb2 (fR c49 w46) fun v51 w52 =>
 lb1 (stA w52 v1 0 v51) fun w55 =>
 nck ((v51).length=12) <|
 if (!a1)=true then
 (cb1 (cB w55) fun g42=>cB (.inl g42))
 else
 (cB (.inr w55)))
 else
 (cB (.inr w46))) fun (i:World)=>u1 i fun w37 =>
 lb1 (dr w37) fun w59 =>
 lb1 (a0) fun p61 =>
 lb1 (ldL w59 (p61.add 2)) fun v63 =>
 lb1 (ldA 12 w59 v1 0) fun c65 =>
 lb2 (bsl w59 40 12 [c65]) fun s67 w68 =>
 lb2 (bsl w68 22 1 [[(Sl.v s67)]]) fun s70 w71 =>
 lb2 (apS Try.prog 47 v63 s70 w71) fun s73 w74 =>
 lb1 (stV w74 (p61.add 2) (Sl.v s73)) fun w76 =>
 nck (ldL w68 (p61.add 2)=some v63) <|
 nck (ldL w71 (p61.add 2)=some v63) <|
 cB w76
theorem dE {a0 a1 a2_0 a2_1 w Q} (h:(cH a0 a1 a2_0 a2_1 w).t Q):Calls Try.prog 56 #[(.pointer a0),(.bool a1),(.func (.func 83) #[] #[(.pointer (some a2_0)),(.pointer (some a2_1))])] w fun e w''=>∃ i,e=.returned (.tuple #[])/\Q i/\w''=i:=by
 refine aD (n:=37) Try.func56 rfl Try.ntmps56 (by simp) fun a u=>?_;unfold cH at h;refine wp_seq<|?_;refine fX (n:=37) (ι:=Addr×World) (Lf:=fun i=>[(6,(pV (some i.1))),(0,(pV a0)),(1,(bV a1)),(2,(.func (.func 83) #[] #[(pV (some a2_0)),(pV (some a2_1))]))]) (wf:=fun i=>i.2) (un2 h) (fun i h a u=>?_) (fun h hk4=>?_)
 .obtain⟨v1,w2⟩:=i;have u:Has 37 [(6,(pV (some v1))),(0,(pV a0)),(1,(bV a1)),(2,(.func (.func 83) #[] #[(pV (some a2_0)),(pV (some a2_1))]))] a:=u;refine t_n<|wp_seq<|aA<|qm u rfl fun a u=>q u (aI u rfl wH rfl rfl xE) fun a u=>?_;obtain⟨w33,e34,h⟩:=h;refine q u (gT u rfl rfl xE e34) fun a u=>aC<|t_n<|wp_seq<|aA<|qm u rfl fun a u=>?_;obtain⟨w35,e36,h⟩:=h;refine q u (eG (xs:=[_]) (vs:=[(pV (some v1))]) (cv:=[(pV (some a2_0)),(pV (some a2_1))]) u rfl ⟨rfl,aAO⟩ Try.call83 (lD e36)) fun a u=>aC<|t_n<|?_;refine iY (n:=37) (ι:=World) (Lf:=fun i=>[(0,(pV a0)),(6,(pV (some v1)))]) (wf:=fun i=>i) (unX h) (fun i h a u=>?_) (fun h hk41=>?_)
  .obtain⟨w37,rfl⟩:∃ x,x=i:=⟨i,rfl⟩
   try dsimp only[Sum.elim_inl,Sum.elim_inr,u1,u2,u3,u4,u5,u6] at h
   have u:Has 37 [(0,(pV a0)),(6,(pV (some v1)))] a:=u;obtain⟨w59,e60,h⟩:=h;obtain⟨p61,e62,h⟩:=h;obtain⟨v63,e64,h⟩:=h;obtain⟨c65,e66,h⟩:=h;obtain⟨s67,w68,e69,h⟩:=h;obtain⟨s70,w71,e72,h⟩:=h;obtain⟨s73,w74,e75,h⟩:=h;obtain⟨w76,e77,h⟩:=h;obtain⟨e78,h⟩:=h;obtain⟨e79,h⟩:=h;have u:Has 37 [(0,(pV a0)),(6,(pV (some v1)))] a:=u.sb rfl;refine cC (n:=37) (ds:=(aL (pV a0) false 0 3 [] [(0,(pV a0))]::aL (pV a0) false 0 2 [] [(0,(pV a0))]::aL (pV (some p61)) false 0 2 [1] [(27,(pV a0))]::aL (pV (some (p61.add 2))) false 0 2 [1,2] [(28,(pV (some p61)))]::aL (Sl.v v63) false 0 2 [1,2,3] [(29,(pV (some (p61.add 2))))]::bA (.agg (List.toArray c65)) 0 [] 6 (pV (some v1))::aL (Sl.v s67) true 0 0 [5] [(31,(.agg (List.toArray c65)))]::aL (Sl.v s70) true 1 1 [5,6] [(32,(Sl.v s67))]::aL (Sl.v s73) true 2 2 (rn 1 7) [(30,(Sl.v v63)),(33,(Sl.v s70))]::bA (pV (some p61)) 3 (rn 0 9) 26 (pV a0)::bA (pV (some (p61.add 2))) 3 (rn 0 10) 35 (pV (some p61))::aL (undef) true 3 3 (rn 0 11) [(36,(pV (some (p61.add 2)))),(34,(Sl.v s73))]::[])) (W:=(fun j=>match j with | 0=>w59 | 1=>w68 | 2=>w71 | 3=>w74 | 4=>w76 | _=>w76)) (by kernel_rfl) u (gV e60) (by kernel_rfl) ?_ (bP (by kernel_rfl)) (by kernel_rfl) (m:=4) (by kernel_rfl) (fun a u=>?_)
   .refine⟨oa (aF · rfl),oa (aF · rfl),oa (bN · rfl e62),oa (aI · rfl wL rfl rfl xC),?_,oc 0 (kd (bO · rfl xB wI e66)),oc 0 (kd (gU (vs:=[(0,(.agg (List.toArray c65)))]) (ps:=[c65]) · ⟨rfl,rfl,aAO⟩ ⟨rfl,rfl,aAO⟩ rfl wJ wI wW (by decide) e69)),oc 1 (kd (gU (vs:=[(0,(Sl.v s67))]) (ps:=[[(Sl.v s67)]]) · ⟨rfl,rfl,aAO⟩ ⟨rfl,rfl,aAO⟩ rfl wP xI xY (by decide) e72)),oc 2 (kd (jR · rfl rfl e75)),oa (bN · rfl e62),oa (aI · rfl wL rfl rfl xC),oc 3 (kd (gT · rfl rfl xC e77)),aAO⟩;intro j h1 h2;have h1:0<=j:=h1;have h2:j<=2:=h2;rcases(by omega:j=0\/j=1\/j=2) with rfl | rfl | rfl
    .exact kd (aH · rfl xJ (bT e64))
    .exact kd (aH · rfl xJ (bT e78))
    exact kd (aH · rfl xJ (bT e79))
   have u:Has 37 [] a:=u.sb rfl;exact mM Try.results56 u ⟨w76,rfl,h,rfl⟩
  refine wp_seq<|aA<|?_;obtain⟨c43,e44,h⟩:=h;refine q u (bO u rfl xB wI e44) fun a u=>?_;obtain⟨v45,w46,e47,h⟩:=h;refine q u (dc1 u rfl Try.call41 (eK e47)) fun a u=>aC<|t_n<|?_;refine cA u rfl h (fun b48 h=>?_) (fun b48 h=>?_)
  .refine wp_seq<|aA<|?_;obtain⟨c49,e50,h⟩:=h;refine q u (bO u rfl xB wI e50) fun a u=>?_;obtain⟨v51,w52,e53,h⟩:=h;refine q u (dc1 u rfl Try.call55 (gF e53)) fun a u=>?_;obtain⟨w55,e56,h⟩:=h;obtain⟨e54,h⟩:=h;refine q u (dY u rfl rfl wI e54 e56) fun a u=>aC<|t_n<|wp_seq<|aA<|qm u rfl fun a u=>q u (eY u rfl) fun a u=>aC<|t_n<|?_;refine cA u rfl h (fun b57 h=>?_) (fun b57 h=>?_)
   .refine wp_ret<|?_;have h:=unL h;refine t_r<|?_;exact oG Try.results56 u ⟨w55,rfl,h,rfl⟩
   refine wp_skip<|?_;exact hk41 w55 h _ (u.sb rfl)
  refine wp_skip<|?_;exact hk41 w46 h _ (u.sb rfl)
 obtain⟨w5,e6,h⟩:=h;obtain⟨p7,e8,h⟩:=h;obtain⟨v9,e10,h⟩:=h;obtain⟨v11,e12,h⟩:=h;obtain⟨h,hB⟩:=h;obtain⟨v13,w14,e15,h⟩:=h;obtain⟨p16,w17,e18,h⟩:=h;obtain⟨w20,e21,h⟩:=h;obtain⟨e19,h⟩:=h;have hA:=h;have h:=hB;obtain⟨p22,w23,e24,h⟩:=h;obtain⟨v25,w26,e27,h⟩:=h;obtain⟨w29,e30,h⟩:=h;obtain⟨e28,h⟩:=h;obtain⟨e31,h⟩:=h;obtain⟨e32,h⟩:=h;have hB:=h;have u:Has 37 [(0,(pV a0)),(1,(bV a1)),(2,(.func (.func 83) #[] #[(pV (some a2_0)),(pV (some a2_1))]))] a:=u.sb rfl;refine iF (n:=37) (i:=8) (j:=9) (Dp:=[8,9,10]) (ds1:=(eD (pV a0) 0 [] 0::bA (pV (some p7)) 0 [0] 7 (pV a0)::bA (pV (some (p7.add 0))) 0 [1,0] 8 (pV (some p7))::bA (.string v9) 0 [2,1,0] 9 (pV (some (p7.add 0)))::eD (pV a0) 0 [] 0::bA (pV (some p7)) 0 [4] 11 (pV a0)::bA (pV (some (p7.add 1))) 0 [5,4] 12 (pV (some p7))::bA (iV v11) 0 [6,5,4] 13 (pV (some (p7.add 1)))::aL (.agg (List.toArray v13)) true 0 0 (rn 0 8) [(10,(.string v9)),(14,(iV v11))]::aL (pV (some p16)) true 1 1 (rn 0 9) []::aL (undef) true 2 2 (rn 0 10) [(6,(pV (some p16))),(15,(.agg (List.toArray v13)))]::[])) (ds2:=(aL (pV a0) false 0 1 [] [(0,(pV a0))]::aL (pV (some p7)) false 0 1 [0] [(7,(pV a0))]::aL (pV (some (p7.add 0))) false 0 1 [1,0] [(8,(pV (some p7)))]::aL (.string v9) false 0 1 [2,1,0] [(9,(pV (some (p7.add 0))))]::aL (pV a0) false 0 1 [] [(0,(pV a0))]::aL (pV (some p7)) false 0 1 [4] [(11,(pV a0))]::aL (pV (some (p7.add 1))) false 0 1 [5,4] [(12,(pV (some p7)))]::aL (iV v11) false 0 1 [6,5,4] [(13,(pV (some (p7.add 1))))]::aL (.agg (List.toArray v25)) true 1 1 (rn 0 8++[9]) [(10,(.string v9)),(14,(iV v11))]::aL (pV (some p22)) true 0 0 [] []::aL (undef) true 2 2 (rn 0 10) [(6,(pV (some p22))),(15,(.agg (List.toArray v25)))]::[])) (W1:=(fun j=>match j with | 0=>w5 | 1=>w14 | 2=>w17 | 3=>w20 | _=>w20)) (W2:=(fun j=>match j with | 0=>w5 | 1=>w23 | 2=>w26 | 3=>w29 | _=>w29)) (m1:=3) (m2:=3) (by kernel_rfl) u (gV e6) (gV e6) rfl (by kernel_rfl) (by kernel_rfl) rfl rfl (by decide) (bP (by kernel_rfl)) (bP (by kernel_rfl)) ?_ ?_ (by kernel_rfl) (by kernel_rfl) (fun a u=>?_) (fun a u=>?_)
 .exact⟨oa (aF · rfl),oa (bN · rfl e8),oa (aI · rfl wL rfl rfl wO),oc 0 (kd (aH · rfl wQ (cJ e10))),oa (aF · rfl),oa (bN · rfl e8),oa (aI · rfl wL rfl rfl wT),oc 0 (kd (aH · rfl wS (aN e12))),oc 0 (kd (dc2 · rfl rfl Try.call78 (dO e15))),oc 1 (kd fun {a} u=>cV wW (by kernel_rfl) e18),oc 2 (kd (dY · rfl rfl wI e19 e21)),aAO⟩
 .refine⟨oa (aF · rfl),oa (bN · rfl e8),oa (aI · rfl wL rfl rfl wO),?_,oa (aF · rfl),oa (bN · rfl e8),oa (aI · rfl wL rfl rfl wT),?_,oc 1 (kd (dc2 · rfl rfl Try.call78 (dO e27))),oc 0 (kd fun {a} u=>cV wW (by kernel_rfl) e24),oc 2 (kd (dY · rfl rfl wI e28 e30)),aAO⟩
  .intro j h1 h2;have h1:0<=j:=h1;have h2:j<=1:=h2;rcases(by omega:j=0\/j=1) with rfl | rfl
   .exact kd (aH · rfl wQ (cJ e10))
   exact kd (aH · rfl wQ (cJ e31))
  intro j h1 h2;have h1:0<=j:=h1;have h2:j<=1:=h2;rcases(by omega:j=0\/j=1) with rfl | rfl
  .exact kd (aH · rfl wS (aN e12))
  exact kd (aH · rfl wS (aN e32))
 .have h:=hA;have u:Has 37 [(0,(pV a0)),(1,(bV a1)),(2,(.func (.func 83) #[] #[(pV (some a2_0)),(pV (some a2_1))])),(6,(pV (some p16)))] a:=u.sb rfl;exact hk4 (p16,w20) h _ (u.sb rfl)
 have h:=hB;have u:Has 37 [(0,(pV a0)),(1,(bV a1)),(2,(.func (.func 83) #[] #[(pV (some a2_0)),(pV (some a2_1))])),(6,(pV (some p22)))] a:=u.sb rfl;exact hk4 (p22,w29) h _ (u.sb rfl)
noncomputable def iE (a0:List Value) (a1:Int) (w:World):ND ((List Value)×World) :=
 lb2 (mk w 57 a0) fun p1 w2 =>
 lb2 (mk w2 70 ([.slice none 0 0,.slice none 0 0])) fun p4 w5 =>
 cb3 (lb1 (dr w5) fun w12 =>
 lb1 (ldS w12 (p1.add 1)) fun v14 =>
 lb1 (ldS w12 (p1.add 1)) fun v16 =>
 pB (lb2 (mk w12 83 ([.string v14,.int .i64 a1,.slice none 0 0])) fun p18 w19 =>
 lb2 (mk w19 83 ([.string v16,.int .i64 a1,.slice none 0 0])) fun p21 w22 =>
 nck (ldS w19 (p1.add 1)=some v16) <|
 cB (p18,p21,w22)) (lb2 (mk w12 83 ([.string v16,.int .i64 a1,.slice none 0 0])) fun p25 w26 =>
 lb2 (mk w26 83 ([.string v14,.int .i64 a1,.slice none 0 0])) fun p28 w29 =>
 nck (ldS w26 (p1.add 1)=some v14) <|
 cB (p28,p25,w29))) fun v7 v8 w9 =>
 lb1 (ldA 5 w9 (p1.add 3) 0) fun c32 =>
 lb2 (mk w9 55 ([.int .i64 0,.int .i64 0,.string ByteArray.empty,.bool false,.complex .f64 0 0])) fun p34 w35 =>
 lb1 (stA w35 p34 0 c32) fun w37 =>
 cb1 (lb1 (ldI .i64 w37 (p1.add 2)) fun v42 =>
 if (v42==1)=true then
 (cb1 (gJ (some v7) false w37) fun w45 =>
 cb1 (gK (some v8) true w45) fun w47 =>
 cB w47)
 else
 (if (a1==3)=true then
 (cb2 (lb1 (ldI .i64 w37 (p1.add 2)) fun v54 =>
 if (v54==2)=true then
 (cB (true,w37))
 else
 (lb1 (ldB w37 (p34.add 3)) fun v57 =>
 lb1 (ldI .i64 w37 (p1.add 2)) fun v59 =>
 cB ((v57==(v59==3)),w37))) fun v50 w51 =>
 lZ)
 else
 (if (a1==4)=true then
 (cb1 (lb1 (ldI .i64 w37 (p1.add 2)) fun v65 =>
 if (v65==4)=true then
 (cB w37)
 else
 (cB w37)) fun w62 =>
 lZ)
 else
 (lb1 (ldI .i64 w37 (p1.add 2)) fun v68 =>
 if (v68==3)=true then
 lZ
 else
 (lb1 (ldI .i64 w37 (p1.add 2)) fun v71 =>
 if (v71==4)=true then
 (lb1 (ldA 5 w37 p34 0) fun c74 =>
 lb3 (dW c74 0 w37) fun v76 v77 w78 =>
 cb1 (cI (some v7) false v76 v77 w78) fun w80 =>
 lb1 (ldA 5 w80 p34 0) fun c82 =>
 lb3 (dX c82 0 w80) fun v84 v85 w86 =>
 cb1 (cH (some v7) false v84 v85 w86) fun w88 =>
 lZ)
 else
 (lb1 (ldI .i64 w37 (p1.add 2)) fun v90 =>
 if (v90==5)=true then
 (lb1 (ldA 5 w37 p34 0) fun c93 =>
 lb3 (dW c93 0 w37) fun v95 v96 w97 =>
 cb1 (cI (some v7) false v95 v96 w97) fun w99 =>
 lb1 (ldA 5 w99 p34 0) fun c101 =>
 lb3 (dX c101 1 w99) fun v103 v104 w105 =>
 cb1 (cH (some v8) true v103 v104 w105) fun w107 =>
 cB w107)
 else
 (lb1 (ldI .i64 w37 (p1.add 2)) fun v109 =>
 if (v109==6)=true then
 (lb1 (ldA 5 w37 p34 0) fun c112 =>
 lb3 (dW c112 1 w37) fun v114 v115 w116 =>
 cb1 (cI (some v7) false v114 v115 w116) fun w118 =>
 lb1 (ldA 5 w118 p34 0) fun c120 =>
 lb3 (dX c120 0 w118) fun v122 v123 w124 =>
 cb1 (cH (some v8) true v122 v123 w124) fun w126 =>
 cB w126)
 else
 (lb1 (ldI .i64 w37 (p1.add 2)) fun v128 =>
 if (v128==7)=true then
 (lb1 (ldA 5 w37 p34 0) fun c131 =>
 lb3 (dX c131 0 w37) fun v133 v134 w135 =>
 cb1 (cH (some v7) false v133 v134 w135) fun w137 =>
 lb1 (ldA 5 w137 p34 0) fun c139 =>
 lb3 (dW c139 1 w137) fun v141 v142 w143 =>
 cb1 (cI (some v8) true v141 v142 w143) fun w145 =>
 cB w145)
 else
 (lb1 (ldI .i64 w37 (p1.add 2)) fun v147 =>
 if (v147==8)=true then
 (lb1 (ldA 5 w37 p34 0) fun c150 =>
 lb3 (dX c150 1 w37) fun v152 v153 w154 =>
 cb1 (cH (some v7) false v152 v153 w154) fun w156 =>
 lb1 (ldA 5 w156 p34 0) fun c158 =>
 lb3 (dW c158 0 w156) fun v160 v161 w162 =>
 cb1 (cI (some v8) true v160 v161 w162) fun w164 =>
 cB w164)
 else
 lZ))))))))) fun w39 =>
 lb1 (dr w39) fun w166 =>
 lb1 (ldL w166 (v7.add 2)) fun v168 =>
 lb1 (ldL w166 (v8.add 2)) fun v170 =>
 lb1 (stA w166 p4 0 ([Sl.v v168,Sl.v v170])) fun w172 =>
 lb1 (ldA 2 w172 p4 0) fun v174 =>
 cB (v174,w172)
theorem mT {a0 a1 w Q} (h:(iE a0 a1 w).t Q):Calls Try.prog 35 #[(.agg (List.toArray a0)),(.int .i64 a1)] w fun e w''=>∃ i,e=.returned (.agg (List.toArray i.1))/\Q i/\w''=i.2:=by
 refine aD (n:=182) Try.func35 rfl Try.ntmps35 (by simp) fun a u=>?_;unfold iE at h;refine wp_seq<|aA<|?_;obtain⟨p1,w2,e3,h⟩:=h;refine q u (dP u rfl rfl e3) fun a u=>?_;obtain⟨p4,w5,e6,h⟩:=h;refine q u (cV xU (by kernel_rfl) e6) fun a u=>aC<|t_n<|wp_seq<|?_;refine fX (n:=182) (ι:=Addr×Addr×World) (Lf:=fun i=>[(5,(pV (some i.1))),(6,(pV (some i.2.1))),(1,(iV a1)),(2,(pV (some p1))),(4,(pV (some p4)))]) (wf:=fun i=>i.2.2) (un3 h) (fun i h a u=>?_) (fun h hk11=>?_)
 .obtain⟨v7,v8,w9⟩:=i;have u:Has 182 [(5,(pV (some v7))),(6,(pV (some v8))),(1,(iV a1)),(2,(pV (some p1))),(4,(pV (some p4)))] a:=u;refine t_n<|wp_seq<|aA<|q u (aI u rfl wK rfl rfl xH) fun a u=>?_;obtain⟨c32,e33,h⟩:=h;refine q u (bO u rfl xV xH e33) fun a u=>?_;obtain⟨p34,w35,e36,h⟩:=h;refine q u (cV Try.zeroValue55 (by kernel_rfl) e36) fun a u=>?_;obtain⟨w37,e38,h⟩:=h;refine q u (dY u rfl rfl xH ((iG e33).1) e38) fun a u=>aC<|t_n<|wp_seq<|aA<|qa u rfl fun a u=>aC<|t_n<|wp_seq<|aA<|qa u rfl fun a u=>aC<|t_n<|?_;refine lB (n:=182) (ι:=World) (Lf:=fun i=>[(4,(pV (some p4))),(5,(pV (some v7))),(6,(pV (some v8)))]) (wf:=fun i=>i) (un1 h) (fun i h a u=>?_) (fun h hk41=>?_)
  .obtain⟨w39,rfl⟩:∃ x,x=i:=⟨i,rfl⟩;have u:Has 182 [(4,(pV (some p4))),(5,(pV (some v7))),(6,(pV (some v8)))] a:=u;refine wp_seq<|?_;obtain⟨w166,e167,h⟩:=h;obtain⟨v168,e169,h⟩:=h;obtain⟨v170,e171,h⟩:=h;obtain⟨w172,e173,h⟩:=h;have u:Has 182 [(4,(pV (some p4))),(5,(pV (some v7))),(6,(pV (some v8)))] a:=u.sb rfl;refine cC (n:=182) (ds:=(eD (pV (some v7)) 0 [] 5::eD (pV (some v7)) 0 [0] 173::bA (pV (some (v7.add 2))) 0 [0,1] 174 (pV (some v7))::bA (Sl.v v168) 0 [0,1,2] 175 (pV (some (v7.add 2)))::eD (pV (some v8)) 0 [] 6::eD (pV (some v8)) 0 [4] 177::bA (pV (some (v8.add 2))) 0 [4,5] 178 (pV (some v8))::bA (Sl.v v170) 0 [4,5,6] 179 (pV (some (v8.add 2)))::eF (.agg (List.toArray ([Sl.v v168,Sl.v v170]))) 0 (rn 0 8) [(176,(Sl.v v168)),(180,(Sl.v v170))]::aL (undef) true 0 0 (rn 0 9) [(4,(pV (some p4))),(181,(.agg (List.toArray ([Sl.v v168,Sl.v v170]))))]::[])) (W:=(fun j=>match j with | 0=>w166 | 1=>w172 | _=>w172)) (by kernel_rfl) u (gV e167) (by kernel_rfl) ?_ (bP (by kernel_rfl)) (by kernel_rfl) (m:=1) (by kernel_rfl) (fun a u=>?_)
   .exact⟨oa (aF · rfl),oa (rF · rfl),oa (aI · rfl wL rfl rfl xC),oc 0 (kd (aH · rfl xJ (bT e169))),oa (aF · rfl),oa (rF · rfl),oa (aI · rfl wL rfl rfl xC),oc 0 (kd (aH · rfl xJ (bT e171))),oa (fU (vs:=[(0,(Sl.v v168)),(1,(Sl.v v170))]) (pl:=#[(0,1),(1,1)]) (cs:=([Sl.v v168,Sl.v v170])) · ⟨rfl,rfl,rfl,rfl,aAO⟩ xU xM (by intro w;kernel_rfl) (by kernel_rfl)),oc 0 (kd (dY · rfl rfl xS rfl e173)),aAO⟩
   have u:Has 182 [(4,(pV (some p4)))] a:=u.sb rfl;refine t_n<|wp_ret<|?_;obtain⟨v174,e175,h⟩:=h;exact uL (vs:=[_]) Try.results35 u ⟨⟨_,rfl,uP Try.isAgg70 xS e175⟩,aAO⟩ ⟨(v174,w172),rfl,h,rfl⟩
  refine wp_block<|wp_seq<|aA<|q u (aI u rfl wK rfl rfl xG) fun a u=>?_;obtain⟨v42,e43,h⟩:=h;refine q u (aH u rfl xO (aN e43)) fun a u=>q u (cF u rfl rfl) fun a u=>qa u rfl fun a u=>aC<|t_n<|?_;refine cA u rfl h (fun b44 h=>?_) (fun b44 h=>?_)
  .refine wp_seq<|aA<|qm u rfl fun a u=>qm u rfl fun a u=>?_;refine dU (ι:=World) (pk:=fun i=>(.tuple #[])) (wf:=fun i=>i) (xs:=[_,_,_]) (vs:=[(pV (some v7)),(bV false),(.func (.func 53) #[] #[])]) u ⟨rfl,rfl,rfl,aAO⟩ Try.call56 (jJ (un1 h)) (fun i h a u=>?_);obtain⟨w45,rfl⟩:∃ x,x=i:=⟨i,rfl⟩;refine aC<|t_n<|aA<|qm u rfl fun a u=>qm u rfl fun a u=>?_;refine dU (ι:=World) (pk:=fun i=>(.tuple #[])) (wf:=fun i=>i) (xs:=[_,_,_]) (vs:=[(pV (some v8)),(bV true),(.func (.func 54) #[] #[])]) u ⟨rfl,rfl,rfl,aAO⟩ Try.call56 (jK (un1 h)) (fun i h a u=>?_);obtain⟨w47,rfl⟩:∃ x,x=i:=⟨i,rfl⟩;refine aC<|b_n<|?_;exact hk41 w47 h _ (u.sb rfl)
  refine wp_seq<|aA<|qm u rfl fun a u=>q u (cF u rfl rfl) fun a u=>qa u rfl fun a u=>aC<|t_n<|?_;refine cA u rfl h (fun b49 h=>?_) (fun b49 h=>?_)
  .refine wp_seq<|?_;refine fX (n:=182) (ι:=Bool×World) (Lf:=fun i=>[(10,(bV i.1)),(4,(pV (some p4))),(5,(pV (some v7))),(6,(pV (some v8)))]) (wf:=fun i=>i.2) (un2 h) (fun i h a u=>?_) (fun h hk53=>?_)
   .obtain⟨v50,w51⟩:=i;have u:Has 182 [(10,(bV v50)),(4,(pV (some p4))),(5,(pV (some v7))),(6,(pV (some v8)))] a:=u;refine t_n<|wp_seq<|?_;exact(show False from h).elim
   refine aA<|q u (aI u rfl wK rfl rfl xG) fun a u=>?_;obtain⟨v54,e55,h⟩:=h;refine q u (aH u rfl xO (aN e55)) fun a u=>q u (cF u rfl rfl) fun a u=>qm u rfl fun a u=>?_;refine nB h (fun b56 h=>?_) (fun b56 h=>?_)
   .refine qn u 60 (tn b56) fun a u=>qn u 60 (tn b56) fun a u=>qn u 60 (tn b56) fun a u=>qn u 60 (tn b56) fun a u=>qn u 60 (tn b56) fun a u=>qn u 60 (tn b56) fun a u=>q u (aM u rfl b56 rfl) fun a u=>qa u rfl fun a u=>aC<|?_;exact hk53 (true,w37) h _ (u.sb rfl)
   refine qg u 60 (nt b56) (aI u rfl wZ rfl rfl xE) fun a u=>?_;obtain⟨v57,e58,h⟩:=h;refine qg u 60 (nt b56) (aH u rfl xZ (kO e58)) fun a u=>qg u 60 (nt b56) (aI u rfl wK rfl rfl xG) fun a u=>?_;obtain⟨v59,e60,h⟩:=h;refine qg u 60 (nt b56) (aH u rfl xO (aN e60)) fun a u=>qg u 60 (nt b56) (cF u rfl rfl) fun a u=>qg u 60 (nt b56) (vI u rfl rfl Try.runUnderlying4) fun a u=>q u (aK u rfl b56 rfl) fun a u=>qa u rfl fun a u=>aC<|?_;exact hk53 ((v57==(v59==3)),w37) h _ (u.sb rfl)
  refine wp_seq<|aA<|qm u rfl fun a u=>q u (cF u rfl rfl) fun a u=>qa u rfl fun a u=>aC<|t_n<|?_;refine cA u rfl h (fun b61 h=>?_) (fun b61 h=>?_)
  .refine wp_seq<|aA<|q u (jU (vs:=[(pV (some p1))]) u ⟨rfl,aAO⟩) fun a u=>qa u rfl fun a u=>aC<|t_n<|wp_seq<|aA<|q u (jU (vs:=[(pV (some p1))]) u ⟨rfl,aAO⟩) fun a u=>qa u rfl fun a u=>aC<|t_n<|?_;refine lB (n:=182) (ι:=World) (Lf:=fun i=>[(4,(pV (some p4))),(5,(pV (some v7))),(6,(pV (some v8)))]) (wf:=fun i=>i) (un1 h) (fun i h a u=>?_) (fun h hk64=>?_)
   .obtain⟨w62,rfl⟩:∃ x,x=i:=⟨i,rfl⟩;have u:Has 182 [(4,(pV (some p4))),(5,(pV (some v7))),(6,(pV (some v8)))] a:=u;refine wp_seq<|?_;exact(show False from h).elim
   refine wp_seq<|aA<|q u (aI u rfl wK rfl rfl xG) fun a u=>?_;obtain⟨v65,e66,h⟩:=h;refine q u (aH u rfl xO (aN e66)) fun a u=>q u (cF u rfl rfl) fun a u=>aC<|t_n<|?_;refine cA u rfl h (fun b67 h=>?_) (fun b67 h=>?_)
   .refine aA<|qm u rfl fun a u=>qm u rfl fun a u=>qa u rfl fun a u=>qa u rfl fun a u=>aC<|?_;exact hk64 w37 h _ (u.sb rfl)
   refine wp_skip<|?_;exact hk64 w37 h _ (u.sb rfl)
  refine wp_seq<|aA<|q u (aI u rfl wK rfl rfl xG) fun a u=>?_;obtain⟨v68,e69,h⟩:=h;refine q u (aH u rfl xO (aN e69)) fun a u=>q u (cF u rfl rfl) fun a u=>qa u rfl fun a u=>aC<|t_n<|?_;refine cA u rfl h (fun b70 h=>?_) (fun b70 h=>?_)
  .refine wp_seq<|?_;exact(show False from h).elim
  refine wp_seq<|aA<|q u (aI u rfl wK rfl rfl xG) fun a u=>?_;obtain⟨v71,e72,h⟩:=h;refine q u (aH u rfl xO (aN e72)) fun a u=>q u (cF u rfl rfl) fun a u=>qa u rfl fun a u=>aC<|t_n<|?_;refine cA u rfl h (fun b73 h=>?_) (fun b73 h=>?_)
  .refine wp_seq<|aA<|qm u rfl fun a u=>?_;obtain⟨c74,e75,h⟩:=h;refine q u (bO u rfl xV xH e75) fun a u=>?_;obtain⟨v76,v77,w78,e79,h⟩:=h;refine q u (dc2 u rfl rfl Try.call62 (fL e79)) fun a u=>?_;refine dU (ι:=World) (pk:=fun i=>(.tuple #[])) (wf:=fun i=>i) (xs:=[_,_,_]) (vs:=[(pV (some v7)),(bV false),(.func (.func 82) #[] #[(pV (some v76)),(pV (some v77))])]) u ⟨rfl,rfl,rfl,aAO⟩ Try.call56 (dD (un1 h)) (fun i h a u=>?_);obtain⟨w80,rfl⟩:∃ x,x=i:=⟨i,rfl⟩;refine aC<|t_n<|wp_seq<|aA<|qm u rfl fun a u=>?_;obtain⟨c82,e83,h⟩:=h;refine q u (bO u rfl xV xH e83) fun a u=>?_;obtain⟨v84,v85,w86,e87,h⟩:=h;refine q u (dc2 u rfl rfl Try.call63 (fS e87)) fun a u=>?_;refine dU (ι:=World) (pk:=fun i=>(.tuple #[])) (wf:=fun i=>i) (xs:=[_,_,_]) (vs:=[(pV (some v7)),(bV false),(.func (.func 83) #[] #[(pV (some v84)),(pV (some v85))])]) u ⟨rfl,rfl,rfl,aAO⟩ Try.call56 (dE (un1 h)) (fun i h a u=>?_);obtain⟨w88,rfl⟩:∃ x,x=i:=⟨i,rfl⟩;refine aC<|t_n<|?_;exact(show False from h).elim
  refine wp_seq<|aA<|q u (aI u rfl wK rfl rfl xG) fun a u=>?_;obtain⟨v90,e91,h⟩:=h;refine q u (aH u rfl xO (aN e91)) fun a u=>q u (cF u rfl rfl) fun a u=>qa u rfl fun a u=>aC<|t_n<|?_;refine cA u rfl h (fun b92 h=>?_) (fun b92 h=>?_)
  .refine wp_seq<|aA<|qm u rfl fun a u=>?_;obtain⟨c93,e94,h⟩:=h;refine q u (bO u rfl xV xH e94) fun a u=>?_;obtain⟨v95,v96,w97,e98,h⟩:=h;refine q u (dc2 u rfl rfl Try.call62 (fL e98)) fun a u=>?_;refine dU (ι:=World) (pk:=fun i=>(.tuple #[])) (wf:=fun i=>i) (xs:=[_,_,_]) (vs:=[(pV (some v7)),(bV false),(.func (.func 82) #[] #[(pV (some v95)),(pV (some v96))])]) u ⟨rfl,rfl,rfl,aAO⟩ Try.call56 (dD (un1 h)) (fun i h a u=>?_);obtain⟨w99,rfl⟩:∃ x,x=i:=⟨i,rfl⟩;refine aC<|t_n<|aA<|qm u rfl fun a u=>?_;obtain⟨c101,e102,h⟩:=h;refine q u (bO u rfl xV xH e102) fun a u=>?_;obtain⟨v103,v104,w105,e106,h⟩:=h;refine q u (dc2 u rfl rfl Try.call63 (fS e106)) fun a u=>?_;refine dU (ι:=World) (pk:=fun i=>(.tuple #[])) (wf:=fun i=>i) (xs:=[_,_,_]) (vs:=[(pV (some v8)),(bV true),(.func (.func 83) #[] #[(pV (some v103)),(pV (some v104))])]) u ⟨rfl,rfl,rfl,aAO⟩ Try.call56 (dE (un1 h)) (fun i h a u=>?_);obtain⟨w107,rfl⟩:∃ x,x=i:=⟨i,rfl⟩;refine aC<|b_n<|?_;exact hk41 w107 h _ (u.sb rfl)
  refine wp_seq<|aA<|q u (aI u rfl wK rfl rfl xG) fun a u=>?_;obtain⟨v109,e110,h⟩:=h;refine q u (aH u rfl xO (aN e110)) fun a u=>q u (cF u rfl rfl) fun a u=>qa u rfl fun a u=>aC<|t_n<|?_;refine cA u rfl h (fun b111 h=>?_) (fun b111 h=>?_)
  .refine wp_seq<|aA<|qm u rfl fun a u=>?_;obtain⟨c112,e113,h⟩:=h;refine q u (bO u rfl xV xH e113) fun a u=>?_;obtain⟨v114,v115,w116,e117,h⟩:=h;refine q u (dc2 u rfl rfl Try.call62 (fL e117)) fun a u=>?_;refine dU (ι:=World) (pk:=fun i=>(.tuple #[])) (wf:=fun i=>i) (xs:=[_,_,_]) (vs:=[(pV (some v7)),(bV false),(.func (.func 82) #[] #[(pV (some v114)),(pV (some v115))])]) u ⟨rfl,rfl,rfl,aAO⟩ Try.call56 (dD (un1 h)) (fun i h a u=>?_);obtain⟨w118,rfl⟩:∃ x,x=i:=⟨i,rfl⟩;refine aC<|t_n<|aA<|qm u rfl fun a u=>?_;obtain⟨c120,e121,h⟩:=h;refine q u (bO u rfl xV xH e121) fun a u=>?_;obtain⟨v122,v123,w124,e125,h⟩:=h;refine q u (dc2 u rfl rfl Try.call63 (fS e125)) fun a u=>?_;refine dU (ι:=World) (pk:=fun i=>(.tuple #[])) (wf:=fun i=>i) (xs:=[_,_,_]) (vs:=[(pV (some v8)),(bV true),(.func (.func 83) #[] #[(pV (some v122)),(pV (some v123))])]) u ⟨rfl,rfl,rfl,aAO⟩ Try.call56 (dE (un1 h)) (fun i h a u=>?_);obtain⟨w126,rfl⟩:∃ x,x=i:=⟨i,rfl⟩;refine aC<|b_n<|?_;exact hk41 w126 h _ (u.sb rfl)
  refine wp_seq<|aA<|q u (aI u rfl wK rfl rfl xG) fun a u=>?_;obtain⟨v128,e129,h⟩:=h;refine q u (aH u rfl xO (aN e129)) fun a u=>q u (cF u rfl rfl) fun a u=>qa u rfl fun a u=>aC<|t_n<|?_;refine cA u rfl h (fun b130 h=>?_) (fun b130 h=>?_)
  .refine wp_seq<|aA<|qm u rfl fun a u=>?_;obtain⟨c131,e132,h⟩:=h;refine q u (bO u rfl xV xH e132) fun a u=>?_;obtain⟨v133,v134,w135,e136,h⟩:=h;refine q u (dc2 u rfl rfl Try.call63 (fS e136)) fun a u=>?_;refine dU (ι:=World) (pk:=fun i=>(.tuple #[])) (wf:=fun i=>i) (xs:=[_,_,_]) (vs:=[(pV (some v7)),(bV false),(.func (.func 83) #[] #[(pV (some v133)),(pV (some v134))])]) u ⟨rfl,rfl,rfl,aAO⟩ Try.call56 (dE (un1 h)) (fun i h a u=>?_);obtain⟨w137,rfl⟩:∃ x,x=i:=⟨i,rfl⟩;refine aC<|t_n<|aA<|qm u rfl fun a u=>?_;obtain⟨c139,e140,h⟩:=h;refine q u (bO u rfl xV xH e140) fun a u=>?_;obtain⟨v141,v142,w143,e144,h⟩:=h;refine q u (dc2 u rfl rfl Try.call62 (fL e144)) fun a u=>?_;refine dU (ι:=World) (pk:=fun i=>(.tuple #[])) (wf:=fun i=>i) (xs:=[_,_,_]) (vs:=[(pV (some v8)),(bV true),(.func (.func 82) #[] #[(pV (some v141)),(pV (some v142))])]) u ⟨rfl,rfl,rfl,aAO⟩ Try.call56 (dD (un1 h)) (fun i h a u=>?_);obtain⟨w145,rfl⟩:∃ x,x=i:=⟨i,rfl⟩;refine aC<|b_n<|?_;exact hk41 w145 h _ (u.sb rfl)
  refine wp_seq<|aA<|q u (aI u rfl wK rfl rfl xG) fun a u=>?_;obtain⟨v147,e148,h⟩:=h;refine q u (aH u rfl xO (aN e148)) fun a u=>q u (cF u rfl rfl) fun a u=>qa u rfl fun a u=>aC<|t_n<|?_;refine cA u rfl h (fun b149 h=>?_) (fun b149 h=>?_)
  .refine wp_seq<|aA<|qm u rfl fun a u=>?_;obtain⟨c150,e151,h⟩:=h;refine q u (bO u rfl xV xH e151) fun a u=>?_;obtain⟨v152,v153,w154,e155,h⟩:=h;refine q u (dc2 u rfl rfl Try.call63 (fS e155)) fun a u=>?_;refine dU (ι:=World) (pk:=fun i=>(.tuple #[])) (wf:=fun i=>i) (xs:=[_,_,_]) (vs:=[(pV (some v7)),(bV false),(.func (.func 83) #[] #[(pV (some v152)),(pV (some v153))])]) u ⟨rfl,rfl,rfl,aAO⟩ Try.call56 (dE (un1 h)) (fun i h a u=>?_);obtain⟨w156,rfl⟩:∃ x,x=i:=⟨i,rfl⟩;refine aC<|t_n<|aA<|qm u rfl fun a u=>?_;obtain⟨c158,e159,h⟩:=h;refine q u (bO u rfl xV xH e159) fun a u=>?_;obtain⟨v160,v161,w162,e163,h⟩:=h;refine q u (dc2 u rfl rfl Try.call62 (fL e163)) fun a u=>?_;refine dU (ι:=World) (pk:=fun i=>(.tuple #[])) (wf:=fun i=>i) (xs:=[_,_,_]) (vs:=[(pV (some v8)),(bV true),(.func (.func 82) #[] #[(pV (some v160)),(pV (some v161))])]) u ⟨rfl,rfl,rfl,aAO⟩ Try.call56 (dD (un1 h)) (fun i h a u=>?_);obtain⟨w164,rfl⟩:∃ x,x=i:=⟨i,rfl⟩;refine aC<|b_n<|?_;exact hk41 w164 h _ (u.sb rfl)
  refine wp_seq<|?_;exact(show False from h).elim
 obtain⟨w12,e13,h⟩:=h;obtain⟨v14,e15,h⟩:=h;obtain⟨v16,e17,h⟩:=h;obtain⟨h,hB⟩:=h;obtain⟨p18,w19,e20,h⟩:=h;obtain⟨p21,w22,e23,h⟩:=h;obtain⟨e24,h⟩:=h;have hA:=h;have h:=hB;obtain⟨p25,w26,e27,h⟩:=h;obtain⟨p28,w29,e30,h⟩:=h;obtain⟨e31,h⟩:=h;have hB:=h;have u:Has 182 [(1,(iV a1)),(2,(pV (some p1))),(4,(pV (some p4)))] a:=u.sb rfl;refine iF (n:=182) (i:=4) (j:=9) (Dp:=[4,9,10,11]) (ds1:=(bA (pV (some (p1.add 1))) 0 [] 2 (pV (some p1))::bA (.string v14) 0 [0] 15 (pV (some (p1.add 1)))::eD (iV a1) 0 [] 1::eF (.agg (List.toArray ([.string v14,.int .i64 a1,.slice none 0 0]))) 0 [1,0,2] [(16,(.string v14)),(17,(iV a1))]::aL (pV (some p18)) true 0 0 (rn 0 4) [(18,(.agg (List.toArray ([.string v14,.int .i64 a1,.slice none 0 0]))))]::aL (pV (some (p1.add 1))) false 0 1 [] [(2,(pV (some p1)))]::aL (.string v16) false 0 1 [5] [(20,(pV (some (p1.add 1))))]::aL (iV a1) false 0 1 [] [(1,(iV a1))]::aL (.agg (List.toArray ([.string v16,.int .i64 a1,.slice none 0 0]))) false 0 1 [6,5,7] [(21,(.string v16)),(22,(iV a1))]::aL (pV (some p21)) true 1 1 (rn 0 9) [(23,(.agg (List.toArray ([.string v16,.int .i64 a1,.slice none 0 0]))))]::aL (pV (some p18)) false 1 2 (rn 0 5) [(19,(pV (some p18)))]::eD (pV (some p21)) 2 (rn 0 11) 24::[])) (ds2:=(aL (pV (some (p1.add 1))) false 0 1 [] [(2,(pV (some p1)))]::aL (.string v14) false 0 1 [0] [(15,(pV (some (p1.add 1))))]::aL (iV a1) false 0 1 [] [(1,(iV a1))]::aL (.agg (List.toArray ([.string v14,.int .i64 a1,.slice none 0 0]))) false 0 1 [1,0,2] [(16,(.string v14)),(17,(iV a1))]::aL (pV (some p28)) true 1 1 (rn 0 4++rn 5 5) [(18,(.agg (List.toArray ([.string v14,.int .i64 a1,.slice none 0 0]))))]::bA (pV (some (p1.add 1))) 0 [] 2 (pV (some p1))::bA (.string v16) 0 [5] 20 (pV (some (p1.add 1)))::eD (iV a1) 0 [] 1::eF (.agg (List.toArray ([.string v16,.int .i64 a1,.slice none 0 0]))) 0 [6,5,7] [(21,(.string v16)),(22,(iV a1))]::aL (pV (some p25)) true 0 0 (rn 5 4) [(23,(.agg (List.toArray ([.string v16,.int .i64 a1,.slice none 0 0]))))]::eD (pV (some p28)) 2 (rn 0 10) 19::eD (pV (some p25)) 2 (rn 0 11) 24::[])) (W1:=(fun j=>match j with | 0=>w12 | 1=>w19 | 2=>w22 | _=>w22)) (W2:=(fun j=>match j with | 0=>w12 | 1=>w26 | 2=>w29 | _=>w29)) (m1:=2) (m2:=2) (by kernel_rfl) u (gV e13) (gV e13) rfl (by kernel_rfl) (by kernel_rfl) rfl rfl (by decide) (bP (by kernel_rfl)) (bP (by kernel_rfl)) ?_ ?_ (by kernel_rfl) (by kernel_rfl) (fun a u=>?_) (fun a u=>?_)
 .refine⟨oa (aI · rfl wK rfl rfl wO),oc 0 (kd (aH · rfl wQ (cJ e15))),oa (aF · rfl),oa (fU (vs:=[(0,(.string v14)),(1,(iV a1))]) (pl:=#[(0,1),(1,1),(2,1)]) (cs:=([.string v14,.int .i64 a1,.slice none 0 0])) · ⟨rfl,rfl,rfl,rfl,aAO⟩ yE wL (by intro w;kernel_rfl) (by kernel_rfl)),oc 0 (kd (dP · rfl rfl e20)),oa (aI · rfl wK rfl rfl wO),?_,oa (aF · rfl),oa (fU (vs:=[(0,(.string v16)),(1,(iV a1))]) (pl:=#[(0,1),(1,1),(2,1)]) (cs:=([.string v16,.int .i64 a1,.slice none 0 0])) · ⟨rfl,rfl,rfl,rfl,aAO⟩ yE wL (by intro w;kernel_rfl) (by kernel_rfl)),oc 1 (kd (dP · rfl rfl e23)),oa (fN · rfl),oa (fN · rfl),aAO⟩;intro j h1 h2;have h1:0<=j:=h1;have h2:j<=1:=h2;rcases(by omega:j=0\/j=1) with rfl | rfl
  .exact kd (aH · rfl wQ (cJ e17))
  exact kd (aH · rfl wQ (cJ e24))
 .refine⟨oa (aI · rfl wK rfl rfl wO),?_,oa (aF · rfl),oa (fU (vs:=[(0,(.string v14)),(1,(iV a1))]) (pl:=#[(0,1),(1,1),(2,1)]) (cs:=([.string v14,.int .i64 a1,.slice none 0 0])) · ⟨rfl,rfl,rfl,rfl,aAO⟩ yE wL (by intro w;kernel_rfl) (by kernel_rfl)),oc 1 (kd (dP · rfl rfl e30)),oa (aI · rfl wK rfl rfl wO),oc 0 (kd (aH · rfl wQ (cJ e17))),oa (aF · rfl),oa (fU (vs:=[(0,(.string v16)),(1,(iV a1))]) (pl:=#[(0,1),(1,1),(2,1)]) (cs:=([.string v16,.int .i64 a1,.slice none 0 0])) · ⟨rfl,rfl,rfl,rfl,aAO⟩ yE wL (by intro w;kernel_rfl) (by kernel_rfl)),oc 0 (kd (dP · rfl rfl e27)),oa (fN · rfl),oa (fN · rfl),aAO⟩;intro j h1 h2;have h1:0<=j:=h1;have h2:j<=1:=h2;rcases(by omega:j=0\/j=1) with rfl | rfl
  .exact kd (aH · rfl wQ (cJ e15))
  exact kd (aH · rfl wQ (cJ e31))
 .have h:=hA;have u:Has 182 [(1,(iV a1)),(2,(pV (some p1))),(4,(pV (some p4))),(5,(pV (some p18))),(6,(pV (some p21)))] a:=u.sb rfl;exact hk11 (p18,p21,w22) h _ (u.sb rfl)
 have h:=hB;have u:Has 182 [(1,(iV a1)),(2,(pV (some p1))),(4,(pV (some p4))),(5,(pV (some p28))),(6,(pV (some p25)))] a:=u.sb rfl;exact hk11 (p28,p25,w29) h _ (u.sb rfl)
noncomputable def fA (a0:List Value) (w:World):Option (Bool×World) :=
 aE (mk w 40 a0) fun p1 w2 =>
 aE ((ldL w2 (p1.add 10)).bind fun v8 =>
 if (decide (4<(v8.n:Int)))=true then
 (some (true,w2))
 else
 ((ldL w2 (p1.add 11)).bind fun v11 =>
 some ((decide (4<(v11.n:Int))),w2))) fun v4 w5 =>
 some (v4,w5)
theorem kK {a0 w w' r0} (h:fA a0 w=some (r0,w')):Calls Try.prog 71 #[(.agg (List.toArray a0))] w fun e w''=>e=.returned (.bool r0)/\w''=w':=by
 refine aD (n:=13) Try.func71 rfl Try.ntmps71 (by simp) fun a u=>?_;unfold fA at h;refine wp_seq<|aA<|?_;have⟨p1,w2,e3,h⟩:=bs2 h;refine q u (dP u rfl rfl e3) fun a u=>qa u rfl fun a u=>aC<|t_n<|wp_seq<|?_;have⟨v4,w5,e6,h⟩:=bs2 h;refine bC (n:=13) (L:=[(2,(bV v4))]) (w':=w5) (fun a u=>?_) (fun hk7=>?_)
 .refine t_n<|wp_ret<|?_;have y:=u;cases h;exact aY Try.results71 y rfl ⟨rfl,rfl⟩
 clear h;have h:=e6;refine aA<|q u (aI u rfl wH rfl rfl xA) fun a u=>?_;have⟨v8,e9,h⟩:=bs1 h;refine q u (aH u rfl xD (bT e9)) fun a u=>q u (cE u rfl wN) fun a u=>q u (hG u rfl rfl) fun a u=>qm u rfl fun a u=>?_;refine cQ h (fun b10 h=>?_) (fun b10 h=>?_)
 .refine qn u 7 (tn b10) fun a u=>qn u 7 (tn b10) fun a u=>qn u 7 (tn b10) fun a u=>qn u 7 (tn b10) fun a u=>q u (aM u rfl b10 rfl) fun a u=>qa u rfl fun a u=>aC<|?_;have y:=u;cases h;exact hk7 _ (y.sb rfl)
 refine qg u 7 (nt b10) (aI u rfl wH rfl rfl xA) fun a u=>?_;have⟨v11,e12,h⟩:=bs1 h;refine qg u 7 (nt b10) (aH u rfl xD (bT e12)) fun a u=>qg u 7 (nt b10) (cE u rfl wN) fun a u=>qg u 7 (nt b10) (hG u rfl rfl) fun a u=>q u (aK u rfl b10 rfl) fun a u=>qa u rfl fun a u=>aC<|?_;have y:=u;cases h;exact hk7 _ (y.sb rfl)
noncomputable def aP (a0:Sl) (x1:Int) (w2:World):Option ((Int×World)⊕((World)⊕(Int×World))) :=
 if (decide (x1<(a0.n:Int)))=true then
 ((ix a0 x1 12).bind fun p12 =>
 (ldA 12 w2 p12 0).bind fun c14 =>
 aE (fA c14 w2) fun v16 w17 =>
 if v16=true then
 (some (.inr (.inr (x1,w17))))
 else
 (some (.inl ((IntKind.wrap .i64 (x1+1)),w17))))
 else
 (some (.inr (.inl w2)))
noncomputable def bU (a0:Sl) (w:World):Option (Int×World) :=
 (bS (fun s:Int×World=>aP a0 s.1 s.2) (0,w)).bind fun r3=>Sum.elim (fun (i:World)=>u1 i fun w5 =>
 some ((-1),w5)) (fun (i:Int×World)=>u2 i fun v6 w7 =>
 some (v6,w7)) r3
theorem fH {a0 w w' r0} (h:bU a0 w=some (r0,w')):Calls Try.prog 26 #[(Sl.v a0),(.func (.func 71) #[] #[])] w fun e w''=>e=.returned (.int .i64 r0)/\w''=w':=by
 refine aD (n:=19) Try.func26 rfl Try.ntmps26 (by simp) fun a u=>?_;unfold bU at h;refine wp_seq<|aA<|qa u rfl fun a u=>aC<|t_n<|wp_seq<|wp_seq<|aA<|qm u rfl fun a u=>q u (cE u rfl wJ) fun a u=>qm u rfl fun a u=>aC<|t_n<|wp_block<|?_;have⟨r3,e4,h⟩:=bs1 h;refine dG (n:=19) (L1:=fun i=>[]) (w1:=fun i=>i) (L2:=fun i=>[(4,(iV i.1))]) (w2:=fun i=>i.2) (e1:=.exit 0) (e2:=.ret) (I:=fun (s:Int×World) a w=>Has 19 [(8,(iV s.1)),(0,(Sl.v a0)),(1,(.func (.func 71) #[] #[])),(7,(iV (a0.n:Int)))] a/\w=s.2) ⟨u.sub ⟨rfl,rfl,rfl,rfl,aAO⟩,rfl⟩ e4 (fun i hi a u=>?_) (fun i hi a u=>?_) (fun hk8 hk9=>?_)
 .subst hi;obtain⟨w5,rfl⟩:∃ x,x=i:=⟨i,rfl⟩;dsimp only[Sum.elim_inl,Sum.elim_inr,u1,u2,u3,u4,u5,u6] at h;have u:Has 19 [] a:=u;refine eL<|t_n<|wp_seq<|aA<|qa u rfl fun a u=>aC<|t_n<|wp_ret<|?_;have y:=u;cases h;exact aY Try.results26 y rfl ⟨rfl,rfl⟩
 .subst hi;obtain⟨v6,w7⟩:=i;dsimp only[Sum.elim_inl,Sum.elim_inr,u1,u2,u3,u4,u5,u6] at h;have u:Has 19 [(4,(iV v6))] a:=u;refine b_r<|t_r<|?_;have y:=u;cases h;exact aY Try.results26 y rfl ⟨rfl,rfl⟩
 clear h;rintro⟨x1,w2⟩ a wq o ⟨u,hwq⟩ h hr10;obtain rfl:w2=wq:=hwq.symm;have u:Has 19 [(8,(iV x1)),(0,(Sl.v a0)),(1,(.func (.func 71) #[] #[])),(7,(iV (a0.n:Int)))] a:=u;have h:aP a0 x1 w2=some o:=h;unfold aP at h;refine wp_seq<|aA<|q u (fZ u rfl rfl) fun a u=>aC<|t_n<|wp_seq<|?_;refine aG u rfl h (fun b11 h=>?_) (fun b11 h=>?_)
 .refine wp_skip<|t_n<|wp_seq<|wp_block<|wp_seq<|aA<|qm u rfl fun a u=>qa u rfl fun a u=>aC<|t_n<|wp_seq<|aA<|qm u rfl fun a u=>qm u rfl fun a u=>qm u rfl fun a u=>?_;have⟨p12,e13,h⟩:=bs1 h;refine q u (dM u rfl rfl wJ wI e13) fun a u=>?_;have⟨c14,e15,h⟩:=bs1 h;refine q u (bO u rfl xB wI e15) fun a u=>?_;have⟨v16,w17,e18,h⟩:=bs2 h;refine q u (eG (xs:=[_]) (vs:=[(.agg (List.toArray c14))]) (cv:=[]) u rfl ⟨rfl,aAO⟩ Try.call71 (kK e18)) fun a u=>aC<|t_n<|?_;refine aG u rfl h (fun b19 h=>?_) (fun b19 h=>?_)
  .refine wp_seq<|aA<|qm u rfl fun a u=>qa u rfl fun a u=>aC<|t_n<|wp_ret<|b_r<|t_r<|?_;have y:=u;cases h;cases hr10 _ rfl;refine gD<|?_;exact hk9 _ rfl _ (y.sb rfl)
  refine wp_skip<|b_n<|t_n<|aA<|q u (dT u rfl rfl) fun a u=>qm u rfl fun a u=>aC<|?_;have y:=u;cases h;exact cY ⟨y.sb rfl,rfl⟩
 refine wp_exit<|t_x<|?_;have y:=u;cases h;cases hr10 _ rfl;refine iA<|?_;exact hk8 _ rfl _ (y.sb rfl)
noncomputable def bF (a0:Sl) (w:World):Option (Bool×World) :=
 aE (bU a0 w) fun v1 w2 =>
 some ((decide (0<=v1)),w2)
theorem eI {a0 w w' r0} (h:bF a0 w=some (r0,w')):Calls Try.prog 70 #[(Sl.v a0),(.func (.func 71) #[] #[])] w fun e w''=>e=.returned (.bool r0)/\w''=w':=by
 refine aD (n:=9) Try.func70 rfl Try.ntmps70 (by simp) fun a u=>?_;unfold bF at h;refine wp_seq<|aA<|qa u rfl fun a u=>aC<|t_n<|wp_seq<|aA<|qm u rfl fun a u=>qm u rfl fun a u=>?_;have⟨v1,w2,e3,h⟩:=bs2 h;refine q u (eV (xs:=[_,_]) (vs:=[(Sl.v a0),(.func (.func 71) #[] #[])]) u ⟨rfl,rfl,aAO⟩ Try.call26 (fH e3)) fun a u=>q u (kV u rfl rfl) fun a u=>qa u rfl fun a u=>aC<|t_n<|wp_ret<|?_;have y:=u;cases h;exact aY Try.results70 y rfl ⟨rfl,rfl⟩
def tR (ops:List Oper) (cls:List (List Nat)):Bool:=ops.zipIdx.all fun (o,i)=>((cls[i]?).getD []).all fun k=>o.after.toList.any fun e=>Region.binds .any e&&decide (e.on<i)&&(k==e.on||((cls[e.on]?).getD []).contains k)
def tU (X:List Nat) (m:Nat) (ops:List Oper) (cls:List (List Nat)):Bool:=ops.zipIdx.all fun (o,i)=>decide (i<m)||(List.range m).all fun k=>X.contains k||((cls[i]?).getD []).contains k
def uN (m:Nat) (ops:List Oper):Bool:=(ops.take m).zipIdx.all fun (o,i)=>(o.after.toList.all fun e=>!Region.binds .any e||decide (e.on<i))&&o.guard.all fun g=>decide (g.1<m)
def qL (X:List Nat) (m:Nat) (ops:List Oper):Bool:=tR ops (mD ops [])&&tU X m ops (mD ops [])&&uN m ops
section
variable {P : Program} {n : Nat} {L0 L : List (Nat × Value)} {Q Q' : Exit -> Act -> World -> Prop} {a : Act} {w : World}
theorem oR {o:Oper} {K:Act->World->Prop} (hq:∀ e a w,e≠.normal->Q' e a w->Q e a w) (hh:o.wp P a w K Q'):o.wp P a w K Q:=by
 unfold Oper.wp at *;generalize (execOp a.eval o).run P w=r at *
 cases r with
 | ok n w' =>
  cases n<;>simp only[Oper.upon] at hh ⊢ <;>
   first
    | exact hh
    | exact Calls.mono hh (fun e w'' he=>by
      cases e with
      | returned v=>exact he
      | panicked c=>exact hq _ _ _ (by simp) he
      | outgrown=>obtain⟨a',w3,h3⟩:=he;exact⟨a',w3,hq _ _ _ (by simp) h3⟩)
 | halt x w' =>
  cases x<;>simp only[Oper.upon] at hh ⊢<;>first | exact hq _ _ _ (by simp) hh | exact hh
theorem sD {A B:List Oper} {i:Nat} {K K':Act->World->Prop} (hi:i<A.length) (hg:∀ o,A[i]?=some o->∀ j c,o.guard=some (j,c)->j<A.length) (hq:∀ e a w,e≠.normal->Q' e a w->Q e a w) (hK:∀ a w,K' a w->K a w)
  (h:wpOp P A.toArray Q' i K' a w):wpOp P (A++B).toArray Q i K a w:=by
 unfold wpOp at h ⊢;have e:(A++B).toArray[i]?=A.toArray[i]?:=by simp[yN hi]
 rw[e];obtain⟨o,ho⟩:∃ o,A[i]?=some o:=⟨_,yK hi⟩;have ho':A.toArray[i]?=some o:=by simpa using ho
 rw[ho'] at h ⊢;simp only at h ⊢;have hw:Region.wanted o (yielded (A++B).toArray a.tmps)=Region.wanted o (yielded A.toArray a.tmps):=by
  unfold Region.wanted
  cases hgd:o.guard with
  | none=>rfl
  | some g =>
   obtain⟨j,c⟩:=g;have hj:=hg o ho j c hgd;have:yielded (A++B).toArray a.tmps j=yielded A.toArray a.tmps j:=by
    unfold yielded;have:(A++B).toArray[j]?=A.toArray[j]?:=by simp[yN hj]
    rw[this]
   simp only[this]
 rw[hw];split
 .rename_i h1;rw[if_pos h1] at h;rcases h with h | ⟨h,a',w',h'⟩
  .exact .inl (Oper.wp_mono hK (oR hq h))
  exact .inr ⟨h,a',w',hq _ _ _ (by simp) h'⟩
 rename_i h1;rw[if_neg h1] at h;exact hK _ _ h
theorem oZ {ops:List Oper} {cls:List (List Nat)} (hok:tR ops cls=true) {listed:Array Bool} (hc:∀ (i:Nat) (o:Oper),ops[i]?=some o->listed.getD i false=true->∀ e∈o.after.toList,Region.binds .any e=true->listed.getD e.on false=true) :
  ∀ (i:Nat) (o:Oper),ops[i]?=some o->(∀ e∈o.after.toList,Region.binds .any e=true->listed.getD e.on false=true)->∀ k∈(cls[i]?).getD [],listed.getD k false=true:=by
 intro i
 induction i using Nat.strongRecOn with
 | _ i ih =>
  intro o ho he k hk;have:=yI.1 (yI.1 hok _ (yQ.2 ho:(o,i)∈ops.zipIdx)) k hk;obtain⟨e,he1,hx⟩:=zS.1 this;simp only[yL,decide_eq_true_eq,zA,beq_iff_eq,yX] at hx;obtain⟨⟨h1,h2⟩,h3⟩:=hx;rcases h3 with rfl | h3
  .exact he e he1 h1
  have hle:=he e he1 h1
  cases ho':ops[e.on]? with
  | some o'=>exact ih e.on h2 o' ho' (hc e.on o' ho' hle) k h3
  | none =>
   have h5:=(yJ.1 ho).1;have h6:=zQ.1 ho';omega
theorem pQ {A B:List Oper} {X:List Nat} (hok:qL X A.length (A++B)=true) (hq:∀ e a w,e≠.normal->Q' e a w->Q e a w)
  (hQ:∀ a w,Q' .normal a w->wpAny P .any (A++B).toArray Q B.length (Array.replicate A.length true++Array.replicate B.length false) a w) :
  ∀ (fuel:Nat) (listed:Array Bool) (a:Act) (w:World),listed.size=A.length->(∀ k∈X,listed.getD k false=true)->(∀ (i:Nat) (o:Oper),A[i]?=some o->listed.getD i false=true->∀ e∈o.after.toList,Region.binds .any e=true->listed.getD e.on false=true) ->
   fuel=((List.range A.length).filter fun i=>!listed.getD i false).length->wpAny P .any A.toArray Q' fuel listed a w->wpAny P .any (A++B).toArray Q (fuel+B.length) (listed++Array.replicate B.length false) a w:=by
 simp only[qL,yL] at hok;obtain⟨⟨hcls,htl⟩,hhd⟩:=hok;have hA:∀ (i:Nat) (o:Oper),A[i]?=some o->(∀ e∈o.after.toList,Region.binds .any e=true->e.on<i)/\∀ j c,o.guard=some (j,c)->j<A.length:=fun i o ho=>by
  have hi:=(yJ.1 ho).1;have ho':((A++B).take A.length)[i]?=some o:=by rw[List.take_left' rfl];exact ho
  have:=yI.1 hhd _ (yQ.2 ho':(o,i)∈((A++B).take A.length).zipIdx);simp only[yL] at this;refine⟨fun e he hb=>?_,fun j c hg=>?_⟩
  .have:=yI.1 this.1 e he;simpa[hb] using this
  have:=this.2;rw[hg] at this;simpa using this
 intro fuel
 induction fuel with
 | zero =>
  intro listed a w hsz hX hc hf h;have hall:∀ k,k<A.length->listed.getD k false=true:=fun k hk=>by
   cases h:listed.getD k false with
   | true=>rfl
   | false =>
    have:k∈(List.range A.length).filter fun i=>!listed.getD i false:=by simp[hk];simpa using h
    rw[yT hf.symm] at this;cases this
  have:listed=Array.replicate A.length true:=by
   apply Array.ext
   .simpa using hsz
   intro i h1 h2;have:=hall i (by omega);rw[yH,yZ h1] at this;simpa using this
  rw[this,aAN];exact hQ a w h.2
 | succ fuel ih =>
  intro listed a w hsz hX hc hf h;have hne:∃ x,x<A.length/\listed.getD x false=false:=by
   have hne:((List.range A.length).filter fun i=>!listed.getD i false)≠[]:=fun h=>by rw[h] at hf;cases hf
   obtain⟨x,hx⟩:=zB _ hne;exact⟨x,by simpa using hx⟩
  have gl:∀ k d,k<A.length->(listed++Array.replicate B.length false).getD k d=listed.getD k d:=fun k d hk=>by
   rw[yH,yH,zX (by omega)]
  have gr:∀ k,A.length<=k->(listed++Array.replicate B.length false).getD k false=false:=fun k hk=>by
   rw[yH,aAt (by omega),zD];split<;>rfl
  have hcl:∀ (i:Nat) (o:Oper),(A++B)[i]?=some o->(listed++Array.replicate B.length false).getD i false=true->∀ e∈o.after.toList,Region.binds .any e=true->(listed++Array.replicate B.length false).getD e.on false=true:=fun i o ho hl e he hb=>by
   by_cases hi:i<A.length
   .rw[yN hi] at ho;rw[gl _ _ hi] at hl;have h1:=(hA i o ho).1 e he hb;rw[gl _ _ (by omega)];exact hc i o ho hl e he hb
   rw[gr i (by omega)] at hl;cases hl
  -- what is ready lies ahead of the cut
  have hr:∀ i,i∈Region.ready .any (A++B).toArray (listed++Array.replicate B.length false)↔i∈Region.ready .any A.toArray listed:=fun i=>by
   unfold Region.ready;simp only[yU,yS,List.size_toArray,zU,yL,yR,zL];constructor
   .rintro⟨h1,h2,h3⟩;obtain⟨o,ho⟩:∃ o,(A++B)[i]?=some o:=⟨_,yK (by simpa using h1)⟩;rw[ho] at h3;simp only[yP,yV] at h3;have he:∀ e∈o.after.toList,Region.binds .any e=true->(listed++Array.replicate B.length false).getD e.on false=true:=fun e he hb=>by
     have:=zG.1 h3 e (by simpa using he);simpa[hb] using this
    by_cases hi:i<A.length
    .refine⟨hi,by rwa[gl _ _ hi] at h2,?_⟩;rw[yN hi] at ho;rw[ho];simp only[yP,yV];refine zG.2 fun e hm=>?_;by_cases hb:Region.binds .any e=true
     .have h4:=(hA i o ho).1 e (by simpa using hm) hb;have h5:=he e (by simpa using hm) hb;rw[gl _ _ (by omega)] at h5;simp[h5]
     simp[hb]
    exfalso;obtain⟨x,hx1,hx2⟩:=hne;have ht:=yI.1 htl _ (yQ.2 ho:(o,i)∈(A++B).zipIdx);simp only[zA,decide_eq_true_eq] at ht;rcases ht with ht | ht
    .exact hi ht
    have hx:=yI.1 ht x (yS.2 hx1);rcases(Bool.or_eq_true_iff).1 hx with hx | hx
    .rw[hX x (by simpa using hx)] at hx2;cases hx2
    have:=oZ hcls hcl i o ho he x (by simpa using hx);rw[gl _ _ hx1,hx2] at this;cases this
   rintro⟨h1,h2,h3⟩;obtain⟨o,ho⟩:∃ o,A[i]?=some o:=⟨_,yK h1⟩;refine⟨by omega,by rwa[gl _ _ h1],?_⟩;rw[yN h1];rw[ho] at h3 ⊢;simp only[yP,yV] at h3 ⊢;refine zG.2 fun e hm=>?_;have:=zG.1 h3 e hm;by_cases hb:Region.binds .any e=true
   .have h4:=(hA i o ho).1 e (by simpa using hm) hb;rw[gl _ _ (by omega)];exact this
   simp[hb]
  have hsome:Region.ready .any A.toArray listed≠[]:=by
   obtain⟨x,hx1,hx2⟩:=hne;have hmin:∃ m,(m<A.length/\listed.getD m false=false)/\∀ k,k<m->¬ (k<A.length/\listed.getD k false=false):=by
    clear hf
    induction x using Nat.strongRecOn with
    | _ x ihx =>
     by_cases h:∃ k,k<x/\(k<A.length/\listed.getD k false=false)
     .obtain⟨k,hk,hk'⟩:=h;exact ihx k hk hk'.1 hk'.2
     exact⟨x,⟨hx1,hx2⟩,fun k hk hk'=>h ⟨k,hk,hk'⟩⟩
   obtain⟨m,⟨hm1,hm2⟩,hm3⟩:=hmin;have hm:m∈Region.ready .any A.toArray listed:=by
    unfold Region.ready;simp only[yU,yS,List.size_toArray,yL,yR,zL];obtain⟨o,ho⟩:∃ o,A[m]?=some o:=⟨_,yK hm1⟩;refine⟨hm1,?_,?_⟩
    .rw[yH,yZ (by omega)] at hm2 ⊢;simpa using hm2
    rw[ho];simp only[yP,yV];refine zG.2 fun e hme=>?_;by_cases hb:Region.binds .any e=true
    .have h4:=(hA m o ho).1 e (by simpa using hme) hb;have h5:listed.getD e.on false=true:=by
      cases h6:listed.getD e.on false with
      | true=>rfl
      | false=>exact(hm3 e.on h4 ⟨by omega,h6⟩).elim
     simp[h5]
    simp[hb]
   intro e;rw[e] at hm;cases hm
  rw[show fuel+1+B.length=(fuel+B.length)+1 by omega];refine⟨fun he=>?_,fun i hi=>?_⟩
  .exfalso;obtain⟨x,hx⟩:=zB _ hsome;rw[<-hr,he] at hx;cases hx
  have hi':=(hr i).1 hi;have hiA:i<A.length:=by
   unfold Region.ready at hi';simpa using(yU.1 hi').1
  have hst:=h.2 i hi';have hset:(listed++Array.replicate B.length false).setIfInBounds i true=listed.setIfInBounds i true++Array.replicate B.length false:=by
   apply Array.ext';simp only[zW,Array.toList_append];rw[aAq _ _ (by simpa[hsz] using hiA)]
  rw[hset];have hil:listed.getD i false=false:=by
   unfold Region.ready at hi';have:=(yU.1 hi').2;simp only[yL,yR] at this;have:=this.1;rw[yH,yZ (by omega)] at this ⊢;simpa using this
  refine sD hiA (fun o ho=>(hA i o ho).2) hq (fun a w h'=>ih (listed.setIfInBounds i true) a w (by simpa using hsz) (fun k hk=>by rw[dH (by omega)];unfold dZ;exact(Decidable.em (k=i)).elim (fun e=>by rw[if_pos e]) (fun e=>by rw[if_neg e];exact hX k hk)) (fun j o ho hl e he hb=>?_) ?_ h') hst
  .rw[dH (by omega)] at hl ⊢;unfold dZ at hl ⊢;by_cases hj:j=i
   .subst hj;split
    .rfl
    unfold Region.ready at hi';have h3:=(yU.1 hi').2;simp only[yL,zL,ho,yP,yV] at h3;have:=zG.1 h3.2 e (by simpa using he);simpa[hb] using this
   rw[if_neg hj] at hl;split
   .rfl
   exact hc j o ho hl e he hb
  have hc2:((List.range A.length).filter fun k=>!listed.getD k false).length=((List.range A.length).filter fun k=>!(listed.setIfInBounds i true).getD k false).length+1:=by
   have key:∀ (l:List Nat),l.Nodup->i∈l->(l.filter fun k=>!listed.getD k false).length=(l.filter fun k=>!(listed.setIfInBounds i true).getD k false).length+1:=by
    intro l
    induction l with
    | nil=>intro _ h;cases h
    | cons x l ihl =>
     intro hnd hin;rw[List.nodup_cons] at hnd;by_cases hx:x=i
     .subst hx;have e1:(!listed.getD x false)=true:=by rw[hil];rfl
      have e2:(!(listed.setIfInBounds x true).getD x false)=false:=by rw[dH (by omega)];simp[dZ]
      rw[zY,zY,e1,e2];simp only[if_true,aAd,if_false,zC];congr 2;exact aAi fun k hk=>by
       rw[dH (by omega)];have:k≠x:=fun e=>hnd.1 (e ▸ hk);unfold dZ;rw[if_neg this]
     have hin':i∈l:=(aAL.1 hin).resolve_left (fun e=>hx e.symm);have e2:(listed.setIfInBounds i true).getD x false=listed.getD x false:=by rw[dH (by omega)];simp[dZ,hx]
     rw[zY,zY,e2];have:=ihl hnd.2 hin';split<;>(try simp only[zC])<;>omega
   exact key _ List.nodup_range (yS.2 hiA)
  omega
theorem sV {ops:Array Oper} {listed:Array Bool} {fuel p:Nat} (hr:Region.ready .any ops listed=[p]) (h:wpOp P ops Q p (wpAny P .any ops Q fuel (listed.setIfInBounds p true)) a w):wpAny P .any ops Q (fuel+1) listed a w :=
 ⟨(fun e=>by rw[hr] at e;cases e),(fun i hi=>by rw[hr] at hi;obtain rfl:=List.mem_singleton.1 hi;exact h)⟩
theorem sC {ι:Type} {ops:Array Oper} {p:Nat} {K:Act->World->Prop} {d ty pos af f g} {xs:List Operand} {ts:Array TypeId} {vs:List Value} {pk:ι->Value} {wf:ι->World} {C:ι->Prop} (hi:ops[p]?=some ⟨d,.call { callee:=.value (.func f),args:=xs.toArray,argTypes:=ts },ty,pos,af,g⟩)
  (hg:g=none\/∃ j c t b,g=some (j,c)/\(ops[j]?).bind (·.dst)=some t/\L.lookup t=some (.bool b)/\b=c)
  (ha:Has n L a) (hx:evs L xs vs) (hf:∀ (args:Array Value) (w:World),(callFunc f args).run P w = .ok (.enter f args) w)
  (h:Calls P f vs.toArray w fun e w''=>∃ i,e = .returned (pk i)/\C i/\w''=wf i) (hr:∀ i,C i->∀ a',Has n (upd d (pk i) L) a'->K a' (wf i)) (hd:ltb n d=true:=by rfl) :
  wpOp P ops Q p K a w:=by
 unfold wpOp;rw[hi];simp only;have hw:Region.wanted ⟨d,.call { callee:=.value (.func f),args:=xs.toArray,argTypes:=ts },ty,pos,af,g⟩ (yielded ops a.tmps)=true:=by
  rcases hg with rfl | ⟨j,c,t,b,rfl,h1,h2,rfl⟩
  .simp[Region.wanted]
  simp[Region.wanted,iP h1 ha h2]
 rw[if_pos hw];left;unfold Oper.wp;have hrun:(execOp a.eval ⟨d,.call { callee:=.value (.func f),args:=xs.toArray,argTypes:=ts },ty,pos,af,g⟩).run P w = .ok (.enter f vs.toArray) w:=by
  simp[execOp,resolve,Deferred.ofValue,invoke,Act.eval,hf];have:=jZ ha hx;exact this
 rw[hrun];refine h.mono fun e w' ⟨i,he,hC,hw⟩=>?_;subst he;subst hw;exact hr i hC _ (ha.put _ (ltd hd) _)
theorem oM {ds:List OpD} {W:Nat->World} {p q m:Nat} {listed:Array Bool} (hok:kI (List.range p) ds=true) (hls:listed=Array.replicate p true++Array.replicate q false) (hlen:ds.length=p+q) (hedge:(ds.take p).zipIdx.all (fun (d,i)=>d.o.after.toList.all fun e=>!Region.binds .any e||decide (e.on<i))=true)
  (hz:cnt ds 0 (fun k=>decide (k<p))=0) (hO:∀ (i:Nat) (d:OpD),ds[i]?=some d->p<=i->∀ j,d.lo<=j->j<=d.hi->iJ P n (ds.map (·.o)).toArray d.o d.li d.v (W j) (W (j+if d.e=true then 1 else 0))) (hR:gC ds L0)
  (hd:(ds.all fun d=>d.o.dst.all fun t=>decide (t<n))=true) (hcm:cnt ds 0 (fun _=>true)=m) (ha:Has n (dR ds 0 (fun k=>decide (k<p)) L0) a)
  (hQ:∀ a,Has n (dR ds 0 (fun _=>true) L0) a->Q .normal a (W m)):wpAny P .any (ds.map (·.o)).toArray Q q listed a (W 0):=by
 subst hls;subst hcm;have gd':∀ k,(Array.replicate p true++Array.replicate q false).getD k false=decide (k<p):=by
  intro k;by_cases hk:k<p
  .rw[yH,zX (by simpa using hk),zD,if_pos hk,decide_eq_true hk];rfl
  rw[yH,aAt (by simpa using hk),zD,decide_eq_false hk];split<;>rfl
 have gd:(fun k=>(Array.replicate p true++Array.replicate q false).getD k false)=fun k=>decide (k<p):=funext gd';have:=jL (P:=P) (n:=n) (L0:=L0) (Q:=Q) (W:=W) (X:=List.range p) hok (fun i d h hi=>hO i d h (by simpa using hi)) hR (fun i d t h ht=>by
   have:=yI.1 hd d (yW h);rw[ht] at this;simpa using this) hQ q (Array.replicate p true++Array.replicate q false) a (by simp[hlen]) (fun k hk=>by
   rw[gd',decide_eq_true (by simpa using hk)]) (fun i d h hl e he hb=>by
   rw[gd'] at hl;rw[gd'];have hip:i<p:=by simpa using hl
   have h':(ds.take p)[i]?=some d:=by rw[List.getElem?_take,if_pos hip];exact h
   have:=yI.1 (yI.1 hedge _ (yQ.2 h':(d,i)∈(ds.take p).zipIdx)) e he;simp only[hb,Bool.not_true,Bool.false_or,decide_eq_true_eq] at this;exact decide_eq_true (by omega)) (by rw[gd];exact ha) (by
   have hf:∀ i,(!(Array.replicate p true++Array.replicate q false).getD i false)=decide (p<=i):=fun i=>by
    rw[gd'];by_cases h:i<p
    .simp[h]
    simp[h];omega
   simp only[hf,hlen];rw[List.range_add,List.filter_append];have e1:(List.range p).filter (fun i=>decide (p<=i))=[]:=aAg.2 fun i hi=>by have:=yS.1 hi;simp;omega
   have e2:((List.range q).map (p+·)).filter (fun i=>decide (p<=i))=(List.range q).map (p+·):=zZ.2 fun i hi=>by obtain⟨k,-,rfl⟩:=List.mem_map.1 hi;simp
   rw[e1,e2];simp)
 rw[gd,hz] at this;exact this
theorem rQ {ds:List OpD} {W:Nat->World} {ops:Array Oper} {p:Nat} (h:Obl P n ops W (ds.drop p)):∀ (i:Nat) (d:OpD),ds[i]?=some d->p<=i->∀ j,d.lo<=j->j<=d.hi->iJ P n ops d.o d.li d.v (W j) (W (j+if d.e=true then 1 else 0)):=fun i d hd hi=>by
 refine h.get (i:=i-p) ?_;rw[List.getElem?_drop,show p+(i-p)=i by omega];exact hd
end
section
variable {P : Program} {n : Nat} {L0 L : List (Nat × Value)} {Q Q' : Exit -> Act -> World -> Prop} {a : Act} {w : World}
def Qn (Q:Exit->Act->World->Prop):Exit->Act->World->Prop:=fun e a w=>match e with | .normal=>Q .normal a w | _=>False
theorem mO:¬ LetsOut (Qn Q):=fun ⟨_,_,h⟩=>h
theorem jV {d:Nat} {o:Option Tmp} {v x:Value} (h:o≠some d):(a.put (some d) v).put o x=(a.put o x).put (some d) v:=by
 cases o with
 | none=>rfl
 | some e =>
  have:e≠d:=fun h'=>h (by rw[h']);simp only[Act.put,aAA _ _ (Ne.symm this)]
theorem jS {d t:Nat} {v:Value} (h:t≠d):(a.put (some d) v).eval (.tmp t)=a.eval (.tmp t):=by
 simp only[Act.put,Act.eval,yH,Array.getElem?_setIfInBounds];rw[if_neg (Ne.symm h)]
theorem lW {f:FuncId}:a.eval (.func f) = .func (.func f) #[] #[]:=rfl
theorem mN {v:Value}:a.eval (.const v)=v:=rfl
theorem kZ {s:Nat} {o:Option Tmp} {v:Value} (h:o≠some s):(a.put o v).eval (.tmp s)=a.eval (.tmp s):=by
 cases o with
 | none=>rfl
 | some e=>exact jS fun h'=>h (by rw[h'])
structure Fl (o:Oper) (d s:Nat):Prop where
 g:o.guard=none
 nd:o.dst≠some d
 ns:o.dst≠some s
 e:∀ (a:Act) (v:Value),execOp (a.put (some d) v).eval o=execOp a.eval o
theorem qY {o:Oper} {d s:Nat} {v:Value} (h:Fl o d s) {K K':Act->World->Prop} (hK:∀ a' w',a'.eval (.tmp s)=a.eval (.tmp s)->K' (a'.put (some d) v) w'->K a' w') (hh:o.wp P (a.put (some d) v) w K' (Qn Q)):o.wp P a w K Q:=by
 unfold Oper.wp at *;rw[h.e] at hh;generalize (execOp a.eval o).run P w=r at *
 cases r with
 | ok x w' =>
  cases x<;>simp only[Oper.upon] at hh ⊢
  case value v'=>rw[jV h.nd] at hh;exact hK _ _ (kZ h.ns) hh
  case skip=>rw[jV h.nd] at hh;exact hK _ _ (kZ h.ns) hh
  case enter f args =>
   exact Calls.mono hh fun e w'' he=>by
    cases e with
    | returned v'=>simp only at he ⊢;rw[jV h.nd] at he;exact hK _ _ (kZ h.ns) he
    | panicked c=>exact he.elim
    | outgrown=>exact(mO he).elim
  case defer x =>
   have e1:({ (a.put (some d) v) with defers:=x::(a.put (some d) v).defers }:Act).put o.dst undef=(({ a with defers:=x::a.defers }:Act).put o.dst undef).put (some d) v:=by
    rw[<-jV h.nd];rfl
   rw[e1] at hh;refine hK _ _ ?_ hh;rw[kZ h.ns];rfl
  case row r' args=>exact Rows.mono hh fun v' w'' he=>by rw[jV h.nd] at he;exact hK _ _ (kZ h.ns) he
 | halt x w'=>cases x<;>simp only[Oper.upon] at hh ⊢<;>exact hh.elim
theorem nT {ops:Array Oper}:∀ (fuel:Nat) (listed:Array Bool) (a:Act) (w:World),wpAny P .any ops (Qn Q) fuel listed a w->wpAny P .any ops Q fuel listed a w
 | 0,listed,a,w,h=>h
 | fuel+1,listed,a,w,h=>⟨h.1,fun i hi=>by
  have:=h.2 i hi;unfold wpOp at this ⊢;split
  .rename_i h0;rw[h0] at this;exact nT fuel _ _ _ this
  rename_i o h0;rw[h0] at this;simp only at this;split
  .rename_i hw;rw[if_pos hw] at this;rcases this with this | ⟨_,this⟩
   .exact .inl (Oper.wp_mono (nT fuel _) (oR (fun e a w hne hq=>by cases e<;>first | exact(hne rfl).elim | exact hq.elim) this))
   exact(mO this).elim
  rename_i hw;rw[if_neg hw] at this;exact nT fuel _ _ _ this⟩
theorem kA {ops:Array Oper} {listed:Array Bool} {i:Nat}:i∈Region.ready .any ops listed↔i<ops.size/\listed.getD i true=false/\∀ o,ops[i]?=some o->∀ e∈o.after.toList,Region.binds .any e=true->listed.getD e.on false=true:=by
 unfold Region.ready;simp only[yU,yS,yL,yR];constructor
 .rintro⟨h1,h2,h3⟩;refine⟨h1,h2,fun o ho e he hb=>?_⟩;rw[ho] at h3;simp only[yP,yV] at h3;have:=zG.1 h3 e (by simpa using he);simpa[hb] using this
 rintro⟨h1,h2,h3⟩;refine⟨h1,h2,?_⟩;obtain⟨o,ho⟩:∃ o,ops[i]?=some o:=⟨_,yZ h1⟩;rw[ho];simp only[yP,yV];refine zG.2 fun e he=>?_;by_cases hb:Region.binds .any e=true
 .simp[h3 o ho e (by simpa using he) hb]
 simp[hb]
theorem nY {ops:Array Oper} {i d s ty:Nat} {pos:String} (hi:ops[i]?=some ⟨some d,.move (.tmp s),ty,pos,#[],none⟩)
  (ho:∀ j o,ops[j]?=some o->j≠i->Fl o d s\/∃ e∈o.after.toList,Region.binds .any e=true/\e.on=i) :
  ∀ (fuel:Nat) (listed:Array Bool) (a:Act) (w:World),listed.size=ops.size->listed.getD i true=false->wpAny P .any ops (Qn Q) fuel (listed.setIfInBounds i true) (a.put (some d) (a.eval (.tmp s))) w->wpAny P .any ops Q (fuel+1) listed a w:=by
 have hil:i<ops.size:=(zO.1 hi).1;have hw:∀ {o:Oper},o.guard=none->∀ t,Region.wanted o (yielded ops t)=true:=fun h t=>by unfold Region.wanted;rw[h]
 have move:∀ {K:Act->World->Prop} {a:Act} {w:World},K (a.put (some d) (a.eval (.tmp s))) w->wpOp P ops Q i K a w:=fun {K a w} hk=>by
  unfold wpOp;rw[hi];simp only;rw[if_pos (hw rfl _)];left;unfold Oper.wp;simpa[execOp,Oper.upon] using hk
 intro fuel
 induction fuel with
 | zero =>
  intro listed a w hsz hl h;have hri:i∈Region.ready .any ops listed:=kA.2 ⟨hil,hl,fun o ho' e he=>by rw[hi] at ho';cases ho';simp at he⟩;refine⟨fun h0=>(by rw[h0] at hri;cases hri),fun j hj=>?_⟩;by_cases hji:j=i
  .subst hji;exact move ⟨h.1,h.2⟩
  exfalso;obtain⟨j1,j2,j3⟩:=kA.1 hj;have:j∈Region.ready .any ops (listed.setIfInBounds i true):=kA.2 ⟨j1,by rw[yH,yO (Ne.symm hji),<-yH];exact j2,fun o ho' e he hb=>by
   have:=j3 o ho' e he hb;rw[dH (by omega)];unfold dZ;split
   .rfl
   exact this⟩
  rw[h.1] at this;cases this
 | succ fuel ih =>
  intro listed a w hsz hl h;have hri:i∈Region.ready .any ops listed:=kA.2 ⟨hil,hl,fun o ho' e he=>by rw[hi] at ho';cases ho';simp at he⟩;refine⟨fun h0=>(by rw[h0] at hri;cases hri),fun j hj=>?_⟩;by_cases hji:j=i
  .subst hji;exact move (nT _ _ _ _ h)
  obtain⟨j1,j2,j3⟩:=kA.1 hj;have hj':j∈Region.ready .any ops (listed.setIfInBounds i true):=kA.2 ⟨j1,by rw[yH,yO (Ne.symm hji),<-yH];exact j2,fun o ho' e he hb=>by
   have:=j3 o ho' e he hb;rw[dH (by omega)];unfold dZ;split
   .rfl
   exact this⟩
  have h1:=h.2 j hj';obtain⟨o,hoj⟩:∃ o,ops[j]?=some o:=⟨_,yZ j1⟩;have hfl:Fl o d s:=by
   rcases ho j o hoj hji with h | ⟨e,he,hb,hon⟩
   .exact h
   have:=j3 o hoj e he hb;rw[hon,yH,yZ (by omega)] at this;rw[yH,yZ (by omega)] at hl;simp only[yV] at this hl;rw[hl] at this;cases this
  unfold wpOp at h1 ⊢;rw[hoj] at h1 ⊢;simp only at h1 ⊢;rw[if_pos (hw hfl.g _)] at h1;rw[if_pos (hw hfl.g _)];rcases h1 with h1 | ⟨_,h1⟩
  .left;refine qY hfl (fun a' w' he hk=>?_) h1;refine ih (listed.setIfInBounds j true) a' w' (by simpa using hsz) (by rw[yH,yO hji,<-yH];exact hl) ?_;rw[he,aAA _ _ hji];exact hk
  exact(mO h1).elim
def qM (d s i:Nat):List Oper->Nat->Prop
 | [],_=>True
 | o::l,j=>(j=i\/Fl o d s\/(o.after.toList.any fun e=>Region.binds .any e&&e.on==i)=true)/\qM d s i l (j+1)
theorem nF {d s i:Nat}:∀ {l:List Oper} {j k:Nat} {o:Oper},qM d s i l j->l[k]?=some o->j+k=i\/Fl o d s\/∃ e∈o.after.toList,Region.binds .any e=true/\e.on=i
 | o::l,j,0,_,h,hk=>by
  cases hk;rcases h.1 with h | h | h
  .exact .inl h
  .exact .inr (.inl h)
  obtain⟨e,he,hb⟩:=zS.1 h;simp only[yL,beq_iff_eq] at hb;exact .inr (.inr ⟨e,he,hb.1,hb.2⟩)
 | o::l,j,k+1,_,h,hk=>by
  have:=nF (k:=k) h.2 hk;rwa[show j+1+k=j+(k+1) by omega] at this
 | [],_,_,_,_,hk=>by cases hk
theorem wF {w:World} (h:Q .normal a w):Qn Q .normal a w:=h
theorem oL {ds:List OpD} {B:List Oper} {W:Nat->World} {m id i d s ty:Nat} {pos:String} {v:Value} (hm:P.follows .mixedOrders=true) (ha:Has n L0 a) (h0:W 0=w.drew) (hi:(ds.map (·.o))[i]?=some ⟨some d,.move (.tmp s),ty,pos,#[],none⟩) (hfl:qM d s i (ds.map (·.o)++B) 0)
  (hs:evO L0 (.tmp s)=some v) (hdn:d<n) (henv:dR ds 0 (fun k=>decide (k=i)) L0=upd (some d) v L0) (hc0:cnt ds 0 (fun k=>decide (k=i))=0) (hok:kI [i] ds=true) (hcut:qL [i] ds.length (ds.map (·.o)++B)=true)
  (hO:Obl P n (ds.map (·.o)).toArray W ds) (hR:gC ds L0)
  (hd:(ds.all fun d=>d.o.dst.all fun t=>decide (t<n))=true) (hcm:cnt ds 0 (fun _=>true)=m)
  (hQ:∀ a,Has n (dR ds 0 (fun _=>true) L0) a->wpAny P .any (ds.map (·.o)++B).toArray (Qn Q) B.length (Array.replicate ds.length true++Array.replicate B.length false) a (W m)):(Code.region id (ds.map (·.o)++B).toArray true).wp P Q a w:=by
 subst hcm;refine wp_region_any hm ?_;have hl:(ds.map (·.o)).length=ds.length:=by simp
 have hid:i<ds.length:=by have:=(yJ.1 hi).1;simpa using this
 have hN:(ds.map (·.o)++B).toArray.size=(ds.length-1+B.length)+1:=by simp;omega
 have hrep:Array.replicate (ds.length-1+B.length+1) false=Array.replicate ds.length false++Array.replicate B.length false:=by
  rw[show ds.length-1+B.length+1=ds.length+B.length by omega];simp
 have hsetl:(Array.replicate ds.length false++Array.replicate B.length false).setIfInBounds i true=(Array.replicate ds.length false).setIfInBounds i true++Array.replicate B.length false:=by
  apply Array.ext';simp only[zW,Array.toList_append];rw[aAq _ _ (by simpa using hid)]
 have hev:a.eval (.tmp s)=v:=ha.ev hs;have gz:∀ k,((Array.replicate ds.length false).setIfInBounds i true).getD k false=decide (k=i):=fun k=>by
  rw[dH (by simpa using hid)];unfold dZ;by_cases h:k=i
  .rw[if_pos h,decide_eq_true h]
  rw[if_neg h,decide_eq_false h];exact iN _ _
 rw[hN,hrep];refine nY (i:=i) (d:=d) (s:=s) (ty:=ty) (pos:=pos) (by rw[zL,yN (by omega)];exact hi) (fun j o ho hji=>?_) (ds.length-1+B.length) _ a w.drew (by simp) (by
   rw[yH,zX (by simpa using hid),zD,if_pos hid];rfl) ?_
 .rcases nF hfl (by simpa using ho:(ds.map (·.o)++B)[j]?=some o) with h | h
  .exact(hji (by omega)).elim
  exact h
 rw[hev,hsetl];have hf1:ds.length-1=((List.range ds.length).filter fun k=>!((Array.replicate ds.length false).setIfInBounds i true).getD k false).length:=by
  have e:(fun k=>!((Array.replicate ds.length false).setIfInBounds i true).getD k false)=fun k=>decide (k≠i):=funext fun k=>by rw[gz];by_cases h:k=i<;>simp[h]
  rw[e];have key:∀ N,i<N->((List.range N).filter fun k=>decide (k≠i)).length=N-1:=by
   intro N
   induction N with
   | zero=>intro h;omega
   | succ N ih =>
    intro h;rw[List.range_succ,List.filter_append,zU];by_cases hi:i=N
    .subst hi;have:(List.range i).filter (fun k=>decide (k≠i))=List.range i:=zZ.2 fun k hk=>by have:=yS.1 hk;simp;omega
     rw[this];simp
    rw[ih (by omega)];have:[N].filter (fun k=>decide (k≠i))=[N]:=by simp;omega
    rw[this];simp;omega
  exact(key _ hid).symm
 have hX:∀ k∈[i],((Array.replicate ds.length false).setIfInBounds i true).getD k false=true:=fun k hk=>by rw[gz];simpa using hk
 have hoi:∀ (k:Nat) (o:Oper),(ds.map (·.o))[k]?=some o->((Array.replicate ds.length false).setIfInBounds i true).getD k false=true->∀ e∈o.after.toList,Region.binds .any e=true->((Array.replicate ds.length false).setIfInBounds i true).getD e.on false=true:=fun k o ho hk e he=>by
  rw[gz] at hk;have:k=i:=by simpa using hk
  subst this;rw[hi] at ho;cases ho;simp at he
 refine pQ (P:=P) (Q:=Qn Q) (X:=[i]) (Q':=fun e a w=>match e with | .normal=>wpAny P .any (ds.map (·.o)++B).toArray (Qn Q) B.length (Array.replicate (ds.map (·.o)).length true++Array.replicate B.length false) a w | e=>Qn Q e a w)
  (A:=ds.map (·.o)) (B:=B) (by rw[hl];exact hcut) (fun e a w hne h=>by cases e<;>first | exact h | exact(hne rfl).elim) (fun a w h=>h) (ds.length-1) _ _ _ (by simp) hX hoi (by rw[hl];exact hf1) ?_
 have:=jL (P:=P) (n:=n) (L0:=L0) (W:=W) (X:=[i]) (Q:=fun e a w=>match e with | .normal=>wpAny P .any (ds.map (·.o)++B).toArray (Qn Q) B.length (Array.replicate (ds.map (·.o)).length true++Array.replicate B.length false) a w | e=>Qn Q e a w)
  hok (fun k d h _=>hO.get h) hR (fun k d t h ht=>by
   have:=yI.1 hd d (yW h);rw[ht] at this;simpa using this) (fun a ha=>by rw[hl];exact hQ a ha) (ds.length-1) ((Array.replicate ds.length false).setIfInBounds i true) (a.put (some d) v) (by simp) hX (fun k d h hk e he=>hoi k d.o (by rw[aAk,h];rfl) hk e he)
  (by
   rw[show(fun k=>((Array.replicate ds.length false).setIfInBounds i true).getD k false)=fun k=>decide (k=i) from funext gz,henv];exact ha.put _ (fun t ht=>by cases ht;exact hdn) _)
  hf1
 rw[show(fun k=>((Array.replicate ds.length false).setIfInBounds i true).getD k false)=fun k=>decide (k=i) from funext gz,hc0,h0] at this;exact this
end
end
end Go.Proofs.Ytggheaclnklhaaa.D
