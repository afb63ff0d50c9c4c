/- CoverInside -/
import Derived.Scope
import Derived.Test.YtggheaclnklhaaaPCoverInsideA
namespace Go.Proofs.Ytggheaclnklhaaa.D
open Go
set_option linter.unusedVariables false
set_option linter.unusedSimpArgs false
set_option maxHeartbeats 1000000
set_option maxRecDepth 100000
noncomputable section
def bO (a0:Sl) (a1_0:Addr) (w:World):Option (Bool×World) :=
 aE (cY a0 a1_0 w) fun v1 w2 =>
 some ((decide (0<=v1)),w2)
theorem fN {a0 a1_0 w w' r0} (h:bO a0 a1_0 w=some (r0,w')):Calls Try.prog 16 #[(Sl.v a0),(.func (.func 45) #[] #[(.pointer (some a1_0))])] w fun e w''=>e=.returned (.bool r0)/\w''=w':=by
 refine aG (n:=9) Try.func16 rfl Try.ntmps16 (by simp) fun a u=>?_;unfold bO at h;refine wp_seq<|aA<|qa u rfl fun a u=>aC<|t_n<|wp_seq<|aA<|qm u rfl fun a u=>qm u rfl fun a u=>?_;have⟨v1,w2,e3,h⟩:=bs2 h;refine q u (fP (xs:=[_,_]) (vs:=[(Sl.v a0),(.func (.func 45) #[] #[(pV (some a1_0))])]) u ⟨rfl,rfl,aBP⟩ Try.call25 (gA e3)) fun a u=>q u (lU u rfl rfl) fun a u=>qa u rfl fun a u=>aC<|t_n<|wp_ret<|?_;have y:=u;cases h;exact aX Try.results16 y rfl ⟨rfl,rfl⟩
noncomputable def eZ (v72:Sl) (p1:Addr) (x74:Int) (w75:World):Option ((Int×World)⊕((World)⊕(Bool×World))) :=
 if (decide (x74<(v72.n:Int)))=true then
 ((ix v72 x74 3).bind fun p85 =>
 (ldA 3 w75 p85 0).bind fun c87 =>
 aE (mk w75 43 ([.int .i64 0,.int .i64 0,.int .i64 0])) fun p89 w90 =>
 (stA w90 p89 0 c87).bind fun w92 =>
 (ldL w92 (p1.add 10)).bind fun v94 =>
 aE (bS v94 p89 w92) fun v96 w97 =>
 if (!v96)=true then
 (some (.inr (.inr (false,w97))))
 else
 (some (.inl ((IntKind.wrap .i64 (x74+1)),w97))))
 else
 (some (.inr (.inl w75)))
noncomputable def fC (v100:Sl) (p1:Addr) (x102:Int) (w103:World):Option ((Int×World)⊕((World)⊕(Bool×World))) :=
 if (decide (x102<(v100.n:Int)))=true then
 ((ix v100 x102 3).bind fun p113 =>
 (ldA 3 w103 p113 0).bind fun c115 =>
 aE (mk w103 43 ([.int .i64 0,.int .i64 0,.int .i64 0])) fun p117 w118 =>
 (stA w118 p117 0 c115).bind fun w120 =>
 aE ((ldL w120 (p1.add 11)).bind fun v126 =>
 aE (bP v126 p117 w120) fun v128 w129 =>
 if (!v128)=true then
 ((ldL w129 (p1.add 10)).bind fun v132 =>
 aE (bO v132 p117 w129) fun v134 w135 =>
 some ((!v134),w135))
 else
 (some (false,w129))) fun v122 w123 =>
 if v122=true then
 (some (.inr (.inr (false,w123))))
 else
 (some (.inl ((IntKind.wrap .i64 (x102+1)),w123))))
 else
 (some (.inr (.inl w103)))
noncomputable def jA (a0:List Value) (a1:List Value) (w:World):Option (Bool×World) :=
 aE (mk w 40 a0) fun p1 w2 =>
 aE (mk w2 40 a1) fun p4 w5 =>
 aE ((ldI .i64 w5 (p1.add 1)).bind fun v11 =>
 (ldI .i64 w5 (p4.add 1)).bind fun v13 =>
 if (v11 !=v13)=true then
 (some (true,w5))
 else
 ((ldB w5 (p1.add 2)).bind fun v16 =>
 if v16=true then
 ((ldB w5 (p4.add 2)).bind fun v19 =>
 some ((!v19),w5))
 else
 (some (false,w5)))) fun v7 w8 =>
 if v7=true then
 (some (false,w8))
 else
 ((ldA 12 w8 p1 0).bind fun c22 =>
 aE (dM c22 w8) fun v24 w25 =>
 if v24=true then
 (some (true,w25))
 else
 ((ldI .i64 w25 (p1.add 1)).bind fun v28 =>
 if (v28==1)=true then
 (aE ((ldI .i64 w25 (p4.add 3)).bind fun v35 =>
 (ldI .i64 w25 (p1.add 3)).bind fun v37 =>
 if (decide (v35<=v37))=true then
 ((ldI .i64 w25 (p1.add 4)).bind fun v40 =>
 (ldI .i64 w25 (p4.add 4)).bind fun v42 =>
 some ((decide (v40<=v42)),w25))
 else
 (some (false,w25))) fun v31 w32 =>
 some (v31,w32))
 else
 (if (v28==2)=true then
 (aE ((ldS w25 (p4.add 5)).bind fun v49 =>
 (ldS w25 (p1.add 5)).bind fun v51 =>
 if (sLt v49 v51||sEq v49 v51)=true then
 ((ldB w25 (p4.add 7)).bind fun v54 =>
 if v54=true then
 (some (true,w25))
 else
 ((ldB w25 (p1.add 7)).bind fun v57 =>
 if (!v57)=true then
 ((ldS w25 (p1.add 6)).bind fun v60 =>
 (ldS w25 (p4.add 6)).bind fun v62 =>
 some ((sLt v60 v62||sEq v60 v62),w25))
 else
 (some (false,w25))))
 else
 (some (false,w25))) fun v45 w46 =>
 some (v45,w46))
 else
 (if (v28==3)=true then
 ((ldI .u8 w25 (p1.add 8)).bind fun v65 =>
 (ldI .u8 w25 (p4.add 8)).bind fun v67 =>
 some (((pP .u8 (qA .u8 v65 v67) 3)==0),w25))
 else
 ((ldB w25 (p4.add 9)).bind fun v69 =>
 if v69=true then
 (some (false,w25))
 else
 ((ldL w25 (p4.add 10)).bind fun v72 =>
 (bB (fun s:Int×World=>eZ v72 p1 s.1 s.2) (0,w25)).bind fun r76=>Sum.elim (fun (i:World)=>u1 i fun w78 =>
 (ldL w78 (p4.add 11)).bind fun v100 =>
 (bB (fun s:Int×World=>fC v100 p1 s.1 s.2) (0,w78)).bind fun r104=>Sum.elim (fun (i:World)=>u1 i fun w106 =>
 some (true,w106)) (fun (i:Bool×World)=>u2 i fun v107 w108 =>
 some (v107,w108)) r104) (fun (i:Bool×World)=>u2 i fun v79 w80 =>
 some (v79,w80)) r76))))))
theorem oL {a0 a1 w w' r0} (h:jA a0 a1 w=some (r0,w')):Calls Try.prog 28 #[(.agg (List.toArray a0)),(.agg (List.toArray a1))] w fun e w''=>e=.returned (.bool r0)/\w''=w':=by
 refine aG (n:=108) Try.func28 rfl Try.ntmps28 (by simp) fun a u=>?_;unfold jA at h;refine wp_seq<|aA<|?_;have⟨p1,w2,e3,h⟩:=bs2 h;refine q u (dJ u rfl rfl e3) fun a u=>?_;have⟨p4,w5,e6,h⟩:=bs2 h;refine q u (dJ u rfl rfl e6) fun a u=>qa u rfl fun a u=>aC<|t_n<|wp_seq<|wp_seq<|?_;have⟨v7,w8,e9,h⟩:=bs2 h;refine aW (n:=108) (L:=[(22,(bV v7)),(2,(pV (some p1))),(3,(pV (some p4)))]) (w':=w8) (fun a u=>?_) (fun hk10=>?_)
 .refine t_n<|?_;refine aF u rfl h (fun b21 h=>?_) (fun b21 h=>?_)
  .refine wp_seq<|aA<|qa u rfl fun a u=>aC<|t_n<|wp_ret<|t_r<|?_;have y:=u;cases h;exact aX Try.results28 y rfl ⟨rfl,rfl⟩
  refine wp_skip<|t_n<|wp_seq<|wp_seq<|aA<|?_;have⟨c22,e23,h⟩:=bs1 h;refine q u (bE u rfl zC yH e23) fun a u=>?_;have⟨v24,w25,e26,h⟩:=bs2 h;refine q u (dc1 u rfl Try.call41 (fJ e26)) fun a u=>aC<|t_n<|?_;refine aF u rfl h (fun b27 h=>?_) (fun b27 h=>?_)
  .refine wp_seq<|aA<|qa u rfl fun a u=>aC<|t_n<|wp_ret<|t_r<|?_;have y:=u;cases h;exact aX Try.results28 y rfl ⟨rfl,rfl⟩
  refine wp_skip<|t_n<|wp_seq<|wp_seq<|aA<|q u (aI u rfl yG rfl rfl yR) fun a u=>?_;have⟨v28,e29,h⟩:=bs1 h;refine q u (aH u rfl yS (aL e29)) fun a u=>aC<|t_n<|wp_block<|wp_seq<|aA<|q u (cA u rfl rfl) fun a u=>qa u rfl fun a u=>aC<|t_n<|?_;refine aF u rfl h (fun b30 h=>?_) (fun b30 h=>?_)
  .refine wp_seq<|?_;have⟨v31,w32,e33,h⟩:=bs2 h;refine aW (n:=108) (L:=[(4,(bV v31))]) (w':=w32) (fun a u=>?_) (fun hk34=>?_)
   .refine t_n<|wp_ret<|b_r<|t_r<|?_;have y:=u;cases h;exact aX Try.results28 y rfl ⟨rfl,rfl⟩
   clear h;have h:=e33;refine aA<|q u (aI u rfl yG rfl rfl yW) fun a u=>?_;have⟨v35,e36,h⟩:=bs1 h;refine q u (aH u rfl zG (aL e36)) fun a u=>q u (aI u rfl yG rfl rfl yW) fun a u=>?_;have⟨v37,e38,h⟩:=bs1 h;refine q u (aH u rfl zG (aL e38)) fun a u=>q u (mE u rfl rfl) fun a u=>qm u rfl fun a u=>?_;refine bU h (fun b39 h=>?_) (fun b39 h=>?_)
   .refine qg u 34 b39 (aI u rfl yG rfl rfl yW) fun a u=>?_;have⟨v40,e41,h⟩:=bs1 h;refine qg u 34 b39 (aH u rfl zG (aL e41)) fun a u=>qg u 34 b39 (aI u rfl yG rfl rfl yW) fun a u=>?_;have⟨v42,e43,h⟩:=bs1 h;refine qg u 34 b39 (aH u rfl zG (aL e43)) fun a u=>qg u 34 b39 (mE u rfl rfl) fun a u=>q u (aK u rfl b39 rfl) fun a u=>qa u rfl fun a u=>aC<|?_;have y:=u;cases h;exact hk34 _ (y.sb rfl)
   refine qn u 34 (nm b39) fun a u=>qn u 34 (nm b39) fun a u=>qn u 34 (nm b39) fun a u=>qn u 34 (nm b39) fun a u=>qn u 34 (nm b39) fun a u=>q u (aJ u rfl b39 rfl) fun a u=>qa u rfl fun a u=>aC<|?_;have y:=u;cases h;exact hk34 _ (y.sb rfl)
  refine wp_seq<|aA<|q u (cA u rfl rfl) fun a u=>qa u rfl fun a u=>aC<|t_n<|?_;refine aF u rfl h (fun b44 h=>?_) (fun b44 h=>?_)
  .refine wp_seq<|?_;have⟨v45,w46,e47,h⟩:=bs2 h;refine aW (n:=108) (L:=[(4,(bV v45))]) (w':=w46) (fun a u=>?_) (fun hk48=>?_)
   .refine t_n<|wp_ret<|b_r<|t_r<|?_;have y:=u;cases h;exact aX Try.results28 y rfl ⟨rfl,rfl⟩
   clear h;have h:=e47;refine aA<|q u (aI u rfl yG rfl rfl yN) fun a u=>?_;have⟨v49,e50,h⟩:=bs1 h;refine q u (aH u rfl yP (cG e50)) fun a u=>q u (aI u rfl yG rfl rfl yN) fun a u=>?_;have⟨v51,e52,h⟩:=bs1 h;refine q u (aH u rfl yP (cG e52)) fun a u=>q u (oC u rfl rfl) fun a u=>qm u rfl fun a u=>?_;refine bU h (fun b53 h=>?_) (fun b53 h=>?_)
   .refine qg u 48 b53 (aI u rfl yG rfl rfl zA) fun a u=>?_;have⟨v54,e55,h⟩:=bs1 h;refine qg u 48 b53 (aH u rfl zT (iU e55)) fun a u=>qg u 48 b53 (aD u rfl) fun a u=>?_;refine bU h (fun b56 h=>?_) (fun b56 h=>?_)
    .refine qn u 51 (tn b56) fun a u=>qn u 51 (tn b56) fun a u=>qn u 51 (tn b56) fun a u=>qn u 51 (tn b56) fun a u=>qu u 55 fun a u=>qu u 55 fun a u=>qu u 55 fun a u=>qu u 55 fun a u=>qu u 55 fun a u=>qn u 51 (tn b56) fun a u=>qg u 48 b53 (aK u rfl b56 rfl) fun a u=>q u (aK u rfl b53 rfl) fun a u=>qa u rfl fun a u=>aC<|?_;have y:=u;cases h;exact hk48 _ (y.sb rfl)
    refine qg u 51 (nt b56) (aI u rfl yG rfl rfl zA) fun a u=>?_;have⟨v57,e58,h⟩:=bs1 h;refine qg u 51 (nt b56) (aH u rfl zT (iU e58)) fun a u=>qg u 51 (nt b56) (eP u rfl) fun a u=>qg u 51 (nt b56) (aD u rfl) fun a u=>?_;refine bU h (fun b59 h=>?_) (fun b59 h=>?_)
    .refine qg u 55 b59 (aI u rfl yG rfl rfl yN) fun a u=>?_;have⟨v60,e61,h⟩:=bs1 h;refine qg u 55 b59 (aH u rfl yP (cG e61)) fun a u=>qg u 55 b59 (aI u rfl yG rfl rfl yN) fun a u=>?_;have⟨v62,e63,h⟩:=bs1 h;refine qg u 55 b59 (aH u rfl yP (cG e63)) fun a u=>qg u 55 b59 (oC u rfl rfl) fun a u=>qg u 51 (nt b56) (aK u rfl b59 rfl) fun a u=>qg u 48 b53 (aJ u rfl b56 rfl) fun a u=>q u (aK u rfl b53 rfl) fun a u=>qa u rfl fun a u=>aC<|?_;have y:=u;cases h;exact hk48 _ (y.sb rfl)
    refine qn u 55 (nm b59) fun a u=>qn u 55 (nm b59) fun a u=>qn u 55 (nm b59) fun a u=>qn u 55 (nm b59) fun a u=>qn u 55 (nm b59) fun a u=>qg u 51 (nt b56) (aJ u rfl b59 rfl) fun a u=>qg u 48 b53 (aJ u rfl b56 rfl) fun a u=>q u (aK u rfl b53 rfl) fun a u=>qa u rfl fun a u=>aC<|?_;have y:=u;cases h;exact hk48 _ (y.sb rfl)
   refine qn u 48 (nm b53) fun a u=>qn u 48 (nm b53) fun a u=>qn u 48 (nm b53) fun a u=>qu u 51 fun a u=>qu u 51 fun a u=>qu u 51 fun a u=>qu u 51 fun a u=>qu u 55 fun a u=>qu u 55 fun a u=>qu u 55 fun a u=>qu u 55 fun a u=>qu u 55 fun a u=>qu u 51 fun a u=>qn u 48 (nm b53) fun a u=>q u (aJ u rfl b53 rfl) fun a u=>qa u rfl fun a u=>aC<|?_;have y:=u;cases h;exact hk48 _ (y.sb rfl)
  refine wp_seq<|aA<|q u (cA u rfl rfl) fun a u=>qa u rfl fun a u=>aC<|t_n<|?_;refine aF u rfl h (fun b64 h=>?_) (fun b64 h=>?_)
  .refine wp_seq<|aA<|q u (aI u rfl yG rfl rfl zX) fun a u=>?_;have⟨v65,e66,h⟩:=bs1 h;refine q u (aH u rfl zZ (aL e66)) fun a u=>q u (aI u rfl yG rfl rfl zX) fun a u=>?_;have⟨v67,e68,h⟩:=bs1 h;refine q u (aH u rfl zZ (aL e68)) fun a u=>q u (tV u rfl rfl) fun a u=>q u (vU u rfl rfl) fun a u=>q u (cA u rfl rfl) fun a u=>qa u rfl fun a u=>aC<|t_n<|wp_ret<|b_r<|t_r<|?_;have y:=u;cases h;exact aX Try.results28 y rfl ⟨rfl,rfl⟩
  refine wp_skip<|b_n<|t_n<|wp_seq<|wp_seq<|aA<|q u (aI u rfl yG rfl rfl zA) fun a u=>?_;have⟨v69,e70,h⟩:=bs1 h;refine q u (aH u rfl zT (iU e70)) fun a u=>aC<|t_n<|?_;refine aF u rfl h (fun b71 h=>?_) (fun b71 h=>?_)
  .refine wp_seq<|aA<|qa u rfl fun a u=>aC<|t_n<|wp_ret<|t_r<|?_;have y:=u;cases h;exact aX Try.results28 y rfl ⟨rfl,rfl⟩
  refine wp_skip<|t_n<|wp_seq<|wp_seq<|aA<|q u (aI u rfl yG rfl rfl yV) fun a u=>?_;have⟨v72,e73,h⟩:=bs1 h;refine q u (aH u rfl yX (bG e73)) fun a u=>q u (bZ u rfl yJ) fun a u=>qm u rfl fun a u=>aC<|t_n<|wp_block<|?_;have⟨r76,e77,h⟩:=bs1 h;refine dH (n:=108) (L1:=fun i=>[(2,(pV (some p1))),(3,(pV (some p4)))]) (w1:=fun i=>i) (L2:=fun i=>[(4,(bV i.1))]) (w2:=fun i=>i.2) (e1:=.exit 1) (e2:=.ret) (I:=fun (s:Int×World) a w=>Has 108 [(78,(iV s.1)),(2,(pV (some p1))),(3,(pV (some p4))),(76,(Sl.v v72)),(77,(iV (v72.n:Int)))] a/\w=s.2) ⟨u.sub ⟨rfl,rfl,rfl,rfl,rfl,aBP⟩,rfl⟩ e77 (fun i hi a u=>?_) (fun i hi a u=>?_) (fun hk81 hk82=>?_)
  .subst hi;obtain⟨w78,rfl⟩:∃ x,x=i:=⟨i,rfl⟩;dsimp only[Sum.elim_inl,Sum.elim_inr,u1,u2,u3,u4,u5,u6] at h;have u:Has 108 [(2,(pV (some p1))),(3,(pV (some p4)))] a:=u;refine eC<|t_n<|wp_seq<|wp_seq<|aA<|q u (aI u rfl yG rfl rfl yV) fun a u=>?_;have⟨v100,e101,h⟩:=bs1 h;refine q u (aH u rfl yX (bG e101)) fun a u=>q u (bZ u rfl yJ) fun a u=>qm u rfl fun a u=>aC<|t_n<|wp_block<|?_;have⟨r104,e105,h⟩:=bs1 h;refine dH (n:=108) (L1:=fun i=>[]) (w1:=fun i=>i) (L2:=fun i=>[(4,(bV i.1))]) (w2:=fun i=>i.2) (e1:=.exit 3) (e2:=.ret) (I:=fun (s:Int×World) a w=>Has 108 [(91,(iV s.1)),(2,(pV (some p1))),(89,(Sl.v v100)),(90,(iV (v100.n:Int)))] a/\w=s.2) ⟨u.sub ⟨rfl,rfl,rfl,rfl,aBP⟩,rfl⟩ e105 (fun i hi a u=>?_) (fun i hi a u=>?_) (fun hk109 hk110=>?_)
   .subst hi;obtain⟨w106,rfl⟩:∃ x,x=i:=⟨i,rfl⟩;dsimp only[Sum.elim_inl,Sum.elim_inr,u1,u2,u3,u4,u5,u6] at h;have u:Has 108 [] a:=u;refine eC<|t_n<|wp_seq<|aA<|qa u rfl fun a u=>aC<|t_n<|wp_ret<|?_;have y:=u;cases h;exact aX Try.results28 y rfl ⟨rfl,rfl⟩
   .subst hi;obtain⟨v107,w108⟩:=i;dsimp only[Sum.elim_inl,Sum.elim_inr,u1,u2,u3,u4,u5,u6] at h;have u:Has 108 [(4,(bV v107))] a:=u;refine b_r<|t_r<|?_;have y:=u;cases h;exact aX Try.results28 y rfl ⟨rfl,rfl⟩
   clear h;rintro⟨x102,w103⟩ a wq o ⟨u,hwq⟩ h hr111;obtain rfl:w103=wq:=hwq.symm;have u:Has 108 [(91,(iV x102)),(2,(pV (some p1))),(89,(Sl.v v100)),(90,(iV (v100.n:Int)))] a:=u;have h:fC v100 p1 x102 w103=some o:=h;unfold fC at h;refine wp_seq<|aA<|q u (eX u rfl rfl) fun a u=>aC<|t_n<|wp_seq<|?_;refine aF u rfl h (fun b112 h=>?_) (fun b112 h=>?_)
   .refine wp_skip<|t_n<|wp_seq<|wp_block<|wp_seq<|aA<|?_;have⟨p113,e114,h⟩:=bs1 h;refine q u (dL u rfl rfl yJ yO e114) fun a u=>?_;have⟨c115,e116,h⟩:=bs1 h;refine q u (bE u rfl zB yO e116) fun a u=>?_;have⟨p117,w118,e119,h⟩:=bs2 h;refine q u (dG aAb (by kernel_rfl) e119) fun a u=>?_;have⟨w120,e121,h⟩:=bs1 h;refine q u (eU u rfl rfl yO ((jI e116).1) e121) fun a u=>aC<|t_n<|wp_seq<|?_;have⟨v122,w123,e124,h⟩:=bs2 h;refine aW (n:=108) (L:=[(106,(bV v122)),(2,(pV (some p1))),(89,(Sl.v v100)),(90,(iV (v100.n:Int))),(91,(iV x102))]) (w':=w123) (fun a u=>?_) (fun hk125=>?_)
    .refine t_n<|?_;refine aF u rfl h (fun b137 h=>?_) (fun b137 h=>?_)
     .refine wp_seq<|aA<|qa u rfl fun a u=>aC<|t_n<|wp_ret<|b_r<|t_r<|?_;have y:=u;cases h;cases hr111 _ rfl;refine gB<|?_;exact hk110 _ rfl _ (y.sb rfl)
     refine wp_skip<|b_n<|t_n<|aA<|q u (dP u rfl rfl) fun a u=>qm u rfl fun a u=>aC<|?_;have y:=u;cases h;exact cP ⟨y.sb rfl,rfl⟩
    clear h;have h:=e124;refine aA<|q u (aI u rfl yG rfl rfl yV) fun a u=>?_;have⟨v126,e127,h⟩:=bs1 h;refine q u (aH u rfl yX (bG e127)) fun a u=>q u (kY (vs:=[(pV (some p117))]) u ⟨rfl,aBP⟩) fun a u=>?_;have⟨v128,w129,e130,h⟩:=bs2 h;refine q u (fP (xs:=[_,_]) (vs:=[(Sl.v v126),(.func (.func 44) #[] #[(pV (some p117))])]) u ⟨rfl,rfl,aBP⟩ Try.call16 (fM e130)) fun a u=>q u (eP u rfl) fun a u=>qm u rfl fun a u=>?_;refine bU h (fun b131 h=>?_) (fun b131 h=>?_)
    .refine qg u 100 b131 (aI u rfl yG rfl rfl yV) fun a u=>?_;have⟨v132,e133,h⟩:=bs1 h;refine qg u 100 b131 (aH u rfl yX (bG e133)) fun a u=>qg u 100 b131 (kY (vs:=[(pV (some p117))]) u ⟨rfl,aBP⟩) fun a u=>?_;have⟨v134,w135,e136,h⟩:=bs2 h;refine qg u 100 b131 (fP (xs:=[_,_]) (vs:=[(Sl.v v132),(.func (.func 45) #[] #[(pV (some p117))])]) u ⟨rfl,rfl,aBP⟩ Try.call16 (fN e136)) fun a u=>qg u 100 b131 (eP u rfl) fun a u=>q u (aK u rfl b131 rfl) fun a u=>aC<|?_;have y:=u;cases h;exact hk125 _ (y.sb rfl)
    refine qn u 100 (nm b131) fun a u=>qn u 100 (nm b131) fun a u=>qn u 100 (nm b131) fun a u=>qn u 100 (nm b131) fun a u=>qn u 100 (nm b131) fun a u=>q u (aJ u rfl b131 rfl) fun a u=>aC<|?_;have y:=u;cases h;exact hk125 _ (y.sb rfl)
   refine wp_exit<|t_x<|?_;have y:=u;cases h;cases hr111 _ rfl;refine iE<|?_;exact hk109 _ rfl _ (y.sb rfl)
  .subst hi;obtain⟨v79,w80⟩:=i;dsimp only[Sum.elim_inl,Sum.elim_inr,u1,u2,u3,u4,u5,u6] at h;have u:Has 108 [(4,(bV v79))] a:=u;refine b_r<|t_r<|?_;have y:=u;cases h;exact aX Try.results28 y rfl ⟨rfl,rfl⟩
  clear h;rintro⟨x74,w75⟩ a wq o ⟨u,hwq⟩ h hr83;obtain rfl:w75=wq:=hwq.symm;have u:Has 108 [(78,(iV x74)),(2,(pV (some p1))),(3,(pV (some p4))),(76,(Sl.v v72)),(77,(iV (v72.n:Int)))] a:=u;have h:eZ v72 p1 x74 w75=some o:=h;unfold eZ at h;refine wp_seq<|aA<|q u (eX u rfl rfl) fun a u=>aC<|t_n<|wp_seq<|?_;refine aF u rfl h (fun b84 h=>?_) (fun b84 h=>?_)
  .refine wp_skip<|t_n<|wp_seq<|wp_block<|wp_seq<|aA<|?_;have⟨p85,e86,h⟩:=bs1 h;refine q u (dL u rfl rfl yJ yO e86) fun a u=>?_;have⟨c87,e88,h⟩:=bs1 h;refine q u (bE u rfl zB yO e88) fun a u=>?_;have⟨p89,w90,e91,h⟩:=bs2 h;refine q u (dG aAb (by kernel_rfl) e91) fun a u=>?_;have⟨w92,e93,h⟩:=bs1 h;refine q u (eU u rfl rfl yO ((jI e88).1) e93) fun a u=>aC<|t_n<|wp_seq<|aA<|q u (aI u rfl yG rfl rfl yV) fun a u=>?_;have⟨v94,e95,h⟩:=bs1 h;refine q u (aH u rfl yX (bG e95)) fun a u=>q u (kY (vs:=[(pV (some p89))]) u ⟨rfl,aBP⟩) fun a u=>?_;have⟨v96,w97,e98,h⟩:=bs2 h;refine q u (fP (xs:=[_,_]) (vs:=[(Sl.v v94),(.func (.func 42) #[] #[(pV (some p89))])]) u ⟨rfl,rfl,aBP⟩ Try.call16 (fO e98)) fun a u=>q u (eP u rfl) fun a u=>aC<|t_n<|?_;refine aF u rfl h (fun b99 h=>?_) (fun b99 h=>?_)
   .refine wp_seq<|aA<|qa u rfl fun a u=>aC<|t_n<|wp_ret<|b_r<|t_r<|?_;have y:=u;cases h;cases hr83 _ rfl;refine gB<|?_;exact hk82 _ rfl _ (y.sb rfl)
   refine wp_skip<|b_n<|t_n<|aA<|q u (dP u rfl rfl) fun a u=>qm u rfl fun a u=>aC<|?_;have y:=u;cases h;exact cP ⟨y.sb rfl,rfl⟩
  refine wp_exit<|t_x<|?_;have y:=u;cases h;cases hr83 _ rfl;refine iE<|?_;exact hk81 _ rfl _ (y.sb rfl)
 clear h;have h:=e9;refine aA<|q u (aI u rfl yG rfl rfl yR) fun a u=>?_;have⟨v11,e12,h⟩:=bs1 h;refine q u (aH u rfl yS (aL e12)) fun a u=>q u (aI u rfl yG rfl rfl yR) fun a u=>?_;have⟨v13,e14,h⟩:=bs1 h;refine q u (aH u rfl yS (aL e14)) fun a u=>q u (kE u rfl rfl) fun a u=>qm u rfl fun a u=>?_;refine bU h (fun b15 h=>?_) (fun b15 h=>?_)
 .refine qn u 14 (tn b15) fun a u=>qn u 14 (tn b15) fun a u=>qn u 14 (tn b15) fun a u=>qu u 17 fun a u=>qu u 17 fun a u=>qu u 17 fun a u=>qn u 14 (tn b15) fun a u=>q u (aK u rfl b15 rfl) fun a u=>aC<|?_;have y:=u;cases h;exact hk10 _ (y.sb rfl)
 refine qg u 14 (nt b15) (aI u rfl yG rfl rfl zA) fun a u=>?_;have⟨v16,e17,h⟩:=bs1 h;refine qg u 14 (nt b15) (aH u rfl zT (iU e17)) fun a u=>qg u 14 (nt b15) (aD u rfl) fun a u=>?_;refine bU h (fun b18 h=>?_) (fun b18 h=>?_)
 .refine qg u 17 b18 (aI u rfl yG rfl rfl zA) fun a u=>?_;have⟨v19,e20,h⟩:=bs1 h;refine qg u 17 b18 (aH u rfl zT (iU e20)) fun a u=>qg u 17 b18 (eP u rfl) fun a u=>qg u 14 (nt b15) (aK u rfl b18 rfl) fun a u=>q u (aJ u rfl b15 rfl) fun a u=>aC<|?_;have y:=u;cases h;exact hk10 _ (y.sb rfl)
 refine qn u 17 (nm b18) fun a u=>qn u 17 (nm b18) fun a u=>qn u 17 (nm b18) fun a u=>qg u 14 (nt b15) (aJ u rfl b18 rfl) fun a u=>q u (aJ u rfl b15 rfl) fun a u=>aC<|?_;have y:=u;cases h;exact hk10 _ (y.sb rfl)
noncomputable def dF (a1:Sl) (a0:Sl) (x1:Int) (w2:World):Option ((Int×World)⊕((World)⊕(Bool×World))) :=
 if (decide (x1<(a1.n:Int)))=true then
 ((ix a1 x1 12).bind fun p12 =>
 (ldA 12 w2 p12 0).bind fun c14 =>
 aE (mk w2 40 ([.string ByteArray.empty,.int .i64 0,.bool false,.int .i64 0,.int .i64 0,.string ByteArray.empty,.string ByteArray.empty,.bool false,.int .u8 0,.bool false,.slice none 0 0,.slice none 0 0])) fun p16 w17 =>
 (stA w17 p16 0 c14).bind fun w19 =>
 aE (bH a0 p16 w19) fun v21 w22 =>
 aE ((dr w22).bind fun w28 =>
 if (decide (v21<0))=true then
 (some (true,w28))
 else
 ((ix a0 v21 12).bind fun p31 =>
 (ldA 12 w28 p31 0).bind fun c33 =>
 (ldA 12 w28 p16 0).bind fun c35 =>
 aE (jA c33 c35 w28) fun v37 w38 =>
 some ((!v37),w38))) fun v24 w25 =>
 if v24=true then
 (some (.inr (.inr (false,w25))))
 else
 (some (.inl ((IntKind.wrap .i64 (x1+1)),w25))))
 else
 (some (.inr (.inl w2)))
noncomputable def gR (a0:Sl) (a1:Sl) (w:World):Option (Bool×World) :=
 (bB (fun s:Int×World=>dF a1 a0 s.1 s.2) (0,w)).bind fun r3=>Sum.elim (fun (i:World)=>u1 i fun w5 =>
 some (true,w5)) (fun (i:Bool×World)=>u2 i fun v6 w7 =>
 some (v6,w7)) r3
theorem kO {a0 a1 w w' r0} (h:gR a0 a1 w=some (r0,w')):Calls Try.prog 19 #[(Sl.v a0),(Sl.v a1)] w fun e w''=>e=.returned (.bool r0)/\w''=w':=by
 refine aG (n:=29) Try.func19 rfl Try.ntmps19 (by simp) fun a u=>?_;unfold gR at h;refine wp_seq<|aA<|qa u rfl fun a u=>aC<|t_n<|wp_seq<|wp_seq<|aA<|qm u rfl fun a u=>q u (bZ u rfl yI) fun a u=>qm u rfl fun a u=>aC<|t_n<|wp_block<|?_;have⟨r3,e4,h⟩:=bs1 h;refine dH (n:=29) (L1:=fun i=>[]) (w1:=fun i=>i) (L2:=fun i=>[(4,(bV i.1))]) (w2:=fun i=>i.2) (e1:=.exit 0) (e2:=.ret) (I:=fun (s:Int×World) a w=>Has 29 [(10,(iV s.1)),(0,(Sl.v a0)),(8,(Sl.v a1)),(9,(iV (a1.n:Int)))] a/\w=s.2) ⟨u.sub ⟨rfl,rfl,rfl,rfl,aBP⟩,rfl⟩ e4 (fun i hi a u=>?_) (fun i hi a u=>?_) (fun hk8 hk9=>?_)
 .subst hi;obtain⟨w5,rfl⟩:∃ x,x=i:=⟨i,rfl⟩;dsimp only[Sum.elim_inl,Sum.elim_inr,u1,u2,u3,u4,u5,u6] at h;have u:Has 29 [] a:=u;refine eC<|t_n<|wp_seq<|aA<|qa u rfl fun a u=>aC<|t_n<|wp_ret<|?_;have y:=u;cases h;exact aX Try.results19 y rfl ⟨rfl,rfl⟩
 .subst hi;obtain⟨v6,w7⟩:=i;dsimp only[Sum.elim_inl,Sum.elim_inr,u1,u2,u3,u4,u5,u6] at h;have u:Has 29 [(4,(bV v6))] a:=u;refine b_r<|t_r<|?_;have y:=u;cases h;exact aX Try.results19 y rfl ⟨rfl,rfl⟩
 clear h;rintro⟨x1,w2⟩ a wq o ⟨u,hwq⟩ h hr10;obtain rfl:w2=wq:=hwq.symm;have u:Has 29 [(10,(iV x1)),(0,(Sl.v a0)),(8,(Sl.v a1)),(9,(iV (a1.n:Int)))] a:=u;have h:dF a1 a0 x1 w2=some o:=h;unfold dF at h;refine wp_seq<|aA<|q u (eX u rfl rfl) fun a u=>aC<|t_n<|wp_seq<|?_;refine aF u rfl h (fun b11 h=>?_) (fun b11 h=>?_)
 .refine wp_skip<|t_n<|wp_seq<|wp_block<|wp_seq<|aA<|?_;have⟨p12,e13,h⟩:=bs1 h;refine q u (dL u rfl rfl yI yH e13) fun a u=>?_;have⟨c14,e15,h⟩:=bs1 h;refine q u (bE u rfl zC yH e15) fun a u=>?_;have⟨p16,w17,e18,h⟩:=bs2 h;refine q u (dG yZ (by kernel_rfl) e18) fun a u=>?_;have⟨w19,e20,h⟩:=bs1 h;refine q u (eU u rfl rfl yH ((jI e15).1) e20) fun a u=>aC<|t_n<|wp_seq<|aA<|qm u rfl fun a u=>q u (kY (vs:=[(pV (some p16))]) u ⟨rfl,aBP⟩) fun a u=>?_;have⟨v21,w22,e23,h⟩:=bs2 h;refine q u (fP (xs:=[_,_]) (vs:=[(Sl.v a0),(.func (.func 27) #[] #[(pV (some p16))])]) u ⟨rfl,rfl,aBP⟩ Try.call26 (gG e23)) fun a u=>qa u rfl fun a u=>aC<|t_n<|wp_seq<|?_;have⟨v24,w25,e26,h⟩:=bs2 h;refine aW (n:=29) (L:=[(27,(bV v24)),(0,(Sl.v a0)),(8,(Sl.v a1)),(9,(iV (a1.n:Int))),(10,(iV x1))]) (w':=w25) (fun a u=>?_) (fun hk27=>?_)
  .refine t_n<|?_;refine aF u rfl h (fun b40 h=>?_) (fun b40 h=>?_)
   .refine wp_seq<|aA<|qa u rfl fun a u=>aC<|t_n<|wp_ret<|b_r<|t_r<|?_;have y:=u;cases h;cases hr10 _ rfl;refine gB<|?_;exact hk9 _ rfl _ (y.sb rfl)
   refine wp_skip<|b_n<|t_n<|aA<|q u (dP u rfl rfl) fun a u=>qm u rfl fun a u=>aC<|?_;have y:=u;cases h;exact cP ⟨y.sb rfl,rfl⟩
  clear h;have h:=e26;have⟨w28,e29,h⟩:=bs1 h;refine bU h (fun b30 h=>?_) (fun b30 h=>?_)
  .have u:Has 29 [(0,(Sl.v a0)),(6,(pV (some p16))),(7,(iV v21)),(8,(Sl.v a1)),(9,(iV (a1.n:Int))),(10,(iV x1))] a:=u.sb rfl;refine bC (n:=29) (ds:=(dD (iV v21) 0 [] 7::aQ (bV (decide (v21<0))) 0 [0] 17 (iV v21)::dD (bV (decide (v21<0))) 0 [0,1] 18::aQ (undef) 0 [0,1,2] 19 (bV (decide (v21<0)))::aQ (undef) 0 [0,1,2] 19 (bV (decide (v21<0)))::aQ (undef) 0 (rn 0 5) 19 (bV (decide (v21<0)))::aQ (undef) 0 (rn 0 6) 19 (bV (decide (v21<0)))::aQ (undef) 0 [0,1,2] 19 (bV (decide (v21<0)))::aQ (undef) 0 (rn 0 8) 19 (bV (decide (v21<0)))::aQ (undef) 0 (rn 0 9) 19 (bV (decide (v21<0)))::bY (bV true) 0 (rn 0 10) [(19,(bV (decide (v21<0)))),(26,undef)]::[])) (W:=(fun _=>w28)) (by kernel_rfl) u (gN e29) (by kernel_rfl) ?_ (bA (by kernel_rfl)) (by kernel_rfl) (m:=0) (by kernel_rfl) (fun a u=>?_)
   .exact⟨oa (aD · rfl),oa (eX · rfl rfl),oa (aD · rfl),on 19 (tn b30),on 19 (tn b30),on 19 (tn b30),on 19 (tn b30),on 19 (tn b30),on 19 (tn b30),on 19 (tn b30),oa (aK · rfl b30 rfl),aBP⟩
   have u:Has 29 [(0,(Sl.v a0)),(8,(Sl.v a1)),(9,(iV (a1.n:Int))),(10,(iV x1)),(27,(bV true))] a:=u.sb rfl;have y:=u;cases h;exact hk27 _ (y.sb rfl)
  have⟨p31,e32,h⟩:=bs1 h;have⟨c33,e34,h⟩:=bs1 h;have⟨c35,e36,h⟩:=bs1 h;have⟨v37,w38,e39,h⟩:=bs2 h;have u:Has 29 [(0,(Sl.v a0)),(6,(pV (some p16))),(7,(iV v21)),(8,(Sl.v a1)),(9,(iV (a1.n:Int))),(10,(iV x1))] a:=u.sb rfl;refine bC (n:=29) (ds:=(dD (iV v21) 0 [] 7::aQ (bV (decide (v21<0))) 0 [0] 17 (iV v21)::dD (bV (decide (v21<0))) 0 [0,1] 18::bY (Sl.v a0) 0 [0,1,2] [(0,(Sl.v a0)),(19,(bV (decide (v21<0))))]::bY (iV v21) 0 [0,1,2] [(7,(iV v21)),(19,(bV (decide (v21<0))))]::bY (pV (some p31)) 0 (rn 0 5) [(20,(Sl.v a0)),(21,(iV v21)),(19,(bV (decide (v21<0))))]::bY (.agg (List.toArray c33)) 0 (rn 0 6) [(22,(pV (some p31))),(19,(bV (decide (v21<0))))]::bY (.agg (List.toArray c35)) 0 [0,1,2] [(6,(pV (some p16))),(19,(bV (decide (v21<0))))]::aN (bV v37) true 0 0 (rn 0 8) [(23,(.agg (List.toArray c33))),(24,(.agg (List.toArray c35))),(19,(bV (decide (v21<0))))]::bY (bV (!v37)) 1 (rn 0 9) [(25,(bV v37)),(19,(bV (decide (v21<0))))]::bY (bV (!v37)) 1 (rn 0 10) [(19,(bV (decide (v21<0)))),(26,(bV (!v37)))]::[])) (W:=(fun j=>match j with | 0=>w28 | 1=>w38 | _=>w38)) (by kernel_rfl) u (gN e29) (by kernel_rfl) ?_ (bA (by kernel_rfl)) (by kernel_rfl) (m:=1) (by kernel_rfl) (fun a u=>?_)
  .exact⟨oa (aD · rfl),oa (eX · rfl rfl),oa (aD · rfl),oag 19 (nt b30) (aD · rfl),oag 19 (nt b30) (aD · rfl),oag 19 (nt b30) (dL · rfl rfl yI yH e32),oc 0 (kg 19 (nt b30) (bE · rfl zC yH e34)),oc 0 (kg 19 (nt b30) (bE · rfl zC yH e36)),oc 0 (kg 19 (nt b30) (dc2 · rfl rfl Try.call28 (oL e39))),oag 19 (nt b30) (eP · rfl),oa (aJ · rfl b30 rfl),aBP⟩
  have u:Has 29 [(0,(Sl.v a0)),(8,(Sl.v a1)),(9,(iV (a1.n:Int))),(10,(iV x1)),(27,(bV (!v37)))] a:=u.sb rfl;have y:=u;cases h;exact hk27 _ (y.sb rfl)
 refine wp_exit<|t_x<|?_;have y:=u;cases h;cases hr10 _ rfl;refine iE<|?_;exact hk8 _ rfl _ (y.sb rfl)
noncomputable def iF (a0:Sl) (a1:Sl) (w:World):Option (Bool×Int×World) :=
 aE (fF a0 w) fun v1 w2 =>
 if (v1 !=0)=true then
 (some (false,v1,w2))
 else
 (aE (fF a1 w2) fun v5 w6 =>
 if (v5 !=0)=true then
 (some (false,v5,w6))
 else
 (aE (gR a0 a1 w6) fun v9 w10 =>
 some (v9,0,w10)))
theorem mZ {a0 a1 w w' r0 r1} (h:iF a0 a1 w=some (r0,r1,w')):Calls Try.prog 9 #[(Sl.v a0),(Sl.v a1)] w fun e w''=>e=.returned (.tuple #[(.bool r0),(.int .i64 r1)])/\w''=w':=by
 refine aG (n:=21) Try.func9 rfl Try.ntmps9 (by simp) fun a u=>?_;unfold iF at h;refine wp_seq<|aA<|qa u rfl fun a u=>qa u rfl fun a u=>aC<|t_n<|wp_seq<|wp_seq<|aA<|qm u rfl fun a u=>?_;have⟨v1,w2,e3,h⟩:=bs2 h;refine q u (dc1 u rfl Try.call7 (jN e3)) fun a u=>qa u rfl fun a u=>aC<|t_n<|wp_seq<|aA<|qm u rfl fun a u=>q u (kE u rfl rfl) fun a u=>aC<|t_n<|?_;refine aF u rfl h (fun b4 h=>?_) (fun b4 h=>?_)
 .refine wp_seq<|aA<|qm u rfl fun a u=>qa u rfl fun a u=>qa u rfl fun a u=>aC<|t_n<|wp_ret<|t_r<|?_;have y:=u;cases h;exact nD Try.results9 y rfl rfl ⟨rfl,rfl⟩
 refine wp_skip<|t_n<|wp_seq<|wp_seq<|aA<|qm u rfl fun a u=>?_;have⟨v5,w6,e7,h⟩:=bs2 h;refine q u (dc1 u rfl Try.call7 (jN e7)) fun a u=>qa u rfl fun a u=>aC<|t_n<|wp_seq<|aA<|qm u rfl fun a u=>q u (kE u rfl rfl) fun a u=>aC<|t_n<|?_;refine aF u rfl h (fun b8 h=>?_) (fun b8 h=>?_)
 .refine wp_seq<|aA<|qm u rfl fun a u=>qa u rfl fun a u=>qa u rfl fun a u=>aC<|t_n<|wp_ret<|t_r<|?_;have y:=u;cases h;exact nD Try.results9 y rfl rfl ⟨rfl,rfl⟩
 refine wp_skip<|t_n<|wp_seq<|aA<|qm u rfl fun a u=>qm u rfl fun a u=>?_;have⟨v9,w10,e11,h⟩:=bs2 h;refine q u (dc2 u rfl rfl Try.call19 (kO e11)) fun a u=>qa u rfl fun a u=>qa u rfl fun a u=>aC<|t_n<|wp_ret<|?_;have y:=u;cases h;exact nD Try.results9 y rfl rfl ⟨rfl,rfl⟩
noncomputable def cL (a0:Sl) (a1:ByteArray) (x1:Int) (w2:World):Option ((Int×World)⊕((World)⊕(Int×World))) :=
 if (decide (x1<(a0.n:Int)))=true then
 ((ix a0 x1 12).bind fun p12 =>
 (ldS w2 (p12.add 0)).bind fun v14 =>
 if (sEq v14 a1)=true then
 (some (.inr (.inr (x1,w2))))
 else
 (some (.inl ((IntKind.wrap .i64 (x1+1)),w2))))
 else
 (some (.inr (.inl w2)))
noncomputable def eJ (a0:Sl) (a1:ByteArray) (w:World):Option (Int×World) :=
 (bB (fun s:Int×World=>cL a0 a1 s.1 s.2) (0,w)).bind fun r3=>Sum.elim (fun (i:World)=>u1 i fun w5 =>
 some ((-1),w5)) (fun (i:Int×World)=>u2 i fun v6 w7 =>
 some (v6,w7)) r3
theorem kH {a0 a1 w w' r0} (h:eJ a0 a1 w=some (r0,w')):Calls Try.prog 29 #[(Sl.v a0),(.string a1)] w fun e w''=>e=.returned (.int .i64 r0)/\w''=w':=by
 refine aG (n:=20) Try.func29 rfl Try.ntmps29 (by simp) fun a u=>?_;unfold eJ at h;refine wp_seq<|aA<|qa u rfl fun a u=>aC<|t_n<|wp_seq<|wp_seq<|aA<|qa u rfl fun a u=>aC<|t_n<|wp_block<|?_;have⟨r3,e4,h⟩:=bs1 h;refine dH (n:=20) (L1:=fun i=>[]) (w1:=fun i=>i) (L2:=fun i=>[(4,(iV i.1))]) (w2:=fun i=>i.2) (e1:=.exit 0) (e2:=.ret) (I:=fun (s:Int×World) a w=>Has 20 [(5,(iV s.1)),(0,(Sl.v a0)),(1,(.string a1))] a/\w=s.2) ⟨u.sub ⟨rfl,rfl,rfl,aBP⟩,rfl⟩ e4 (fun i hi a u=>?_) (fun i hi a u=>?_) (fun hk8 hk9=>?_)
 .subst hi;obtain⟨w5,rfl⟩:∃ x,x=i:=⟨i,rfl⟩;dsimp only[Sum.elim_inl,Sum.elim_inr,u1,u2,u3,u4,u5,u6] at h;have u:Has 20 [] a:=u;refine eC<|t_n<|wp_seq<|aA<|qa u rfl fun a u=>aC<|t_n<|wp_ret<|?_;have y:=u;cases h;exact aX Try.results29 y rfl ⟨rfl,rfl⟩
 .subst hi;obtain⟨v6,w7⟩:=i;dsimp only[Sum.elim_inl,Sum.elim_inr,u1,u2,u3,u4,u5,u6] at h;have u:Has 20 [(4,(iV v6))] a:=u;refine b_r<|t_r<|?_;have y:=u;cases h;exact aX Try.results29 y rfl ⟨rfl,rfl⟩
 clear h;rintro⟨x1,w2⟩ a wq o ⟨u,hwq⟩ h hr10;obtain rfl:w2=wq:=hwq.symm;have u:Has 20 [(5,(iV x1)),(0,(Sl.v a0)),(1,(.string a1))] a:=u;have h:cL a0 a1 x1 w2=some o:=h;unfold cL at h;refine wp_seq<|wp_seq<|aA<|qm u rfl fun a u=>qm u rfl fun a u=>q u (bZ u rfl yI) fun a u=>q u (eX u rfl rfl) fun a u=>aC<|t_n<|?_;refine aF u rfl h (fun b11 h=>?_) (fun b11 h=>?_)
 .refine wp_skip<|t_n<|wp_seq<|wp_block<|wp_seq<|aA<|qm u rfl fun a u=>qm u rfl fun a u=>?_;have⟨p12,e13,h⟩:=bs1 h;refine q u (dL u rfl rfl yI yH e13) fun a u=>q u (aI u rfl yG rfl rfl yN) fun a u=>?_;have⟨v14,e15,h⟩:=bs1 h;refine q u (aH u rfl yP (cG e15)) fun a u=>qm u rfl fun a u=>q u (tM u rfl rfl) fun a u=>aC<|t_n<|?_;refine aF u rfl h (fun b16 h=>?_) (fun b16 h=>?_)
  .refine wp_seq<|aA<|qm u rfl fun a u=>qa u rfl fun a u=>aC<|t_n<|wp_ret<|b_r<|t_r<|?_;have y:=u;cases h;cases hr10 _ rfl;refine gB<|?_;exact hk9 _ rfl _ (y.sb rfl)
  refine wp_skip<|b_n<|t_n<|aA<|qm u rfl fun a u=>q u (dP u rfl rfl) fun a u=>qa u rfl fun a u=>aC<|?_;have y:=u;cases h;exact cP ⟨y.sb rfl,rfl⟩
 refine wp_exit<|t_x<|?_;have y:=u;cases h;cases hr10 _ rfl;refine iE<|?_;exact hk8 _ rfl _ (y.sb rfl)
noncomputable def dR (a0:List Value) (w:World):Option (Bool×World) :=
 aE (mk w 40 a0) fun p1 w2 =>
 (ldI .i64 w2 (p1.add 1)).bind fun v4 =>
 if (v4==1)=true then
 ((ldI .i64 w2 (p1.add 3)).bind fun v7 =>
 (ldI .i64 w2 (p1.add 4)).bind fun v9 =>
 some ((decide (v9<v7)),w2))
 else
 ((ldI .i64 w2 (p1.add 1)).bind fun v11 =>
 if (v11==2)=true then
 (aE ((ldB w2 (p1.add 7)).bind fun v18 =>
 if (!v18)=true then
 ((ldS w2 (p1.add 5)).bind fun v21 =>
 (ldS w2 (p1.add 6)).bind fun v23 =>
 some ((!sLt v21 v23),w2))
 else
 (some (false,w2))) fun v14 w15 =>
 some (v14,w15))
 else
 ((ldI .i64 w2 (p1.add 1)).bind fun v25 =>
 if (v25==3)=true then
 ((ldI .u8 w2 (p1.add 8)).bind fun v28 =>
 (rmI v28 4).bind fun v30 =>
 some ((v30==0),w2))
 else
 ((ldB w2 (p1.add 9)).bind fun v32 =>
 some (v32,w2))))
theorem jL {a0 w w' r0} (h:dR a0 w=some (r0,w')):Calls Try.prog 47 #[(.agg (List.toArray a0))] w fun e w''=>e=.returned (.bool r0)/\w''=w':=by
 refine aG (n:=33) Try.func47 rfl Try.ntmps47 (by simp) fun a u=>?_;unfold dR at h;refine wp_seq<|aA<|?_;have⟨p1,w2,e3,h⟩:=bs2 h;refine q u (dJ u rfl rfl e3) fun a u=>qa u rfl fun a u=>aC<|t_n<|wp_seq<|wp_seq<|aA<|q u (aI u rfl yG rfl rfl yR) fun a u=>?_;have⟨v4,e5,h⟩:=bs1 h;refine q u (aH u rfl yS (aL e5)) fun a u=>q u (cA u rfl rfl) fun a u=>aC<|t_n<|?_;refine aF u rfl h (fun b6 h=>?_) (fun b6 h=>?_)
 .refine wp_seq<|aA<|q u (aI u rfl yG rfl rfl yW) fun a u=>?_;have⟨v7,e8,h⟩:=bs1 h;refine q u (aH u rfl zG (aL e8)) fun a u=>q u (aI u rfl yG rfl rfl yW) fun a u=>?_;have⟨v9,e10,h⟩:=bs1 h;refine q u (aH u rfl zG (aL e10)) fun a u=>q u (iM u rfl rfl) fun a u=>qa u rfl fun a u=>aC<|t_n<|wp_ret<|t_r<|?_;have y:=u;cases h;exact aX Try.results47 y rfl ⟨rfl,rfl⟩
 refine wp_skip<|t_n<|wp_seq<|wp_seq<|aA<|q u (aI u rfl yG rfl rfl yR) fun a u=>?_;have⟨v11,e12,h⟩:=bs1 h;refine q u (aH u rfl yS (aL e12)) fun a u=>q u (cA u rfl rfl) fun a u=>aC<|t_n<|?_;refine aF u rfl h (fun b13 h=>?_) (fun b13 h=>?_)
 .refine wp_seq<|?_;have⟨v14,w15,e16,h⟩:=bs2 h;refine aW (n:=33) (L:=[(2,(bV v14))]) (w':=w15) (fun a u=>?_) (fun hk17=>?_)
  .refine t_n<|wp_ret<|t_r<|?_;have y:=u;cases h;exact aX Try.results47 y rfl ⟨rfl,rfl⟩
  clear h;have h:=e16;refine aA<|q u (aI u rfl yG rfl rfl zA) fun a u=>?_;have⟨v18,e19,h⟩:=bs1 h;refine q u (aH u rfl zT (iU e19)) fun a u=>q u (eP u rfl) fun a u=>qm u rfl fun a u=>?_;refine bU h (fun b20 h=>?_) (fun b20 h=>?_)
  .refine qg u 17 b20 (aI u rfl yG rfl rfl yN) fun a u=>?_;have⟨v21,e22,h⟩:=bs1 h;refine qg u 17 b20 (aH u rfl yP (cG e22)) fun a u=>qg u 17 b20 (aI u rfl yG rfl rfl yN) fun a u=>?_;have⟨v23,e24,h⟩:=bs1 h;refine qg u 17 b20 (aH u rfl yP (cG e24)) fun a u=>qg u 17 b20 (vL u rfl rfl) fun a u=>q u (aK u rfl b20 rfl) fun a u=>qa u rfl fun a u=>aC<|?_;have y:=u;cases h;exact hk17 _ (y.sb rfl)
  refine qn u 17 (nm b20) fun a u=>qn u 17 (nm b20) fun a u=>qn u 17 (nm b20) fun a u=>qn u 17 (nm b20) fun a u=>qn u 17 (nm b20) fun a u=>q u (aJ u rfl b20 rfl) fun a u=>qa u rfl fun a u=>aC<|?_;have y:=u;cases h;exact hk17 _ (y.sb rfl)
 refine wp_skip<|t_n<|wp_seq<|wp_seq<|aA<|q u (aI u rfl yG rfl rfl yR) fun a u=>?_;have⟨v25,e26,h⟩:=bs1 h;refine q u (aH u rfl yS (aL e26)) fun a u=>q u (cA u rfl rfl) fun a u=>aC<|t_n<|?_;refine aF u rfl h (fun b27 h=>?_) (fun b27 h=>?_)
 .refine wp_seq<|aA<|q u (aI u rfl yG rfl rfl zX) fun a u=>?_;have⟨v28,e29,h⟩:=bs1 h;refine q u (aH u rfl zZ (aL e29)) fun a u=>?_;have⟨v30,e31,h⟩:=bs1 h;refine q u (nY u rfl rfl e31) fun a u=>q u (cA u rfl rfl) fun a u=>qa u rfl fun a u=>aC<|t_n<|wp_ret<|t_r<|?_;have y:=u;cases h;exact aX Try.results47 y rfl ⟨rfl,rfl⟩
 refine wp_skip<|t_n<|wp_seq<|aA<|q u (aI u rfl yG rfl rfl zA) fun a u=>?_;have⟨v32,e33,h⟩:=bs1 h;refine q u (aH u rfl zT (iU e33)) fun a u=>qa u rfl fun a u=>aC<|t_n<|wp_ret<|?_;have y:=u;cases h;exact aX Try.results47 y rfl ⟨rfl,rfl⟩
noncomputable def dW (a0:List Value) (a1:List Value) (w:World):Option (Int×World) :=
 aE (mk w 43 a0) fun p1 w2 =>
 aE (mk w2 43 a1) fun p4 w5 =>
 (ldI .i64 w5 (p1.add 0)).bind fun v7 =>
 (ldI .i64 w5 (p4.add 0)).bind fun v9 =>
 (ldI .i64 w5 (p1.add 1)).bind fun v11 =>
 (ldI .i64 w5 (p4.add 1)).bind fun v13 =>
 some ((IntKind.wrap .i64 ((IntKind.wrap .i64 ((IntKind.wrap .i64 (v7-v9))*(IntKind.wrap .i64 (v7-v9))))+(IntKind.wrap .i64 ((IntKind.wrap .i64 (v11-v13))*(IntKind.wrap .i64 (v11-v13)))))),w5)
theorem iK {a0 a1 w w' r0} (h:dW a0 a1 w=some (r0,w')):Calls Try.prog 75 #[(.agg (List.toArray a0)),(.agg (List.toArray a1))] w fun e w''=>e=.returned (.int .i64 r0)/\w''=w':=by
 refine aG (n:=24) Try.func75 rfl Try.ntmps75 (by simp) fun a u=>?_;unfold dW at h;refine wp_seq<|aA<|?_;have⟨p1,w2,e3,h⟩:=bs2 h;refine q u (dJ u rfl rfl e3) fun a u=>?_;have⟨p4,w5,e6,h⟩:=bs2 h;refine q u (dJ u rfl rfl e6) fun a u=>qa u rfl fun a u=>aC<|t_n<|wp_seq<|aA<|q u (aI u rfl yK rfl rfl yU) fun a u=>?_;have⟨v7,e8,h⟩:=bs1 h;refine q u (aH u rfl yT (aL e8)) fun a u=>q u (aI u rfl yK rfl rfl yU) fun a u=>?_;have⟨v9,e10,h⟩:=bs1 h;refine q u (aH u rfl yT (aL e10)) fun a u=>q u (jM u rfl rfl) fun a u=>qa u rfl fun a u=>aC<|t_n<|wp_seq<|aA<|q u (aI u rfl yK rfl rfl yU) fun a u=>?_;have⟨v11,e12,h⟩:=bs1 h;refine q u (aH u rfl yT (aL e12)) fun a u=>q u (aI u rfl yK rfl rfl yU) fun a u=>?_;have⟨v13,e14,h⟩:=bs1 h;refine q u (aH u rfl yT (aL e14)) fun a u=>q u (jM u rfl rfl) fun a u=>qa u rfl fun a u=>aC<|t_n<|wp_seq<|aA<|qm u rfl fun a u=>qm u rfl fun a u=>q u (lC u rfl rfl) fun a u=>qm u rfl fun a u=>qm u rfl fun a u=>q u (lC u rfl rfl) fun a u=>q u (dP u rfl rfl) fun a u=>qa u rfl fun a u=>aC<|t_n<|wp_ret<|?_;have y:=u;cases h;exact aX Try.results75 y rfl ⟨rfl,rfl⟩
noncomputable def dC (a0:List Value) (a1:List Value) (w:World):Option (Bool×World) :=
 aE (mk w 43 a0) fun p1 w2 =>
 aE (mk w2 43 a1) fun p4 w5 =>
 (ldI .i64 w5 (p4.add 2)).bind fun v7 =>
 (ldI .i64 w5 (p1.add 2)).bind fun v9 =>
 aE (if (decide (0<=(IntKind.wrap .i64 (v7-v9))))=true then
 ((ldA 3 w5 p1 0).bind fun c16 =>
 (ldA 3 w5 p4 0).bind fun c18 =>
 aE (dW c16 c18 w5) fun v20 w21 =>
 some ((decide (v20<=(IntKind.wrap .i64 ((IntKind.wrap .i64 (v7-v9))*(IntKind.wrap .i64 (v7-v9)))))),w21))
 else
 (some (false,w5))) fun v11 w12 =>
 some (v11,w12)
theorem hE {a0 a1 w w' r0} (h:dC a0 a1 w=some (r0,w')):Calls Try.prog 48 #[(.agg (List.toArray a0)),(.agg (List.toArray a1))] w fun e w''=>e=.returned (.bool r0)/\w''=w':=by
 refine aG (n:=22) Try.func48 rfl Try.ntmps48 (by simp) fun a u=>?_;unfold dC at h;refine wp_seq<|aA<|?_;have⟨p1,w2,e3,h⟩:=bs2 h;refine q u (dJ u rfl rfl e3) fun a u=>?_;have⟨p4,w5,e6,h⟩:=bs2 h;refine q u (dJ u rfl rfl e6) fun a u=>qa u rfl fun a u=>aC<|t_n<|wp_seq<|aA<|q u (aI u rfl yK rfl rfl yU) fun a u=>?_;have⟨v7,e8,h⟩:=bs1 h;refine q u (aH u rfl yT (aL e8)) fun a u=>q u (aI u rfl yK rfl rfl yU) fun a u=>?_;have⟨v9,e10,h⟩:=bs1 h;refine q u (aH u rfl yT (aL e10)) fun a u=>q u (jM u rfl rfl) fun a u=>qa u rfl fun a u=>aC<|t_n<|wp_seq<|?_;have⟨v11,w12,e13,h⟩:=bs2 h;refine aW (n:=22) (L:=[(4,(bV v11))]) (w':=w12) (fun a u=>?_) (fun hk14=>?_)
 .refine t_n<|wp_ret<|?_;have y:=u;cases h;exact aX Try.results48 y rfl ⟨rfl,rfl⟩
 clear h;have h:=e13;refine aA<|qm u rfl fun a u=>q u (lU u rfl rfl) fun a u=>qm u rfl fun a u=>?_;refine bU h (fun b15 h=>?_) (fun b15 h=>?_)
 .have⟨c16,e17,h⟩:=bs1 h;refine qg u 13 b15 (bE u rfl zB yO e17) fun a u=>?_;have⟨c18,e19,h⟩:=bs1 h;refine qg u 13 b15 (bE u rfl zB yO e19) fun a u=>?_;have⟨v20,w21,e22,h⟩:=bs2 h;refine qg u 13 b15 (dc2 u rfl rfl Try.call75 (iK e22)) fun a u=>qg u 13 b15 (aD u rfl) fun a u=>qg u 13 b15 (aD u rfl) fun a u=>qg u 13 b15 (lC u rfl rfl) fun a u=>qg u 13 b15 (mE u rfl rfl) fun a u=>q u (aK u rfl b15 rfl) fun a u=>qa u rfl fun a u=>aC<|?_;have y:=u;cases h;exact hk14 _ (y.sb rfl)
 refine qn u 13 (nm b15) fun a u=>qn u 13 (nm b15) fun a u=>qn u 13 (nm b15) fun a u=>qn u 13 (nm b15) fun a u=>qn u 13 (nm b15) fun a u=>qn u 13 (nm b15) fun a u=>qn u 13 (nm b15) fun a u=>q u (aJ u rfl b15 rfl) fun a u=>qa u rfl fun a u=>aC<|?_;have y:=u;cases h;exact hk14 _ (y.sb rfl)
noncomputable def dY (a0:List Value) (a1:List Value) (w:World):Option (Bool×World) :=
 aE (mk w 43 a0) fun p1 w2 =>
 aE (mk w2 43 a1) fun p4 w5 =>
 (ldI .i64 w5 (p1.add 2)).bind fun v7 =>
 (ldI .i64 w5 (p4.add 2)).bind fun v9 =>
 (ldA 3 w5 p1 0).bind fun c11 =>
 (ldA 3 w5 p4 0).bind fun c13 =>
 aE (dW c11 c13 w5) fun v15 w16 =>
 some ((decide ((IntKind.wrap .i64 ((IntKind.wrap .i64 (v7+v9))*(IntKind.wrap .i64 (v7+v9))))<v15)),w16)
theorem jW {a0 a1 w w' r0} (h:dY a0 a1 w=some (r0,w')):Calls Try.prog 49 #[(.agg (List.toArray a0)),(.agg (List.toArray a1))] w fun e w''=>e=.returned (.bool r0)/\w''=w':=by
 refine aG (n:=18) Try.func49 rfl Try.ntmps49 (by simp) fun a u=>?_;unfold dY at h;refine wp_seq<|aA<|?_;have⟨p1,w2,e3,h⟩:=bs2 h;refine q u (dJ u rfl rfl e3) fun a u=>?_;have⟨p4,w5,e6,h⟩:=bs2 h;refine q u (dJ u rfl rfl e6) fun a u=>qa u rfl fun a u=>aC<|t_n<|wp_seq<|aA<|q u (aI u rfl yK rfl rfl yU) fun a u=>?_;have⟨v7,e8,h⟩:=bs1 h;refine q u (aH u rfl yT (aL e8)) fun a u=>q u (aI u rfl yK rfl rfl yU) fun a u=>?_;have⟨v9,e10,h⟩:=bs1 h;refine q u (aH u rfl yT (aL e10)) fun a u=>q u (dP u rfl rfl) fun a u=>qa u rfl fun a u=>aC<|t_n<|wp_seq<|aA<|?_;have⟨c11,e12,h⟩:=bs1 h;refine q u (bE u rfl zB yO e12) fun a u=>?_;have⟨c13,e14,h⟩:=bs1 h;refine q u (bE u rfl zB yO e14) fun a u=>?_;have⟨v15,w16,e17,h⟩:=bs2 h;refine q u (dc2 u rfl rfl Try.call75 (iK e17)) fun a u=>qm u rfl fun a u=>qm u rfl fun a u=>q u (lC u rfl rfl) fun a u=>q u (iM u rfl rfl) fun a u=>qa u rfl fun a u=>aC<|t_n<|wp_ret<|?_;have y:=u;cases h;exact aX Try.results49 y rfl ⟨rfl,rfl⟩
noncomputable def cK (p1:Addr) (p4:Addr) (x112:Int) (x125:Bool) (x126:Int) (w127:World):Option ((Bool×Int×World)⊕(Bool×World)) :=
 (ldL w127 (p1.add 10)).bind fun v134 =>
 if (decide (x126<(v134.n:Int)))=true then
 (aE ((dr w127).bind fun w141 =>
 if x125=true then
 (some (true,w141))
 else
 ((ldL w141 (p1.add 10)).bind fun v144 =>
 (ix v144 x126 3).bind fun p146 =>
 (ldA 3 w141 p146 0).bind fun c148 =>
 (ldL w141 (p4.add 10)).bind fun v150 =>
 (ix v150 x112 3).bind fun p152 =>
 (ldA 3 w141 p152 0).bind fun c154 =>
 aE (dC c148 c154 w141) fun v156 w157 =>
 some (v156,w157))) fun v137 w138 =>
 some (.inl (v137,(IntKind.wrap .i64 (x126+1)),w138)))
 else
 (some (.inr (x125,w127)))
noncomputable def cM (p4:Addr) (p1:Addr) (x112:Int) (w113:World):Option ((Int×World)⊕((World)⊕(Bool×World))) :=
 (ldL w113 (p4.add 10)).bind fun v122 =>
 if (decide (x112<(v122.n:Int)))=true then
 (aE (bB (fun s:Bool×Int×World=>cK p1 p4 x112 s.1 s.2.1 s.2.2) (false,0,w113)) fun v130 w131 =>
 if (!v130)=true then
 (some (.inr (.inr (false,w131))))
 else
 (some (.inl ((IntKind.wrap .i64 (x112+1)),w131))))
 else
 (some (.inr (.inl w113)))
noncomputable def cN (p1:Addr) (p4:Addr) (x160:Int) (x173:Bool) (x174:Int) (w175:World):Option ((Bool×Int×World)⊕(Bool×World)) :=
 (ldL w175 (p1.add 11)).bind fun v182 =>
 if (decide (x174<(v182.n:Int)))=true then
 (aE ((dr w175).bind fun w189 =>
 if x173=true then
 (some (true,w189))
 else
 ((ldL w189 (p4.add 11)).bind fun v192 =>
 (ix v192 x160 3).bind fun p194 =>
 (ldA 3 w189 p194 0).bind fun c196 =>
 (ldL w189 (p1.add 11)).bind fun v198 =>
 (ix v198 x174 3).bind fun p200 =>
 (ldA 3 w189 p200 0).bind fun c202 =>
 aE (dC c196 c202 w189) fun v204 w205 =>
 some (v204,w205))) fun v185 w186 =>
 some (.inl (v185,(IntKind.wrap .i64 (x174+1)),w186)))
 else
 (some (.inr (x173,w175)))
noncomputable def cI (p1:Addr) (p4:Addr) (x160:Int) (x207:Bool) (x208:Int) (w209:World):Option ((Bool×Int×World)⊕(Bool×World)) :=
 (ldL w209 (p1.add 10)).bind fun v216 =>
 if (decide (x208<(v216.n:Int)))=true then
 (aE ((dr w209).bind fun w223 =>
 if x207=true then
 (some (true,w223))
 else
 ((ldL w223 (p1.add 10)).bind fun v226 =>
 (ix v226 x208 3).bind fun p228 =>
 (ldA 3 w223 p228 0).bind fun c230 =>
 (ldL w223 (p4.add 11)).bind fun v232 =>
 (ix v232 x160 3).bind fun p234 =>
 (ldA 3 w223 p234 0).bind fun c236 =>
 aE (dY c230 c236 w223) fun v238 w239 =>
 some (v238,w239))) fun v219 w220 =>
 some (.inl (v219,(IntKind.wrap .i64 (x208+1)),w220)))
 else
 (some (.inr (x207,w209)))
noncomputable def cH (p4:Addr) (p1:Addr) (x160:Int) (w161:World):Option ((Int×World)⊕((World)⊕(Bool×World))) :=
 (ldL w161 (p4.add 11)).bind fun v170 =>
 if (decide (x160<(v170.n:Int)))=true then
 (aE (bB (fun s:Bool×Int×World=>cN p1 p4 x160 s.1 s.2.1 s.2.2) (false,0,w161)) fun v178 w179 =>
 aE (bB (fun s:Bool×Int×World=>cI p1 p4 x160 s.1 s.2.1 s.2.2) (v178,0,w179)) fun v212 w213 =>
 if (!v212)=true then
 (some (.inr (.inr (false,w213))))
 else
 (some (.inl ((IntKind.wrap .i64 (x160+1)),w213))))
 else
 (some (.inr (.inl w161)))
noncomputable def eK (a0:List Value) (a1:List Value) (w:World):Option (Bool×World) :=
 aE (mk w 40 a0) fun p1 w2 =>
 aE (mk w2 40 a1) fun p4 w5 =>
 aE ((ldI .i64 w5 (p1.add 1)).bind fun v11 =>
 (ldI .i64 w5 (p4.add 1)).bind fun v13 =>
 if (v11 !=v13)=true then
 (some (true,w5))
 else
 ((ldB w5 (p1.add 2)).bind fun v16 =>
 if v16=true then
 ((ldB w5 (p4.add 2)).bind fun v19 =>
 some ((!v19),w5))
 else
 (some (false,w5)))) fun v7 w8 =>
 if v7=true then
 (some (false,w8))
 else
 ((ldA 12 w8 p1 0).bind fun c22 =>
 aE (dR c22 w8) fun v24 w25 =>
 if v24=true then
 (some (true,w25))
 else
 ((ldI .i64 w25 (p1.add 1)).bind fun v28 =>
 if (v28==1)=true then
 (aE ((ldI .i64 w25 (p4.add 3)).bind fun v35 =>
 (ldI .i64 w25 (p1.add 3)).bind fun v37 =>
 if (decide (v35<=v37))=true then
 ((ldI .i64 w25 (p1.add 4)).bind fun v40 =>
 (ldI .i64 w25 (p4.add 4)).bind fun v42 =>
 some ((decide (v40<=v42)),w25))
 else
 (some (false,w25))) fun v31 w32 =>
 some (v31,w32))
 else
 ((ldI .i64 w25 (p1.add 1)).bind fun v44 =>
 if (v44==2)=true then
 (aE ((ldS w25 (p4.add 5)).bind fun v51 =>
 (ldS w25 (p1.add 5)).bind fun v53 =>
 if (sLt v51 v53||sEq v51 v53)=true then
 ((ldB w25 (p4.add 7)).bind fun v56 =>
 if v56=true then
 (some (true,w25))
 else
 ((ldB w25 (p1.add 7)).bind fun v59 =>
 if (!v59)=true then
 ((ldS w25 (p1.add 6)).bind fun v62 =>
 (ldS w25 (p4.add 6)).bind fun v64 =>
 some ((sLt v62 v64||sEq v62 v64),w25))
 else
 (some (false,w25))))
 else
 (some (false,w25))) fun v47 w48 =>
 some (v47,w48))
 else
 ((ldI .i64 w25 (p1.add 1)).bind fun v66 =>
 if (v66==3)=true then
 (aE ((ldI .u8 w25 (p1.add 8)).bind fun v73 =>
 (rmI v73 2).bind fun v75 =>
 if (v75==0)=true then
 ((ldI .u8 w25 (p1.add 8)).bind fun v78 =>
 (dvI .u8 v78 2).bind fun v80 =>
 (rmI v80 2).bind fun v82 =>
 if (v82==0)=true then
 (some (true,w25))
 else
 ((ldI .u8 w25 (p4.add 8)).bind fun v85 =>
 (dvI .u8 v85 2).bind fun v87 =>
 (rmI v87 2).bind fun v89 =>
 some ((v89==1),w25)))
 else
 ((ldI .u8 w25 (p4.add 8)).bind fun v91 =>
 (rmI v91 2).bind fun v93 =>
 if (v93==1)=true then
 ((ldI .u8 w25 (p1.add 8)).bind fun v96 =>
 (dvI .u8 v96 2).bind fun v98 =>
 (rmI v98 2).bind fun v100 =>
 if (v100==0)=true then
 (some (true,w25))
 else
 ((ldI .u8 w25 (p4.add 8)).bind fun v103 =>
 (dvI .u8 v103 2).bind fun v105 =>
 (rmI v105 2).bind fun v107 =>
 some ((v107==1),w25)))
 else
 (some (false,w25)))) fun v69 w70 =>
 some (v69,w70))
 else
 ((ldB w25 (p4.add 9)).bind fun v109 =>
 if v109=true then
 (some (false,w25))
 else
 ((bB (fun s:Int×World=>cM p4 p1 s.1 s.2) (0,w25)).bind fun r114=>Sum.elim (fun (i:World)=>u1 i fun w116 =>
 (bB (fun s:Int×World=>cH p4 p1 s.1 s.2) (0,w116)).bind fun r162=>Sum.elim (fun (i:World)=>u1 i fun w164 =>
 some (true,w164)) (fun (i:Bool×World)=>u2 i fun v165 w166 =>
 some (v165,w166)) r162) (fun (i:Bool×World)=>u2 i fun v117 w118 =>
 some (v117,w118)) r114))))))
theorem kM {a0 a1 w w' r0} (h:eK a0 a1 w=some (r0,w')):Calls Try.prog 30 #[(.agg (List.toArray a0)),(.agg (List.toArray a1))] w fun e w''=>e=.returned (.bool r0)/\w''=w':=by
 refine aG (n:=177) Try.func30 rfl Try.ntmps30 (by simp) fun a u=>?_;unfold eK at h;refine wp_seq<|aA<|?_;have⟨p1,w2,e3,h⟩:=bs2 h;refine q u (dJ u rfl rfl e3) fun a u=>?_;have⟨p4,w5,e6,h⟩:=bs2 h;refine q u (dJ u rfl rfl e6) fun a u=>qa u rfl fun a u=>aC<|t_n<|wp_seq<|wp_seq<|?_;have⟨v7,w8,e9,h⟩:=bs2 h;refine aW (n:=177) (L:=[(25,(bV v7)),(2,(pV (some p1))),(3,(pV (some p4)))]) (w':=w8) (fun a u=>?_) (fun hk10=>?_)
 .refine t_n<|?_;refine aF u rfl h (fun b21 h=>?_) (fun b21 h=>?_)
  .refine wp_seq<|aA<|qa u rfl fun a u=>aC<|t_n<|wp_ret<|t_r<|?_;have y:=u;cases h;exact aX Try.results30 y rfl ⟨rfl,rfl⟩
  refine wp_skip<|t_n<|wp_seq<|wp_seq<|aA<|?_;have⟨c22,e23,h⟩:=bs1 h;refine q u (bE u rfl zC yH e23) fun a u=>?_;have⟨v24,w25,e26,h⟩:=bs2 h;refine q u (dc1 u rfl Try.call47 (jL e26)) fun a u=>aC<|t_n<|?_;refine aF u rfl h (fun b27 h=>?_) (fun b27 h=>?_)
  .refine wp_seq<|aA<|qa u rfl fun a u=>aC<|t_n<|wp_ret<|t_r<|?_;have y:=u;cases h;exact aX Try.results30 y rfl ⟨rfl,rfl⟩
  refine wp_skip<|t_n<|wp_seq<|wp_seq<|aA<|q u (aI u rfl yG rfl rfl yR) fun a u=>?_;have⟨v28,e29,h⟩:=bs1 h;refine q u (aH u rfl yS (aL e29)) fun a u=>q u (cA u rfl rfl) fun a u=>aC<|t_n<|?_;refine aF u rfl h (fun b30 h=>?_) (fun b30 h=>?_)
  .refine wp_seq<|?_;have⟨v31,w32,e33,h⟩:=bs2 h;refine aW (n:=177) (L:=[(4,(bV v31))]) (w':=w32) (fun a u=>?_) (fun hk34=>?_)
   .refine t_n<|wp_ret<|t_r<|?_;have y:=u;cases h;exact aX Try.results30 y rfl ⟨rfl,rfl⟩
   clear h;have h:=e33;refine aA<|q u (aI u rfl yG rfl rfl yW) fun a u=>?_;have⟨v35,e36,h⟩:=bs1 h;refine q u (aH u rfl zG (aL e36)) fun a u=>q u (aI u rfl yG rfl rfl yW) fun a u=>?_;have⟨v37,e38,h⟩:=bs1 h;refine q u (aH u rfl zG (aL e38)) fun a u=>q u (mE u rfl rfl) fun a u=>qm u rfl fun a u=>?_;refine bU h (fun b39 h=>?_) (fun b39 h=>?_)
   .refine qg u 36 b39 (aI u rfl yG rfl rfl yW) fun a u=>?_;have⟨v40,e41,h⟩:=bs1 h;refine qg u 36 b39 (aH u rfl zG (aL e41)) fun a u=>qg u 36 b39 (aI u rfl yG rfl rfl yW) fun a u=>?_;have⟨v42,e43,h⟩:=bs1 h;refine qg u 36 b39 (aH u rfl zG (aL e43)) fun a u=>qg u 36 b39 (mE u rfl rfl) fun a u=>q u (aK u rfl b39 rfl) fun a u=>qa u rfl fun a u=>aC<|?_;have y:=u;cases h;exact hk34 _ (y.sb rfl)
   refine qn u 36 (nm b39) fun a u=>qn u 36 (nm b39) fun a u=>qn u 36 (nm b39) fun a u=>qn u 36 (nm b39) fun a u=>qn u 36 (nm b39) fun a u=>q u (aJ u rfl b39 rfl) fun a u=>qa u rfl fun a u=>aC<|?_;have y:=u;cases h;exact hk34 _ (y.sb rfl)
  refine wp_skip<|t_n<|wp_seq<|wp_seq<|aA<|q u (aI u rfl yG rfl rfl yR) fun a u=>?_;have⟨v44,e45,h⟩:=bs1 h;refine q u (aH u rfl yS (aL e45)) fun a u=>q u (cA u rfl rfl) fun a u=>aC<|t_n<|?_;refine aF u rfl h (fun b46 h=>?_) (fun b46 h=>?_)
  .refine wp_seq<|?_;have⟨v47,w48,e49,h⟩:=bs2 h;refine aW (n:=177) (L:=[(4,(bV v47))]) (w':=w48) (fun a u=>?_) (fun hk50=>?_)
   .refine t_n<|wp_ret<|t_r<|?_;have y:=u;cases h;exact aX Try.results30 y rfl ⟨rfl,rfl⟩
   clear h;have h:=e49;refine aA<|q u (aI u rfl yG rfl rfl yN) fun a u=>?_;have⟨v51,e52,h⟩:=bs1 h;refine q u (aH u rfl yP (cG e52)) fun a u=>q u (aI u rfl yG rfl rfl yN) fun a u=>?_;have⟨v53,e54,h⟩:=bs1 h;refine q u (aH u rfl yP (cG e54)) fun a u=>q u (oC u rfl rfl) fun a u=>qm u rfl fun a u=>?_;refine bU h (fun b55 h=>?_) (fun b55 h=>?_)
   .refine qg u 51 b55 (aI u rfl yG rfl rfl zA) fun a u=>?_;have⟨v56,e57,h⟩:=bs1 h;refine qg u 51 b55 (aH u rfl zT (iU e57)) fun a u=>qg u 51 b55 (aD u rfl) fun a u=>?_;refine bU h (fun b58 h=>?_) (fun b58 h=>?_)
    .refine qn u 54 (tn b58) fun a u=>qn u 54 (tn b58) fun a u=>qn u 54 (tn b58) fun a u=>qn u 54 (tn b58) fun a u=>qu u 58 fun a u=>qu u 58 fun a u=>qu u 58 fun a u=>qu u 58 fun a u=>qu u 58 fun a u=>qn u 54 (tn b58) fun a u=>qg u 51 b55 (aK u rfl b58 rfl) fun a u=>q u (aK u rfl b55 rfl) fun a u=>qa u rfl fun a u=>aC<|?_;have y:=u;cases h;exact hk50 _ (y.sb rfl)
    refine qg u 54 (nt b58) (aI u rfl yG rfl rfl zA) fun a u=>?_;have⟨v59,e60,h⟩:=bs1 h;refine qg u 54 (nt b58) (aH u rfl zT (iU e60)) fun a u=>qg u 54 (nt b58) (eP u rfl) fun a u=>qg u 54 (nt b58) (aD u rfl) fun a u=>?_;refine bU h (fun b61 h=>?_) (fun b61 h=>?_)
    .refine qg u 58 b61 (aI u rfl yG rfl rfl yN) fun a u=>?_;have⟨v62,e63,h⟩:=bs1 h;refine qg u 58 b61 (aH u rfl yP (cG e63)) fun a u=>qg u 58 b61 (aI u rfl yG rfl rfl yN) fun a u=>?_;have⟨v64,e65,h⟩:=bs1 h;refine qg u 58 b61 (aH u rfl yP (cG e65)) fun a u=>qg u 58 b61 (oC u rfl rfl) fun a u=>qg u 54 (nt b58) (aK u rfl b61 rfl) fun a u=>qg u 51 b55 (aJ u rfl b58 rfl) fun a u=>q u (aK u rfl b55 rfl) fun a u=>qa u rfl fun a u=>aC<|?_;have y:=u;cases h;exact hk50 _ (y.sb rfl)
    refine qn u 58 (nm b61) fun a u=>qn u 58 (nm b61) fun a u=>qn u 58 (nm b61) fun a u=>qn u 58 (nm b61) fun a u=>qn u 58 (nm b61) fun a u=>qg u 54 (nt b58) (aJ u rfl b61 rfl) fun a u=>qg u 51 b55 (aJ u rfl b58 rfl) fun a u=>q u (aK u rfl b55 rfl) fun a u=>qa u rfl fun a u=>aC<|?_;have y:=u;cases h;exact hk50 _ (y.sb rfl)
   refine qn u 51 (nm b55) fun a u=>qn u 51 (nm b55) fun a u=>qn u 51 (nm b55) fun a u=>qu u 54 fun a u=>qu u 54 fun a u=>qu u 54 fun a u=>qu u 54 fun a u=>qu u 58 fun a u=>qu u 58 fun a u=>qu u 58 fun a u=>qu u 58 fun a u=>qu u 58 fun a u=>qu u 54 fun a u=>qn u 51 (nm b55) fun a u=>q u (aJ u rfl b55 rfl) fun a u=>qa u rfl fun a u=>aC<|?_;have y:=u;cases h;exact hk50 _ (y.sb rfl)
  refine wp_skip<|t_n<|wp_seq<|wp_seq<|aA<|q u (aI u rfl yG rfl rfl yR) fun a u=>?_;have⟨v66,e67,h⟩:=bs1 h;refine q u (aH u rfl yS (aL e67)) fun a u=>q u (cA u rfl rfl) fun a u=>aC<|t_n<|?_;refine aF u rfl h (fun b68 h=>?_) (fun b68 h=>?_)
  .refine wp_seq<|?_;have⟨v69,w70,e71,h⟩:=bs2 h;refine aW (n:=177) (L:=[(4,(bV v69))]) (w':=w70) (fun a u=>?_) (fun hk72=>?_)
   .refine t_n<|wp_ret<|t_r<|?_;have y:=u;cases h;exact aX Try.results30 y rfl ⟨rfl,rfl⟩
   clear h;have h:=e71;refine aA<|q u (aI u rfl yG rfl rfl zX) fun a u=>?_;have⟨v73,e74,h⟩:=bs1 h;refine q u (aH u rfl zZ (aL e74)) fun a u=>?_;have⟨v75,e76,h⟩:=bs1 h;refine q u (nY u rfl rfl e76) fun a u=>q u (cA u rfl rfl) fun a u=>qm u rfl fun a u=>?_;refine bU h (fun b77 h=>?_) (fun b77 h=>?_)
   .refine qn u 74 (tn b77) fun a u=>qn u 74 (tn b77) fun a u=>qn u 74 (tn b77) fun a u=>qn u 74 (tn b77) fun a u=>q u (aK u rfl b77 rfl) fun a u=>qm u rfl fun a u=>qg u 80 rfl (aI u rfl yG rfl rfl zX) fun a u=>?_;have⟨v78,e79,h⟩:=bs1 h;refine qg u 80 rfl (aH u rfl zZ (aL e79)) fun a u=>?_;have⟨v80,e81,h⟩:=bs1 h;refine qg u 80 rfl (qZ u rfl rfl e81) fun a u=>?_;have⟨v82,e83,h⟩:=bs1 h;refine qg u 80 rfl (nY u rfl rfl e83) fun a u=>qg u 80 rfl (cA u rfl rfl) fun a u=>qg u 80 rfl (aD u rfl) fun a u=>?_;refine bU h (fun b84 h=>?_) (fun b84 h=>?_)
    .refine qn u 86 (tn b84) fun a u=>qn u 86 (tn b84) fun a u=>qn u 86 (tn b84) fun a u=>qn u 86 (tn b84) fun a u=>qn u 86 (tn b84) fun a u=>qg u 80 rfl (aK u rfl b84 rfl) fun a u=>q u (aK u rfl rfl rfl) fun a u=>qa u rfl fun a u=>aC<|?_;have y:=u;cases h;exact hk72 _ (y.sb rfl)
    refine qg u 86 (nt b84) (aI u rfl yG rfl rfl zX) fun a u=>?_;have⟨v85,e86,h⟩:=bs1 h;refine qg u 86 (nt b84) (aH u rfl zZ (aL e86)) fun a u=>?_;have⟨v87,e88,h⟩:=bs1 h;refine qg u 86 (nt b84) (qZ u rfl rfl e88) fun a u=>?_;have⟨v89,e90,h⟩:=bs1 h;refine qg u 86 (nt b84) (nY u rfl rfl e90) fun a u=>qg u 86 (nt b84) (cA u rfl rfl) fun a u=>qg u 80 rfl (aJ u rfl b84 rfl) fun a u=>q u (aK u rfl rfl rfl) fun a u=>qa u rfl fun a u=>aC<|?_;have y:=u;cases h;exact hk72 _ (y.sb rfl)
   refine qg u 74 (nt b77) (aI u rfl yG rfl rfl zX) fun a u=>?_;have⟨v91,e92,h⟩:=bs1 h;refine qg u 74 (nt b77) (aH u rfl zZ (aL e92)) fun a u=>?_;have⟨v93,e94,h⟩:=bs1 h;refine qg u 74 (nt b77) (nY u rfl rfl e94) fun a u=>qg u 74 (nt b77) (cA u rfl rfl) fun a u=>q u (aJ u rfl b77 rfl) fun a u=>qm u rfl fun a u=>?_;refine bU h (fun b95 h=>?_) (fun b95 h=>?_)
   .refine qg u 80 b95 (aI u rfl yG rfl rfl zX) fun a u=>?_;have⟨v96,e97,h⟩:=bs1 h;refine qg u 80 b95 (aH u rfl zZ (aL e97)) fun a u=>?_;have⟨v98,e99,h⟩:=bs1 h;refine qg u 80 b95 (qZ u rfl rfl e99) fun a u=>?_;have⟨v100,e101,h⟩:=bs1 h;refine qg u 80 b95 (nY u rfl rfl e101) fun a u=>qg u 80 b95 (cA u rfl rfl) fun a u=>qg u 80 b95 (aD u rfl) fun a u=>?_;refine bU h (fun b102 h=>?_) (fun b102 h=>?_)
    .refine qn u 86 (tn b102) fun a u=>qn u 86 (tn b102) fun a u=>qn u 86 (tn b102) fun a u=>qn u 86 (tn b102) fun a u=>qn u 86 (tn b102) fun a u=>qg u 80 b95 (aK u rfl b102 rfl) fun a u=>q u (aK u rfl b95 rfl) fun a u=>qa u rfl fun a u=>aC<|?_;have y:=u;cases h;exact hk72 _ (y.sb rfl)
    refine qg u 86 (nt b102) (aI u rfl yG rfl rfl zX) fun a u=>?_;have⟨v103,e104,h⟩:=bs1 h;refine qg u 86 (nt b102) (aH u rfl zZ (aL e104)) fun a u=>?_;have⟨v105,e106,h⟩:=bs1 h;refine qg u 86 (nt b102) (qZ u rfl rfl e106) fun a u=>?_;have⟨v107,e108,h⟩:=bs1 h;refine qg u 86 (nt b102) (nY u rfl rfl e108) fun a u=>qg u 86 (nt b102) (cA u rfl rfl) fun a u=>qg u 80 b95 (aJ u rfl b102 rfl) fun a u=>q u (aK u rfl b95 rfl) fun a u=>qa u rfl fun a u=>aC<|?_;have y:=u;cases h;exact hk72 _ (y.sb rfl)
   refine qn u 80 (nm b95) fun a u=>qn u 80 (nm b95) fun a u=>qn u 80 (nm b95) fun a u=>qn u 80 (nm b95) fun a u=>qn u 80 (nm b95) fun a u=>qn u 80 (nm b95) fun a u=>qu u 86 fun a u=>qu u 86 fun a u=>qu u 86 fun a u=>qu u 86 fun a u=>qu u 86 fun a u=>qn u 80 (nm b95) fun a u=>q u (aJ u rfl b95 rfl) fun a u=>qa u rfl fun a u=>aC<|?_;have y:=u;cases h;exact hk72 _ (y.sb rfl)
  refine wp_skip<|t_n<|wp_seq<|wp_seq<|aA<|q u (aI u rfl yG rfl rfl zA) fun a u=>?_;have⟨v109,e110,h⟩:=bs1 h;refine q u (aH u rfl zT (iU e110)) fun a u=>aC<|t_n<|?_;refine aF u rfl h (fun b111 h=>?_) (fun b111 h=>?_)
  .refine wp_seq<|aA<|qa u rfl fun a u=>aC<|t_n<|wp_ret<|t_r<|?_;have y:=u;cases h;exact aX Try.results30 y rfl ⟨rfl,rfl⟩
  refine wp_skip<|t_n<|wp_seq<|wp_seq<|aA<|qa u rfl fun a u=>aC<|t_n<|wp_block<|?_;have⟨r114,e115,h⟩:=bs1 h;refine dH (n:=177) (L1:=fun i=>[(2,(pV (some p1))),(3,(pV (some p4)))]) (w1:=fun i=>i) (L2:=fun i=>[(4,(bV i.1))]) (w2:=fun i=>i.2) (e1:=.exit 0) (e2:=.ret) (I:=fun (s:Int×World) a w=>Has 177 [(5,(iV s.1)),(2,(pV (some p1))),(3,(pV (some p4)))] a/\w=s.2) ⟨u.sub ⟨rfl,rfl,rfl,aBP⟩,rfl⟩ e115 (fun i hi a u=>?_) (fun i hi a u=>?_) (fun hk119 hk120=>?_)
  .subst hi;obtain⟨w116,rfl⟩:∃ x,x=i:=⟨i,rfl⟩;dsimp only[Sum.elim_inl,Sum.elim_inr,u1,u2,u3,u4,u5,u6] at h;have u:Has 177 [(2,(pV (some p1))),(3,(pV (some p4)))] a:=u;refine eC<|t_n<|wp_seq<|wp_seq<|aA<|qa u rfl fun a u=>aC<|t_n<|wp_block<|?_;have⟨r162,e163,h⟩:=bs1 h;refine dH (n:=177) (L1:=fun i=>[]) (w1:=fun i=>i) (L2:=fun i=>[(4,(bV i.1))]) (w2:=fun i=>i.2) (e1:=.exit 4) (e2:=.ret) (I:=fun (s:Int×World) a w=>Has 177 [(8,(iV s.1)),(2,(pV (some p1))),(3,(pV (some p4)))] a/\w=s.2) ⟨u.sub ⟨rfl,rfl,rfl,aBP⟩,rfl⟩ e163 (fun i hi a u=>?_) (fun i hi a u=>?_) (fun hk167 hk168=>?_)
   .subst hi;obtain⟨w164,rfl⟩:∃ x,x=i:=⟨i,rfl⟩;dsimp only[Sum.elim_inl,Sum.elim_inr,u1,u2,u3,u4,u5,u6] at h;have u:Has 177 [] a:=u;refine eC<|t_n<|wp_seq<|aA<|qa u rfl fun a u=>aC<|t_n<|wp_ret<|?_;have y:=u;cases h;exact aX Try.results30 y rfl ⟨rfl,rfl⟩
   .subst hi;obtain⟨v165,w166⟩:=i;dsimp only[Sum.elim_inl,Sum.elim_inr,u1,u2,u3,u4,u5,u6] at h;have u:Has 177 [(4,(bV v165))] a:=u;refine b_r<|t_r<|?_;have y:=u;cases h;exact aX Try.results30 y rfl ⟨rfl,rfl⟩
   clear h;rintro⟨x160,w161⟩ a wq o ⟨u,hwq⟩ h hr169;obtain rfl:w161=wq:=hwq.symm;have u:Has 177 [(8,(iV x160)),(2,(pV (some p1))),(3,(pV (some p4)))] a:=u;have h:cH p4 p1 x160 w161=some o:=h;unfold cH at h;refine wp_seq<|wp_seq<|aA<|qm u rfl fun a u=>q u (aI u rfl yG rfl rfl yV) fun a u=>?_;have⟨v170,e171,h⟩:=bs1 h;refine q u (aH u rfl yX (bG e171)) fun a u=>q u (bZ u rfl yJ) fun a u=>q u (eX u rfl rfl) fun a u=>aC<|t_n<|?_;refine aF u rfl h (fun b172 h=>?_) (fun b172 h=>?_)
   .refine wp_skip<|t_n<|wp_seq<|wp_block<|wp_seq<|aA<|qa u rfl fun a u=>aC<|t_n<|wp_seq<|wp_seq<|aA<|qa u rfl fun a u=>aC<|t_n<|wp_block<|?_;have⟨v178,w179,e177,h⟩:=bs2 h;refine lO (n:=177) (L:=[(9,(bV v178)),(2,(pV (some p1))),(3,(pV (some p4))),(8,(iV x160))]) (w':=w179) (e:=.exit 6) (I:=fun (s:Bool×Int×World) a w=>Has 177 [(9,(bV s.1)),(10,(iV s.2.1)),(2,(pV (some p1))),(3,(pV (some p4))),(8,(iV x160))] a/\w=s.2.2) ⟨u.sub ⟨rfl,rfl,rfl,rfl,rfl,aBP⟩,rfl⟩ e177 (fun a u=>?_) (fun hk180=>?_)
    .refine eC<|t_n<|wp_seq<|wp_seq<|aA<|qa u rfl fun a u=>aC<|t_n<|wp_block<|?_;have⟨v212,w213,e211,h⟩:=bs2 h;refine lO (n:=177) (L:=[(9,(bV v212)),(2,(pV (some p1))),(3,(pV (some p4))),(8,(iV x160))]) (w':=w213) (e:=.exit 8) (I:=fun (s:Bool×Int×World) a w=>Has 177 [(9,(bV s.1)),(11,(iV s.2.1)),(2,(pV (some p1))),(3,(pV (some p4))),(8,(iV x160))] a/\w=s.2.2) ⟨u.sub ⟨rfl,rfl,rfl,rfl,rfl,aBP⟩,rfl⟩ e211 (fun a u=>?_) (fun hk214=>?_)
     .refine eC<|t_n<|wp_seq<|aA<|qm u rfl fun a u=>q u (eP u rfl) fun a u=>aC<|t_n<|?_;refine aF u rfl h (fun b241 h=>?_) (fun b241 h=>?_)
      .refine wp_seq<|aA<|qa u rfl fun a u=>aC<|t_n<|wp_ret<|b_r<|t_r<|?_;have y:=u;cases h;cases hr169 _ rfl;refine gB<|?_;exact hk168 _ rfl _ (y.sb rfl)
      refine wp_skip<|b_n<|t_n<|aA<|qm u rfl fun a u=>q u (dP u rfl rfl) fun a u=>qa u rfl fun a u=>aC<|?_;have y:=u;cases h;exact cP ⟨y.sb rfl,rfl⟩
     clear h;rintro⟨x207,x208,w209⟩ a wq o ⟨u,hwq⟩ h hr215;obtain rfl:w209=wq:=hwq.symm;have u:Has 177 [(9,(bV x207)),(11,(iV x208)),(2,(pV (some p1))),(3,(pV (some p4))),(8,(iV x160))] a:=u;have h:cI p1 p4 x160 x207 x208 w209=some o:=h;unfold cI at h;refine wp_seq<|wp_seq<|aA<|qm u rfl fun a u=>q u (aI u rfl yG rfl rfl yV) fun a u=>?_;have⟨v216,e217,h⟩:=bs1 h;refine q u (aH u rfl yX (bG e217)) fun a u=>q u (bZ u rfl yJ) fun a u=>q u (eX u rfl rfl) fun a u=>aC<|t_n<|?_;refine aF u rfl h (fun b218 h=>?_) (fun b218 h=>?_)
     .refine wp_skip<|t_n<|wp_seq<|wp_block<|?_;have⟨v219,w220,e221,h⟩:=bs2 h;refine aW (n:=177) (L:=[(9,(bV v219)),(2,(pV (some p1))),(3,(pV (some p4))),(8,(iV x160)),(11,(iV x208))]) (w':=w220) (fun a u=>?_) (fun hk222=>?_)
      .refine b_n<|t_n<|aA<|qm u rfl fun a u=>q u (dP u rfl rfl) fun a u=>qa u rfl fun a u=>aC<|?_;have y:=u;cases h;exact cP ⟨y.sb rfl,rfl⟩
      clear h;have h:=e221;have⟨w223,e224,h⟩:=bs1 h;refine bU h (fun b225 h=>?_) (fun b225 h=>?_)
      .have u:Has 177 [(2,(pV (some p1))),(3,(pV (some p4))),(8,(iV x160)),(9,(bV x207)),(11,(iV x208))] a:=u.sb rfl;refine bC (n:=177) (ds:=(dD (bV x207) 0 [] 9::dD (bV x207) 0 [0] 161::aQ (undef) 0 [0,1] 162 (bV x207)::aQ (undef) 0 [0,1,2] 162 (bV x207)::aQ (undef) 0 [0,1] 162 (bV x207)::aQ (undef) 0 (rn 0 5) 162 (bV x207)::aQ (undef) 0 (rn 0 6) 162 (bV x207)::aQ (undef) 0 [0,1] 162 (bV x207)::aQ (undef) 0 [0,1,7] 162 (bV x207)::aQ (undef) 0 [0,1] 162 (bV x207)::aQ (undef) 0 [0,1,7,8,9] 162 (bV x207)::aQ (undef) 0 ([0,1]++rn 7 4) 162 (bV x207)::aQ (undef) 0 (rn 0 12) 162 (bV x207)::bY (bV true) 0 (rn 0 13) [(162,(bV x207)),(173,undef)]::dD (bV true) 0 (rn 0 14) 174::[])) (W:=(fun _=>w223)) (by kernel_rfl) u (gN e224) (by kernel_rfl) ?_ (bA (by kernel_rfl)) (by kernel_rfl) (m:=0) (by kernel_rfl) (fun a u=>?_)
       .exact⟨oa (aD · rfl),oa (aD · rfl),on 162 (tn b225),on 162 (tn b225),on 162 (tn b225),on 162 (tn b225),on 162 (tn b225),on 162 (tn b225),on 162 (tn b225),on 162 (tn b225),on 162 (tn b225),on 162 (tn b225),on 162 (tn b225),oa (aK · rfl b225 rfl),oa (dZ · rfl),aBP⟩
       have u:Has 177 [(2,(pV (some p1))),(3,(pV (some p4))),(8,(iV x160)),(9,(bV true)),(11,(iV x208))] a:=u.sb rfl;have y:=u;cases h;exact hk222 _ (y.sb rfl)
      have⟨v226,e227,h⟩:=bs1 h;have⟨p228,e229,h⟩:=bs1 h;have⟨c230,e231,h⟩:=bs1 h;have⟨v232,e233,h⟩:=bs1 h;have⟨p234,e235,h⟩:=bs1 h;have⟨c236,e237,h⟩:=bs1 h;have⟨v238,w239,e240,h⟩:=bs2 h;have u:Has 177 [(2,(pV (some p1))),(3,(pV (some p4))),(8,(iV x160)),(9,(bV x207)),(11,(iV x208))] a:=u.sb rfl;refine bC (n:=177) (ds:=(dD (bV x207) 0 [] 9::dD (bV x207) 0 [0] 161::bY (pV (some (p1.add 10))) 0 [0,1] [(2,(pV (some p1))),(162,(bV x207))]::bY (Sl.v v226) 0 [0,1,2] [(163,(pV (some (p1.add 10)))),(162,(bV x207))]::bY (iV x208) 0 [0,1] [(11,(iV x208)),(162,(bV x207))]::bY (pV (some p228)) 0 (rn 0 5) [(164,(Sl.v v226)),(165,(iV x208)),(162,(bV x207))]::bY (.agg (List.toArray c230)) 0 (rn 0 6) [(166,(pV (some p228))),(162,(bV x207))]::bY (pV (some (p4.add 11))) 0 [0,1] [(3,(pV (some p4))),(162,(bV x207))]::bY (Sl.v v232) 0 [0,1,7] [(168,(pV (some (p4.add 11)))),(162,(bV x207))]::bY (iV x160) 0 [0,1] [(8,(iV x160)),(162,(bV x207))]::bY (pV (some p234)) 0 [0,1,7,8,9] [(169,(Sl.v v232)),(170,(iV x160)),(162,(bV x207))]::bY (.agg (List.toArray c236)) 0 ([0,1]++rn 7 4) [(171,(pV (some p234))),(162,(bV x207))]::aN (bV v238) true 0 0 (rn 0 12) [(167,(.agg (List.toArray c230))),(172,(.agg (List.toArray c236))),(162,(bV x207))]::bY (bV v238) 1 (rn 0 13) [(162,(bV x207)),(173,(bV v238))]::dD (bV v238) 1 (rn 0 14) 174::[])) (W:=(fun j=>match j with | 0=>w223 | 1=>w239 | _=>w239)) (by kernel_rfl) u (gN e224) (by kernel_rfl) ?_ (bA (by kernel_rfl)) (by kernel_rfl) (m:=1) (by kernel_rfl) (fun a u=>?_)
      .exact⟨oa (aD · rfl),oa (aD · rfl),oag 162 (nt b225) (aI · rfl yG rfl rfl yV),oc 0 (kg 162 (nt b225) (aH · rfl yX (bG e227))),oag 162 (nt b225) (aD · rfl),oag 162 (nt b225) (dL · rfl rfl yJ yO e229),oc 0 (kg 162 (nt b225) (bE · rfl zB yO e231)),oag 162 (nt b225) (aI · rfl yG rfl rfl yV),oc 0 (kg 162 (nt b225) (aH · rfl yX (bG e233))),oag 162 (nt b225) (aD · rfl),oag 162 (nt b225) (dL · rfl rfl yJ yO e235),oc 0 (kg 162 (nt b225) (bE · rfl zB yO e237)),oc 0 (kg 162 (nt b225) (dc2 · rfl rfl Try.call49 (jW e240))),oa (aJ · rfl b225 rfl),oa (dZ · rfl),aBP⟩
      have u:Has 177 [(2,(pV (some p1))),(3,(pV (some p4))),(8,(iV x160)),(9,(bV v238)),(11,(iV x208))] a:=u.sb rfl;have y:=u;cases h;exact hk222 _ (y.sb rfl)
     refine wp_exit<|t_x<|?_;have y:=u;cases h;cases hr215 _ rfl;refine iE<|?_;exact hk214 _ (y.sb rfl)
    clear h;rintro⟨x173,x174,w175⟩ a wq o ⟨u,hwq⟩ h hr181;obtain rfl:w175=wq:=hwq.symm;have u:Has 177 [(9,(bV x173)),(10,(iV x174)),(2,(pV (some p1))),(3,(pV (some p4))),(8,(iV x160))] a:=u;have h:cN p1 p4 x160 x173 x174 w175=some o:=h;unfold cN at h;refine wp_seq<|wp_seq<|aA<|qm u rfl fun a u=>q u (aI u rfl yG rfl rfl yV) fun a u=>?_;have⟨v182,e183,h⟩:=bs1 h;refine q u (aH u rfl yX (bG e183)) fun a u=>q u (bZ u rfl yJ) fun a u=>q u (eX u rfl rfl) fun a u=>aC<|t_n<|?_;refine aF u rfl h (fun b184 h=>?_) (fun b184 h=>?_)
    .refine wp_skip<|t_n<|wp_seq<|wp_block<|?_;have⟨v185,w186,e187,h⟩:=bs2 h;refine aW (n:=177) (L:=[(9,(bV v185)),(2,(pV (some p1))),(3,(pV (some p4))),(8,(iV x160)),(10,(iV x174))]) (w':=w186) (fun a u=>?_) (fun hk188=>?_)
     .refine b_n<|t_n<|aA<|qm u rfl fun a u=>q u (dP u rfl rfl) fun a u=>qa u rfl fun a u=>aC<|?_;have y:=u;cases h;exact cP ⟨y.sb rfl,rfl⟩
     clear h;have h:=e187;have⟨w189,e190,h⟩:=bs1 h;refine bU h (fun b191 h=>?_) (fun b191 h=>?_)
     .have u:Has 177 [(2,(pV (some p1))),(3,(pV (some p4))),(8,(iV x160)),(9,(bV x173)),(10,(iV x174))] a:=u.sb rfl;refine bC (n:=177) (ds:=(dD (bV x173) 0 [] 9::dD (bV x173) 0 [0] 140::aQ (undef) 0 [0,1] 141 (bV x173)::aQ (undef) 0 [0,1,2] 141 (bV x173)::aQ (undef) 0 [0,1] 141 (bV x173)::aQ (undef) 0 (rn 0 5) 141 (bV x173)::aQ (undef) 0 (rn 0 6) 141 (bV x173)::aQ (undef) 0 [0,1] 141 (bV x173)::aQ (undef) 0 [0,1,7] 141 (bV x173)::aQ (undef) 0 [0,1] 141 (bV x173)::aQ (undef) 0 [0,1,7,8,9] 141 (bV x173)::aQ (undef) 0 ([0,1]++rn 7 4) 141 (bV x173)::aQ (undef) 0 (rn 0 12) 141 (bV x173)::bY (bV true) 0 (rn 0 13) [(141,(bV x173)),(152,undef)]::dD (bV true) 0 (rn 0 14) 153::[])) (W:=(fun _=>w189)) (by kernel_rfl) u (gN e190) (by kernel_rfl) ?_ (bA (by kernel_rfl)) (by kernel_rfl) (m:=0) (by kernel_rfl) (fun a u=>?_)
      .exact⟨oa (aD · rfl),oa (aD · rfl),on 141 (tn b191),on 141 (tn b191),on 141 (tn b191),on 141 (tn b191),on 141 (tn b191),on 141 (tn b191),on 141 (tn b191),on 141 (tn b191),on 141 (tn b191),on 141 (tn b191),on 141 (tn b191),oa (aK · rfl b191 rfl),oa (dZ · rfl),aBP⟩
      have u:Has 177 [(2,(pV (some p1))),(3,(pV (some p4))),(8,(iV x160)),(9,(bV true)),(10,(iV x174))] a:=u.sb rfl;have y:=u;cases h;exact hk188 _ (y.sb rfl)
     have⟨v192,e193,h⟩:=bs1 h;have⟨p194,e195,h⟩:=bs1 h;have⟨c196,e197,h⟩:=bs1 h;have⟨v198,e199,h⟩:=bs1 h;have⟨p200,e201,h⟩:=bs1 h;have⟨c202,e203,h⟩:=bs1 h;have⟨v204,w205,e206,h⟩:=bs2 h;have u:Has 177 [(2,(pV (some p1))),(3,(pV (some p4))),(8,(iV x160)),(9,(bV x173)),(10,(iV x174))] a:=u.sb rfl;refine bC (n:=177) (ds:=(dD (bV x173) 0 [] 9::dD (bV x173) 0 [0] 140::bY (pV (some (p4.add 11))) 0 [0,1] [(3,(pV (some p4))),(141,(bV x173))]::bY (Sl.v v192) 0 [0,1,2] [(142,(pV (some (p4.add 11)))),(141,(bV x173))]::bY (iV x160) 0 [0,1] [(8,(iV x160)),(141,(bV x173))]::bY (pV (some p194)) 0 (rn 0 5) [(143,(Sl.v v192)),(144,(iV x160)),(141,(bV x173))]::bY (.agg (List.toArray c196)) 0 (rn 0 6) [(145,(pV (some p194))),(141,(bV x173))]::bY (pV (some (p1.add 11))) 0 [0,1] [(2,(pV (some p1))),(141,(bV x173))]::bY (Sl.v v198) 0 [0,1,7] [(147,(pV (some (p1.add 11)))),(141,(bV x173))]::bY (iV x174) 0 [0,1] [(10,(iV x174)),(141,(bV x173))]::bY (pV (some p200)) 0 [0,1,7,8,9] [(148,(Sl.v v198)),(149,(iV x174)),(141,(bV x173))]::bY (.agg (List.toArray c202)) 0 ([0,1]++rn 7 4) [(150,(pV (some p200))),(141,(bV x173))]::aN (bV v204) true 0 0 (rn 0 12) [(146,(.agg (List.toArray c196))),(151,(.agg (List.toArray c202))),(141,(bV x173))]::bY (bV v204) 1 (rn 0 13) [(141,(bV x173)),(152,(bV v204))]::dD (bV v204) 1 (rn 0 14) 153::[])) (W:=(fun j=>match j with | 0=>w189 | 1=>w205 | _=>w205)) (by kernel_rfl) u (gN e190) (by kernel_rfl) ?_ (bA (by kernel_rfl)) (by kernel_rfl) (m:=1) (by kernel_rfl) (fun a u=>?_)
     .exact⟨oa (aD · rfl),oa (aD · rfl),oag 141 (nt b191) (aI · rfl yG rfl rfl yV),oc 0 (kg 141 (nt b191) (aH · rfl yX (bG e193))),oag 141 (nt b191) (aD · rfl),oag 141 (nt b191) (dL · rfl rfl yJ yO e195),oc 0 (kg 141 (nt b191) (bE · rfl zB yO e197)),oag 141 (nt b191) (aI · rfl yG rfl rfl yV),oc 0 (kg 141 (nt b191) (aH · rfl yX (bG e199))),oag 141 (nt b191) (aD · rfl),oag 141 (nt b191) (dL · rfl rfl yJ yO e201),oc 0 (kg 141 (nt b191) (bE · rfl zB yO e203)),oc 0 (kg 141 (nt b191) (dc2 · rfl rfl Try.call48 (hE e206))),oa (aJ · rfl b191 rfl),oa (dZ · rfl),aBP⟩
     have u:Has 177 [(2,(pV (some p1))),(3,(pV (some p4))),(8,(iV x160)),(9,(bV v204)),(10,(iV x174))] a:=u.sb rfl;have y:=u;cases h;exact hk188 _ (y.sb rfl)
    refine wp_exit<|t_x<|?_;have y:=u;cases h;cases hr181 _ rfl;refine iE<|?_;exact hk180 _ (y.sb rfl)
   refine wp_exit<|t_x<|?_;have y:=u;cases h;cases hr169 _ rfl;refine iE<|?_;exact hk167 _ rfl _ (y.sb rfl)
  .subst hi;obtain⟨v117,w118⟩:=i;dsimp only[Sum.elim_inl,Sum.elim_inr,u1,u2,u3,u4,u5,u6] at h;have u:Has 177 [(4,(bV v117))] a:=u;refine b_r<|t_r<|?_;have y:=u;cases h;exact aX Try.results30 y rfl ⟨rfl,rfl⟩
  clear h;rintro⟨x112,w113⟩ a wq o ⟨u,hwq⟩ h hr121;obtain rfl:w113=wq:=hwq.symm;have u:Has 177 [(5,(iV x112)),(2,(pV (some p1))),(3,(pV (some p4)))] a:=u;have h:cM p4 p1 x112 w113=some o:=h;unfold cM at h;refine wp_seq<|wp_seq<|aA<|qm u rfl fun a u=>q u (aI u rfl yG rfl rfl yV) fun a u=>?_;have⟨v122,e123,h⟩:=bs1 h;refine q u (aH u rfl yX (bG e123)) fun a u=>q u (bZ u rfl yJ) fun a u=>q u (eX u rfl rfl) fun a u=>aC<|t_n<|?_;refine aF u rfl h (fun b124 h=>?_) (fun b124 h=>?_)
  .refine wp_skip<|t_n<|wp_seq<|wp_block<|wp_seq<|aA<|qa u rfl fun a u=>aC<|t_n<|wp_seq<|wp_seq<|aA<|qa u rfl fun a u=>aC<|t_n<|wp_block<|?_;have⟨v130,w131,e129,h⟩:=bs2 h;refine lO (n:=177) (L:=[(6,(bV v130)),(2,(pV (some p1))),(3,(pV (some p4))),(5,(iV x112))]) (w':=w131) (e:=.exit 2) (I:=fun (s:Bool×Int×World) a w=>Has 177 [(6,(bV s.1)),(7,(iV s.2.1)),(2,(pV (some p1))),(3,(pV (some p4))),(5,(iV x112))] a/\w=s.2.2) ⟨u.sub ⟨rfl,rfl,rfl,rfl,rfl,aBP⟩,rfl⟩ e129 (fun a u=>?_) (fun hk132=>?_)
   .refine eC<|t_n<|wp_seq<|aA<|qm u rfl fun a u=>q u (eP u rfl) fun a u=>aC<|t_n<|?_;refine aF u rfl h (fun b159 h=>?_) (fun b159 h=>?_)
    .refine wp_seq<|aA<|qa u rfl fun a u=>aC<|t_n<|wp_ret<|b_r<|t_r<|?_;have y:=u;cases h;cases hr121 _ rfl;refine gB<|?_;exact hk120 _ rfl _ (y.sb rfl)
    refine wp_skip<|b_n<|t_n<|aA<|qm u rfl fun a u=>q u (dP u rfl rfl) fun a u=>qa u rfl fun a u=>aC<|?_;have y:=u;cases h;exact cP ⟨y.sb rfl,rfl⟩
   clear h;rintro⟨x125,x126,w127⟩ a wq o ⟨u,hwq⟩ h hr133;obtain rfl:w127=wq:=hwq.symm;have u:Has 177 [(6,(bV x125)),(7,(iV x126)),(2,(pV (some p1))),(3,(pV (some p4))),(5,(iV x112))] a:=u;have h:cK p1 p4 x112 x125 x126 w127=some o:=h;unfold cK at h;refine wp_seq<|wp_seq<|aA<|qm u rfl fun a u=>q u (aI u rfl yG rfl rfl yV) fun a u=>?_;have⟨v134,e135,h⟩:=bs1 h;refine q u (aH u rfl yX (bG e135)) fun a u=>q u (bZ u rfl yJ) fun a u=>q u (eX u rfl rfl) fun a u=>aC<|t_n<|?_;refine aF u rfl h (fun b136 h=>?_) (fun b136 h=>?_)
   .refine wp_skip<|t_n<|wp_seq<|wp_block<|?_;have⟨v137,w138,e139,h⟩:=bs2 h;refine aW (n:=177) (L:=[(6,(bV v137)),(2,(pV (some p1))),(3,(pV (some p4))),(5,(iV x112)),(7,(iV x126))]) (w':=w138) (fun a u=>?_) (fun hk140=>?_)
    .refine b_n<|t_n<|aA<|qm u rfl fun a u=>q u (dP u rfl rfl) fun a u=>qa u rfl fun a u=>aC<|?_;have y:=u;cases h;exact cP ⟨y.sb rfl,rfl⟩
    clear h;have h:=e139;have⟨w141,e142,h⟩:=bs1 h;refine bU h (fun b143 h=>?_) (fun b143 h=>?_)
    .have u:Has 177 [(2,(pV (some p1))),(3,(pV (some p4))),(5,(iV x112)),(6,(bV x125)),(7,(iV x126))] a:=u.sb rfl;refine bC (n:=177) (ds:=(dD (bV x125) 0 [] 6::dD (bV x125) 0 [0] 110::aQ (undef) 0 [0,1] 111 (bV x125)::aQ (undef) 0 [0,1,2] 111 (bV x125)::aQ (undef) 0 [0,1] 111 (bV x125)::aQ (undef) 0 (rn 0 5) 111 (bV x125)::aQ (undef) 0 (rn 0 6) 111 (bV x125)::aQ (undef) 0 [0,1] 111 (bV x125)::aQ (undef) 0 [0,1,7] 111 (bV x125)::aQ (undef) 0 [0,1] 111 (bV x125)::aQ (undef) 0 [0,1,7,8,9] 111 (bV x125)::aQ (undef) 0 ([0,1]++rn 7 4) 111 (bV x125)::aQ (undef) 0 (rn 0 12) 111 (bV x125)::bY (bV true) 0 (rn 0 13) [(111,(bV x125)),(122,undef)]::dD (bV true) 0 (rn 0 14) 123::[])) (W:=(fun _=>w141)) (by kernel_rfl) u (gN e142) (by kernel_rfl) ?_ (bA (by kernel_rfl)) (by kernel_rfl) (m:=0) (by kernel_rfl) (fun a u=>?_)
     .exact⟨oa (aD · rfl),oa (aD · rfl),on 111 (tn b143),on 111 (tn b143),on 111 (tn b143),on 111 (tn b143),on 111 (tn b143),on 111 (tn b143),on 111 (tn b143),on 111 (tn b143),on 111 (tn b143),on 111 (tn b143),on 111 (tn b143),oa (aK · rfl b143 rfl),oa (dZ · rfl),aBP⟩
     have u:Has 177 [(2,(pV (some p1))),(3,(pV (some p4))),(5,(iV x112)),(6,(bV true)),(7,(iV x126))] a:=u.sb rfl;have y:=u;cases h;exact hk140 _ (y.sb rfl)
    have⟨v144,e145,h⟩:=bs1 h;have⟨p146,e147,h⟩:=bs1 h;have⟨c148,e149,h⟩:=bs1 h;have⟨v150,e151,h⟩:=bs1 h;have⟨p152,e153,h⟩:=bs1 h;have⟨c154,e155,h⟩:=bs1 h;have⟨v156,w157,e158,h⟩:=bs2 h;have u:Has 177 [(2,(pV (some p1))),(3,(pV (some p4))),(5,(iV x112)),(6,(bV x125)),(7,(iV x126))] a:=u.sb rfl;refine bC (n:=177) (ds:=(dD (bV x125) 0 [] 6::dD (bV x125) 0 [0] 110::bY (pV (some (p1.add 10))) 0 [0,1] [(2,(pV (some p1))),(111,(bV x125))]::bY (Sl.v v144) 0 [0,1,2] [(112,(pV (some (p1.add 10)))),(111,(bV x125))]::bY (iV x126) 0 [0,1] [(7,(iV x126)),(111,(bV x125))]::bY (pV (some p146)) 0 (rn 0 5) [(113,(Sl.v v144)),(114,(iV x126)),(111,(bV x125))]::bY (.agg (List.toArray c148)) 0 (rn 0 6) [(115,(pV (some p146))),(111,(bV x125))]::bY (pV (some (p4.add 10))) 0 [0,1] [(3,(pV (some p4))),(111,(bV x125))]::bY (Sl.v v150) 0 [0,1,7] [(117,(pV (some (p4.add 10)))),(111,(bV x125))]::bY (iV x112) 0 [0,1] [(5,(iV x112)),(111,(bV x125))]::bY (pV (some p152)) 0 [0,1,7,8,9] [(118,(Sl.v v150)),(119,(iV x112)),(111,(bV x125))]::bY (.agg (List.toArray c154)) 0 ([0,1]++rn 7 4) [(120,(pV (some p152))),(111,(bV x125))]::aN (bV v156) true 0 0 (rn 0 12) [(116,(.agg (List.toArray c148))),(121,(.agg (List.toArray c154))),(111,(bV x125))]::bY (bV v156) 1 (rn 0 13) [(111,(bV x125)),(122,(bV v156))]::dD (bV v156) 1 (rn 0 14) 123::[])) (W:=(fun j=>match j with | 0=>w141 | 1=>w157 | _=>w157)) (by kernel_rfl) u (gN e142) (by kernel_rfl) ?_ (bA (by kernel_rfl)) (by kernel_rfl) (m:=1) (by kernel_rfl) (fun a u=>?_)
    .exact⟨oa (aD · rfl),oa (aD · rfl),oag 111 (nt b143) (aI · rfl yG rfl rfl yV),oc 0 (kg 111 (nt b143) (aH · rfl yX (bG e145))),oag 111 (nt b143) (aD · rfl),oag 111 (nt b143) (dL · rfl rfl yJ yO e147),oc 0 (kg 111 (nt b143) (bE · rfl zB yO e149)),oag 111 (nt b143) (aI · rfl yG rfl rfl yV),oc 0 (kg 111 (nt b143) (aH · rfl yX (bG e151))),oag 111 (nt b143) (aD · rfl),oag 111 (nt b143) (dL · rfl rfl yJ yO e153),oc 0 (kg 111 (nt b143) (bE · rfl zB yO e155)),oc 0 (kg 111 (nt b143) (dc2 · rfl rfl Try.call48 (hE e158))),oa (aJ · rfl b143 rfl),oa (dZ · rfl),aBP⟩
    have u:Has 177 [(2,(pV (some p1))),(3,(pV (some p4))),(5,(iV x112)),(6,(bV v156)),(7,(iV x126))] a:=u.sb rfl;have y:=u;cases h;exact hk140 _ (y.sb rfl)
   refine wp_exit<|t_x<|?_;have y:=u;cases h;cases hr133 _ rfl;refine iE<|?_;exact hk132 _ (y.sb rfl)
  refine wp_exit<|t_x<|?_;have y:=u;cases h;cases hr121 _ rfl;refine iE<|?_;exact hk119 _ rfl _ (y.sb rfl)
 clear h;have h:=e9;refine aA<|q u (aI u rfl yG rfl rfl yR) fun a u=>?_;have⟨v11,e12,h⟩:=bs1 h;refine q u (aH u rfl yS (aL e12)) fun a u=>q u (aI u rfl yG rfl rfl yR) fun a u=>?_;have⟨v13,e14,h⟩:=bs1 h;refine q u (aH u rfl yS (aL e14)) fun a u=>q u (kE u rfl rfl) fun a u=>qm u rfl fun a u=>?_;refine bU h (fun b15 h=>?_) (fun b15 h=>?_)
 .refine qn u 17 (tn b15) fun a u=>qn u 17 (tn b15) fun a u=>qn u 17 (tn b15) fun a u=>qu u 20 fun a u=>qu u 20 fun a u=>qu u 20 fun a u=>qn u 17 (tn b15) fun a u=>q u (aK u rfl b15 rfl) fun a u=>aC<|?_;have y:=u;cases h;exact hk10 _ (y.sb rfl)
 refine qg u 17 (nt b15) (aI u rfl yG rfl rfl zA) fun a u=>?_;have⟨v16,e17,h⟩:=bs1 h;refine qg u 17 (nt b15) (aH u rfl zT (iU e17)) fun a u=>qg u 17 (nt b15) (aD u rfl) fun a u=>?_;refine bU h (fun b18 h=>?_) (fun b18 h=>?_)
 .refine qg u 20 b18 (aI u rfl yG rfl rfl zA) fun a u=>?_;have⟨v19,e20,h⟩:=bs1 h;refine qg u 20 b18 (aH u rfl zT (iU e20)) fun a u=>qg u 20 b18 (eP u rfl) fun a u=>qg u 17 (nt b15) (aK u rfl b18 rfl) fun a u=>q u (aJ u rfl b15 rfl) fun a u=>aC<|?_;have y:=u;cases h;exact hk10 _ (y.sb rfl)
 refine qn u 20 (nm b18) fun a u=>qn u 20 (nm b18) fun a u=>qn u 20 (nm b18) fun a u=>qg u 17 (nt b15) (aJ u rfl b18 rfl) fun a u=>q u (aJ u rfl b15 rfl) fun a u=>aC<|?_;have y:=u;cases h;exact hk10 _ (y.sb rfl)
noncomputable def bI (a1:Sl) (a0:Sl) (x1:Int) (w2:World):Option ((Int×World)⊕((World)⊕(Bool×World))) :=
 if (decide (x1<(a1.n:Int)))=true then
 ((ix a1 x1 12).bind fun p12 =>
 (ldS w2 (p12.add 0)).bind fun v14 =>
 aE (eJ a0 v14 w2) fun v16 w17 =>
 aE ((dr w17).bind fun w23 =>
 if (decide (v16<0))=true then
 (some (true,w23))
 else
 ((ix a0 v16 12).bind fun p26 =>
 (ldA 12 w23 p26 0).bind fun c28 =>
 (ix a1 x1 12).bind fun p30 =>
 (ldA 12 w23 p30 0).bind fun c32 =>
 aE (eK c28 c32 w23) fun v34 w35 =>
 some ((!v34),w35))) fun v19 w20 =>
 if v19=true then
 (some (.inr (.inr (false,w20))))
 else
 (some (.inl ((IntKind.wrap .i64 (x1+1)),w20))))
 else
 (some (.inr (.inl w2)))
noncomputable def eH (a0:Sl) (a1:Sl) (w:World):Option (Bool×World) :=
 (bB (fun s:Int×World=>bI a1 a0 s.1 s.2) (0,w)).bind fun r3=>Sum.elim (fun (i:World)=>u1 i fun w5 =>
 some (true,w5)) (fun (i:Bool×World)=>u2 i fun v6 w7 =>
 some (v6,w7)) r3
theorem kG {a0 a1 w w' r0} (h:eH a0 a1 w=some (r0,w')):Calls Try.prog 20 #[(Sl.v a0),(Sl.v a1)] w fun e w''=>e=.returned (.bool r0)/\w''=w':=by
 refine aG (n:=34) Try.func20 rfl Try.ntmps20 (by simp) fun a u=>?_;unfold eH at h;refine wp_seq<|aA<|qa u rfl fun a u=>aC<|t_n<|wp_seq<|wp_seq<|aA<|qa u rfl fun a u=>aC<|t_n<|wp_block<|?_;have⟨r3,e4,h⟩:=bs1 h;refine dH (n:=34) (L1:=fun i=>[]) (w1:=fun i=>i) (L2:=fun i=>[(4,(bV i.1))]) (w2:=fun i=>i.2) (e1:=.exit 0) (e2:=.ret) (I:=fun (s:Int×World) a w=>Has 34 [(5,(iV s.1)),(0,(Sl.v a0)),(1,(Sl.v a1))] a/\w=s.2) ⟨u.sub ⟨rfl,rfl,rfl,aBP⟩,rfl⟩ e4 (fun i hi a u=>?_) (fun i hi a u=>?_) (fun hk8 hk9=>?_)
 .subst hi;obtain⟨w5,rfl⟩:∃ x,x=i:=⟨i,rfl⟩;dsimp only[Sum.elim_inl,Sum.elim_inr,u1,u2,u3,u4,u5,u6] at h;have u:Has 34 [] a:=u;refine eC<|t_n<|wp_seq<|aA<|qa u rfl fun a u=>aC<|t_n<|wp_ret<|?_;have y:=u;cases h;exact aX Try.results20 y rfl ⟨rfl,rfl⟩
 .subst hi;obtain⟨v6,w7⟩:=i;dsimp only[Sum.elim_inl,Sum.elim_inr,u1,u2,u3,u4,u5,u6] at h;have u:Has 34 [(4,(bV v6))] a:=u;refine b_r<|t_r<|?_;have y:=u;cases h;exact aX Try.results20 y rfl ⟨rfl,rfl⟩
 clear h;rintro⟨x1,w2⟩ a wq o ⟨u,hwq⟩ h hr10;obtain rfl:w2=wq:=hwq.symm;have u:Has 34 [(5,(iV x1)),(0,(Sl.v a0)),(1,(Sl.v a1))] a:=u;have h:bI a1 a0 x1 w2=some o:=h;unfold bI at h;refine wp_seq<|wp_seq<|aA<|qm u rfl fun a u=>qm u rfl fun a u=>q u (bZ u rfl yI) fun a u=>q u (eX u rfl rfl) fun a u=>aC<|t_n<|?_;refine aF u rfl h (fun b11 h=>?_) (fun b11 h=>?_)
 .refine wp_skip<|t_n<|wp_seq<|wp_block<|wp_seq<|aA<|qm u rfl fun a u=>qm u rfl fun a u=>qm u rfl fun a u=>?_;have⟨p12,e13,h⟩:=bs1 h;refine q u (dL u rfl rfl yI yH e13) fun a u=>q u (aI u rfl yG rfl rfl yN) fun a u=>?_;have⟨v14,e15,h⟩:=bs1 h;refine q u (aH u rfl yP (cG e15)) fun a u=>?_;have⟨v16,w17,e18,h⟩:=bs2 h;refine q u (dc2 u rfl rfl Try.call29 (kH e18)) fun a u=>qa u rfl fun a u=>aC<|t_n<|wp_seq<|?_;have⟨v19,w20,e21,h⟩:=bs2 h;refine aW (n:=34) (L:=[(33,(bV v19)),(0,(Sl.v a0)),(1,(Sl.v a1)),(5,(iV x1))]) (w':=w20) (fun a u=>?_) (fun hk22=>?_)
  .refine t_n<|?_;refine aF u rfl h (fun b37 h=>?_) (fun b37 h=>?_)
   .refine wp_seq<|aA<|qa u rfl fun a u=>aC<|t_n<|wp_ret<|b_r<|t_r<|?_;have y:=u;cases h;cases hr10 _ rfl;refine gB<|?_;exact hk9 _ rfl _ (y.sb rfl)
   refine wp_skip<|b_n<|t_n<|aA<|qm u rfl fun a u=>q u (dP u rfl rfl) fun a u=>qa u rfl fun a u=>aC<|?_;have y:=u;cases h;exact cP ⟨y.sb rfl,rfl⟩
  clear h;have h:=e21;have⟨w23,e24,h⟩:=bs1 h;refine bU h (fun b25 h=>?_) (fun b25 h=>?_)
  .have u:Has 34 [(0,(Sl.v a0)),(1,(Sl.v a1)),(5,(iV x1)),(6,(iV v16))] a:=u.sb rfl;refine bC (n:=34) (ds:=(dD (iV v16) 0 [] 6::aQ (bV (decide (v16<0))) 0 [0] 20 (iV v16)::dD (bV (decide (v16<0))) 0 [0,1] 21::aQ (undef) 0 [0,1,2] 22 (bV (decide (v16<0)))::aQ (undef) 0 [0,1,2] 22 (bV (decide (v16<0)))::aQ (undef) 0 (rn 0 5) 22 (bV (decide (v16<0)))::aQ (undef) 0 (rn 0 6) 22 (bV (decide (v16<0)))::aQ (undef) 0 [0,1,2] 22 (bV (decide (v16<0)))::aQ (undef) 0 [0,1,2] 22 (bV (decide (v16<0)))::aQ (undef) 0 [0,1,2,7,8] 22 (bV (decide (v16<0)))::aQ (undef) 0 [0,1,2,7,8,9] 22 (bV (decide (v16<0)))::aQ (undef) 0 (rn 0 11) 22 (bV (decide (v16<0)))::aQ (undef) 0 (rn 0 12) 22 (bV (decide (v16<0)))::bY (bV true) 0 (rn 0 13) [(22,(bV (decide (v16<0)))),(32,undef)]::[])) (W:=(fun _=>w23)) (by kernel_rfl) u (gN e24) (by kernel_rfl) ?_ (bA (by kernel_rfl)) (by kernel_rfl) (m:=0) (by kernel_rfl) (fun a u=>?_)
   .exact⟨oa (aD · rfl),oa (eX · rfl rfl),oa (aD · rfl),on 22 (tn b25),on 22 (tn b25),on 22 (tn b25),on 22 (tn b25),on 22 (tn b25),on 22 (tn b25),on 22 (tn b25),on 22 (tn b25),on 22 (tn b25),on 22 (tn b25),oa (aK · rfl b25 rfl),aBP⟩
   have u:Has 34 [(0,(Sl.v a0)),(1,(Sl.v a1)),(5,(iV x1)),(33,(bV true))] a:=u.sb rfl;have y:=u;cases h;exact hk22 _ (y.sb rfl)
  have⟨p26,e27,h⟩:=bs1 h;have⟨c28,e29,h⟩:=bs1 h;have⟨p30,e31,h⟩:=bs1 h;have⟨c32,e33,h⟩:=bs1 h;have⟨v34,w35,e36,h⟩:=bs2 h;have u:Has 34 [(0,(Sl.v a0)),(1,(Sl.v a1)),(5,(iV x1)),(6,(iV v16))] a:=u.sb rfl;refine bC (n:=34) (ds:=(dD (iV v16) 0 [] 6::aQ (bV (decide (v16<0))) 0 [0] 20 (iV v16)::dD (bV (decide (v16<0))) 0 [0,1] 21::bY (Sl.v a0) 0 [0,1,2] [(0,(Sl.v a0)),(22,(bV (decide (v16<0))))]::bY (iV v16) 0 [0,1,2] [(6,(iV v16)),(22,(bV (decide (v16<0))))]::bY (pV (some p26)) 0 (rn 0 5) [(23,(Sl.v a0)),(24,(iV v16)),(22,(bV (decide (v16<0))))]::bY (.agg (List.toArray c28)) 0 (rn 0 6) [(25,(pV (some p26))),(22,(bV (decide (v16<0))))]::bY (Sl.v a1) 0 [0,1,2] [(1,(Sl.v a1)),(22,(bV (decide (v16<0))))]::bY (iV x1) 0 [0,1,2] [(5,(iV x1)),(22,(bV (decide (v16<0))))]::bY (pV (some p30)) 0 [0,1,2,7,8] [(27,(Sl.v a1)),(28,(iV x1)),(22,(bV (decide (v16<0))))]::bY (.agg (List.toArray c32)) 0 [0,1,2,7,8,9] [(29,(pV (some p30))),(22,(bV (decide (v16<0))))]::aN (bV v34) true 0 0 (rn 0 11) [(26,(.agg (List.toArray c28))),(30,(.agg (List.toArray c32))),(22,(bV (decide (v16<0))))]::bY (bV (!v34)) 1 (rn 0 12) [(31,(bV v34)),(22,(bV (decide (v16<0))))]::bY (bV (!v34)) 1 (rn 0 13) [(22,(bV (decide (v16<0)))),(32,(bV (!v34)))]::[])) (W:=(fun j=>match j with | 0=>w23 | 1=>w35 | _=>w35)) (by kernel_rfl) u (gN e24) (by kernel_rfl) ?_ (bA (by kernel_rfl)) (by kernel_rfl) (m:=1) (by kernel_rfl) (fun a u=>?_)
  .exact⟨oa (aD · rfl),oa (eX · rfl rfl),oa (aD · rfl),oag 22 (nt b25) (aD · rfl),oag 22 (nt b25) (aD · rfl),oag 22 (nt b25) (dL · rfl rfl yI yH e27),oc 0 (kg 22 (nt b25) (bE · rfl zC yH e29)),oag 22 (nt b25) (aD · rfl),oag 22 (nt b25) (aD · rfl),oag 22 (nt b25) (dL · rfl rfl yI yH e31),oc 0 (kg 22 (nt b25) (bE · rfl zC yH e33)),oc 0 (kg 22 (nt b25) (dc2 · rfl rfl Try.call30 (kM e36))),oag 22 (nt b25) (eP · rfl),oa (aJ · rfl b25 rfl),aBP⟩
  have u:Has 34 [(0,(Sl.v a0)),(1,(Sl.v a1)),(5,(iV x1)),(33,(bV (!v34)))] a:=u.sb rfl;have y:=u;cases h;exact hk22 _ (y.sb rfl)
 refine wp_exit<|t_x<|?_;have y:=u;cases h;cases hr10 _ rfl;refine iE<|?_;exact hk8 _ rfl _ (y.sb rfl)
noncomputable def dT (a0:Sl) (a1:Sl) (w:World):Option (Bool×Int×World) :=
 aE (cS a0 w) fun v1 w2 =>
 aE (if (v1==0)=true then
 (aE (cS a1 w2) fun v9 w10 =>
 some (v9,w10))
 else
 (some (v1,w2))) fun v4 w5 =>
 if (v4 !=0)=true then
 (some (false,v4,w5))
 else
 (aE (eH a0 a1 w5) fun v13 w14 =>
 some (v13,0,w14))
theorem jP {a0 a1 w w' r0 r1} (h:dT a0 a1 w=some (r0,r1,w')):Calls Try.prog 10 #[(Sl.v a0),(Sl.v a1)] w fun e w''=>e=.returned (.tuple #[(.bool r0),(.int .i64 r1)])/\w''=w':=by
 refine aG (n:=19) Try.func10 rfl Try.ntmps10 (by simp) fun a u=>?_;unfold dT at h;refine wp_seq<|aA<|qa u rfl fun a u=>qa u rfl fun a u=>aC<|t_n<|wp_seq<|aA<|qm u rfl fun a u=>?_;have⟨v1,w2,e3,h⟩:=bs2 h;refine q u (dc1 u rfl Try.call8 (gL e3)) fun a u=>qa u rfl fun a u=>aC<|t_n<|?_;have⟨v4,w5,e6,h⟩:=bs2 h;refine iS (n:=19) (L:=[(6,(iV v4)),(0,(Sl.v a0)),(1,(Sl.v a1))]) (w':=w5) (fun a u=>?_) (fun hk7=>?_)
 .refine wp_seq<|wp_seq<|aA<|qm u rfl fun a u=>q u (kE u rfl rfl) fun a u=>aC<|t_n<|?_;refine aF u rfl h (fun b12 h=>?_) (fun b12 h=>?_)
  .refine wp_seq<|aA<|qm u rfl fun a u=>qa u rfl fun a u=>qa u rfl fun a u=>aC<|t_n<|wp_ret<|t_r<|?_;have y:=u;cases h;exact nD Try.results10 y rfl rfl ⟨rfl,rfl⟩
  refine wp_skip<|t_n<|wp_seq<|aA<|qm u rfl fun a u=>qm u rfl fun a u=>?_;have⟨v13,w14,e15,h⟩:=bs2 h;refine q u (dc2 u rfl rfl Try.call20 (kG e15)) fun a u=>qa u rfl fun a u=>qa u rfl fun a u=>aC<|t_n<|wp_ret<|?_;have y:=u;cases h;exact nD Try.results10 y rfl rfl ⟨rfl,rfl⟩
 clear h;have h:=e6;refine wp_seq<|aA<|qm u rfl fun a u=>q u (cA u rfl rfl) fun a u=>aC<|t_n<|?_;refine aF u rfl h (fun b8 h=>?_) (fun b8 h=>?_)
 .refine aA<|qm u rfl fun a u=>?_;have⟨v9,w10,e11,h⟩:=bs2 h;refine q u (dc1 u rfl Try.call8 (gL e11)) fun a u=>qa u rfl fun a u=>aC<|?_;have y:=u;cases h;exact hk7 _ (y.sb rfl)
 refine wp_skip<|?_;have y:=u;cases h;exact hk7 _ (y.sb rfl)
theorem b3F:∀ a:Fin 256,(pP .u8 (a.val:Int) 3==0)=decide ((a.val:Int) % 4=0):=by decide +kernel
theorem xS {a:Int} (h0:0<=a) (h1:a<256):(pP .u8 a 3==0)=decide (a % 4=0):=by
 have:=b3F ⟨a.toNat,by omega⟩;rwa[show((a.toNat:Nat):Int)=a by omega] at this
theorem bnF:∀ a b:Fin 256,(pP .u8 (qA .u8 (a.val:Int) (b.val:Int)) 3==0)=trL (a.val:Int) (b.val:Int):=by decide +kernel
theorem xN {a b:Int} (h0:0<=a) (h1:a<256) (k0:0<=b) (k1:b<256):(pP .u8 (qA .u8 a b) 3==0)=trL a b:=by
 have:=bnF ⟨a.toNat,by omega⟩ ⟨b.toNat,by omega⟩;rwa[show((a.toNat:Nat):Int)=a by omega,show((b.toNat:Nat):Int)=b by omega] at this
theorem sG {u M:Int} (h1 : -M<=u) (h2:u<=M):u*u<=M*M:=by
 have h:=aBJ (show 0<=M-u by omega) (show 0<=M+u by omega);have e:(M-u)*(M+u)=M*M-u*u:=by grind
 omega
theorem wri {x:Int} (h1 : -9223372036854775808<=x) (h2:x<=9223372036854775807):IntKind.wrap .i64 x=x:=by rw[aBG];omega
theorem lT {d:Dc} (h:okD d=true) : -1048576<=d.x/\d.x<=1048576/\-1048576<=d.y/\d.y<=1048576/\0<=d.r/\d.r<=1048576:=by
 simp only[okD,aAl,decide_eq_true_eq] at h;omega
theorem vM {a b:Dc} (ha:okD a=true) (hb:okD b=true):IntKind.wrap .i64 (IntKind.wrap .i64 (IntKind.wrap .i64 (a.x-b.x)*IntKind.wrap .i64 (a.x-b.x))+IntKind.wrap .i64 (IntKind.wrap .i64 (a.y-b.y)*IntKind.wrap .i64 (a.y-b.y)))=sZ a b:=by
 have h1:=lT ha;have h2:=lT hb;rw[wri (x:=a.x-b.x) (by omega) (by omega),wri (x:=a.y-b.y) (by omega) (by omega)];have n1:=tS (a.x-b.x);have n2:=tS (a.y-b.y);have b1:=sG (u:=a.x-b.x) (M:=2097152) (by omega) (by omega);have b2:=sG (u:=a.y-b.y) (M:=2097152) (by omega) (by omega);rw[wri (x:=(a.x-b.x)*(a.x-b.x)) (by omega) (by omega),wri (x:=(a.y-b.y)*(a.y-b.y)) (by omega) (by omega),wri (by omega) (by omega)];rfl
theorem uD {u:Int} (h1 : -2097152<=u) (h2:u<=2097152):IntKind.wrap .i64 (IntKind.wrap .i64 u*IntKind.wrap .i64 u)=u*u:=by
 rw[wri (x:=u) (by omega) (by omega)];have n1:=tS u;have b1:=sG (u:=u) (M:=2097152) (by omega) (by omega);exact wri (by omega) (by omega)
section
variable {F0 : Nat -> Prop} {g g0 : Gh} {w w0 : World} {L : List Rs} {z : Sl} {α : Type} {R : Gh -> World -> List Value -> α -> Prop} {sz : Nat} {xs : List α} {a b d x : Dc} {ds : List Dc} {q : Nat}
theorem jG {Pd:α->Bool} {step:Int->World->Option ((Int×World)⊕(World⊕(Bool×World)))} (hn:xs.length<=1000)
  (hstep:∀ (i:Nat) (x:α) (w1:World),xs[i]?=some x->Hp F0 g0 w0 g w1 L->Mo g w g w1->Ex (step (i:Int) w1) fun o=>∃ w2,o=(if Pd x=true then .inl (((i+1:Nat):Int),w2) else .inr (.inr (false,w2)))/\Hp F0 g0 w0 g w2 L/\Mo g w1 g w2)
  (hend:∀ w1,Hp F0 g0 w0 g w1 L->Mo g w g w1->step (xs.length:Int) w1=some (.inr (.inl w1))):∀ (m i:Nat) (w1:World),m+i=xs.length->Hp F0 g0 w0 g w1 L->Mo g w g w1 ->
  Ex (bB (fun s:Int×World=>step s.1 s.2) ((i:Int),w1)) fun o=>∃ w2,o=(if (xs.drop i).all Pd=true then .inl w2 else .inr (false,w2))/\Hp F0 g0 w0 g w2 L/\Mo g w1 g w2
 | 0,i,w1,hm,H,mo=>by
  have:i=xs.length:=by omega
  subst this;refine⟨.inl w1,cF (hend w1 H mo),w1,?_,H,Mo.r⟩;rw[aAB (aAH _)];rfl
 | m+1,i,w1,hm,H,mo=>by
  have hi:i<xs.length:=by omega
  obtain⟨o,eo,w2,rfl,H2,m2⟩:=hstep i xs[i] w1 (aAk hi) H mo;rw[aAD hi,aBE];by_cases hp:Pd xs[i]=true
  .rw[if_pos hp] at eo;obtain⟨o,e3,w3,rfl,H3,m3⟩:=jG hn hstep hend m (i+1) w2 (by omega) H2 (mo.t m2);exact⟨_,(eO eo).trans e3,w3,by rw[hp,aBd],H3,m2.t m3⟩
  rw[if_neg hp] at eo;refine⟨_,cF eo,w2,?_,H2,m2⟩;have:Pd xs[i]=false:=by simpa using hp
  rw[this];rfl
theorem rA (ha:okD a=true) (hb:okD b=true) (H:Hp F0 g0 w0 g w L):Ex (iX (dcC a) (dcC b) w) fun r=>r.1=sZ a b/\Hp F0 g0 w0 g r.2 L/\Mo g w g r.2:=by
 obtain⟨p,w2,e1,H1,m1⟩:=H.box (T:=43) (cs:=dcC a);obtain⟨u,w3,e2,H2,m2⟩:=H1.box (T:=43) (cs:=dcC b);have a0:ldI .i64 w3 ((⟨p,0,none⟩:Addr).add 0)=some a.x:=by rw[aO];exact H2.sw.ldI rfl
 have a1:ldI .i64 w3 ((⟨p,0,none⟩:Addr).add 1)=some a.y:=by rw[aO];exact H2.sw.ldI rfl
 have b0:ldI .i64 w3 ((⟨u,0,none⟩:Addr).add 0)=some b.x:=by rw[aO];exact H2.ldI rfl
 have b1:ldI .i64 w3 ((⟨u,0,none⟩:Addr).add 1)=some b.y:=by rw[aO];exact H2.ldI rfl
 unfold iX;exact Ex.b2 e1 (Ex.b2 e2 (Ex.b1 a0 (Ex.b1 b0 (Ex.b1 a0 (Ex.b1 b0 (Ex.b1 a1 (Ex.b1 b1 (Ex.b1 a1 (Ex.b1 b1 (Ex.ret ⟨vM ha hb,H2.tl.tl,m1.t m2⟩))))))))))
theorem sB (ha:okD a=true) (hb:okD b=true) (H:Hp F0 g0 w0 g w L):Ex (gX (dcC a) (dcC b) w) fun r=>r.1=wiD a b/\Hp F0 g0 w0 g r.2 L/\Mo g w g r.2:=by
 obtain⟨p,w2,e1,H1,m1⟩:=H.box (T:=43) (cs:=dcC a);obtain⟨u,w3,e2,H2,m2⟩:=H1.box (T:=43) (cs:=dcC b);obtain⟨w4,e3,H3,m3⟩:=H2.dr;have k1:=lT ha;have k2:=lT hb;have a2:∀ {w'},Hp F0 g0 w0 g w' (bxR u (dcC b) 43::bxR p (dcC a) 43::L)->ldI .i64 w' ((⟨p,0,none⟩:Addr).add 2)=some a.r/\ldI .i64 w' ((⟨u,0,none⟩:Addr).add 2)=some b.r:=fun H=>by rw[aO,aO];exact⟨H.sw.ldI rfl,H.ldI rfl⟩
 obtain⟨⟨v,w5⟩,e5,hv,H5,m5⟩:=rA ha hb H3;simp only at hv H5 m5;unfold gX;refine Ex.b2 e1 (Ex.b2 e2 (Ex.j2 (Ψ:=fun r=>r.1=wiD a b/\Hp F0 g0 w0 g r.2 L/\Mo g w g r.2) (Ex.b1 e3 (Ex.b1 (a2 H3).1 (Ex.b1 (a2 H3).2 ?_))) (fun x y h=>Ex.ret h)));by_cases h:a.r<=b.r
 .refine Ex.t (by simpa using h) (Ex.b1 (H3.sw.ldF rfl) (Ex.b1 (H3.ldF rfl) (Ex.b2 e5 (Ex.b1 (a2 H5).2 (Ex.b1 (a2 H5).1 (Ex.b1 (a2 H5).2 (Ex.b1 (a2 H5).1 (Ex.ck (a2 H3).2 (Ex.ck (a2 H3).1 (Ex.ck (a2 H3).2 (Ex.ck (a2 H3).1 (Ex.ret ⟨?_,H5.tl.tl,m1.t (m2.t (m3.t m5))⟩))))))))))));show decide (v<=_)=_;rw[uD (by omega) (by omega),hv];simp[wiD,h]
 exact Ex.f (by simpa using h) (Ex.ret ⟨by simp[wiD,h],H3.tl.tl,m1.t (m2.t m3)⟩)
theorem vW (ha:okD a=true) (hb:okD b=true) (H:Hp F0 g0 w0 g w L):Ex (iQ (dcC a) (dcC b) w) fun r=>r.1=apD a b/\Hp F0 g0 w0 g r.2 L/\Mo g w g r.2:=by
 obtain⟨p,w2,e1,H1,m1⟩:=H.box (T:=43) (cs:=dcC a);obtain⟨u,w3,e2,H2,m2⟩:=H1.box (T:=43) (cs:=dcC b);obtain⟨w4,e3,H3,m3⟩:=H2.dr;have k1:=lT ha;have k2:=lT hb;have a2:∀ {w'},Hp F0 g0 w0 g w' (bxR u (dcC b) 43::bxR p (dcC a) 43::L)->ldI .i64 w' ((⟨p,0,none⟩:Addr).add 2)=some a.r/\ldI .i64 w' ((⟨u,0,none⟩:Addr).add 2)=some b.r:=fun H=>by rw[aO,aO];exact⟨H.sw.ldI rfl,H.ldI rfl⟩
 obtain⟨⟨v,w5⟩,e5,hv,H5,m5⟩:=rA ha hb H3;simp only at hv H5 m5;unfold iQ;refine Ex.b2 e1 (Ex.b2 e2 (Ex.b1 e3 (Ex.b1 (H3.sw.ldF rfl) (Ex.b1 (H3.ldF rfl) (Ex.b2 e5 (Ex.b1 (a2 H5).1 (Ex.b1 (a2 H5).2 (Ex.b1 (a2 H5).1 (Ex.b1 (a2 H5).2 (Ex.ck (a2 H3).1 (Ex.ck (a2 H3).2 (Ex.ck (a2 H3).1 (Ex.ck (a2 H3).2 (Ex.ret ⟨?_,H5.tl.tl,m1.t (m2.t (m3.t m5))⟩))))))))))))));show decide (_<v)=_;rw[uD (by omega) (by omega),hv];rfl
theorem wY (hx:okD x=true) (hd:okD d=true) (H:Hp F0 g0 w0 g w (bxR q (dcC d) 43::L)):Ex (gS (dcC x) ⟨q,0,none⟩ w) fun r=>r.1=wiD x d/\Hp F0 g0 w0 g r.2 (bxR q (dcC d) 43::L)/\Mo g w g r.2:=by
 obtain⟨p,w2,e1,H1,m1⟩:=H.box (T:=43) (cs:=dcC x);obtain⟨⟨v,w3⟩,e3,hv,H3,m3⟩:=sB hx hd H1;unfold gS;exact Ex.b2 e1 (Ex.b1 (H1.ldF rfl) (Ex.b1 (H1.sw.ldF rfl) (Ex.b2 e3 (Ex.ret ⟨hv,H3.tl,m1.t m3⟩))))
theorem wP (hx:okD x=true) (hd:okD d=true) (H:Hp F0 g0 w0 g w (bxR q (dcC d) 43::L)):Ex (gY (dcC x) ⟨q,0,none⟩ w) fun r=>r.1=wiD d x/\Hp F0 g0 w0 g r.2 (bxR q (dcC d) 43::L)/\Mo g w g r.2:=by
 obtain⟨p,w2,e1,H1,m1⟩:=H.box (T:=43) (cs:=dcC x);obtain⟨⟨v,w3⟩,e3,hv,H3,m3⟩:=sB hd hx H1;unfold gY;exact Ex.b2 e1 (Ex.b1 (H1.sw.ldF rfl) (Ex.b1 (H1.ldF rfl) (Ex.b2 e3 (Ex.ret ⟨hv,H3.tl,m1.t m3⟩))))
theorem wK (hx:okD x=true) (hd:okD d=true) (H:Hp F0 g0 w0 g w (bxR q (dcC d) 43::L)):Ex (gZ (dcC x) ⟨q,0,none⟩ w) fun r=>r.1=apD x d/\Hp F0 g0 w0 g r.2 (bxR q (dcC d) 43::L)/\Mo g w g r.2:=by
 obtain⟨p,w2,e1,H1,m1⟩:=H.box (T:=43) (cs:=dcC x);obtain⟨⟨v,w3⟩,e3,hv,H3,m3⟩:=vW hx hd H1;unfold gZ;exact Ex.b2 e1 (Ex.b1 (H1.ldF rfl) (Ex.b1 (H1.sw.ldF rfl) (Ex.b2 e3 (Ex.ret ⟨hv,H3.tl,m1.t m3⟩))))
theorem nJ {Pd:Dc->Bool} {cl:List Value->World->Option (Bool×World)} (hs:PL dcR 3 g w z ds) (hn:ds.length<=1000) (hcl:∀ (x:Dc) (w1:World),x∈ds->Hp F0 g0 w0 g w1 L->Ex (cl (dcC x) w1) fun r=>r.1=Pd x/\Hp F0 g0 w0 g r.2 L/\Mo g w1 g r.2) (H:Hp F0 g0 w0 g w L) {loop:Int->World->Option ((Int×World)⊕(World⊕(Int×World)))}
  (hl:∀ x1 w2,loop x1 w2=if (decide (x1<(z.n:Int)))=true then ((D.ix z x1 3).bind fun p12=>(ldA 3 w2 p12 0).bind fun c14=>aE (cl c14 w2) fun v16 w17=>if v16=true then (some (.inr (.inr (x1,w17)))) else (some (.inl ((IntKind.wrap .i64 (x1+1)),w17)))) else (some (.inr (.inl w2)))) :
  Ex (aE ((bB (fun s:Int×World=>loop s.1 s.2) (0,w)).bind fun r3=>Sum.elim (fun (i:World)=>u1 i fun w5=>some ((-1:Int),w5)) (fun (i:Int×World)=>u2 i fun v6 w7=>some (v6,w7)) r3) fun v1 w2=>some ((decide (0<=v1)),w2)) fun r=>r.1=ds.any Pd/\Hp F0 g0 w0 g r.2 L/\Mo g w g r.2:=by
 have hln:=hs.len;obtain⟨o,e,w2,rfl,H2,m2⟩:=iZ (xs:=ds) (Pd:=Pd) (step:=loop) hn (fun i x w1 hx H1 m1=>by
  obtain⟨a,cs,ea,la,rfl,-⟩:=hs.el (R:=dcR) dI m1 hx;have hi:=(aAi.1 hx).1;obtain⟨⟨v,w3⟩,e3,hv,H3,m3⟩:=hcl x w1 (aAn hx) H1;simp only at hv H3 m3;rw[hl];refine Ex.t (by simp;omega) (Ex.b1 ea (Ex.b1 la (Ex.b2 e3 ?_)));subst hv;rw[fB (by omega)];by_cases hp:Pd x=true
  .exact Ex.t hp (Ex.ret ⟨w3,by rw[if_pos hp],H3,m3⟩)
  .exact Ex.f hp (Ex.ret ⟨w3,by rw[if_neg hp],H3,m3⟩)) (fun w1=>by
  rw[hl,if_neg (by simp;omega)]) ds.length 0 w (by omega) H Mo.r
 have e':bB (fun s:Int×World=>loop s.1 s.2) (0,w)=_:=e;rw[e',aBN,aAs];have ha:ds.any Pd=(ds.findIdx? Pd).isSome:=List.findIdx?_isSome.symm;rw[ha]
 cases ds.findIdx? Pd with
 | none=>exact⟨(false,w2),rfl,rfl,H2,m2⟩
 | some j=>exact⟨(true,w2),by simp[u2,aE],rfl,H2,m2⟩
theorem rE (hs:PL dcR 3 g w z ds) (hn:ds.length<=1000) (ho:∀ x∈ds,okD x=true) (hd:okD d=true) (H:Hp F0 g0 w0 g w (bxR q (dcC d) 43::L)):Ex (bS z ⟨q,0,none⟩ w) fun r=>r.1=(ds.any fun x=>wiD x d)/\Hp F0 g0 w0 g r.2 (bxR q (dcC d) 43::L)/\Mo g w g r.2 :=
 nJ (Pd:=fun x=>wiD x d) (cl:=fun c w=>gS c ⟨q,0,none⟩ w) (loop:=fun i w=>bR z ⟨q,0,none⟩ i w) hs hn (fun x w1 hx H1=>wY (ho x hx) hd H1) H (fun _ _=>rfl)
theorem rM (hs:PL dcR 3 g w z ds) (hn:ds.length<=1000) (ho:∀ x∈ds,okD x=true) (hd:okD d=true) (H:Hp F0 g0 w0 g w (bxR q (dcC d) 43::L)):Ex (bP z ⟨q,0,none⟩ w) fun r=>r.1=(ds.any fun x=>wiD d x)/\Hp F0 g0 w0 g r.2 (bxR q (dcC d) 43::L)/\Mo g w g r.2 :=
 nJ (Pd:=fun x=>wiD d x) (cl:=fun c w=>gY c ⟨q,0,none⟩ w) (loop:=fun i w=>bM z ⟨q,0,none⟩ i w) hs hn (fun x w1 hx H1=>wP (ho x hx) hd H1) H (fun _ _=>rfl)
theorem rV (hs:PL dcR 3 g w z ds) (hn:ds.length<=1000) (ho:∀ x∈ds,okD x=true) (hd:okD d=true) (H:Hp F0 g0 w0 g w (bxR q (dcC d) 43::L)):Ex (bO z ⟨q,0,none⟩ w) fun r=>r.1=(ds.any fun x=>apD x d)/\Hp F0 g0 w0 g r.2 (bxR q (dcC d) 43::L)/\Mo g w g r.2 :=
 nJ (Pd:=fun x=>apD x d) (cl:=fun c w=>gZ c ⟨q,0,none⟩ w) (loop:=fun i w=>bQ z ⟨q,0,none⟩ i w) hs hn (fun x w1 hx H1=>wK (ho x hx) hd H1) H (fun _ _=>rfl)
end
section
variable {F0 : Nat -> Prop} {g g0 : Gh} {w w0 : World} {L : List Rs} {z za ya zb yb : Sl} {a b s : Sd} {us bs : List Sd} {q : Nat}
abbrev sbR (p:Nat) (s:Sd) (z y:Sl):Rs:=bxR p (sdC s z y) 40
structure SbL (w:World) (p:Nat) (s:Sd) (z y:Sl):Prop where
 l0:ldS w ((⟨p,0,none⟩:Addr).add 0)=some s.name
 l1:ldI .i64 w ((⟨p,0,none⟩:Addr).add 1)=some s.kind
 l2:ldB w ((⟨p,0,none⟩:Addr).add 2)=some s.ab
 l3:ldI .i64 w ((⟨p,0,none⟩:Addr).add 3)=some s.low
 l4:ldI .i64 w ((⟨p,0,none⟩:Addr).add 4)=some s.high
 l5:ldS w ((⟨p,0,none⟩:Addr).add 5)=some s.fr
 l6:ldS w ((⟨p,0,none⟩:Addr).add 6)=some s.to
 l7:ldB w ((⟨p,0,none⟩:Addr).add 7)=some s.op
 l8:ldI .u8 w ((⟨p,0,none⟩:Addr).add 8)=some s.tr
 l9:ldB w ((⟨p,0,none⟩:Addr).add 9)=some s.no
 l10:ldL w ((⟨p,0,none⟩:Addr).add 10)=some z
 l11:ldL w ((⟨p,0,none⟩:Addr).add 11)=some y
 f:ldA 12 w ⟨p,0,none⟩ 0=some (sdC s z y)
theorem Hp.sb {p:Nat} {y:Sl} (H:Hp F0 g0 w0 g w (sbR p s z y::L)):SbL w p s z y:=by
 refine⟨?_,?_,?_,?_,?_,?_,?_,?_,?_,?_,?_,?_,H.ldF rfl⟩<;>rw[aO]
 .exact H.ldS rfl
 .exact H.ldI rfl
 .exact H.ldB rfl
 .exact H.ldI rfl
 .exact H.ldI rfl
 .exact H.ldS rfl
 .exact H.ldS rfl
 .exact H.ldB rfl
 .exact H.ldI rfl
 .exact H.ldB rfl
 .exact H.ldL rfl
 exact H.ldL rfl
theorem pR (h0:0<=s.tr) (h1:s.tr<256) (H:Hp F0 g0 w0 g w L):Ex (dM (sdC s za ya) w) fun r=>r.1=mH s/\Hp F0 g0 w0 g r.2 L/\Mo g w g r.2:=by
 obtain⟨p,w2,e1,H1,m1⟩:=H.box (T:=40) (cs:=sdC s za ya);have k:=H1.sb;have H2:=H1.tl;unfold dM mH;refine Ex.b2 e1 (Ex.b1 k.l1 ?_);by_cases e1:s.kind=1
 .rw[if_pos e1];exact Ex.t (by simpa using e1) (Ex.b1 k.l3 (Ex.b1 k.l4 (Ex.ret ⟨rfl,H2,m1⟩)))
 rw[if_neg e1];refine Ex.f (by simpa using e1) ?_;by_cases e2:s.kind=2
 .rw[if_pos e2];refine Ex.t (by simpa using e2) (Ex.j2 (Ψ:=fun r=>r=((!s.op&&!sLt s.fr s.to),w2)) (Ex.b1 k.l7 ?_) (fun x y h=>by cases h;exact Ex.ret ⟨rfl,H2,m1⟩))
  cases s.op with
  | false=>exact Ex.t rfl (Ex.b1 k.l5 (Ex.b1 k.l6 (Ex.ret rfl)))
  | true=>exact Ex.f (by simp) (Ex.ret rfl)
 rw[if_neg e2];refine Ex.f (by simpa using e2) ?_;by_cases e3:s.kind=3
 .rw[if_pos e3];exact Ex.t (by simpa using e3) (Ex.b1 k.l8 (Ex.ret ⟨xS h0 h1,H2,m1⟩))
 rw[if_neg e3];exact Ex.f (by simpa using e3) (Ex.b1 k.l9 (Ex.ret ⟨rfl,H2,m1⟩))
theorem sS {p1:Nat} (pa:PL dcR 3 g w za a.ins) (pb:PL dcR 3 g w z b.ins) (na:a.ins.length<=4) (nb:b.ins.length<=4) (oa:∀ d∈a.ins,okD d=true) (ob:∀ d∈b.ins,okD d=true) (H:Hp F0 g0 w0 g w (sbR p1 a za ya::L)) :
  Ex (bB (fun s:Int×World=>eZ z ⟨p1,0,none⟩ s.1 s.2) (0,w)) fun o=>∃ w2,o=(if (b.ins.all fun d=>a.ins.any fun x=>wiD x d)=true then .inl w2 else .inr (false,w2))/\Hp F0 g0 w0 g w2 (sbR p1 a za ya::L)/\Mo g w g w2:=by
 have hln:=pb.len;have h:=jG (xs:=b.ins) (Pd:=fun d=>a.ins.any fun x=>wiD x d) (step:=eZ z ⟨p1,0,none⟩) (by omega) (fun i d w1 hd H1 m1=>by
  have hi:=(aAi.1 hd).1;have hod:=ob d (aAn hd);obtain⟨ad,cs,ea,la,rfl,-⟩:=pb.el (R:=dcR) dI m1 hd;obtain⟨p,w2,e2,H2,m2⟩:=H1.box (T:=43) (cs:=[.int .i64 0,.int .i64 0,.int .i64 0]);obtain⟨w3,e3,H3,m3⟩:=H2.stF (vs:=dcC d) rfl pA;obtain⟨⟨v,w4⟩,e4,hv,H4,m4⟩:=rE (PL.mo (R:=dcR) dI pa (m1.t (m2.t m3))) (by omega) oa hod H3;simp only at hv H4 m4;unfold eZ;refine Ex.t (by simp;omega) (Ex.b1 ea (Ex.b1 la (Ex.b2 e2 (Ex.b1 e3 (Ex.b1 H3.sw.sb.l10 (Ex.b2 e4 ?_))))));rw[fB (by omega)];subst hv;by_cases hp:(a.ins.any fun x=>wiD x d)=true
  .exact Ex.f (by simp[hp]) (Ex.ret ⟨w4,by rw[if_pos hp],H4.tl,m2.t (m3.t m4)⟩)
  .exact Ex.t (by simpa using hp) (Ex.ret ⟨w4,by rw[if_neg hp],H4.tl,m2.t (m3.t m4)⟩)) (fun w1 H1 m1=>by
  unfold eZ;rw[if_neg (by simp;omega)]) b.ins.length 0 w (by omega) H Mo.r
 rw[aAs] at h;exact h
theorem tT {p1:Nat} (pa:PL dcR 3 g w za a.ins) (pa2:PL dcR 3 g w ya a.outs) (pb:PL dcR 3 g w z b.outs) (na:a.ins.length<=4) (na2:a.outs.length<=4) (nb:b.outs.length<=4) (oa:∀ d∈a.ins,okD d=true) (oa2:∀ d∈a.outs,okD d=true) (ob:∀ d∈b.outs,okD d=true) (H:Hp F0 g0 w0 g w (sbR p1 a za ya::L)) :
  Ex (bB (fun s:Int×World=>fC z ⟨p1,0,none⟩ s.1 s.2) (0,w)) fun o=>∃ w2,o=(if (b.outs.all fun d=>(a.outs.any fun x=>wiD d x)||a.ins.any fun x=>apD x d)=true then .inl w2 else .inr (false,w2))/\Hp F0 g0 w0 g w2 (sbR p1 a za ya::L)/\Mo g w g w2:=by
 have hln:=pb.len;have h:=jG (xs:=b.outs) (Pd:=fun d=>(a.outs.any fun x=>wiD d x)||a.ins.any fun x=>apD x d) (step:=fC z ⟨p1,0,none⟩) (by omega) (fun i d w1 hd H1 m1=>by
  have hi:=(aAi.1 hd).1;have hod:=ob d (aAn hd);obtain⟨ad,cs,ea,la,rfl,-⟩:=pb.el (R:=dcR) dI m1 hd;obtain⟨p,w2,e2,H2,m2⟩:=H1.box (T:=43) (cs:=[.int .i64 0,.int .i64 0,.int .i64 0]);obtain⟨w3,e3,H3,m3⟩:=H2.stF (vs:=dcC d) rfl pA;obtain⟨⟨v,w4⟩,e4,hv,H4,m4⟩:=rM (PL.mo (R:=dcR) dI pa2 (m1.t (m2.t m3))) (by omega) oa2 hod H3;simp only at hv H4 m4;obtain⟨⟨u,w5⟩,e5,hu,H5,m5⟩:=rV (PL.mo (R:=dcR) dI pa (m1.t (m2.t (m3.t m4)))) (by omega) oa hod H4;simp only at hu H5 m5;unfold fC;refine Ex.t (by simp;omega) (Ex.b1 ea (Ex.b1 la (Ex.b2 e2 (Ex.b1 e3 (Ex.j2 (Ψ:=fun r=>r.1=(!((a.outs.any fun x=>wiD d x)||a.ins.any fun x=>apD x d))/\Hp F0 g0 w0 g r.2 (sbR p1 a za ya::L)/\Mo g w1 g r.2) (Ex.b1 H3.sw.sb.l11 (Ex.b2 e4 ?_)) ?_)))))
  .by_cases hp:v=true
   .exact Ex.f (by simp[hp]) (Ex.ret ⟨by rw[<-hv,hp];rfl,H4.tl,m2.t (m3.t m4)⟩)
   refine Ex.t (by simpa using hp) (Ex.b1 H4.sw.sb.l10 (Ex.b2 e5 (Ex.ret ⟨?_,H5.tl,m2.t (m3.t (m4.t m5))⟩)));have:v=false:=by simpa using hp
   rw[<-hv,this,<-hu];rfl
  rintro x w6 ⟨rfl,H6,m6⟩;simp only at H6 m6;rw[fB (by omega)];by_cases hp:((a.outs.any fun x=>wiD d x)||a.ins.any fun x=>apD x d)=true
  .exact Ex.f (by rw[hp];decide) (Ex.ret ⟨w6,by rw[if_pos hp],H6,m6⟩)
  .exact Ex.t (by simpa using hp) (Ex.ret ⟨w6,by rw[if_neg hp],H6,m6⟩)) (fun w1 H1 m1=>by
  unfold fC;rw[if_neg (by simp;omega)]) b.outs.length 0 w (by omega) H Mo.r
 rw[aAs] at h;exact h
theorem tQ (pa:PL dcR 3 g w za a.ins) (pa2:PL dcR 3 g w ya a.outs) (pb:PL dcR 3 g w zb b.ins) (pb2:PL dcR 3 g w yb b.outs) (ta:0<=a.tr/\a.tr<256) (tb:0<=b.tr/\b.tr<256) (ka:okS a) (kb:okS b) (H:Hp F0 g0 w0 g w L) :
  Ex (jA (sdC a za ya) (sdC b zb yb) w) fun r=>r.1=oV a b/\Hp F0 g0 w0 g r.2 L/\Mo g w g r.2:=by
 obtain⟨p1,w2,e2,H2,m2⟩:=H.box (T:=40) (cs:=sdC a za ya);obtain⟨p4,w5,e5,H5,m5⟩:=H2.box (T:=40) (cs:=sdC b zb yb);have qa:=H5.sw.sb;have qb:=H5.sb;have H5':=H5.sw;have m25:=m2.t m5;obtain⟨⟨v,w6⟩,e6,hv,H6,m6⟩:=pR (s:=a) (za:=za) (ya:=ya) ta.1 ta.2 H5';simp only at hv H6 m6;have ra:=H6.sb;have rb:=H6.sw.sb;have m26:=m25.t m6;unfold jA oV;refine Ex.b2 e2 (Ex.b2 e5 (Ex.j2 (Ψ:=fun r=>r=(decide (a.kind≠b.kind\/(a.ab=true/\b.ab=false)),w5)) (Ex.b1 qa.l1 (Ex.b1 qb.l1 ?_)) ?_))
 .by_cases h:a.kind=b.kind
  .refine Ex.f (by simpa using h) (Ex.b1 qa.l2 ?_)
   cases ha:a.ab with
   | true=>exact Ex.t rfl (Ex.b1 qb.l2 (Ex.ret (by cases b.ab<;>simp[h])))
   | false=>exact Ex.f (by simp) (Ex.ret (by simp[h]))
  exact Ex.t (by simpa using h) (Ex.ret (by simp[h]))
 rintro _ _ he;cases he;by_cases h0:a.kind≠b.kind\/(a.ab=true/\b.ab=false)
 .rw[if_pos h0];exact Ex.t (decide_eq_true h0) (Ex.ret ⟨rfl,H5.tl.tl,m25⟩)
 rw[if_neg h0];refine Ex.f (by simpa using h0) (Ex.b1 qa.f (Ex.b2 e6 ?_));subst hv;by_cases hn:mH a=true
 .exact Ex.t hn (Ex.ret ⟨by simp only[if_pos hn],H6.tl.tl,m26⟩)
 refine Ex.f hn (Ex.b1 ra.l1 ?_);simp only[if_neg hn];have fin:∀ {v:Bool},(v,w6).1=v/\Hp F0 g0 w0 g (v,w6).2 L/\Mo g w g (v,w6).2:=⟨rfl,H6.tl.tl,m26⟩;by_cases k1:a.kind=1
 .simp only[if_pos k1];refine Ex.t (by simpa using k1) (Ex.j2 (Ψ:=fun r=>r=((decide (b.low<=a.low)&&decide (a.high<=b.high)),w6)) (Ex.b1 rb.l3 (Ex.b1 ra.l3 ?_)) (fun x y h=>by cases h;exact Ex.ret fin));by_cases h:b.low<=a.low
  .exact Ex.t (by simpa using h) (Ex.b1 ra.l4 (Ex.b1 rb.l4 (Ex.ret (by simp[h]))))
  exact Ex.f (by simpa using h) (Ex.ret (by simp[h]))
 simp only[if_neg k1];refine Ex.f (by simpa using k1) ?_;by_cases k2:a.kind=2
 .simp only[if_pos k2];refine Ex.t (by simpa using k2) (Ex.j2 (Ψ:=fun r=>r=((sLe b.fr a.fr&&(b.op||(!a.op&&sLe a.to b.to))),w6)) (Ex.b1 rb.l5 (Ex.b1 ra.l5 ?_)) (fun x y h=>by cases h;exact Ex.ret fin));by_cases h:(sLt b.fr a.fr||sEq b.fr a.fr)=true
  .have h':sLe b.fr a.fr=true:=h;rw[h'];refine Ex.t h (Ex.b1 rb.l7 ?_)
   cases b.op with
   | true=>exact Ex.t rfl (Ex.ret rfl)
   | false =>
    refine Ex.f (by simp) (Ex.b1 ra.l7 ?_)
    cases a.op with
    | true=>exact Ex.f (by simp) (Ex.ret rfl)
    | false=>exact Ex.t rfl (Ex.b1 ra.l6 (Ex.b1 rb.l6 (Ex.ret (by simp[sLe]))))
  have h':sLe b.fr a.fr=false:=by simpa[sLe] using h
  rw[h'];exact Ex.f h (Ex.ret rfl)
 simp only[if_neg k2];refine Ex.f (by simpa using k2) ?_;by_cases k3:a.kind=3
 .simp only[if_pos k3];exact Ex.t (by simpa using k3) (Ex.b1 ra.l8 (Ex.b1 rb.l8 (Ex.ret ⟨xN ta.1 ta.2 tb.1 tb.2,H6.tl.tl,m26⟩)))
 simp only[if_neg k3];refine Ex.f (by simpa using k3) (Ex.b1 rb.l9 ?_);by_cases k4:b.no=true
 .simp only[if_pos k4];exact Ex.ret fin
 simp only[if_neg k4];have kk:a.kind=b.kind:=Decidable.byContradiction fun h=>h0 (.inl h);obtain⟨oa,oa2,na,na2⟩:=ka k1 k2 k3;obtain⟨ob,ob2,nb,nb2⟩:=kb (kk ▸ k1) (kk ▸ k2) (kk ▸ k3);obtain⟨o,e7,w7,ho,H7,m7⟩:=sS (PL.mo (R:=dcR) dI pa m26) (PL.mo (R:=dcR) dI pb m26) na nb oa ob H6;refine(Ex.b1 rb.l10 (Ex.b1 e7 ?_));by_cases c1:(b.ins.all fun d=>a.ins.any fun x=>wiD x d)=true
 .rw[if_pos c1] at ho;subst ho;obtain⟨o,e8,w8,ho,H8,m8⟩:=tT (PL.mo (R:=dcR) dI pa (m26.t m7)) (PL.mo (R:=dcR) dI pa2 (m26.t m7)) (PL.mo (R:=dcR) dI pb2 (m26.t m7)) na na2 nb2 oa oa2 ob2 H7;simp only[Sum.elim_inl,u1];refine Ex.b1 H7.sw.sb.l11 (Ex.b1 e8 ?_);rw[c1,aBd];by_cases c2:(b.outs.all fun d=>(a.outs.any fun x=>wiD d x)||a.ins.any fun x=>apD x d)=true
  .rw[if_pos c2] at ho;subst ho;exact Ex.ret ⟨c2.symm,H8.tl.tl,m26.t (m7.t m8)⟩
  rw[if_neg c2] at ho;subst ho;exact Ex.ret ⟨((aAR _).mp c2).symm,H8.tl.tl,m26.t (m7.t m8)⟩
 rw[if_neg c1] at ho;subst ho;simp only[Sum.elim_inr,u2];exact Ex.ret ⟨by rw[(aAR _).mp c1,Bool.false_and],H7.tl.tl,m26.t m7⟩
theorem nZ {α:Type} {P:α->Bool}:∀ (l:List α),match l.findIdx? P with | some i=>l.find? P=l[i]?/\i<l.length | none=>l.find? P=none
 | []=>rfl
 | a::l=>by
  rw[aBe,List.find?_cons]
  cases h:P a with
  | true=>simp
  | false =>
   have:=nZ (P:=P) l;simp only[aBf,if_false]
   cases e:l.findIdx? P with
   | none=>rw[e] at this;exact this
   | some i=>rw[e] at this;simp only[aAq];exact⟨by simpa using this.1,by simpa using this.2⟩
theorem wA (H:Hp F0 g0 w0 g w (sbR q s za ya::L)):Ex (gQ (sdC a zb yb) ⟨q,0,none⟩ w) fun r=>r.1=sEq a.name s.name/\Hp F0 g0 w0 g r.2 (sbR q s za ya::L)/\Mo g w g r.2:=by
 obtain⟨p,w2,e1,H1,m1⟩:=H.box (T:=40) (cs:=sdC a zb yb);unfold gQ;exact Ex.b2 e1 (Ex.b1 H1.sb.l0 (Ex.b1 H1.sw.sb.l0 (Ex.ret ⟨rfl,H1.tl,m1⟩)))
theorem sV (hs:PL sdR 12 g w z us) (hn:us.length<=8) (H:Hp F0 g0 w0 g w (sbR q s za ya::L)):Ex (bH z ⟨q,0,none⟩ w) fun r=>r.1=(match us.findIdx? (fun x=>sEq x.name s.name) with | some i=>((i:Nat):Int) | none=>-1)/\Hp F0 g0 w0 g r.2 (sbR q s za ya::L)/\Mo g w g r.2:=by
 have hln:=hs.len;obtain⟨o,e,w2,rfl,H2,m2⟩:=iZ (xs:=us) (Pd:=fun x=>sEq x.name s.name) (step:=aS z ⟨q,0,none⟩) (by omega) (fun i x w1 hx H1 m1=>by
  obtain⟨a,cs,ea,la,⟨zi,yo,rfl,-⟩,-⟩:=hs.el (R:=sdR) fE m1 hx;have hi:=(aAi.1 hx).1;obtain⟨⟨v,w3⟩,e3,hv,H3,m3⟩:=wA (a:=x) (zb:=zi) (yb:=yo) H1;simp only at hv H3 m3;unfold aS;refine Ex.t (by simp;omega) (Ex.b1 ea (Ex.b1 la (Ex.b2 e3 ?_)));subst hv;rw[fB (by omega)];by_cases hp:sEq x.name s.name=true
  .exact Ex.t hp (Ex.ret ⟨w3,by rw[if_pos hp],H3,m3⟩)
  .exact Ex.f hp (Ex.ret ⟨w3,by rw[if_neg hp],H3,m3⟩)) (fun w1=>by
  unfold aS;rw[if_neg (by simp;omega)]) us.length 0 w (by omega) H Mo.r
 have e':bB (fun s:Int×World=>aS z ⟨q,0,none⟩ s.1 s.2) (0,w)=_:=e;unfold bH;rw[e',aBN,aAs]
 cases us.findIdx? fun x=>sEq x.name s.name with
 | none=>exact⟨(-1,w2),rfl,rfl,H2,m2⟩
 | some j=>exact⟨((j:Int),w2),by simp[u2],rfl,H2,m2⟩
def inS (us:List Sd) (s:Sd):Bool:=match us.find? (fun x=>sEq x.name s.name) with | some x=>oV x s | none=>false
theorem sI (ha:PL sdR 12 g w za us) (hb:PL sdR 12 g w zb bs) (na:us.length<=8) (nb:bs.length<=8) (ka:∀ s∈us,okS s) (kb:∀ s∈bs,okS s) (H:Hp F0 g0 w0 g w L):Ex (gR za zb w) fun r=>r.1=jO us bs/\Hp F0 g0 w0 g r.2 L/\Mo g w g r.2:=by
 have hlna:=ha.len;have hlnb:=hb.len;obtain⟨o,e,w2,ho,H2,m2⟩:=jG (xs:=bs) (Pd:=inS us) (step:=fun i w=>dF zb za i w) (by omega) (fun i s w1 hx H1 m1=>by
  obtain⟨a,cs,ea,la,⟨zi,yo,rfl,pi,po,t0,t1⟩,-⟩:=hb.el (R:=sdR) fE m1 hx;have hi:=(aAi.1 hx).1;obtain⟨p,w2,e2,H2,m2⟩:=H1.box (T:=40) (cs:=nW);obtain⟨w3,e3,H3,m3⟩:=H2.stF (vs:=sdC s zi yo) rfl lN;have mo3:=m2.t m3;obtain⟨⟨v,w4⟩,e4,hv,H4,m4⟩:=sV (PL.mo (R:=sdR) fE ha (m1.t mo3)) na H3;simp only at hv H4 m4;obtain⟨w5,e5,H5,m5⟩:=H4.dr;have mo5:=mo3.t (m4.t m5);have hf:=nZ (P:=fun x:Sd=>sEq x.name s.name) us;show Ex (dF zb za (i:Int) w1) _;unfold dF;refine Ex.t (by simp;omega) (Ex.b1 ea (Ex.b1 la (Ex.b2 e2 (Ex.b1 e3 (Ex.b2 e4 (Ex.j2 (Ψ:=fun r=>r.1=(!inS us s)/\Hp F0 g0 w0 g r.2 L/\Mo g w1 g r.2) (Ex.b1 e5 ?_) ?_))))))
  .cases hfi:us.findIdx? (fun x=>sEq x.name s.name) with
   | none =>
    rw[hfi] at hf hv;simp only at hf hv;subst hv;exact Ex.t (by simp) (Ex.ret ⟨by unfold inS;rw[hf];rfl,H5.tl,mo5⟩)
   | some j =>
    rw[hfi] at hf hv;simp only at hf hv;subst hv;obtain⟨x,hxj⟩:∃ x,us[j]?=some x:=⟨_,aAk hf.2⟩;obtain⟨b,cs',eb,lb,⟨zj,yj,rfl,qi,qo,r0,r1⟩,-⟩:=ha.el (R:=sdR) fE (m1.t mo5) hxj;obtain⟨⟨u,w6⟩,e6,hu,H6,m6⟩:=tQ qi qo (PL.mo (R:=dcR) dI pi mo5) (PL.mo (R:=dcR) dI po mo5) ⟨r0,r1⟩ ⟨t0,t1⟩ (ka x (aAn hxj)) (kb s (aAn hx)) H5;simp only at hu H6 m6;exact Ex.f (by simp) (Ex.b1 eb (Ex.b1 lb (Ex.b1 H5.sb.f (Ex.b2 e6 (Ex.ret ⟨by unfold inS;rw[hf.1,hxj,hu],H6.tl,mo5.t m6⟩)))))
  rintro v w6 ⟨rfl,H6,m6⟩;simp only at H6 m6;rw[fB (by omega)];by_cases hp:inS us s=true
  .exact Ex.f (by simp[hp]) (Ex.ret ⟨w6,by rw[if_pos hp],H6,m6⟩)
  .exact Ex.t (by simpa using hp) (Ex.ret ⟨w6,by rw[if_neg hp],H6,m6⟩)) (fun w1 H1 m1=>by
  show dF zb za (bs.length:Int) w1=_;unfold dF;rw[if_neg (by simp;omega)]) bs.length 0 w (by omega) H Mo.r
 rw[aAs] at ho;have e':bB (fun s:Int×World=>dF zb za s.1 s.2) (0,w)=some o:=e;unfold gR;rw[e',aBN];have hi:jO us bs=bs.all (inS us):=rfl;rw[hi];by_cases hp:bs.all (inS us)=true
 .rw[if_pos hp] at ho;subst ho;exact⟨(true,w2),rfl,hp.symm,H2,m2⟩
 rw[if_neg hp] at ho;subst ho;exact⟨(false,w2),rfl,((aAR _).mp hp).symm,H2,m2⟩
theorem oS:∀ {b:List Sd} {ah:ByteArray},iT b ah=0->∀ s∈b,okS s
 | [],_,_,s,hs=>by cases hs
 | u::b,ah,h,s,hs=>by
  unfold iT at h;split at h
  .rename_i hb;rcases aBD.1 hs with rfl | hs
   .intro k1 k2 k3;unfold jQ at hb;split at hb;· cases hb
    split at hb;· cases hb
    split at hb;· cases hb
    rename_i g1 g2 g3;rw[if_pos (by omega)] at hb;split at hb;· cases hb
    split at hb;· cases hb
    rename_i g4 g5;have h1:∀ d∈s.ins,okD d=true:=fun d hd=>Decidable.byContradiction fun hh=>g5 (.inl (aAM.2 ⟨d,hd,by simpa using hh⟩));have h2:∀ d∈s.outs,okD d=true:=fun d hd=>Decidable.byContradiction fun hh=>g5 (.inr (aAM.2 ⟨d,hd,by simpa using hh⟩));exact⟨h1,h2,by omega,by omega⟩
   exact oS h s hs
  rename_i hb;exact(hb h).elim
theorem lJ {b:List Sd} (h:fG b=0):b.length<=8/\∀ s∈b,okS s:=by
 unfold fG at h;split at h;· cases h
 exact⟨by omega,oS h⟩
def uS (a b:List Sd):Bool×Int:=if fG a≠0 then (false,fG a) else if fG b≠0 then (false,fG b) else (jO a b,0)
theorem qN (ha:PL sdR 12 g w za us) (hb:PL sdR 12 g w zb bs) (H:Hp F0 g0 w0 g w L):Ex (iF za zb w) fun r=>(r.1,r.2.1)=uS us bs/\Hp F0 g0 w0 g r.2.2 L/\Mo g w g r.2.2:=by
 obtain⟨⟨v,w2⟩,e2,hv,H2,m2⟩:=oQ ha H;simp only at hv H2 m2;obtain⟨⟨u,w3⟩,e3,hu,H3,m3⟩:=oQ (PL.mo (R:=sdR) fE hb m2) H2;simp only at hu H3 m3;unfold iF uS;refine Ex.b2 e2 ?_;subst hv;by_cases h1:fG us=0
 .rw[if_neg (show ¬ (fG us≠0) by simpa using h1)];refine Ex.f (by simp[h1]) (Ex.b2 e3 ?_);subst hu;by_cases h2:fG bs=0
  .rw[if_neg (show ¬ (fG bs≠0) by simpa using h2)];obtain⟨na,ka⟩:=lJ h1;obtain⟨nb,kb⟩:=lJ h2;obtain⟨⟨v,w4⟩,e4,hv,H4,m4⟩:=sI (PL.mo (R:=sdR) fE ha (m2.t m3)) (PL.mo (R:=sdR) fE hb (m2.t m3)) na nb ka kb H3;simp only at hv H4 m4;exact Ex.f (by simp[h2]) (Ex.b2 e4 (Ex.ret ⟨by rw[hv],H4,m2.t (m3.t m4)⟩))
  rw[if_pos h2];exact Ex.t (by simpa using h2) (Ex.ret ⟨rfl,H3,m2.t m3⟩)
 rw[if_pos h1];exact Ex.t (by simpa using h1) (Ex.ret ⟨rfl,H2,m2⟩)
end
theorem tm {x m:Int} (h:0<=x):x.tmod m=x % m:=Int.tmod_eq_emod_of_nonneg h
theorem tE {a b:Int} (h0:0<=a) (h1:a<256):rmI a 4=some (a % 4)/\rmI a 2=some (a % 2)/\dvI .u8 a 2=some (a / 2)/\rmI (a / 2) 2=some (a / 2 % 2):=by
 have e1:a.tdiv 2=a / 2:=Int.tdiv_eq_ediv_of_nonneg h0;have e2:IntKind.wrap .u8 (a / 2)=a / 2:=by
  simp only[IntKind.wrap,IntKind.bits,IntKind.signed];simp;omega
 unfold rmI dvI;rw[if_neg (by decide),if_neg (by decide),if_neg (by decide),if_neg (by decide),tm h0,tm h0,tm (by omega),e1,e2];exact⟨rfl,rfl,rfl,rfl⟩
section
variable {F0 : Nat -> Prop} {g g0 : Gh} {w w0 : World} {L : List Rs} {z za ya zb yb : Sl} {a b s : Sd} {us bs : List Sd} {q p1 p4 : Nat} {x y d : Dc} {α : Type} {xs : List α}
theorem mP {Pd:α->Bool} {step:Bool->Int->World->Option ((Bool×Int×World)⊕(Bool×World))} (hn:xs.length<=1000)
  (hstep:∀ (i:Nat) (x:α) (c:Bool) (w1:World),xs[i]?=some x->Hp F0 g0 w0 g w1 L->Mo g w g w1->Ex (step c (i:Int) w1) fun o=>∃ w2,o = .inl ((c||Pd x),((i+1:Nat):Int),w2)/\Hp F0 g0 w0 g w2 L/\Mo g w1 g w2)
  (hend:∀ c w1,Hp F0 g0 w0 g w1 L->Mo g w g w1->step c (xs.length:Int) w1=some (.inr (c,w1))):∀ (m i:Nat) (c:Bool) (w1:World),m+i=xs.length->Hp F0 g0 w0 g w1 L->Mo g w g w1 ->
  Ex (bB (fun s:Bool×Int×World=>step s.1 s.2.1 s.2.2) (c,(i:Int),w1)) fun o=>o.1=(c||(xs.drop i).any Pd)/\Hp F0 g0 w0 g o.2 L/\Mo g w1 g o.2
 | 0,i,c,w1,hm,H,mo=>by
  have:i=xs.length:=by omega
  subst this;refine⟨(c,w1),cF (hend c w1 H mo),?_,H,Mo.r⟩;rw[aAB (aAH _)];simp
 | m+1,i,c,w1,hm,H,mo=>by
  have hi:i<xs.length:=by omega
  obtain⟨o,eo,w2,rfl,H2,m2⟩:=hstep i xs[i] c w1 (aAk hi) H mo;rw[aAD hi,List.any_cons];obtain⟨⟨v,w3⟩,e3,hv,H3,m3⟩:=mP hn hstep hend m (i+1) (c||Pd xs[i]) w2 (by omega) H2 (mo.t m2);exact⟨(v,w3),(eO eo).trans e3,by rw[hv,Bool.or_assoc],H3,m2.t m3⟩
theorem tJ (h0:0<=s.tr) (h1:s.tr<256) (H:Hp F0 g0 w0 g w L):Ex (dR (sdC s za ya) w) fun r=>r.1=mH s/\Hp F0 g0 w0 g r.2 L/\Mo g w g r.2:=by
 obtain⟨p,w2,e1,H1,m1⟩:=H.box (T:=40) (cs:=sdC s za ya);have k:=H1.sb;have H2:=H1.tl;unfold dR mH;refine Ex.b2 e1 (Ex.b1 k.l1 ?_);by_cases e1:s.kind=1
 .rw[if_pos e1];exact Ex.t (by simpa using e1) (Ex.b1 k.l3 (Ex.b1 k.l4 (Ex.ret ⟨rfl,H2,m1⟩)))
 rw[if_neg e1];refine Ex.f (by simpa using e1) (Ex.b1 k.l1 ?_);by_cases e2:s.kind=2
 .rw[if_pos e2];refine Ex.t (by simpa using e2) (Ex.j2 (Ψ:=fun r=>r=((!s.op&&!sLt s.fr s.to),w2)) (Ex.b1 k.l7 ?_) (fun x y h=>by cases h;exact Ex.ret ⟨rfl,H2,m1⟩))
  cases s.op with
  | false=>exact Ex.t rfl (Ex.b1 k.l5 (Ex.b1 k.l6 (Ex.ret rfl)))
  | true=>exact Ex.f (by simp) (Ex.ret rfl)
 rw[if_neg e2];refine Ex.f (by simpa using e2) (Ex.b1 k.l1 ?_);by_cases e3:s.kind=3
 .rw[if_pos e3];exact Ex.t (by simpa using e3) (Ex.b1 k.l8 (Ex.b1 (tE (b:=0) h0 h1).1 (Ex.ret ⟨by show(s.tr % 4==0)=_;by_cases h:s.tr % 4=0<;>simp[h],H2,m1⟩)))
 rw[if_neg e3];exact Ex.f (by simpa using e3) (Ex.b1 k.l9 (Ex.ret ⟨rfl,H2,m1⟩))
theorem qW (ha:okD x=true) (hb:okD y=true) (H:Hp F0 g0 w0 g w L):Ex (dW (dcC x) (dcC y) w) fun r=>r.1=sZ x y/\Hp F0 g0 w0 g r.2 L/\Mo g w g r.2:=by
 obtain⟨p,w2,e1,H1,m1⟩:=H.box (T:=43) (cs:=dcC x);obtain⟨u,w3,e2,H2,m2⟩:=H1.box (T:=43) (cs:=dcC y);have a0:ldI .i64 w3 ((⟨p,0,none⟩:Addr).add 0)=some x.x:=by rw[aO];exact H2.sw.ldI rfl
 have a1:ldI .i64 w3 ((⟨p,0,none⟩:Addr).add 1)=some x.y:=by rw[aO];exact H2.sw.ldI rfl
 have b0:ldI .i64 w3 ((⟨u,0,none⟩:Addr).add 0)=some y.x:=by rw[aO];exact H2.ldI rfl
 have b1:ldI .i64 w3 ((⟨u,0,none⟩:Addr).add 1)=some y.y:=by rw[aO];exact H2.ldI rfl
 unfold dW;exact Ex.b2 e1 (Ex.b2 e2 (Ex.b1 a0 (Ex.b1 b0 (Ex.b1 a1 (Ex.b1 b1 (Ex.ret ⟨vM ha hb,H2.tl.tl,m1.t m2⟩))))))
theorem rX (ha:okD x=true) (hb:okD y=true) (H:Hp F0 g0 w0 g w L):Ex (dC (dcC x) (dcC y) w) fun r=>r.1=wiD x y/\Hp F0 g0 w0 g r.2 L/\Mo g w g r.2:=by
 obtain⟨p,w2,e1,H1,m1⟩:=H.box (T:=43) (cs:=dcC x);obtain⟨u,w3,e2,H2,m2⟩:=H1.box (T:=43) (cs:=dcC y);have k1:=lT ha;have k2:=lT hb;have a2:ldI .i64 w3 ((⟨p,0,none⟩:Addr).add 2)=some x.r:=by rw[aO];exact H2.sw.ldI rfl
 have b2:ldI .i64 w3 ((⟨u,0,none⟩:Addr).add 2)=some y.r:=by rw[aO];exact H2.ldI rfl
 obtain⟨⟨v,w5⟩,e5,hv,H5,m5⟩:=qW ha hb H2;simp only at hv H5 m5;unfold dC;refine Ex.b2 e1 (Ex.b2 e2 (Ex.b1 b2 (Ex.b1 a2 (Ex.j2 (Ψ:=fun r=>r.1=wiD x y/\Hp F0 g0 w0 g r.2 L/\Mo g w g r.2) ?_ (fun x y h=>Ex.ret h)))));rw[uD (u:=y.r-x.r) (by omega) (by omega),wri (x:=y.r-x.r) (by omega) (by omega)];by_cases h:x.r<=y.r
 .refine Ex.t (by simp;omega) (Ex.b1 (H2.sw.ldF rfl) (Ex.b1 (H2.ldF rfl) (Ex.b2 e5 (Ex.ret ⟨?_,H5.tl.tl,m1.t (m2.t m5)⟩))));show decide (v<=_)=_;rw[hv];simp[wiD,h]
 exact Ex.f (by simp;omega) (Ex.ret ⟨by simp[wiD,h],H2.tl.tl,m1.t m2⟩)
theorem wB (ha:okD x=true) (hb:okD y=true) (H:Hp F0 g0 w0 g w L):Ex (dY (dcC x) (dcC y) w) fun r=>r.1=apD x y/\Hp F0 g0 w0 g r.2 L/\Mo g w g r.2:=by
 obtain⟨p,w2,e1,H1,m1⟩:=H.box (T:=43) (cs:=dcC x);obtain⟨u,w3,e2,H2,m2⟩:=H1.box (T:=43) (cs:=dcC y);have k1:=lT ha;have k2:=lT hb;have a2:ldI .i64 w3 ((⟨p,0,none⟩:Addr).add 2)=some x.r:=by rw[aO];exact H2.sw.ldI rfl
 have b2:ldI .i64 w3 ((⟨u,0,none⟩:Addr).add 2)=some y.r:=by rw[aO];exact H2.ldI rfl
 obtain⟨⟨v,w5⟩,e5,hv,H5,m5⟩:=qW ha hb H2;simp only at hv H5 m5;unfold dY;refine Ex.b2 e1 (Ex.b2 e2 (Ex.b1 a2 (Ex.b1 b2 (Ex.b1 (H2.sw.ldF rfl) (Ex.b1 (H2.ldF rfl) (Ex.b2 e5 (Ex.ret ⟨?_,H5.tl.tl,m1.t (m2.t m5)⟩)))))));show decide (_<v)=_;rw[uD (by omega) (by omega),hv];rfl
abbrev s2L (p4 p1:Nat) (b:Sd) (zb yb:Sl) (a:Sd) (za ya:Sl) (L:List Rs):List Rs:=sbR p4 b zb yb::sbR p1 a za ya::L
structure D4 (g:Gh) (w:World) (a b:Sd) (za ya zb yb:Sl):Prop where
 a1:PL dcR 3 g w za a.ins
 a2:PL dcR 3 g w ya a.outs
 b1:PL dcR 3 g w zb b.ins
 b2:PL dcR 3 g w yb b.outs
 na1:a.ins.length<=4
 na2:a.outs.length<=4
 nb1:b.ins.length<=4
 nb2:b.outs.length<=4
 oa1:∀ d∈a.ins,okD d=true
 oa2:∀ d∈a.outs,okD d=true
 ob1:∀ d∈b.ins,okD d=true
 ob2:∀ d∈b.outs,okD d=true
theorem D4.mo {g':Gh} {w':World} (h:D4 g w a b za ya zb yb) (m:Mo g w g' w'):D4 g' w' a b za ya zb yb :=
 ⟨PL.mo (R:=dcR) dI h.a1 m,PL.mo (R:=dcR) dI h.a2 m,PL.mo (R:=dcR) dI h.b1 m,PL.mo (R:=dcR) dI h.b2 m,h.na1,h.na2,h.nb1,h.nb2,h.oa1,h.oa2,h.ob1,h.ob2⟩
theorem sQ {i:Nat} (D:D4 g w a b za ya zb yb) (hd:b.ins[i]?=some d) (H:Hp F0 g0 w0 g w (s2L p4 p1 b zb yb a za ya L)) :
  Ex (bB (fun s:Bool×Int×World=>cK ⟨p1,0,none⟩ ⟨p4,0,none⟩ (i:Int) s.1 s.2.1 s.2.2) (false,0,w)) fun o=>o.1=(a.ins.any fun x=>wiD x d)/\Hp F0 g0 w0 g o.2 (s2L p4 p1 b zb yb a za ya L)/\Mo g w g o.2:=by
 have hln:=D.a1.len;have h:=mP (xs:=a.ins) (Pd:=fun x=>wiD x d) (step:=cK ⟨p1,0,none⟩ ⟨p4,0,none⟩ (i:Int)) (by have:=D.na1;omega) (fun k x c w1 hx H1 m1=>by
  have hk:=(aAi.1 hx).1;have hn:=D.na1;obtain⟨w2,e2,H2,m2⟩:=H1.dr;have m12:=m1.t m2;obtain⟨A,ca,eA,lA,rfl,-⟩:=D.a1.el (R:=dcR) dI m12 hx;obtain⟨B,cb,eB,lB,rfl,-⟩:=D.b1.el (R:=dcR) dI m12 hd;obtain⟨⟨v,w3⟩,e3,hv,H3,m3⟩:=rX (D.oa1 x (aAn hx)) (D.ob1 d (aAn hd)) H2;simp only at hv H3 m3;unfold cK;refine Ex.b1 H1.sw.sb.l10 (Ex.t (by simp;omega) (Ex.j2 (Ψ:=fun r=>r.1=(c||wiD x d)/\Hp F0 g0 w0 g r.2 (s2L p4 p1 b zb yb a za ya L)/\Mo g w1 g r.2) (Ex.b1 e2 ?_) ?_))
  .cases c with
   | true=>exact Ex.t rfl (Ex.ret ⟨rfl,H2,m2⟩)
   | false=>exact Ex.f (by simp) (Ex.b1 H2.sw.sb.l10 (Ex.b1 eA (Ex.b1 lA (Ex.b1 H2.sb.l10 (Ex.b1 eB (Ex.b1 lB (Ex.b2 e3 (Ex.ret ⟨hv,H3,m2.t m3⟩))))))))
  rintro v w4 ⟨rfl,H4,m4⟩;rw[fB (by omega)];exact Ex.ret ⟨w4,rfl,H4,m4⟩) (fun c w1 H1 m1=>by
  unfold cK;rw[H1.sw.sb.l10,aBN,if_neg (by simp;omega)]) a.ins.length 0 false w (by omega) H Mo.r
 rw[aAs,aBB] at h;exact h
theorem uB {i:Nat} (D:D4 g w a b za ya zb yb) (hd:b.outs[i]?=some d) (H:Hp F0 g0 w0 g w (s2L p4 p1 b zb yb a za ya L)) :
  Ex (bB (fun s:Bool×Int×World=>cN ⟨p1,0,none⟩ ⟨p4,0,none⟩ (i:Int) s.1 s.2.1 s.2.2) (false,0,w)) fun o=>o.1=(a.outs.any fun x=>wiD d x)/\Hp F0 g0 w0 g o.2 (s2L p4 p1 b zb yb a za ya L)/\Mo g w g o.2:=by
 have hln:=D.a2.len;have h:=mP (xs:=a.outs) (Pd:=fun x=>wiD d x) (step:=cN ⟨p1,0,none⟩ ⟨p4,0,none⟩ (i:Int)) (by have:=D.na2;omega) (fun k x c w1 hx H1 m1=>by
  have hk:=(aAi.1 hx).1;have hn:=D.na2;obtain⟨w2,e2,H2,m2⟩:=H1.dr;have m12:=m1.t m2;obtain⟨A,ca,eA,lA,rfl,-⟩:=D.a2.el (R:=dcR) dI m12 hx;obtain⟨B,cb,eB,lB,rfl,-⟩:=D.b2.el (R:=dcR) dI m12 hd;obtain⟨⟨v,w3⟩,e3,hv,H3,m3⟩:=rX (D.ob2 d (aAn hd)) (D.oa2 x (aAn hx)) H2;simp only at hv H3 m3;unfold cN;refine Ex.b1 H1.sw.sb.l11 (Ex.t (by simp;omega) (Ex.j2 (Ψ:=fun r=>r.1=(c||wiD d x)/\Hp F0 g0 w0 g r.2 (s2L p4 p1 b zb yb a za ya L)/\Mo g w1 g r.2) (Ex.b1 e2 ?_) ?_))
  .cases c with
   | true=>exact Ex.t rfl (Ex.ret ⟨rfl,H2,m2⟩)
   | false=>exact Ex.f (by simp) (Ex.b1 H2.sb.l11 (Ex.b1 eB (Ex.b1 lB (Ex.b1 H2.sw.sb.l11 (Ex.b1 eA (Ex.b1 lA (Ex.b2 e3 (Ex.ret ⟨hv,H3,m2.t m3⟩))))))))
  rintro v w4 ⟨rfl,H4,m4⟩;rw[fB (by omega)];exact Ex.ret ⟨w4,rfl,H4,m4⟩) (fun c w1 H1 m1=>by
  unfold cN;rw[H1.sw.sb.l11,aBN,if_neg (by simp;omega)]) a.outs.length 0 false w (by omega) H Mo.r
 rw[aAs,aBB] at h;exact h
theorem sY {i:Nat} {c0:Bool} (D:D4 g w a b za ya zb yb) (hd:b.outs[i]?=some d) (H:Hp F0 g0 w0 g w (s2L p4 p1 b zb yb a za ya L)) :
  Ex (bB (fun s:Bool×Int×World=>cI ⟨p1,0,none⟩ ⟨p4,0,none⟩ (i:Int) s.1 s.2.1 s.2.2) (c0,0,w)) fun o=>o.1=(c0||a.ins.any fun x=>apD x d)/\Hp F0 g0 w0 g o.2 (s2L p4 p1 b zb yb a za ya L)/\Mo g w g o.2:=by
 have hln:=D.a1.len;have h:=mP (xs:=a.ins) (Pd:=fun x=>apD x d) (step:=cI ⟨p1,0,none⟩ ⟨p4,0,none⟩ (i:Int)) (by have:=D.na1;omega) (fun k x c w1 hx H1 m1=>by
  have hk:=(aAi.1 hx).1;have hn:=D.na1;obtain⟨w2,e2,H2,m2⟩:=H1.dr;have m12:=m1.t m2;obtain⟨A,ca,eA,lA,rfl,-⟩:=D.a1.el (R:=dcR) dI m12 hx;obtain⟨B,cb,eB,lB,rfl,-⟩:=D.b2.el (R:=dcR) dI m12 hd;obtain⟨⟨v,w3⟩,e3,hv,H3,m3⟩:=wB (D.oa1 x (aAn hx)) (D.ob2 d (aAn hd)) H2;simp only at hv H3 m3;unfold cI;refine Ex.b1 H1.sw.sb.l10 (Ex.t (by simp;omega) (Ex.j2 (Ψ:=fun r=>r.1=(c||apD x d)/\Hp F0 g0 w0 g r.2 (s2L p4 p1 b zb yb a za ya L)/\Mo g w1 g r.2) (Ex.b1 e2 ?_) ?_))
  .cases c with
   | true=>exact Ex.t rfl (Ex.ret ⟨rfl,H2,m2⟩)
   | false=>exact Ex.f (by simp) (Ex.b1 H2.sw.sb.l10 (Ex.b1 eA (Ex.b1 lA (Ex.b1 H2.sb.l11 (Ex.b1 eB (Ex.b1 lB (Ex.b2 e3 (Ex.ret ⟨hv,H3,m2.t m3⟩))))))))
  rintro v w4 ⟨rfl,H4,m4⟩;rw[fB (by omega)];exact Ex.ret ⟨w4,rfl,H4,m4⟩) (fun c w1 H1 m1=>by
  unfold cI;rw[H1.sw.sb.l10,aBN,if_neg (by simp;omega)]) a.ins.length 0 c0 w (by omega) H Mo.r
 rw[aAs] at h;exact h
theorem rZ (D:D4 g w a b za ya zb yb) (H:Hp F0 g0 w0 g w (s2L p4 p1 b zb yb a za ya L)) :
  Ex (bB (fun s:Int×World=>cM ⟨p4,0,none⟩ ⟨p1,0,none⟩ s.1 s.2) (0,w)) fun o=>∃ w2,o=(if (b.ins.all fun d=>a.ins.any fun x=>wiD x d)=true then .inl w2 else .inr (false,w2))/\Hp F0 g0 w0 g w2 (s2L p4 p1 b zb yb a za ya L)/\Mo g w g w2:=by
 have hln:=D.b1.len;have h:=jG (xs:=b.ins) (Pd:=fun d=>a.ins.any fun x=>wiD x d) (step:=cM ⟨p4,0,none⟩ ⟨p1,0,none⟩) (by have:=D.nb1;omega) (fun i d w1 hd H1 m1=>by
  have hi:=(aAi.1 hd).1;have hn:=D.nb1;obtain⟨⟨v,w4⟩,e4,hv,H4,m4⟩:=sQ (D.mo m1) hd H1;simp only at hv H4 m4;unfold cM;refine Ex.b1 H1.sb.l10 (Ex.t (by simp;omega) (Ex.b2 e4 ?_));rw[fB (by omega)];subst hv;by_cases hp:(a.ins.any fun x=>wiD x d)=true
  .exact Ex.f (by simp[hp]) (Ex.ret ⟨w4,by rw[if_pos hp],H4,m4⟩)
  .exact Ex.t (by simpa using hp) (Ex.ret ⟨w4,by rw[if_neg hp],H4,m4⟩)) (fun w1 H1 m1=>by
  unfold cM;rw[H1.sb.l10,aBN,if_neg (by simp;omega)]) b.ins.length 0 w (by omega) H Mo.r
 rw[aAs] at h;exact h
theorem tH (D:D4 g w a b za ya zb yb) (H:Hp F0 g0 w0 g w (s2L p4 p1 b zb yb a za ya L)) :
  Ex (bB (fun s:Int×World=>cH ⟨p4,0,none⟩ ⟨p1,0,none⟩ s.1 s.2) (0,w)) fun o=>∃ w2,o=(if (b.outs.all fun d=>(a.outs.any fun x=>wiD d x)||a.ins.any fun x=>apD x d)=true then .inl w2 else .inr (false,w2))/\Hp F0 g0 w0 g w2 (s2L p4 p1 b zb yb a za ya L)/\Mo g w g w2:=by
 have hln:=D.b2.len;have h:=jG (xs:=b.outs) (Pd:=fun d=>(a.outs.any fun x=>wiD d x)||a.ins.any fun x=>apD x d) (step:=cH ⟨p4,0,none⟩ ⟨p1,0,none⟩) (by have:=D.nb2;omega) (fun i d w1 hd H1 m1=>by
  have hi:=(aAi.1 hd).1;have hn:=D.nb2;obtain⟨⟨v,w4⟩,e4,hv,H4,m4⟩:=uB (D.mo m1) hd H1;simp only at hv H4 m4;obtain⟨⟨u,w5⟩,e5,hu,H5,m5⟩:=sY (c0:=v) (D.mo (m1.t m4)) hd H4;simp only at hu H5 m5;unfold cH;refine Ex.b1 H1.sb.l11 (Ex.t (by simp;omega) (Ex.b2 e4 (Ex.b2 e5 ?_)));rw[fB (by omega)];subst hv;subst hu;by_cases hp:((a.outs.any fun x=>wiD d x)||a.ins.any fun x=>apD x d)=true
  .exact Ex.f (by rw[hp];decide) (Ex.ret ⟨w5,by rw[if_pos hp],H5,m4.t m5⟩)
  .exact Ex.t (by simpa using hp) (Ex.ret ⟨w5,by rw[if_neg hp],H5,m4.t m5⟩)) (fun w1 H1 m1=>by
  unfold cH;rw[H1.sb.l11,aBN,if_neg (by simp;omega)]) b.outs.length 0 w (by omega) H Mo.r
 rw[aAs] at h;exact h
theorem sC (pa:PL dcR 3 g w za a.ins) (pa2:PL dcR 3 g w ya a.outs) (pb:PL dcR 3 g w zb b.ins) (pb2:PL dcR 3 g w yb b.outs) (ta:0<=a.tr/\a.tr<256) (tb:0<=b.tr/\b.tr<256) (ka:okS a) (kb:okS b) (H:Hp F0 g0 w0 g w L) :
  Ex (eK (sdC a za ya) (sdC b zb yb) w) fun r=>r.1=oV a b/\Hp F0 g0 w0 g r.2 L/\Mo g w g r.2:=by
 obtain⟨p1,w2,e2,H2,m2⟩:=H.box (T:=40) (cs:=sdC a za ya);obtain⟨p4,w5,e5,H5,m5⟩:=H2.box (T:=40) (cs:=sdC b zb yb);have qa:=H5.sw.sb;have qb:=H5.sb;have m25:=m2.t m5;obtain⟨⟨v,w6⟩,e6,hv,H6,m6⟩:=tJ (s:=a) (za:=za) (ya:=ya) ta.1 ta.2 H5;simp only at hv H6 m6;have ra:=H6.sw.sb;have rb:=H6.sb;have m26:=m25.t m6;obtain⟨-,ta2,ta3,ta4⟩:=tE (b:=0) ta.1 ta.2;obtain⟨-,tb2,tb3,tb4⟩:=tE (b:=0) tb.1 tb.2;unfold eK oV;refine Ex.b2 e2 (Ex.b2 e5 (Ex.j2 (Ψ:=fun r=>r=(decide (a.kind≠b.kind\/(a.ab=true/\b.ab=false)),w5)) (Ex.b1 qa.l1 (Ex.b1 qb.l1 ?_)) ?_))
 .by_cases h:a.kind=b.kind
  .refine Ex.f (by simpa using h) (Ex.b1 qa.l2 ?_)
   cases ha:a.ab with
   | true=>exact Ex.t rfl (Ex.b1 qb.l2 (Ex.ret (by cases b.ab<;>simp[h])))
   | false=>exact Ex.f (by simp) (Ex.ret (by simp[h]))
  exact Ex.t (by simpa using h) (Ex.ret (by simp[h]))
 rintro _ _ he;cases he;by_cases h0:a.kind≠b.kind\/(a.ab=true/\b.ab=false)
 .rw[if_pos h0];exact Ex.t (decide_eq_true h0) (Ex.ret ⟨rfl,H5.tl.tl,m25⟩)
 rw[if_neg h0];refine Ex.f (by simpa using h0) (Ex.b1 qa.f (Ex.b2 e6 ?_));subst hv;by_cases hn:mH a=true
 .exact Ex.t hn (Ex.ret ⟨by simp only[if_pos hn],H6.tl.tl,m26⟩)
 refine Ex.f hn (Ex.b1 ra.l1 ?_);simp only[if_neg hn];have fin:∀ {v:Bool},(v,w6).1=v/\Hp F0 g0 w0 g (v,w6).2 L/\Mo g w g (v,w6).2:=⟨rfl,H6.tl.tl,m26⟩;by_cases k1:a.kind=1
 .simp only[if_pos k1];refine Ex.t (by simpa using k1) (Ex.j2 (Ψ:=fun r=>r=((decide (b.low<=a.low)&&decide (a.high<=b.high)),w6)) (Ex.b1 rb.l3 (Ex.b1 ra.l3 ?_)) (fun x y h=>by cases h;exact Ex.ret fin));by_cases h:b.low<=a.low
  .exact Ex.t (by simpa using h) (Ex.b1 ra.l4 (Ex.b1 rb.l4 (Ex.ret (by simp[h]))))
  exact Ex.f (by simpa using h) (Ex.ret (by simp[h]))
 simp only[if_neg k1];refine Ex.f (by simpa using k1) (Ex.b1 ra.l1 ?_);by_cases k2:a.kind=2
 .simp only[if_pos k2];refine Ex.t (by simpa using k2) (Ex.j2 (Ψ:=fun r=>r=((sLe b.fr a.fr&&(b.op||(!a.op&&sLe a.to b.to))),w6)) (Ex.b1 rb.l5 (Ex.b1 ra.l5 ?_)) (fun x y h=>by cases h;exact Ex.ret fin));by_cases h:(sLt b.fr a.fr||sEq b.fr a.fr)=true
  .have h':sLe b.fr a.fr=true:=h;rw[h'];refine Ex.t h (Ex.b1 rb.l7 ?_)
   cases b.op with
   | true=>exact Ex.t rfl (Ex.ret rfl)
   | false =>
    refine Ex.f (by simp) (Ex.b1 ra.l7 ?_)
    cases a.op with
    | true=>exact Ex.f (by simp) (Ex.ret rfl)
    | false=>exact Ex.t rfl (Ex.b1 ra.l6 (Ex.b1 rb.l6 (Ex.ret (by simp[sLe]))))
  have h':sLe b.fr a.fr=false:=by simpa[sLe] using h
  rw[h'];exact Ex.f h (Ex.ret rfl)
 simp only[if_neg k2];refine Ex.f (by simpa using k2) (Ex.b1 ra.l1 ?_);by_cases k3:a.kind=3
 .simp only[if_pos k3];refine Ex.t (by simpa using k3) (Ex.j2 (Ψ:=fun r=>r=(trL a.tr b.tr,w6)) (Ex.b1 ra.l8 (Ex.b1 ta2 ?_)) (fun x y h=>by cases h;exact Ex.ret fin));have eq1:∀ x:Int,(x==0)=decide (x=0):=fun x=>by by_cases h:x=0<;>simp[h]
  have eq2:∀ x:Int,(x==1)=decide (x=1):=fun x=>by by_cases h:x=1<;>simp[h]
  unfold trL;by_cases h1:a.tr % 2=0
  .refine Ex.t (by simpa using h1) (Ex.b1 ra.l8 (Ex.b1 ta3 (Ex.b1 ta4 ?_)));by_cases h2:a.tr / 2 % 2=0
   .exact Ex.t (by simpa using h2) (Ex.ret (by simp[h1,h2]))
   exact Ex.f (by simpa using h2) (Ex.b1 rb.l8 (Ex.b1 tb3 (Ex.b1 tb4 (Ex.ret (by rw[eq2];simp[h1,h2])))))
  refine Ex.f (by simpa using h1) (Ex.b1 rb.l8 (Ex.b1 tb2 ?_));by_cases h3:b.tr % 2=1
  .refine Ex.t (by simpa using h3) (Ex.b1 ra.l8 (Ex.b1 ta3 (Ex.b1 ta4 ?_)));by_cases h2:a.tr / 2 % 2=0
   .exact Ex.t (by simpa using h2) (Ex.ret (by simp[h3,h2]))
   exact Ex.f (by simpa using h2) (Ex.b1 rb.l8 (Ex.b1 tb3 (Ex.b1 tb4 (Ex.ret (by rw[eq2];simp[h3,h2])))))
  exact Ex.f (by simpa using h3) (Ex.ret (by simp[h1,h3]))
 simp only[if_neg k3];refine Ex.f (by simpa using k3) (Ex.b1 rb.l9 ?_);by_cases k4:b.no=true
 .simp only[if_pos k4];exact Ex.ret fin
 simp only[if_neg k4];have kk:a.kind=b.kind:=Decidable.byContradiction fun h=>h0 (.inl h);obtain⟨oa,oa2,na,na2⟩:=ka k1 k2 k3;obtain⟨ob,ob2,nb,nb2⟩:=kb (kk ▸ k1) (kk ▸ k2) (kk ▸ k3);have D:D4 g w a b za ya zb yb:=⟨pa,pa2,pb,pb2,na,na2,nb,nb2,oa,oa2,ob,ob2⟩;obtain⟨o,e7,w7,ho,H7,m7⟩:=rZ (D.mo m26) H6;refine(Ex.b1 e7 ?_);by_cases c1:(b.ins.all fun d=>a.ins.any fun x=>wiD x d)=true
 .rw[if_pos c1] at ho;subst ho;obtain⟨o,e8,w8,ho,H8,m8⟩:=tH (D.mo (m26.t m7)) H7;simp only[Sum.elim_inl,u1];refine Ex.b1 e8 ?_;rw[c1,aBd];by_cases c2:(b.outs.all fun d=>(a.outs.any fun x=>wiD d x)||a.ins.any fun x=>apD x d)=true
  .rw[if_pos c2] at ho;subst ho;exact Ex.ret ⟨c2.symm,H8.tl.tl,m26.t (m7.t m8)⟩
  rw[if_neg c2] at ho;subst ho;exact Ex.ret ⟨((aAR _).mp c2).symm,H8.tl.tl,m26.t (m7.t m8)⟩
 rw[if_neg c1] at ho;subst ho;simp only[Sum.elim_inr,u2];exact Ex.ret ⟨by rw[(aAR _).mp c1,Bool.false_and],H7.tl.tl,m26.t m7⟩
theorem rY {nm:ByteArray} (hs:PL sdR 12 g w z us) (hn:us.length<=8) (H:Hp F0 g0 w0 g w L):Ex (eJ z nm w) fun r=>r.1=(match us.findIdx? (fun x=>sEq x.name nm) with | some i=>((i:Nat):Int) | none=>-1)/\Hp F0 g0 w0 g r.2 L/\Mo g w g r.2:=by
 have hln:=hs.len;obtain⟨o,e,w2,rfl,H2,m2⟩:=iZ (xs:=us) (Pd:=fun x=>sEq x.name nm) (step:=cL z nm) (by omega) (fun i x w1 hx H1 m1=>by
  obtain⟨a,cs,ea,la,⟨zi,yo,rfl,-⟩,hc⟩:=hs.el (R:=sdR) fE m1 hx;have hi:=(aAi.1 hx).1;unfold cL;refine Ex.t (by simp;omega) (Ex.b1 ea (Ex.b1 (lE (hc 0 _ rfl)) ?_));rw[fB (by omega)];by_cases hp:sEq x.name nm=true
  .exact Ex.t hp (Ex.ret ⟨w1,by rw[if_pos hp],H1,Mo.r⟩)
  .exact Ex.f hp (Ex.ret ⟨w1,by rw[if_neg hp],H1,Mo.r⟩)) (fun w1=>by
  unfold cL;rw[if_neg (by simp;omega)]) us.length 0 w (by omega) H Mo.r
 have e':bB (fun s:Int×World=>cL z nm s.1 s.2) (0,w)=_:=e;unfold eJ;rw[e',aBN,aAs]
 cases us.findIdx? fun x=>sEq x.name nm with
 | none=>exact⟨(-1,w2),rfl,rfl,H2,m2⟩
 | some j=>exact⟨((j:Int),w2),by simp[u2],rfl,H2,m2⟩
theorem wQ (ha:PL sdR 12 g w za us) (hb:PL sdR 12 g w zb bs) (na:us.length<=8) (nb:bs.length<=8) (ka:∀ s∈us,okS s) (kb:∀ s∈bs,okS s) (H:Hp F0 g0 w0 g w L):Ex (eH za zb w) fun r=>r.1=jO us bs/\Hp F0 g0 w0 g r.2 L/\Mo g w g r.2:=by
 have hlna:=ha.len;have hlnb:=hb.len;obtain⟨o,e,w2,ho,H2,m2⟩:=jG (xs:=bs) (Pd:=inS us) (step:=fun i w=>bI zb za i w) (by omega) (fun i s w1 hx H1 m1=>by
  have hi:=(aAi.1 hx).1;obtain⟨a,cs,ea,la,⟨zi,yo,rfl,pi,po,t0,t1⟩,hc⟩:=hb.el (R:=sdR) fE m1 hx;obtain⟨⟨v,w4⟩,e4,hv,H4,m4⟩:=rY (nm:=s.name) (PL.mo (R:=sdR) fE ha m1) na H1;simp only at hv H4 m4;obtain⟨w5,e5,H5,m5⟩:=H4.dr;have mo5:=m4.t m5;obtain⟨a',cs',ea',la',⟨zi',yo',rfl,pi',po',-,-⟩,-⟩:=hb.el (R:=sdR) fE (m1.t mo5) hx;have hf:=nZ (P:=fun x:Sd=>sEq x.name s.name) us;show Ex (bI zb za (i:Int) w1) _;unfold bI;refine Ex.t (by simp;omega) (Ex.b1 ea (Ex.b1 (lE (hc 0 _ rfl)) (Ex.b2 e4 (Ex.j2 (Ψ:=fun r=>r.1=(!inS us s)/\Hp F0 g0 w0 g r.2 L/\Mo g w1 g r.2) (Ex.b1 e5 ?_) ?_))))
  .cases hfi:us.findIdx? (fun x=>sEq x.name s.name) with
   | none =>
    rw[hfi] at hf hv;simp only at hf hv;subst hv;exact Ex.t (by simp) (Ex.ret ⟨by unfold inS;rw[hf];rfl,H5,mo5⟩)
   | some j =>
    rw[hfi] at hf hv;simp only at hf hv;subst hv;obtain⟨x,hxj⟩:∃ x,us[j]?=some x:=⟨_,aAk hf.2⟩;obtain⟨b,cs',eb,lb,⟨zj,yj,rfl,qi,qo,r0,r1⟩,-⟩:=ha.el (R:=sdR) fE (m1.t mo5) hxj;obtain⟨⟨u,w6⟩,e6,hu,H6,m6⟩:=sC qi qo pi' po' ⟨r0,r1⟩ ⟨t0,t1⟩ (ka x (aAn hxj)) (kb s (aAn hx)) H5;simp only at hu H6 m6;exact Ex.f (by simp) (Ex.b1 eb (Ex.b1 lb (Ex.b1 ea' (Ex.b1 la' (Ex.b2 e6 (Ex.ret ⟨by unfold inS;rw[hf.1,hxj,hu],H6,mo5.t m6⟩))))))
  rintro v w6 ⟨rfl,H6,m6⟩;simp only at H6 m6;rw[fB (by omega)];by_cases hp:inS us s=true
  .exact Ex.f (by simp[hp]) (Ex.ret ⟨w6,by rw[if_pos hp],H6,m6⟩)
  .exact Ex.t (by simpa using hp) (Ex.ret ⟨w6,by rw[if_neg hp],H6,m6⟩)) (fun w1 H1 m1=>by
  show bI zb za (bs.length:Int) w1=_;unfold bI;rw[if_neg (by simp;omega)]) bs.length 0 w (by omega) H Mo.r
 rw[aAs] at ho;have e':bB (fun s:Int×World=>bI zb za s.1 s.2) (0,w)=some o:=e;unfold eH;rw[e',aBN];have hi:jO us bs=bs.all (inS us):=rfl;rw[hi];by_cases hp:bs.all (inS us)=true
 .rw[if_pos hp] at ho;subst ho;exact⟨(true,w2),rfl,hp.symm,H2,m2⟩
 rw[if_neg hp] at ho;subst ho;exact⟨(false,w2),rfl,((aAR _).mp hp).symm,H2,m2⟩
theorem qK (ha:PL sdR 12 g w za us) (hb:PL sdR 12 g w zb bs) (H:Hp F0 g0 w0 g w L):Ex (dT za zb w) fun r=>(r.1,r.2.1)=uS us bs/\Hp F0 g0 w0 g r.2.2 L/\Mo g w g r.2.2:=by
 obtain⟨⟨v,w2⟩,e2,hv,H2,m2⟩:=oN ha H;simp only at hv H2 m2;obtain⟨⟨u,w3⟩,e3,hu,H3,m3⟩:=oN (PL.mo (R:=sdR) fE hb m2) H2;simp only at hu H3 m3;unfold dT uS;refine Ex.b2 e2 ?_;subst hv;by_cases h1:fG us=0
 .rw[if_neg (show ¬ (fG us≠0) by simpa using h1)];refine Ex.j2 (Ψ:=fun r=>r=(fG bs,w3)) (Ex.t (by simpa using h1) (Ex.b2 e3 (Ex.ret (by rw[hu])))) ?_;rintro _ _ he;cases he;by_cases h2:fG bs=0
  .rw[if_neg (show ¬ (fG bs≠0) by simpa using h2)];obtain⟨na,ka⟩:=lJ h1;obtain⟨nb,kb⟩:=lJ h2;obtain⟨⟨v,w4⟩,e4,hv,H4,m4⟩:=wQ (PL.mo (R:=sdR) fE ha (m2.t m3)) (PL.mo (R:=sdR) fE hb (m2.t m3)) na nb ka kb H3;simp only at hv H4 m4;exact Ex.f (by simp[h2]) (Ex.b2 e4 (Ex.ret ⟨by rw[hv],H4,m2.t (m3.t m4)⟩))
  rw[if_pos h2];exact Ex.t (by simpa using h2) (Ex.ret ⟨rfl,H3,m2.t m3⟩)
 rw[if_pos h1];refine Ex.j2 (Ψ:=fun r=>r=(fG us,w2)) (Ex.f (by simpa using h1) (Ex.ret rfl)) ?_;rintro _ _ he;cases he;exact Ex.t (by simpa using h1) (Ex.ret ⟨rfl,H2,m2⟩)
end
section
variable {P : Program} {n : Nat} {L : List (Nat × Value)} {a : Act} {w w' : World}
def mkM (P:Program) (t:TypeId) (w:World):Option (Option Nat×World):=match (Instr.makeMap t none).run P w with | .ok (.map m) w'=>some (m,w') | _=>none
theorem xF {d ty pos af g t} {m:Option Nat} (h:mkM P t w=some (m,w')):dE P ⟨d,.makeMap t none,ty,pos,af,g⟩ a w (.map m) w':=by
 unfold mkM at h;split at h
 .rename_i m w1 e;cases h;exact cB (by simp[execOp,e])
 cases h
def upM (P:Program) (t:TypeId) (m:Option Nat) (k v:Value) (w:World):Option World:=match (Instr.mapUpdate t (.map m) k v).run P w with | .ok _ w'=>some w' | _=>none
theorem xI {d ty pos af g t x y z} {m:Option Nat} {k v:Value} (ha:Has n L a) (hx:evO L x=some (.map m)) (hy:evO L y=some k) (hz:evO L z=some v) (h:upM P t m k v w=some w'):dE P ⟨d,.mapUpdate t x y z,ty,pos,af,g⟩ a w undef w':=by
 unfold upM at h;split at h
 .rename_i w1 e;cases h;exact qR (by simp[execOp,ha.ev hx,ha.ev hy,ha.ev hz,e])
 cases h
def luI (K:IntKind) (P:Program) (t:TypeId) (m:Option Nat) (k:Value) (w:World):Option (Int×World):=match (Instr.lookup t (.map m) k false).run P w with | .ok (.int k' i) w'=>if k'=K then some (i,w') else none | _=>none
theorem xE {d ty pos af g t x y} {m:Option Nat} {k:Value} {K:IntKind} {i:Int} (ha:Has n L a) (hx:evO L x=some (.map m)) (hy:evO L y=some k) (h:luI K P t m k w=some (i,w')):dE P ⟨d,.lookup t x y false,ty,pos,af,g⟩ a w (.int K i) w':=by
 unfold luI at h;split at h
 .rename_i k' j w1 e;split at h
  .rename_i hk;subst hk;cases h;exact cB (by simp[execOp,ha.ev hx,ha.ev hy,e])
  cases h
 cases h
end
def mpR (r:Nat) (es:Array MapEntry) (c:Nat):Rs where
 h g w F:=w.heap[r]?=some (.map es c)/\∀ k,F k↔k=r
 st h m hk:=⟨by rw[hk r ((h.2 r).2 rfl)];exact h.1,h.2⟩
 lt h hk:=by have:=(h.2 _).1 hk;subst this;exact(aAP.1 h.1).1
theorem sU {P:Program} {w:World} {r c:Nat} {es:Array MapEntry} (h:w.heap[r]?=some (.map es c)):(getObj r).run P w = .ok (.map es c) w:=by
 unfold getObj Sem.run;simp[h,Sem.run]
theorem vV {P:Program} {w:World} {r c:Nat} {es:Array MapEntry} {o:Obj} (h:w.heap[r]?=some (.map es c)):(setObj r o).run P w = .ok () { w with heap:=w.heap.setIfInBounds r o }:=by
 unfold setObj Sem.run;simp[h,Sem.run]
theorem tL {P:Program} {w:World} {kt:TypeId} {k:ByteArray} {b:Bool} (hk:∀ w,(underlying kt).run P w = .ok .string w):(Instr.checkKey b 10000 kt (.string k)).run P w = .ok () w:=by
 rw[show 10000=9999+1 from rfl,Instr.checkKey];rw[Sem.run_bind,hk];rfl
theorem wN {P:Program} {t kt et:TypeId} {k:ByteArray} {v:Value} {w:World} {r:Nat} (ht:∀ w,(underlying t).run P w = .ok (.map kt et) w) (hk:∀ w,(underlying kt).run P w = .ok .string w) (h:w.heap[r]?=some (.map #[] 0)):(Instr.mapUpdate t (.map (some r)) (.string k) v).run P w = .ok () { w with heap:=w.heap.setIfInBounds r (.map #[{ key:=.string k,val:=v,born:=0 }] 1) }:=by
 unfold Instr.mapUpdate;rw[Sem.run_bind,ht];simp only[Result.andThen_ok];rw[Sem.run_bind,sU h];simp only[Result.andThen_ok];rw[Sem.run_bind,tL hk];simp only[Result.andThen_ok,Instr.findKey];rw[Sem.run_bind,Sem.run_bind,hk];simp only[Result.andThen_ok,Instr.findNow,Sem.run_pure];rw[vV h];rfl
theorem xA {P:Program} {t kt et:TypeId} {k:ByteArray} {x:Int} {w:World} {r c:Nat} (ht:∀ w,(underlying t).run P w = .ok (.map kt et) w) (hk:∀ w,(underlying kt).run P w = .ok .string w) (h:w.heap[r]?=some (.map #[{ key:=.string k,val:=.int .i64 x,born:=0 }] c)):(Instr.lookup t (.map (some r)) (.string k) false).run P w = .ok (.int .i64 x) w:=by
 unfold Instr.lookup;rw[Sem.run_bind,ht];simp only[Result.andThen_ok];rw[Sem.run_bind,sU h];simp only[Result.andThen_ok];rw[Sem.run_bind,Sem.run_pure];simp only[Result.andThen_ok];rw[Sem.run_bind,tL hk];simp only[Result.andThen_ok,Instr.findKey];rw[Sem.run_bind,Sem.run_bind,hk];have hkk:(k==k)=true:=by
  cases k with
  | mk d=>first | exact beq_self_eq_true _ | (show(d==d)=true;exact beq_self_eq_true d)
 simp[Result.andThen_ok,Instr.findNow,Instr.sameNow,Sem.run_pure,hkk]
section
variable {F0 : Nat -> Prop} {g g0 : Gh} {w w0 : World} {L : List Rs} {r c : Nat} {es : Array MapEntry}
theorem Hp.mp (H:Hp F0 g0 w0 g w (mpR r es c::L)):w.heap[r]?=some (.map es c):=by obtain⟨F,h⟩:=H.hd;exact h.1
theorem Hp.mkm {P:Program} {t:TypeId} (H:Hp F0 g0 w0 g w L):∃ r w',mkM P t w=some (some r,w')/\Hp F0 g0 w0 g w' (mpR r #[] 0::L)/\Mo g w g w' :=
 ⟨w.heap.size,w.alloc (.map #[] 0),rfl,H.add (mN H.lt _) (F:=fun k=>k=w.heap.size) ⟨by show(w.heap.push _)[w.heap.size]?=_;simp,fun _=>Iff.rfl⟩ (fun k hk=>⟨fun hg=>by have:=H.lt k hg;omega,by omega⟩),(mN H.lt _).mo⟩
theorem Hp.upm {P:Program} {t kt et:TypeId} {k:ByteArray} {v:Value} (ht:∀ w,(underlying t).run P w = .ok (.map kt et) w) (hk:∀ w,(underlying kt).run P w = .ok .string w) (H:Hp F0 g0 w0 g w (mpR r #[] 0::L)) :
  ∃ w',upM P t (some r) (.string k) v w=some w'/\Hp F0 g0 w0 g w' (mpR r #[{ key:=.string k,val:=v,born:=0 }] 1::L)/\Mo g w g w':=by
 have hm:=H.mp;have hr:r<w.heap.size:=(aAP.1 hm).1;have e:upM P t (some r) (.string k) v w=some { w with heap:=w.heap.setIfInBounds r (.map #[{ key:=.string k,val:=v,born:=0 }] 1) }:=by
  have:(Instr.mapUpdate t (.map (some r)) (.string k) v).run P w = .ok () { w with heap:=w.heap.setIfInBounds r (.map #[{ key:=.string k,val:=v,born:=0 }] 1) }:=by
   exact wN ht hk hm
  unfold upM;rw[this]
 obtain⟨g',w',⟨rfl,rfl⟩,h2,m⟩:=H.up (r':=mpR r #[{ key:=.string k,val:=v,born:=0 }] 1) (Ψ:=fun g' w''=>g'=g/\w''={ w with heap:=w.heap.setIfInBounds r (.map #[{ key:=.string k,val:=v,born:=0 }] 1) }) fun F h hF =>
  ⟨g,_,F,⟨rfl,rfl⟩,⟨by simp[Array.getElem?_setIfInBounds_self_of_lt hr],h.2⟩,⟨⟨rfl,rfl,rfl,by simp,fun k hk hn=>by
   show(w.heap.setIfInBounds r _)[k]?=_;rw[aAp];intro he;exact hn ((h.2 k).2 he.symm)⟩,fun _ _ _=>Iff.rfl,⟨by simp,fun k hk=>⟨hk,by
   show(w.heap.setIfInBounds r _)[k]?=_;rw[aAp];intro he;exact hF r ((h.2 r).2 rfl) (he ▸ hk)⟩⟩,fun k hk=>by have:=H.lt k hk;simpa using this⟩,fun k hk=>⟨hF k hk,.inl hk⟩⟩
 exact⟨_,e,h2,m⟩
theorem Hp.lum {P:Program} {t kt et:TypeId} {k:ByteArray} {x:Int} (ht:∀ w,(underlying t).run P w = .ok (.map kt et) w) (hk:∀ w,(underlying kt).run P w = .ok .string w) (H:Hp F0 g0 w0 g w (mpR r #[{ key:=.string k,val:=.int .i64 x,born:=0 }] c::L)) :
  luI .i64 P t (some r) (.string k) w=some (x,w):=by
 have hm:=H.mp;have:(Instr.lookup t (.map (some r)) (.string k) false).run P w = .ok (.int .i64 x) w:=xA ht hk hm;unfold luI;rw[this];simp
end
def jB (a0:ByteArray) (a1:ByteArray) (w:World):Option (Int×World) :=
 aE (iB a1 w) fun v1 w2 =>
 if (!v1)=true then
 (some (11,w2))
 else
 (if (sLt a1 a0||sEq a1 a0)=true then
 (some (4,w2))
 else
 (some (0,w2)))
theorem oJ {a0 a1 w w' r0} (h:jB a0 a1 w=some (r0,w')):Calls Try.prog 76 #[(.string a0),(.string a1)] w fun e w''=>e=.returned (.int .i64 r0)/\w''=w':=by
 refine aG (n:=13) Try.func76 rfl Try.ntmps76 (by simp) fun a u=>?_;unfold jB at h;refine wp_seq<|aA<|qa u rfl fun a u=>aC<|t_n<|wp_seq<|wp_block<|wp_seq<|aA<|qm u rfl fun a u=>?_;have⟨v1,w2,e3,h⟩:=bs2 h;refine q u (dc1 u rfl Try.call13 (jR e3)) fun a u=>q u (eP u rfl) fun a u=>qa u rfl fun a u=>aC<|t_n<|?_;refine aF u rfl h (fun b4 h=>?_) (fun b4 h=>?_)
 .refine wp_seq<|aA<|qa u rfl fun a u=>aC<|t_n<|wp_ret<|b_r<|t_r<|?_;have y:=u;cases h;exact aX Try.results76 y rfl ⟨rfl,rfl⟩
 refine wp_seq<|aA<|qm u rfl fun a u=>qm u rfl fun a u=>q u (oC u rfl rfl) fun a u=>qa u rfl fun a u=>aC<|t_n<|?_;refine aF u rfl h (fun b5 h=>?_) (fun b5 h=>?_)
 .refine wp_seq<|aA<|qa u rfl fun a u=>aC<|t_n<|wp_ret<|b_r<|t_r<|?_;have y:=u;cases h;exact aX Try.results76 y rfl ⟨rfl,rfl⟩
 refine wp_skip<|b_n<|t_n<|wp_seq<|aA<|qa u rfl fun a u=>aC<|t_n<|wp_ret<|?_;have y:=u;cases h;exact aX Try.results76 y rfl ⟨rfl,rfl⟩
noncomputable def cT (a0:Sl) (x2:ByteArray) (x3:Int) (w4:World):Option ((ByteArray×Int×World)⊕((World)⊕(Int×World))) :=
 if (decide (x3<(a0.n:Int)))=true then
 ((ix a0 x3 2).bind fun p14 =>
 (ldA 2 w4 p14 0).bind fun c16 =>
 aE (mk w4 33 ([.string ByteArray.empty,.int .i64 0])) fun p18 w19 =>
 (stA w19 p18 0 c16).bind fun w21 =>
 (ldS w21 (p18.add 0)).bind fun v23 =>
 aE (jB x2 v23 w21) fun v25 w26 =>
 if (v25 !=0)=true then
 (some (.inr (.inr (v25,w26))))
 else
 (aE ((ldI .i64 w26 (p18.add 1)).bind fun v33 =>
 if (decide (v33<1))=true then
 (some (true,w26))
 else
 ((ldI .i64 w26 (p18.add 1)).bind fun v36 =>
 some ((decide (4<v36)),w26))) fun v29 w30 =>
 if v29=true then
 (some (.inr (.inr (12,w30))))
 else
 ((ldS w30 (p18.add 0)).bind fun v39 =>
 some (.inl (v39,(IntKind.wrap .i64 (x3+1)),w30)))))
 else
 (some (.inr (.inl w4)))
noncomputable def eW (a0:Sl) (w:World):Option (Int×World) :=
 if (decide (8<(a0.n:Int)))=true then
 (some (6,w))
 else
 ((bB (fun s:ByteArray×Int×World=>cT a0 s.1 s.2.1 s.2.2) ((ByteArray.mk #[]),0,w)).bind fun r5=>Sum.elim (fun (i:World)=>u1 i fun w7 =>
 some (0,w7)) (fun (i:Int×World)=>u2 i fun v8 w9 =>
 some (v8,w9)) r5)
theorem kV {a0 w w' r0} (h:eW a0 w=some (r0,w')):Calls Try.prog 50 #[(Sl.v a0)] w fun e w''=>e=.returned (.int .i64 r0)/\w''=w':=by
 refine aG (n:=34) Try.func50 rfl Try.ntmps50 (by simp) fun a u=>?_;unfold eW at h;refine wp_seq<|aA<|qa u rfl fun a u=>aC<|t_n<|wp_seq<|wp_seq<|aA<|qm u rfl fun a u=>q u (bZ u rfl zL) fun a u=>q u (iM u rfl rfl) fun a u=>aC<|t_n<|?_;refine aF u rfl h (fun b1 h=>?_) (fun b1 h=>?_)
 .refine wp_seq<|aA<|qa u rfl fun a u=>aC<|t_n<|wp_ret<|t_r<|?_;have y:=u;cases h;exact aX Try.results50 y rfl ⟨rfl,rfl⟩
 refine wp_skip<|t_n<|wp_seq<|aA<|qa u rfl fun a u=>aC<|t_n<|wp_seq<|wp_seq<|aA<|qm u rfl fun a u=>q u (bZ u rfl zL) fun a u=>qm u rfl fun a u=>aC<|t_n<|wp_block<|?_;have⟨r5,e6,h⟩:=bs1 h;refine dH (n:=34) (L1:=fun i=>[]) (w1:=fun i=>i) (L2:=fun i=>[(2,(iV i.1))]) (w2:=fun i=>i.2) (e1:=.exit 0) (e2:=.ret) (I:=fun (s:ByteArray×Int×World) a w=>Has 34 [(3,(.string s.1)),(12,(iV s.2.1)),(10,(Sl.v a0)),(11,(iV (a0.n:Int)))] a/\w=s.2.2) ⟨u.sub ⟨rfl,rfl,rfl,rfl,aBP⟩,rfl⟩ e6 (fun i hi a u=>?_) (fun i hi a u=>?_) (fun hk10 hk11=>?_)
 .subst hi;obtain⟨w7,rfl⟩:∃ x,x=i:=⟨i,rfl⟩;dsimp only[Sum.elim_inl,Sum.elim_inr,u1,u2,u3,u4,u5,u6] at h;have u:Has 34 [] a:=u;refine eC<|t_n<|wp_seq<|aA<|qa u rfl fun a u=>aC<|t_n<|wp_ret<|?_;have y:=u;cases h;exact aX Try.results50 y rfl ⟨rfl,rfl⟩
 .subst hi;obtain⟨v8,w9⟩:=i;dsimp only[Sum.elim_inl,Sum.elim_inr,u1,u2,u3,u4,u5,u6] at h;have u:Has 34 [(2,(iV v8))] a:=u;refine b_r<|t_r<|?_;have y:=u;cases h;exact aX Try.results50 y rfl ⟨rfl,rfl⟩
 clear h;rintro⟨x2,x3,w4⟩ a wq o ⟨u,hwq⟩ h hr12;obtain rfl:w4=wq:=hwq.symm;have u:Has 34 [(3,(.string x2)),(12,(iV x3)),(10,(Sl.v a0)),(11,(iV (a0.n:Int)))] a:=u;have h:cT a0 x2 x3 w4=some o:=h;unfold cT at h;refine wp_seq<|aA<|q u (eX u rfl rfl) fun a u=>aC<|t_n<|wp_seq<|?_;refine aF u rfl h (fun b13 h=>?_) (fun b13 h=>?_)
 .refine wp_skip<|t_n<|wp_seq<|wp_block<|wp_seq<|aA<|?_;have⟨p14,e15,h⟩:=bs1 h;refine q u (dL u rfl rfl zL zW e15) fun a u=>?_;have⟨c16,e17,h⟩:=bs1 h;refine q u (bE u rfl Try.isAgg33 zW e17) fun a u=>?_;have⟨p18,w19,e20,h⟩:=bs2 h;refine q u (dG aAc (by kernel_rfl) e20) fun a u=>?_;have⟨w21,e22,h⟩:=bs1 h;refine q u (eU u rfl rfl zW ((jI e17).1) e22) fun a u=>aC<|t_n<|wp_seq<|wp_seq<|aA<|qm u rfl fun a u=>q u (aI u rfl zM rfl rfl yN) fun a u=>?_;have⟨v23,e24,h⟩:=bs1 h;refine q u (aH u rfl yP (cG e24)) fun a u=>?_;have⟨v25,w26,e27,h⟩:=bs2 h;refine q u (dc2 u rfl rfl Try.call76 (oJ e27)) fun a u=>qa u rfl fun a u=>aC<|t_n<|wp_seq<|aA<|qm u rfl fun a u=>q u (kE u rfl rfl) fun a u=>aC<|t_n<|?_;refine aF u rfl h (fun b28 h=>?_) (fun b28 h=>?_)
  .refine wp_seq<|aA<|qm u rfl fun a u=>qa u rfl fun a u=>aC<|t_n<|wp_ret<|t_r<|b_r<|t_r<|?_;have y:=u;cases h;cases hr12 _ rfl;refine gB<|?_;exact hk11 _ rfl _ (y.sb rfl)
  refine wp_skip<|t_n<|wp_seq<|wp_seq<|?_;have⟨v29,w30,e31,h⟩:=bs2 h;refine aW (n:=34) (L:=[(30,(bV v29)),(5,(pV (some p18))),(10,(Sl.v a0)),(11,(iV (a0.n:Int))),(12,(iV x3))]) (w':=w30) (fun a u=>?_) (fun hk32=>?_)
  .refine t_n<|?_;refine aF u rfl h (fun b38 h=>?_) (fun b38 h=>?_)
   .refine wp_seq<|aA<|qa u rfl fun a u=>aC<|t_n<|wp_ret<|t_r<|b_r<|t_r<|?_;have y:=u;cases h;cases hr12 _ rfl;refine gB<|?_;exact hk11 _ rfl _ (y.sb rfl)
   refine wp_skip<|t_n<|aA<|q u (aI u rfl zM rfl rfl yN) fun a u=>?_;have⟨v39,e40,h⟩:=bs1 h;refine q u (aH u rfl yP (cG e40)) fun a u=>qa u rfl fun a u=>aC<|b_n<|t_n<|aA<|q u (dP u rfl rfl) fun a u=>qm u rfl fun a u=>aC<|?_;have y:=u;cases h;exact cP ⟨y.sb rfl,rfl⟩
  clear h;have h:=e31;refine aA<|q u (aI u rfl zM rfl rfl yR) fun a u=>?_;have⟨v33,e34,h⟩:=bs1 h;refine q u (aH u rfl yS (aL e34)) fun a u=>q u (eX u rfl rfl) fun a u=>qm u rfl fun a u=>?_;refine bU h (fun b35 h=>?_) (fun b35 h=>?_)
  .refine qn u 26 (tn b35) fun a u=>qn u 26 (tn b35) fun a u=>qn u 26 (tn b35) fun a u=>q u (aK u rfl b35 rfl) fun a u=>aC<|?_;have y:=u;cases h;exact hk32 _ (y.sb rfl)
  refine qg u 26 (nt b35) (aI u rfl zM rfl rfl yR) fun a u=>?_;have⟨v36,e37,h⟩:=bs1 h;refine qg u 26 (nt b35) (aH u rfl yS (aL e37)) fun a u=>qg u 26 (nt b35) (iM u rfl rfl) fun a u=>q u (aJ u rfl b35 rfl) fun a u=>aC<|?_;have y:=u;cases h;exact hk32 _ (y.sb rfl)
 refine wp_exit<|t_x<|?_;have y:=u;cases h;cases hr12 _ rfl;refine iE<|?_;exact hk10 _ rfl _ (y.sb rfl)
noncomputable def iY (a0:Int) (w:World):Option (Bool×World) :=
 aE (if (a0==1)=true then
 (some (true,w))
 else
 (some ((a0==2),w))) fun v1 w2 =>
 some (v1,w2)
theorem mK {a0 w w' r0} (h:iY a0 w=some (r0,w')):Calls Try.prog 52 #[(.int .i64 a0)] w fun e w''=>e=.returned (.bool r0)/\w''=w':=by
 refine aG (n:=9) Try.func52 rfl Try.ntmps52 (by simp) fun a u=>?_;unfold iY at h;refine wp_seq<|aA<|qa u rfl fun a u=>aC<|t_n<|wp_seq<|?_;have⟨v1,w2,e3,h⟩:=bs2 h;refine aW (n:=9) (L:=[(2,(bV v1))]) (w':=w2) (fun a u=>?_) (fun hk4=>?_)
 .refine t_n<|wp_ret<|?_;have y:=u;cases h;exact aX Try.results52 y rfl ⟨rfl,rfl⟩
 clear h;have h:=e3;refine aA<|qm u rfl fun a u=>q u (cA u rfl rfl) fun a u=>qm u rfl fun a u=>?_;refine bU h (fun b5 h=>?_) (fun b5 h=>?_)
 .refine qn u 5 (tn b5) fun a u=>qn u 5 (tn b5) fun a u=>q u (aK u rfl b5 rfl) fun a u=>qa u rfl fun a u=>aC<|?_;have y:=u;cases h;exact hk4 _ (y.sb rfl)
 refine qg u 5 (nt b5) (aD u rfl) fun a u=>qg u 5 (nt b5) (cA u rfl rfl) fun a u=>q u (aJ u rfl b5 rfl) fun a u=>qa u rfl fun a u=>aC<|?_;have y:=u;cases h;exact hk4 _ (y.sb rfl)
noncomputable def iP (a0:List Value) (w:World):Option (Int×World) :=
 aE (mk w 55 a0) fun p1 w2 =>
 hJ ((ldI .i64 w2 (p1.add 0)).bind fun v10 =>
 aE (if (v10==1)=true then
 (some ((v10==1),w2))
 else
 (some ((v10==3),w2))) fun v12 w13 =>
 if v12=true then
 (some (.inr w13))
 else
 (if (v10==2)=true then
 ((ldS w13 (p1.add 2)).bind fun v19 =>
 if (decide (200<(v19.size:Int)))=true then
 ((some (6,w13)).bind fun g9=>some (.inl g9))
 else
 (some (.inr w13)))
 else
 (if (v10==4)=true then
 none
 else
 ((some (12,w13)).bind fun g9=>some (.inl g9))))) some fun (i:World)=>u1 i fun w4 =>
 some (0,w4)
theorem oF {a0 w w' r0} (h:iP a0 w=some (r0,w')):Calls Try.prog 85 #[(.agg (List.toArray a0))] w fun e w''=>e=.returned (.int .i64 r0)/\w''=w':=by
 refine aG (n:=28) Try.func85 rfl Try.ntmps85 (by simp) fun a u=>?_;unfold iP at h;refine wp_seq<|aA<|?_;have⟨p1,w2,e3,h⟩:=bs2 h;refine q u (dJ u rfl rfl e3) fun a u=>qa u rfl fun a u=>aC<|t_n<|?_;obtain⟨o7,e5,h6⟩:=bsX h;clear h;refine iW (n:=28) (ι:=World) (Lf:=fun i=>[]) (wf:=fun i=>i) (C:=fun i=>o7=.inr i) (fun i hi a u=>?_) (fun hk8=>?_)
 .subst hi;obtain⟨w4,rfl⟩:∃ x,x=i:=⟨i,rfl⟩;have h:=h6;dsimp only[hJ,u1,u2,u3,u4,u5,u6] at h;have u:Has 28 [] a:=u;refine wp_seq<|aA<|qa u rfl fun a u=>aC<|t_n<|wp_ret<|?_;have y:=u;cases h;exact aX Try.results85 y rfl ⟨rfl,rfl⟩
 have h:=e5;refine wp_seq<|aA<|q u (aI u rfl zD rfl rfl yR) fun a u=>?_;have⟨v10,e11,h⟩:=bs1 h;refine q u (aH u rfl yS (aL e11)) fun a u=>aC<|t_n<|wp_block<|?_;have⟨v12,w13,e14,h⟩:=bs2 h;refine iS (n:=28) (L:=[(8,(bV v12)),(1,(pV (some p1))),(7,(iV v10))]) (w':=w13) (fun a u=>?_) (fun hk15=>?_)
 .refine aF u rfl h (fun b17 h=>?_) (fun b17 h=>?_)
  .refine wp_skip<|b_n<|?_;have y:=u;cases h;exact hk8 _ rfl _ (y.sb rfl)
  refine wp_seq<|aA<|q u (cA u rfl rfl) fun a u=>qa u rfl fun a u=>aC<|t_n<|?_;refine aF u rfl h (fun b18 h=>?_) (fun b18 h=>?_)
  .refine wp_seq<|aA<|q u (aI u rfl zD rfl rfl yN) fun a u=>?_;have⟨v19,e20,h⟩:=bs1 h;refine q u (aH u rfl yP (cG e20)) fun a u=>q u (lY u rfl yY) fun a u=>q u (iM u rfl rfl) fun a u=>aC<|t_n<|?_;refine aF u rfl h (fun b21 h=>?_) (fun b21 h=>?_)
   .refine wp_seq<|aA<|qa u rfl fun a u=>aC<|t_n<|wp_ret<|b_r<|?_;have y:=u;have⟨g9,e22,h⟩:=bs1 h;cases h;cases h6;have h:=e22;have u:=y;refine t_r<|?_;have y:=u;cases h;exact aX Try.results85 y rfl ⟨rfl,rfl⟩
   refine wp_skip<|b_n<|?_;have y:=u;cases h;exact hk8 _ rfl _ (y.sb rfl)
  refine wp_seq<|aA<|q u (cA u rfl rfl) fun a u=>qa u rfl fun a u=>aC<|t_n<|?_;refine aF u rfl h (fun b23 h=>?_) (fun b23 h=>?_)
  .refine wp_seq<|?_;cases h
  refine wp_seq<|aA<|qa u rfl fun a u=>aC<|t_n<|wp_ret<|b_r<|?_;have y:=u;have⟨g9,e24,h⟩:=bs1 h;cases h;cases h6;have h:=e24;have u:=y;refine t_r<|?_;have y:=u;cases h;exact aX Try.results85 y rfl ⟨rfl,rfl⟩
 clear h;have h:=e14;refine wp_seq<|aA<|q u (cA u rfl rfl) fun a u=>qa u rfl fun a u=>aC<|t_n<|?_;refine aF u rfl h (fun b16 h=>?_) (fun b16 h=>?_)
 .refine wp_skip<|?_;have y:=u;cases h;exact hk15 _ (y.sb rfl)
 refine aA<|q u (cA u rfl rfl) fun a u=>qa u rfl fun a u=>aC<|?_;have y:=u;cases h;exact hk15 _ (y.sb rfl)
noncomputable def lL (a0:Int) (a1:Int) (w:World):Option (Bool×World) :=
 aE (if (a0==5)=true then
 (some ((a0==5),w))
 else
 (if (a0==6)=true then
 (some ((a0==6),w))
 else
 (if (a0==7)=true then
 (some ((a0==7),w))
 else
 (some ((a0==8),w))))) fun v1 w2 =>
 if v1=true then
 (aE (if (a1==1)=true then
 (some (true,w2))
 else
 (some ((a1==2),w2))) fun v9 w10 =>
 some (v9,w10))
 else
 (if (a0==9)=true then
 (some ((a1==2),w2))
 else
 (if (a0==10)=true then
 (some ((a1==4),w2))
 else
 (some (true,w2))))
theorem pD {a0 a1 w w' r0} (h:lL a0 a1 w=some (r0,w')):Calls Try.prog 86 #[(.int .i64 a0),(.int .i64 a1)] w fun e w''=>e=.returned (.bool r0)/\w''=w':=by
 refine aG (n:=25) Try.func86 rfl Try.ntmps86 (by simp) fun a u=>?_;unfold lL at h;refine wp_seq<|aA<|qa u rfl fun a u=>aC<|t_n<|wp_seq<|wp_seq<|aA<|qm u rfl fun a u=>aC<|t_n<|wp_block<|?_;have⟨v1,w2,e3,h⟩:=bs2 h;refine iS (n:=25) (L:=[(6,(bV v1)),(1,(iV a1)),(5,(iV a0))]) (w':=w2) (fun a u=>?_) (fun hk4=>?_)
 .refine aF u rfl h (fun b8 h=>?_) (fun b8 h=>?_)
  .refine wp_seq<|?_;have⟨v9,w10,e11,h⟩:=bs2 h;refine aW (n:=25) (L:=[(4,(bV v9))]) (w':=w10) (fun a u=>?_) (fun hk12=>?_)
   .refine t_n<|wp_ret<|b_r<|t_r<|?_;have y:=u;cases h;exact aX Try.results86 y rfl ⟨rfl,rfl⟩
   clear h;have h:=e11;refine aA<|qm u rfl fun a u=>q u (cA u rfl rfl) fun a u=>qm u rfl fun a u=>?_;refine bU h (fun b13 h=>?_) (fun b13 h=>?_)
   .refine qn u 13 (tn b13) fun a u=>qn u 13 (tn b13) fun a u=>q u (aK u rfl b13 rfl) fun a u=>qa u rfl fun a u=>aC<|?_;have y:=u;cases h;exact hk12 _ (y.sb rfl)
   refine qg u 13 (nt b13) (aD u rfl) fun a u=>qg u 13 (nt b13) (cA u rfl rfl) fun a u=>q u (aJ u rfl b13 rfl) fun a u=>qa u rfl fun a u=>aC<|?_;have y:=u;cases h;exact hk12 _ (y.sb rfl)
  refine wp_seq<|aA<|q u (cA u rfl rfl) fun a u=>qa u rfl fun a u=>aC<|t_n<|?_;refine aF u rfl h (fun b14 h=>?_) (fun b14 h=>?_)
  .refine wp_seq<|aA<|qm u rfl fun a u=>q u (cA u rfl rfl) fun a u=>qa u rfl fun a u=>aC<|t_n<|wp_ret<|b_r<|t_r<|?_;have y:=u;cases h;exact aX Try.results86 y rfl ⟨rfl,rfl⟩
  refine wp_seq<|aA<|q u (cA u rfl rfl) fun a u=>qa u rfl fun a u=>aC<|t_n<|?_;refine aF u rfl h (fun b15 h=>?_) (fun b15 h=>?_)
  .refine wp_seq<|aA<|qm u rfl fun a u=>q u (cA u rfl rfl) fun a u=>qa u rfl fun a u=>aC<|t_n<|wp_ret<|b_r<|t_r<|?_;have y:=u;cases h;exact aX Try.results86 y rfl ⟨rfl,rfl⟩
  refine wp_skip<|b_n<|t_n<|wp_seq<|aA<|qa u rfl fun a u=>aC<|t_n<|wp_ret<|?_;have y:=u;cases h;exact aX Try.results86 y rfl ⟨rfl,rfl⟩
 clear h;have h:=e3;refine wp_seq<|aA<|q u (cA u rfl rfl) fun a u=>qa u rfl fun a u=>aC<|t_n<|?_;refine aF u rfl h (fun b5 h=>?_) (fun b5 h=>?_)
 .refine wp_skip<|?_;have y:=u;cases h;exact hk4 _ (y.sb rfl)
 refine wp_seq<|aA<|q u (cA u rfl rfl) fun a u=>qa u rfl fun a u=>aC<|t_n<|?_;refine aF u rfl h (fun b6 h=>?_) (fun b6 h=>?_)
 .refine wp_skip<|?_;have y:=u;cases h;exact hk4 _ (y.sb rfl)
 refine wp_seq<|aA<|q u (cA u rfl rfl) fun a u=>qa u rfl fun a u=>aC<|t_n<|?_;refine aF u rfl h (fun b7 h=>?_) (fun b7 h=>?_)
 .refine wp_skip<|?_;have y:=u;cases h;exact hk4 _ (y.sb rfl)
 refine aA<|q u (cA u rfl rfl) fun a u=>qa u rfl fun a u=>aC<|?_;have y:=u;cases h;exact hk4 _ (y.sb rfl)
noncomputable def jY (a0:List Value) (w:World):Option (Int×World) :=
 aE (mk w 57 a0) fun p1 w2 =>
 (ldS w2 (p1.add 1)).bind fun v4 =>
 aE (iB v4 w2) fun v6 w7 =>
 if (!v6)=true then
 (some (11,w7))
 else
 (aE ((ldI .i64 w7 (p1.add 2)).bind fun v14 =>
 if (decide (v14<1))=true then
 (some (true,w7))
 else
 ((ldI .i64 w7 (p1.add 2)).bind fun v17 =>
 some ((decide (10<v17)),w7))) fun v10 w11 =>
 if v10=true then
 (some (2,w11))
 else
 ((ldI .i64 w11 (p1.add 2)).bind fun v20 =>
 aE (iY v20 w11) fun v22 w23 =>
 if v22=true then
 (some (0,w23))
 else
 ((ldA 5 w23 (p1.add 3) 0).bind fun c26 =>
 aE (iP c26 w23) fun v28 w29 =>
 if (v28 !=0)=true then
 (some (v28,w29))
 else
 ((ldI .i64 w29 (p1.add 2)).bind fun v32 =>
 (ldI .i64 w29 ((p1.add 3).add 0)).bind fun v34 =>
 aE (lL v32 v34 w29) fun v36 w37 =>
 if (!v36)=true then
 (some (12,w37))
 else
 (aE ((ldI .i64 w37 (p1.add 2)).bind fun v44 =>
 if (v44==10)=true then
 ((ldI .i64 w37 (p1.add 8)).bind fun v47 =>
 if (decide (v47<0))=true then
 (some (true,w37))
 else
 ((ldI .i64 w37 (p1.add 8)).bind fun v50 =>
 some ((decide (1048576<v50)),w37)))
 else
 (some (false,w37))) fun v40 w41 =>
 if v40=true then
 (some (2,w41))
 else
 (some (0,w41)))))))
theorem pF {a0 w w' r0} (h:jY a0 w=some (r0,w')):Calls Try.prog 77 #[(.agg (List.toArray a0))] w fun e w''=>e=.returned (.int .i64 r0)/\w''=w':=by
 refine aG (n:=48) Try.func77 rfl Try.ntmps77 (by simp) fun a u=>?_;unfold jY at h;refine wp_seq<|aA<|?_;have⟨p1,w2,e3,h⟩:=bs2 h;refine q u (dJ u rfl rfl e3) fun a u=>qa u rfl fun a u=>aC<|t_n<|wp_seq<|wp_block<|wp_seq<|aA<|q u (aI u rfl yL rfl rfl yN) fun a u=>?_;have⟨v4,e5,h⟩:=bs1 h;refine q u (aH u rfl yP (cG e5)) fun a u=>?_;have⟨v6,w7,e8,h⟩:=bs2 h;refine q u (dc1 u rfl Try.call13 (jR e8)) fun a u=>q u (eP u rfl) fun a u=>qa u rfl fun a u=>aC<|t_n<|?_;refine aF u rfl h (fun b9 h=>?_) (fun b9 h=>?_)
 .refine wp_seq<|aA<|qa u rfl fun a u=>aC<|t_n<|wp_ret<|b_r<|t_r<|?_;have y:=u;cases h;exact aX Try.results77 y rfl ⟨rfl,rfl⟩
 refine wp_seq<|?_;have⟨v10,w11,e12,h⟩:=bs2 h;refine aW (n:=48) (L:=[(9,(bV v10)),(1,(pV (some p1)))]) (w':=w11) (fun a u=>?_) (fun hk13=>?_)
 .refine t_n<|?_;refine aF u rfl h (fun b19 h=>?_) (fun b19 h=>?_)
  .refine wp_seq<|aA<|qa u rfl fun a u=>aC<|t_n<|wp_ret<|b_r<|t_r<|?_;have y:=u;cases h;exact aX Try.results77 y rfl ⟨rfl,rfl⟩
  refine wp_seq<|aA<|q u (aI u rfl yL rfl rfl zH) fun a u=>?_;have⟨v20,e21,h⟩:=bs1 h;refine q u (aH u rfl zO (aL e21)) fun a u=>?_;have⟨v22,w23,e24,h⟩:=bs2 h;refine q u (dc1 u rfl Try.call52 (mK e24)) fun a u=>qa u rfl fun a u=>aC<|t_n<|?_;refine aF u rfl h (fun b25 h=>?_) (fun b25 h=>?_)
  .refine wp_seq<|aA<|qa u rfl fun a u=>aC<|t_n<|wp_ret<|b_r<|t_r<|?_;have y:=u;cases h;exact aX Try.results77 y rfl ⟨rfl,rfl⟩
  refine wp_skip<|b_n<|t_n<|wp_seq<|wp_seq<|aA<|q u (aI u rfl yL rfl rfl zI) fun a u=>?_;have⟨c26,e27,h⟩:=bs1 h;refine q u (bE u rfl zV zI e27) fun a u=>?_;have⟨v28,w29,e30,h⟩:=bs2 h;refine q u (dc1 u rfl Try.call85 (oF e30)) fun a u=>qa u rfl fun a u=>aC<|t_n<|wp_seq<|aA<|qm u rfl fun a u=>q u (kE u rfl rfl) fun a u=>aC<|t_n<|?_;refine aF u rfl h (fun b31 h=>?_) (fun b31 h=>?_)
  .refine wp_seq<|aA<|qm u rfl fun a u=>qa u rfl fun a u=>aC<|t_n<|wp_ret<|t_r<|?_;have y:=u;cases h;exact aX Try.results77 y rfl ⟨rfl,rfl⟩
  refine wp_skip<|t_n<|wp_seq<|wp_seq<|aA<|q u (aI u rfl yL rfl rfl zH) fun a u=>?_;have⟨v32,e33,h⟩:=bs1 h;refine q u (aH u rfl zO (aL e33)) fun a u=>q u (aI u rfl yL rfl rfl zI) fun a u=>q u (aI u rfl zD rfl rfl yR) fun a u=>?_;have⟨v34,e35,h⟩:=bs1 h;refine q u (aH u rfl yS (aL e35)) fun a u=>?_;have⟨v36,w37,e38,h⟩:=bs2 h;refine q u (dc2 u rfl rfl Try.call86 (pD e38)) fun a u=>q u (eP u rfl) fun a u=>aC<|t_n<|?_;refine aF u rfl h (fun b39 h=>?_) (fun b39 h=>?_)
  .refine wp_seq<|aA<|qa u rfl fun a u=>aC<|t_n<|wp_ret<|t_r<|?_;have y:=u;cases h;exact aX Try.results77 y rfl ⟨rfl,rfl⟩
  refine wp_skip<|t_n<|wp_seq<|wp_seq<|?_;have⟨v40,w41,e42,h⟩:=bs2 h;refine aW (n:=48) (L:=[(47,(bV v40))]) (w':=w41) (fun a u=>?_) (fun hk43=>?_)
  .refine t_n<|?_;refine aF u rfl h (fun b52 h=>?_) (fun b52 h=>?_)
   .refine wp_seq<|aA<|qa u rfl fun a u=>aC<|t_n<|wp_ret<|t_r<|?_;have y:=u;cases h;exact aX Try.results77 y rfl ⟨rfl,rfl⟩
   refine wp_skip<|t_n<|wp_seq<|aA<|qa u rfl fun a u=>aC<|t_n<|wp_ret<|?_;have y:=u;cases h;exact aX Try.results77 y rfl ⟨rfl,rfl⟩
  clear h;have h:=e42;refine aA<|q u (aI u rfl yL rfl rfl zH) fun a u=>?_;have⟨v44,e45,h⟩:=bs1 h;refine q u (aH u rfl zO (aL e45)) fun a u=>q u (cA u rfl rfl) fun a u=>qm u rfl fun a u=>?_;refine bU h (fun b46 h=>?_) (fun b46 h=>?_)
  .refine qg u 38 b46 (aI u rfl yL rfl rfl yU) fun a u=>?_;have⟨v47,e48,h⟩:=bs1 h;refine qg u 38 b46 (aH u rfl yT (aL e48)) fun a u=>qg u 38 b46 (eX u rfl rfl) fun a u=>qg u 38 b46 (aD u rfl) fun a u=>?_;refine bU h (fun b49 h=>?_) (fun b49 h=>?_)
   .refine qn u 42 (tn b49) fun a u=>qn u 42 (tn b49) fun a u=>qn u 42 (tn b49) fun a u=>qg u 38 b46 (aK u rfl b49 rfl) fun a u=>q u (aK u rfl b46 rfl) fun a u=>aC<|?_;have y:=u;cases h;exact hk43 _ (y.sb rfl)
   refine qg u 42 (nt b49) (aI u rfl yL rfl rfl yU) fun a u=>?_;have⟨v50,e51,h⟩:=bs1 h;refine qg u 42 (nt b49) (aH u rfl yT (aL e51)) fun a u=>qg u 42 (nt b49) (iM u rfl rfl) fun a u=>qg u 38 b46 (aJ u rfl b49 rfl) fun a u=>q u (aK u rfl b46 rfl) fun a u=>aC<|?_;have y:=u;cases h;exact hk43 _ (y.sb rfl)
  refine qn u 38 (nm b46) fun a u=>qn u 38 (nm b46) fun a u=>qn u 38 (nm b46) fun a u=>qn u 38 (nm b46) fun a u=>qu u 42 fun a u=>qu u 42 fun a u=>qu u 42 fun a u=>qn u 38 (nm b46) fun a u=>q u (aJ u rfl b46 rfl) fun a u=>aC<|?_;have y:=u;cases h;exact hk43 _ (y.sb rfl)
 clear h;have h:=e12;refine aA<|q u (aI u rfl yL rfl rfl zH) fun a u=>?_;have⟨v14,e15,h⟩:=bs1 h;refine q u (aH u rfl zO (aL e15)) fun a u=>q u (eX u rfl rfl) fun a u=>qm u rfl fun a u=>?_;refine bU h (fun b16 h=>?_) (fun b16 h=>?_)
 .refine qn u 13 (tn b16) fun a u=>qn u 13 (tn b16) fun a u=>qn u 13 (tn b16) fun a u=>q u (aK u rfl b16 rfl) fun a u=>qa u rfl fun a u=>aC<|?_;have y:=u;cases h;exact hk13 _ (y.sb rfl)
 refine qg u 13 (nt b16) (aI u rfl yL rfl rfl zH) fun a u=>?_;have⟨v17,e18,h⟩:=bs1 h;refine qg u 13 (nt b16) (aH u rfl zO (aL e18)) fun a u=>qg u 13 (nt b16) (iM u rfl rfl) fun a u=>q u (aJ u rfl b16 rfl) fun a u=>qa u rfl fun a u=>aC<|?_;have y:=u;cases h;exact hk13 _ (y.sb rfl)
noncomputable def eY (a0:Sl) (x2:Int) (x3:Int) (w4:World):Option ((Int×Int×World)⊕((Int×World)⊕(Int×World))) :=
 if (decide (x3<(a0.n:Int)))=true then
 ((ix a0 x3 9).bind fun p15 =>
 (ldA 9 w4 p15 0).bind fun c17 =>
 aE (mk w4 57 ([.int .i64 0,.string ByteArray.empty,.int .i64 0,.int .i64 0,.int .i64 0,.string ByteArray.empty,.bool false,.complex .f64 0 0,.int .i64 0])) fun p19 w20 =>
 (stA w20 p19 0 c17).bind fun w22 =>
 hJ ((ldI .i64 w22 (p19.add 0)).bind fun v31 =>
 aE (if (v31==1)=true then
 (some ((v31==1),w22))
 else
 (some ((v31==2),w22))) fun v33 w34 =>
 if v33=true then
 (some (.inr (0,w34)))
 else
 (if (v31==3)=true then
 ((ldA 9 w34 p19 0).bind fun c40 =>
 aE (jY c40 w34) fun v42 w43 =>
 if (v42 !=0)=true then
 ((some (.inr (.inr (v42,w43)))).bind fun g30=>some (.inl g30))
 else
 (some (.inr (0,w43))))
 else
 (if (v31==4)=true then
 (some (.inr (1,w34)))
 else
 (aE (if (v31==5)=true then
 (some ((v31==5),w34))
 else
 (some ((v31==6),w34))) fun v48 w49 =>
 if v48=true then
 (some (.inr (2,w49)))
 else
 ((some (.inr (.inr (2,w49)))).bind fun g30=>some (.inl g30)))))) some fun (i:Int×World)=>u2 i fun v24 w25 =>
 if (decide (x2<v24))=true then
 (some (.inr (.inr (4,w25))))
 else
 (if (decide (16<(IntKind.wrap .i64 (x2+(IntKind.wrap .i64 (1-v24))))))=true then
 (some (.inr (.inr (6,w25))))
 else
 (some (.inl ((IntKind.wrap .i64 (x2+(IntKind.wrap .i64 (1-v24)))),(IntKind.wrap .i64 (x3+1)),w25)))))
 else
 (some (.inr (.inl (x2,w4))))
noncomputable def jF (a0:Sl) (w:World):Option (Int×World) :=
 if (decide (48<(a0.n:Int)))=true then
 (some (6,w))
 else
 ((bB (fun s:Int×Int×World=>eY a0 s.1 s.2.1 s.2.2) (0,0,w)).bind fun r5=>Sum.elim (fun (i:Int×World)=>u2 i fun v7 w8 =>
 if (v7 !=1)=true then
 (some (4,w8))
 else
 (some (0,w8))) (fun (i:Int×World)=>u2 i fun v9 w10 =>
 some (v9,w10)) r5)
theorem oI {a0 w w' r0} (h:jF a0 w=some (r0,w')):Calls Try.prog 51 #[(Sl.v a0)] w fun e w''=>e=.returned (.int .i64 r0)/\w''=w':=by
 refine aG (n:=46) Try.func51 rfl Try.ntmps51 (by simp) fun a u=>?_;unfold jF at h;refine wp_seq<|aA<|qa u rfl fun a u=>aC<|t_n<|wp_seq<|wp_seq<|aA<|qm u rfl fun a u=>q u (bZ u rfl zP) fun a u=>q u (iM u rfl rfl) fun a u=>aC<|t_n<|?_;refine aF u rfl h (fun b1 h=>?_) (fun b1 h=>?_)
 .refine wp_seq<|aA<|qa u rfl fun a u=>aC<|t_n<|wp_ret<|t_r<|?_;have y:=u;cases h;exact aX Try.results51 y rfl ⟨rfl,rfl⟩
 refine wp_skip<|t_n<|wp_seq<|aA<|qa u rfl fun a u=>aC<|t_n<|wp_seq<|wp_seq<|aA<|qm u rfl fun a u=>q u (bZ u rfl zP) fun a u=>qm u rfl fun a u=>aC<|t_n<|wp_block<|?_;have⟨r5,e6,h⟩:=bs1 h;refine dH (n:=46) (L1:=fun i=>[(3,(iV i.1))]) (w1:=fun i=>i.2) (L2:=fun i=>[(2,(iV i.1))]) (w2:=fun i=>i.2) (e1:=.exit 0) (e2:=.ret) (I:=fun (s:Int×Int×World) a w=>Has 46 [(3,(iV s.1)),(13,(iV s.2.1)),(11,(Sl.v a0)),(12,(iV (a0.n:Int)))] a/\w=s.2.2) ⟨u.sub ⟨rfl,rfl,rfl,rfl,aBP⟩,rfl⟩ e6 (fun i hi a u=>?_) (fun i hi a u=>?_) (fun hk11 hk12=>?_)
 .subst hi;obtain⟨v7,w8⟩:=i;dsimp only[Sum.elim_inl,Sum.elim_inr,u1,u2,u3,u4,u5,u6] at h;have u:Has 46 [(3,(iV v7))] a:=u;refine eC<|t_n<|wp_seq<|wp_seq<|aA<|qm u rfl fun a u=>q u (kE u rfl rfl) fun a u=>aC<|t_n<|?_;refine aF u rfl h (fun b57 h=>?_) (fun b57 h=>?_)
  .refine wp_seq<|aA<|qa u rfl fun a u=>aC<|t_n<|wp_ret<|t_r<|?_;have y:=u;cases h;exact aX Try.results51 y rfl ⟨rfl,rfl⟩
  refine wp_skip<|t_n<|wp_seq<|aA<|qa u rfl fun a u=>aC<|t_n<|wp_ret<|?_;have y:=u;cases h;exact aX Try.results51 y rfl ⟨rfl,rfl⟩
 .subst hi;obtain⟨v9,w10⟩:=i;dsimp only[Sum.elim_inl,Sum.elim_inr,u1,u2,u3,u4,u5,u6] at h;have u:Has 46 [(2,(iV v9))] a:=u;refine b_r<|t_r<|?_;have y:=u;cases h;exact aX Try.results51 y rfl ⟨rfl,rfl⟩
 clear h;rintro⟨x2,x3,w4⟩ a wq o ⟨u,hwq⟩ h hr13;obtain rfl:w4=wq:=hwq.symm;have u:Has 46 [(3,(iV x2)),(13,(iV x3)),(11,(Sl.v a0)),(12,(iV (a0.n:Int)))] a:=u;have h:eY a0 x2 x3 w4=some o:=h;unfold eY at h;refine wp_seq<|aA<|q u (eX u rfl rfl) fun a u=>aC<|t_n<|wp_seq<|?_;refine aF u rfl h (fun b14 h=>?_) (fun b14 h=>?_)
 .refine wp_skip<|t_n<|wp_seq<|wp_block<|wp_seq<|aA<|?_;have⟨p15,e16,h⟩:=bs1 h;refine q u (dL u rfl rfl zP zR e16) fun a u=>?_;have⟨c17,e18,h⟩:=bs1 h;refine q u (bE u rfl aAd zR e18) fun a u=>?_;have⟨p19,w20,e21,h⟩:=bs2 h;refine q u (dG aAa (by kernel_rfl) e21) fun a u=>?_;have⟨w22,e23,h⟩:=bs1 h;refine q u (eU u rfl rfl zR ((jI e18).1) e23) fun a u=>aC<|t_n<|wp_seq<|aA<|qa u rfl fun a u=>aC<|t_n<|?_;obtain⟨o28,e26,h27⟩:=bsX h;clear h;refine iW (n:=46) (ι:=Int×World) (Lf:=fun i=>[(6,(iV i.1)),(3,(iV x2)),(11,(Sl.v a0)),(12,(iV (a0.n:Int))),(13,(iV x3))]) (wf:=fun i=>i.2) (C:=fun i=>o28=.inr i) (fun i hi a u=>?_) (fun hk29=>?_)
  .subst hi;obtain⟨v24,w25⟩:=i;have h:=h27;dsimp only[hJ,u1,u2,u3,u4,u5,u6] at h;have u:Has 46 [(6,(iV v24)),(3,(iV x2)),(11,(Sl.v a0)),(12,(iV (a0.n:Int))),(13,(iV x3))] a:=u;refine wp_seq<|wp_seq<|aA<|qm u rfl fun a u=>qm u rfl fun a u=>q u (eX u rfl rfl) fun a u=>aC<|t_n<|?_;refine aF u rfl h (fun b55 h=>?_) (fun b55 h=>?_)
   .refine wp_seq<|aA<|qa u rfl fun a u=>aC<|t_n<|wp_ret<|t_r<|b_r<|t_r<|?_;have y:=u;cases h;cases hr13 _ rfl;refine gB<|?_;exact hk12 _ rfl _ (y.sb rfl)
   refine wp_skip<|t_n<|wp_seq<|aA<|qm u rfl fun a u=>qm u rfl fun a u=>q u (jM u rfl rfl) fun a u=>q u (dP u rfl rfl) fun a u=>qa u rfl fun a u=>aC<|t_n<|wp_seq<|aA<|qm u rfl fun a u=>q u (iM u rfl rfl) fun a u=>aC<|t_n<|?_;refine aF u rfl h (fun b56 h=>?_) (fun b56 h=>?_)
   .refine wp_seq<|aA<|qa u rfl fun a u=>aC<|t_n<|wp_ret<|b_r<|t_r<|?_;have y:=u;cases h;cases hr13 _ rfl;refine gB<|?_;exact hk12 _ rfl _ (y.sb rfl)
   refine wp_skip<|b_n<|t_n<|aA<|q u (dP u rfl rfl) fun a u=>qm u rfl fun a u=>aC<|?_;have y:=u;cases h;exact cP ⟨y.sb rfl,rfl⟩
  have h:=e26;refine wp_seq<|aA<|q u (aI u rfl yL rfl rfl Try.sizeOf51) fun a u=>?_;have⟨v31,e32,h⟩:=bs1 h;refine q u (aH u rfl Try.isAgg51 (aL e32)) fun a u=>aC<|t_n<|wp_block<|?_;have⟨v33,w34,e35,h⟩:=bs2 h;refine iS (n:=46) (L:=[(19,(bV v33)),(3,(iV x2)),(5,(pV (some p19))),(6,(iV 0)),(11,(Sl.v a0)),(12,(iV (a0.n:Int))),(13,(iV x3)),(18,(iV v31))]) (w':=w34) (fun a u=>?_) (fun hk36=>?_)
  .refine aF u rfl h (fun b38 h=>?_) (fun b38 h=>?_)
   .refine wp_skip<|b_n<|?_;have y:=u;cases h;exact hk29 _ rfl _ (y.sb rfl)
   refine wp_seq<|aA<|q u (cA u rfl rfl) fun a u=>qa u rfl fun a u=>aC<|t_n<|?_;refine aF u rfl h (fun b39 h=>?_) (fun b39 h=>?_)
   .refine wp_seq<|aA<|?_;have⟨c40,e41,h⟩:=bs1 h;refine q u (bE u rfl aAd zR e41) fun a u=>?_;have⟨v42,w43,e44,h⟩:=bs2 h;refine q u (dc1 u rfl Try.call77 (pF e44)) fun a u=>qa u rfl fun a u=>aC<|t_n<|wp_seq<|aA<|qm u rfl fun a u=>q u (kE u rfl rfl) fun a u=>aC<|t_n<|?_;refine aF u rfl h (fun b45 h=>?_) (fun b45 h=>?_)
    .refine wp_seq<|aA<|qm u rfl fun a u=>qa u rfl fun a u=>aC<|t_n<|wp_ret<|b_r<|?_;have y:=u;have⟨g30,e46,h⟩:=bs1 h;cases h;cases h27;have h:=e46;have u:=y;refine t_r<|b_r<|t_r<|?_;have y:=u;cases h;cases hr13 _ rfl;refine gB<|?_;exact hk12 _ rfl _ (y.sb rfl)
    refine wp_skip<|b_n<|?_;have y:=u;cases h;exact hk29 _ rfl _ (y.sb rfl)
   refine wp_seq<|aA<|q u (cA u rfl rfl) fun a u=>qa u rfl fun a u=>aC<|t_n<|?_;refine aF u rfl h (fun b47 h=>?_) (fun b47 h=>?_)
   .refine aA<|qa u rfl fun a u=>aC<|b_n<|?_;have y:=u;cases h;exact hk29 _ rfl _ (y.sb rfl)
   have⟨v48,w49,e50,h⟩:=bs2 h;refine iS (n:=46) (L:=[(31,(bV v48)),(3,(iV x2)),(11,(Sl.v a0)),(12,(iV (a0.n:Int))),(13,(iV x3))]) (w':=w49) (fun a u=>?_) (fun hk51=>?_)
   .refine aF u rfl h (fun b53 h=>?_) (fun b53 h=>?_)
    .refine aA<|qa u rfl fun a u=>aC<|b_n<|?_;have y:=u;cases h;exact hk29 _ rfl _ (y.sb rfl)
    refine wp_seq<|aA<|qa u rfl fun a u=>aC<|t_n<|wp_ret<|b_r<|?_;have y:=u;have⟨g30,e54,h⟩:=bs1 h;cases h;cases h27;have h:=e54;have u:=y;refine t_r<|b_r<|t_r<|?_;have y:=u;cases h;cases hr13 _ rfl;refine gB<|?_;exact hk12 _ rfl _ (y.sb rfl)
   clear h;have h:=e50;refine wp_seq<|aA<|q u (cA u rfl rfl) fun a u=>qa u rfl fun a u=>aC<|t_n<|?_;refine aF u rfl h (fun b52 h=>?_) (fun b52 h=>?_)
   .refine wp_skip<|?_;have y:=u;cases h;exact hk51 _ (y.sb rfl)
   refine aA<|q u (cA u rfl rfl) fun a u=>qa u rfl fun a u=>aC<|?_;have y:=u;cases h;exact hk51 _ (y.sb rfl)
  clear h;have h:=e35;refine wp_seq<|aA<|q u (cA u rfl rfl) fun a u=>qa u rfl fun a u=>aC<|t_n<|?_;refine aF u rfl h (fun b37 h=>?_) (fun b37 h=>?_)
  .refine wp_skip<|?_;have y:=u;cases h;exact hk36 _ (y.sb rfl)
  refine aA<|q u (cA u rfl rfl) fun a u=>qa u rfl fun a u=>aC<|?_;have y:=u;cases h;exact hk36 _ (y.sb rfl)
 refine wp_exit<|t_x<|?_;have y:=u;cases h;cases hr13 _ rfl;refine iE<|?_;exact hk11 _ rfl _ (y.sb rfl)
noncomputable def fR (a0:Sl) (m9:Option Nat) (x12:Int) (w13:World):Option ((Int×World)⊕(World)) :=
 if (decide (x12<(a0.n:Int)))=true then
 ((ix a0 x12 2).bind fun p20 =>
 (ldA 2 w13 p20 0).bind fun c22 =>
 aE (mk w13 33 ([.string ByteArray.empty,.int .i64 0])) fun p24 w25 =>
 (stA w25 p24 0 c22).bind fun w27 =>
 (ldS w27 (p24.add 0)).bind fun v29 =>
 (ldI .i64 w27 (p24.add 1)).bind fun v31 =>
 (upM Try.prog 79 m9 (.string v29) (.int .i64 v31) w27).bind fun w33 =>
 some (.inl ((IntKind.wrap .i64 (x12+1)),w33)))
 else
 (some (.inr w13))
noncomputable def fT (a1:Sl) (m9:Option Nat) (x35:Int) (w36:World):Option ((Int×World)⊕((World)⊕(Int×World))) :=
 if (decide (x35<(a1.n:Int)))=true then
 (hJ ((ix a1 x35 9).bind fun p52 =>
 (ldA 9 w36 p52 0).bind fun c54 =>
 aE (mk w36 57 ([.int .i64 0,.string ByteArray.empty,.int .i64 0,.int .i64 0,.int .i64 0,.string ByteArray.empty,.bool false,.complex .f64 0 0,.int .i64 0])) fun p56 w57 =>
 (stA w57 p56 0 c54).bind fun w59 =>
 (ldI .i64 w59 (p56.add 0)).bind fun v61 =>
 if (v61 !=3)=true then
 (some (.inr w59))
 else
 ((ldS w59 (p56.add 1)).bind fun v64 =>
 aE (luI .i64 Try.prog 79 m9 (.string v64) w59) fun v66 w67 =>
 if (v66==0)=true then
 ((some (.inr (.inr (8,w67)))).bind fun g51=>some (.inl g51))
 else
 (aE (aE ((ldI .i64 w67 (p56.add 2)).bind fun v79 =>
 if (v79==2)=true then
 (some ((v66 !=3),w67))
 else
 (some (false,w67))) fun v75 w76 =>
 if v75=true then
 (some (v75,w76))
 else
 (aE ((ldI .i64 w76 (p56.add 2)).bind fun v87 =>
 aE (iY v87 w76) fun v89 w90 =>
 if (!v89)=true then
 ((ldI .i64 w90 ((p56.add 3).add 0)).bind fun v93 =>
 some ((v66 !=v93),w90))
 else
 (some (false,w90))) fun v83 w84 =>
 some (v83,w84))) fun v71 w72 =>
 if v71=true then
 ((some (.inr (.inr (12,w72)))).bind fun g51=>some (.inl g51))
 else
 (some (.inr w72))))) some fun (i:World)=>u1 i fun w46 =>
 some (.inl ((IntKind.wrap .i64 (x35+1)),w46)))
 else
 (some (.inr (.inl w36)))
noncomputable def jV (a0:Sl) (a1:Sl) (w:World):Option (Int×World) :=
 aE (eW a0 w) fun v1 w2 =>
 if (v1 !=0)=true then
 (some (v1,w2))
 else
 (aE (jF a1 w2) fun v5 w6 =>
 if (v5 !=0)=true then
 (some (v5,w6))
 else
 (aE (mkM Try.prog 79 w6) fun m9 w10 =>
 (bB (fun s:Int×World=>fR a0 m9 s.1 s.2) (0,w10)).bind fun w16 =>
 (bB (fun s:Int×World=>fT a1 m9 s.1 s.2) (0,w16)).bind fun r37=>Sum.elim (fun (i:World)=>u1 i fun w39 =>
 some (0,w39)) (fun (i:Int×World)=>u2 i fun v40 w41 =>
 some (v40,w41)) r37))
theorem pC {a0 a1 w w' r0} (h:jV a0 a1 w=some (r0,w')):Calls Try.prog 31 #[(Sl.v a0),(Sl.v a1)] w fun e w''=>e=.returned (.int .i64 r0)/\w''=w':=by
 refine aG (n:=72) Try.func31 rfl Try.ntmps31 (by simp) fun a u=>?_;unfold jV at h;refine wp_seq<|aA<|qa u rfl fun a u=>aC<|t_n<|wp_seq<|wp_seq<|aA<|qm u rfl fun a u=>?_;have⟨v1,w2,e3,h⟩:=bs2 h;refine q u (dc1 u rfl Try.call50 (kV e3)) fun a u=>qa u rfl fun a u=>aC<|t_n<|wp_seq<|aA<|qm u rfl fun a u=>q u (kE u rfl rfl) fun a u=>aC<|t_n<|?_;refine aF u rfl h (fun b4 h=>?_) (fun b4 h=>?_)
 .refine wp_seq<|aA<|qm u rfl fun a u=>qa u rfl fun a u=>aC<|t_n<|wp_ret<|t_r<|?_;have y:=u;cases h;exact aX Try.results31 y rfl ⟨rfl,rfl⟩
 refine wp_skip<|t_n<|wp_seq<|wp_seq<|aA<|qm u rfl fun a u=>?_;have⟨v5,w6,e7,h⟩:=bs2 h;refine q u (dc1 u rfl Try.call51 (oI e7)) fun a u=>qa u rfl fun a u=>aC<|t_n<|wp_seq<|aA<|qm u rfl fun a u=>q u (kE u rfl rfl) fun a u=>aC<|t_n<|?_;refine aF u rfl h (fun b8 h=>?_) (fun b8 h=>?_)
 .refine wp_seq<|aA<|qm u rfl fun a u=>qa u rfl fun a u=>aC<|t_n<|wp_ret<|t_r<|?_;have y:=u;cases h;exact aX Try.results31 y rfl ⟨rfl,rfl⟩
 refine wp_skip<|t_n<|wp_seq<|aA<|?_;have⟨m9,w10,e11,h⟩:=bs2 h;refine q u (xF e11) fun a u=>qa u rfl fun a u=>aC<|t_n<|wp_seq<|wp_seq<|aA<|qm u rfl fun a u=>q u (bZ u rfl zL) fun a u=>qm u rfl fun a u=>aC<|t_n<|wp_block<|?_;have⟨w16,e15,h⟩:=bs1 h;refine lO (n:=72) (L:=[(1,(Sl.v a1)),(7,(.map m9))]) (w':=w16) (e:=.exit 0) (I:=fun (s:Int×World) a w=>Has 72 [(26,(iV s.1)),(1,(Sl.v a1)),(7,(.map m9)),(24,(Sl.v a0)),(25,(iV (a0.n:Int)))] a/\w=s.2) ⟨u.sub ⟨rfl,rfl,rfl,rfl,rfl,aBP⟩,rfl⟩ e15 (fun a u=>?_) (fun hk17=>?_)
 .refine eC<|t_n<|wp_seq<|wp_seq<|aA<|qm u rfl fun a u=>q u (bZ u rfl zP) fun a u=>qm u rfl fun a u=>aC<|t_n<|wp_block<|?_;have⟨r37,e38,h⟩:=bs1 h;refine dH (n:=72) (L1:=fun i=>[]) (w1:=fun i=>i) (L2:=fun i=>[(4,(iV i.1))]) (w2:=fun i=>i.2) (e1:=.exit 2) (e2:=.ret) (I:=fun (s:Int×World) a w=>Has 72 [(38,(iV s.1)),(7,(.map m9)),(36,(Sl.v a1)),(37,(iV (a1.n:Int)))] a/\w=s.2) ⟨u.sub ⟨rfl,rfl,rfl,rfl,aBP⟩,rfl⟩ e38 (fun i hi a u=>?_) (fun i hi a u=>?_) (fun hk42 hk43=>?_)
  .subst hi;obtain⟨w39,rfl⟩:∃ x,x=i:=⟨i,rfl⟩;dsimp only[Sum.elim_inl,Sum.elim_inr,u1,u2,u3,u4,u5,u6] at h;have u:Has 72 [] a:=u;refine eC<|t_n<|wp_seq<|aA<|qa u rfl fun a u=>aC<|t_n<|wp_ret<|?_;have y:=u;cases h;exact aX Try.results31 y rfl ⟨rfl,rfl⟩
  .subst hi;obtain⟨v40,w41⟩:=i;dsimp only[Sum.elim_inl,Sum.elim_inr,u1,u2,u3,u4,u5,u6] at h;have u:Has 72 [(4,(iV v40))] a:=u;refine b_r<|t_r<|?_;have y:=u;cases h;exact aX Try.results31 y rfl ⟨rfl,rfl⟩
  clear h;rintro⟨x35,w36⟩ a wq o ⟨u,hwq⟩ h hr44;obtain rfl:w36=wq:=hwq.symm;have u:Has 72 [(38,(iV x35)),(7,(.map m9)),(36,(Sl.v a1)),(37,(iV (a1.n:Int)))] a:=u;have h:fT a1 m9 x35 w36=some o:=h;unfold fT at h;refine wp_seq<|aA<|q u (eX u rfl rfl) fun a u=>aC<|t_n<|wp_seq<|?_;refine aF u rfl h (fun b45 h=>?_) (fun b45 h=>?_)
  .refine wp_skip<|t_n<|?_;obtain⟨o49,e47,h48⟩:=bsX h;clear h;refine iW (n:=72) (ι:=World) (Lf:=fun i=>[(7,(.map m9)),(36,(Sl.v a1)),(37,(iV (a1.n:Int))),(38,(iV x35))]) (wf:=fun i=>i) (C:=fun i=>o49=.inr i) (fun i hi a u=>?_) (fun hk50=>?_)
   .subst hi;obtain⟨w46,rfl⟩:∃ x,x=i:=⟨i,rfl⟩;have h:=h48;dsimp only[hJ,u1,u2,u3,u4,u5,u6] at h;have u:Has 72 [(7,(.map m9)),(36,(Sl.v a1)),(37,(iV (a1.n:Int))),(38,(iV x35))] a:=u;refine aA<|q u (dP u rfl rfl) fun a u=>qm u rfl fun a u=>aC<|?_;have y:=u;cases h;exact cP ⟨y.sb rfl,rfl⟩
   have h:=e47;refine wp_block<|wp_seq<|aA<|?_;have⟨p52,e53,h⟩:=bs1 h;refine q u (dL u rfl rfl zP zR e53) fun a u=>?_;have⟨c54,e55,h⟩:=bs1 h;refine q u (bE u rfl aAd zR e55) fun a u=>?_;have⟨p56,w57,e58,h⟩:=bs2 h;refine q u (dG aAa (by kernel_rfl) e58) fun a u=>?_;have⟨w59,e60,h⟩:=bs1 h;refine q u (eU u rfl rfl zR ((jI e55).1) e60) fun a u=>aC<|t_n<|wp_seq<|wp_seq<|aA<|q u (aI u rfl yL rfl rfl Try.sizeOf51) fun a u=>?_;have⟨v61,e62,h⟩:=bs1 h;refine q u (aH u rfl Try.isAgg51 (aL e62)) fun a u=>q u (kE u rfl rfl) fun a u=>aC<|t_n<|?_;refine aF u rfl h (fun b63 h=>?_) (fun b63 h=>?_)
   .refine wp_exit<|t_x<|eC<|?_;have y:=u;cases h;exact hk50 _ rfl _ (y.sb rfl)
   refine wp_skip<|t_n<|wp_seq<|aA<|qm u rfl fun a u=>q u (aI u rfl yL rfl rfl yN) fun a u=>?_;have⟨v64,e65,h⟩:=bs1 h;refine q u (aH u rfl yP (cG e65)) fun a u=>?_;have⟨v66,w67,e68,h⟩:=bs2 h;refine q u (xE u rfl rfl e68) fun a u=>qa u rfl fun a u=>aC<|t_n<|wp_block<|wp_seq<|aA<|qm u rfl fun a u=>q u (cA u rfl rfl) fun a u=>qa u rfl fun a u=>aC<|t_n<|?_;refine aF u rfl h (fun b69 h=>?_) (fun b69 h=>?_)
   .refine wp_seq<|aA<|qa u rfl fun a u=>aC<|t_n<|wp_ret<|b_r<|b_r<|?_;have y:=u;have⟨g51,e70,h⟩:=bs1 h;cases h;cases h48;have h:=e70;have u:=y;refine t_r<|?_;have y:=u;cases h;cases hr44 _ rfl;refine gB<|?_;exact hk43 _ rfl _ (y.sb rfl)
   have⟨v71,w72,e73,h⟩:=bs2 h;refine iS (n:=72) (L:=[(52,(bV v71)),(7,(.map m9)),(36,(Sl.v a1)),(37,(iV (a1.n:Int))),(38,(iV x35))]) (w':=w72) (fun a u=>?_) (fun hk74=>?_)
   .refine aF u rfl h (fun b95 h=>?_) (fun b95 h=>?_)
    .refine wp_seq<|aA<|qa u rfl fun a u=>aC<|t_n<|wp_ret<|b_r<|b_r<|?_;have y:=u;have⟨g51,e96,h⟩:=bs1 h;cases h;cases h48;have h:=e96;have u:=y;refine t_r<|?_;have y:=u;cases h;cases hr44 _ rfl;refine gB<|?_;exact hk43 _ rfl _ (y.sb rfl)
    refine wp_skip<|b_n<|b_n<|?_;have y:=u;cases h;exact hk50 _ rfl _ (y.sb rfl)
   clear h;have h:=e73;refine wp_seq<|?_;have⟨v75,w76,e77,h⟩:=bs2 h;refine aW (n:=72) (L:=[(52,(bV v75)),(7,(.map m9)),(11,(pV (some p56))),(12,(iV v66)),(36,(Sl.v a1)),(37,(iV (a1.n:Int))),(38,(iV x35))]) (w':=w76) (fun a u=>?_) (fun hk78=>?_)
   .refine t_n<|?_;refine aF u rfl h (fun b82 h=>?_) (fun b82 h=>?_)
    .refine wp_skip<|?_;have y:=u;cases h;exact hk74 _ (y.sb rfl)
    have⟨v83,w84,e85,h⟩:=bs2 h;refine aW (n:=72) (L:=[(52,(bV v83)),(7,(.map m9)),(36,(Sl.v a1)),(37,(iV (a1.n:Int))),(38,(iV x35))]) (w':=w84) (fun a u=>?_) (fun hk86=>?_)
    .have y:=u;cases h;exact hk74 _ (y.sb rfl)
    clear h;have h:=e85;refine aA<|q u (aI u rfl yL rfl rfl zH) fun a u=>?_;have⟨v87,e88,h⟩:=bs1 h;refine q u (aH u rfl zO (aL e88)) fun a u=>?_;have⟨v89,w90,e91,h⟩:=bs2 h;refine q u (dc1 u rfl Try.call52 (mK e91)) fun a u=>q u (eP u rfl) fun a u=>qm u rfl fun a u=>?_;refine bU h (fun b92 h=>?_) (fun b92 h=>?_)
    .refine qg u 64 b92 (aD u rfl) fun a u=>qg u 64 b92 (aI u rfl yL rfl rfl zI) fun a u=>qg u 64 b92 (aI u rfl zD rfl rfl yR) fun a u=>?_;have⟨v93,e94,h⟩:=bs1 h;refine qg u 64 b92 (aH u rfl yS (aL e94)) fun a u=>qg u 64 b92 (kE u rfl rfl) fun a u=>q u (aK u rfl b92 rfl) fun a u=>qa u rfl fun a u=>aC<|?_;have y:=u;cases h;exact hk86 _ (y.sb rfl)
    refine qn u 64 (nm b92) fun a u=>qn u 64 (nm b92) fun a u=>qn u 64 (nm b92) fun a u=>qn u 64 (nm b92) fun a u=>qn u 64 (nm b92) fun a u=>q u (aJ u rfl b92 rfl) fun a u=>qa u rfl fun a u=>aC<|?_;have y:=u;cases h;exact hk86 _ (y.sb rfl)
   clear h;have h:=e77;refine aA<|q u (aI u rfl yL rfl rfl zH) fun a u=>?_;have⟨v79,e80,h⟩:=bs1 h;refine q u (aH u rfl zO (aL e80)) fun a u=>q u (cA u rfl rfl) fun a u=>qm u rfl fun a u=>?_;refine bU h (fun b81 h=>?_) (fun b81 h=>?_)
   .refine qg u 56 b81 (aD u rfl) fun a u=>qg u 56 b81 (kE u rfl rfl) fun a u=>q u (aK u rfl b81 rfl) fun a u=>qa u rfl fun a u=>aC<|?_;have y:=u;cases h;exact hk78 _ (y.sb rfl)
   refine qn u 56 (nm b81) fun a u=>qn u 56 (nm b81) fun a u=>q u (aJ u rfl b81 rfl) fun a u=>qa u rfl fun a u=>aC<|?_;have y:=u;cases h;exact hk78 _ (y.sb rfl)
  refine wp_exit<|t_x<|?_;have y:=u;cases h;cases hr44 _ rfl;refine iE<|?_;exact hk42 _ rfl _ (y.sb rfl)
 clear h;rintro⟨x12,w13⟩ a wq o ⟨u,hwq⟩ h hr18;obtain rfl:w13=wq:=hwq.symm;have u:Has 72 [(26,(iV x12)),(1,(Sl.v a1)),(7,(.map m9)),(24,(Sl.v a0)),(25,(iV (a0.n:Int)))] a:=u;have h:fR a0 m9 x12 w13=some o:=h;unfold fR at h;refine wp_seq<|aA<|q u (eX u rfl rfl) fun a u=>aC<|t_n<|wp_seq<|?_;refine aF u rfl h (fun b19 h=>?_) (fun b19 h=>?_)
 .refine wp_skip<|t_n<|wp_seq<|wp_block<|wp_seq<|aA<|?_;have⟨p20,e21,h⟩:=bs1 h;refine q u (dL u rfl rfl zL zW e21) fun a u=>?_;have⟨c22,e23,h⟩:=bs1 h;refine q u (bE u rfl Try.isAgg33 zW e23) fun a u=>?_;have⟨p24,w25,e26,h⟩:=bs2 h;refine q u (dG aAc (by kernel_rfl) e26) fun a u=>?_;have⟨w27,e28,h⟩:=bs1 h;refine q u (eU u rfl rfl zW ((jI e23).1) e28) fun a u=>aC<|t_n<|aA<|qm u rfl fun a u=>q u (aI u rfl zM rfl rfl yN) fun a u=>?_;have⟨v29,e30,h⟩:=bs1 h;refine q u (aH u rfl yP (cG e30)) fun a u=>q u (aI u rfl zM rfl rfl yR) fun a u=>?_;have⟨v31,e32,h⟩:=bs1 h;refine q u (aH u rfl yS (aL e32)) fun a u=>?_;have⟨w33,e34,h⟩:=bs1 h;refine q u (xI u rfl rfl rfl e34) fun a u=>aC<|b_n<|t_n<|aA<|q u (dP u rfl rfl) fun a u=>qm u rfl fun a u=>aC<|?_;have y:=u;cases h;exact cP ⟨y.sb rfl,rfl⟩
 refine wp_exit<|t_x<|?_;have y:=u;cases h;cases hr18 _ rfl;refine iE<|?_;exact hk17 _ (y.sb rfl)
noncomputable def fV (a0:List Value) (a1:Addr) (w:World):Option (Bool×World) :=
 aE (mk w 33 a0) fun p1 w2 =>
 (ldS w2 (p1.add 0)).bind fun v4 =>
 (ldS w2 a1).bind fun v6 =>
 some ((sEq v4 v6),w2)
theorem lW {a0 a1 w w' r0} (h:fV a0 a1 w=some (r0,w')):Calls Try.prog 34 #[(.agg (List.toArray a0)),(.pointer (some a1))] w fun e w''=>e=.returned (.bool r0)/\w''=w':=by
 refine aG (n:=8) Try.func34 rfl Try.ntmps34 (by simp) fun a u=>?_;unfold fV at h;refine wp_seq<|aA<|?_;have⟨p1,w2,e3,h⟩:=bs2 h;refine q u (dJ u rfl rfl e3) fun a u=>qa u rfl fun a u=>aC<|t_n<|wp_seq<|aA<|q u (aI u rfl zM rfl rfl yN) fun a u=>?_;have⟨v4,e5,h⟩:=bs1 h;refine q u (aH u rfl yP (cG e5)) fun a u=>?_;have⟨v6,e7,h⟩:=bs1 h;refine q u (aH u rfl yP (cG e7)) fun a u=>q u (tM u rfl rfl) fun a u=>qa u rfl fun a u=>aC<|t_n<|wp_ret<|?_;have y:=u;cases h;exact aX Try.results34 y rfl ⟨rfl,rfl⟩
noncomputable def aU (a0:Sl) (a1_0:Addr) (x1:Int) (w2:World):Option ((Int×World)⊕((World)⊕(Int×World))) :=
 if (decide (x1<(a0.n:Int)))=true then
 ((ix a0 x1 2).bind fun p12 =>
 (ldA 2 w2 p12 0).bind fun c14 =>
 aE (fV c14 a1_0 w2) fun v16 w17 =>
 if v16=true then
 (some (.inr (.inr (x1,w17))))
 else
 (some (.inl ((IntKind.wrap .i64 (x1+1)),w17))))
 else
 (some (.inr (.inl w2)))
noncomputable def bD (a0:Sl) (a1_0:Addr) (w:World):Option (Int×World) :=
 (bB (fun s:Int×World=>aU a0 a1_0 s.1 s.2) (0,w)).bind fun r3=>Sum.elim (fun (i:World)=>u1 i fun w5 =>
 some ((-1),w5)) (fun (i:Int×World)=>u2 i fun v6 w7 =>
 some (v6,w7)) r3
theorem fQ {a0 a1_0 w w' r0} (h:bD a0 a1_0 w=some (r0,w')):Calls Try.prog 33 #[(Sl.v a0),(.func (.func 34) #[] #[(.pointer (some a1_0))])] w fun e w''=>e=.returned (.int .i64 r0)/\w''=w':=by
 refine aG (n:=19) Try.func33 rfl Try.ntmps33 (by simp) fun a u=>?_;unfold bD at h;refine wp_seq<|aA<|qa u rfl fun a u=>aC<|t_n<|wp_seq<|wp_seq<|aA<|qm u rfl fun a u=>q u (bZ u rfl zL) fun a u=>qm u rfl fun a u=>aC<|t_n<|wp_block<|?_;have⟨r3,e4,h⟩:=bs1 h;refine dH (n:=19) (L1:=fun i=>[]) (w1:=fun i=>i) (L2:=fun i=>[(4,(iV i.1))]) (w2:=fun i=>i.2) (e1:=.exit 0) (e2:=.ret) (I:=fun (s:Int×World) a w=>Has 19 [(8,(iV s.1)),(0,(Sl.v a0)),(1,(.func (.func 34) #[] #[(pV (some a1_0))])),(7,(iV (a0.n:Int)))] a/\w=s.2) ⟨u.sub ⟨rfl,rfl,rfl,rfl,aBP⟩,rfl⟩ e4 (fun i hi a u=>?_) (fun i hi a u=>?_) (fun hk8 hk9=>?_)
 .subst hi;obtain⟨w5,rfl⟩:∃ x,x=i:=⟨i,rfl⟩;dsimp only[Sum.elim_inl,Sum.elim_inr,u1,u2,u3,u4,u5,u6] at h;have u:Has 19 [] a:=u;refine eC<|t_n<|wp_seq<|aA<|qa u rfl fun a u=>aC<|t_n<|wp_ret<|?_;have y:=u;cases h;exact aX Try.results33 y rfl ⟨rfl,rfl⟩
 .subst hi;obtain⟨v6,w7⟩:=i;dsimp only[Sum.elim_inl,Sum.elim_inr,u1,u2,u3,u4,u5,u6] at h;have u:Has 19 [(4,(iV v6))] a:=u;refine b_r<|t_r<|?_;have y:=u;cases h;exact aX Try.results33 y rfl ⟨rfl,rfl⟩
 clear h;rintro⟨x1,w2⟩ a wq o ⟨u,hwq⟩ h hr10;obtain rfl:w2=wq:=hwq.symm;have u:Has 19 [(8,(iV x1)),(0,(Sl.v a0)),(1,(.func (.func 34) #[] #[(pV (some a1_0))])),(7,(iV (a0.n:Int)))] a:=u;have h:aU a0 a1_0 x1 w2=some o:=h;unfold aU at h;refine wp_seq<|aA<|q u (eX u rfl rfl) fun a u=>aC<|t_n<|wp_seq<|?_;refine aF u rfl h (fun b11 h=>?_) (fun b11 h=>?_)
 .refine wp_skip<|t_n<|wp_seq<|wp_block<|wp_seq<|aA<|qm u rfl fun a u=>qa u rfl fun a u=>aC<|t_n<|wp_seq<|aA<|qm u rfl fun a u=>qm u rfl fun a u=>qm u rfl fun a u=>?_;have⟨p12,e13,h⟩:=bs1 h;refine q u (dL u rfl rfl zL zW e13) fun a u=>?_;have⟨c14,e15,h⟩:=bs1 h;refine q u (bE u rfl Try.isAgg33 zW e15) fun a u=>?_;have⟨v16,w17,e18,h⟩:=bs2 h;refine q u (fD (xs:=[_]) (vs:=[(.agg (List.toArray c14))]) (cv:=[(pV (some a1_0))]) u rfl ⟨rfl,aBP⟩ Try.call34 (lW e18)) fun a u=>aC<|t_n<|?_;refine aF u rfl h (fun b19 h=>?_) (fun b19 h=>?_)
  .refine wp_seq<|aA<|qm u rfl fun a u=>qa u rfl fun a u=>aC<|t_n<|wp_ret<|b_r<|t_r<|?_;have y:=u;cases h;cases hr10 _ rfl;refine gB<|?_;exact hk9 _ rfl _ (y.sb rfl)
  refine wp_skip<|b_n<|t_n<|aA<|q u (dP u rfl rfl) fun a u=>qm u rfl fun a u=>aC<|?_;have y:=u;cases h;exact cP ⟨y.sb rfl,rfl⟩
 refine wp_exit<|t_x<|?_;have y:=u;cases h;cases hr10 _ rfl;refine iE<|?_;exact hk8 _ rfl _ (y.sb rfl)
noncomputable def hG (a0:ByteArray) (a1:Addr) (w:World):Option (Int×World) :=
 aE (mk w 9 ([(.string a0)])) fun p1 w2 =>
 (dr w2).bind fun w4 =>
 (ldL w4 a1).bind fun v6 =>
 (ldL w4 a1).bind fun v8 =>
 aE (bD v8 p1 w4) fun v10 w11 =>
 (ix v6 v10 2).bind fun p13 =>
 (ldI .i64 w11 (p13.add 1)).bind fun v15 =>
 chk (ldL w11 a1=some v6) <|
 some (v15,w11)
theorem mR {a0 a1 w w' r0} (h:hG a0 a1 w=some (r0,w')):Calls Try.prog 32 #[(.string a0),(.pointer (some a1))] w fun e w''=>e=.returned (.int .i64 r0)/\w''=w':=by
 refine aG (n:=11) Try.func32 rfl Try.ntmps32 (by simp) fun a u=>?_;unfold hG at h;refine wp_seq<|aA<|?_;have⟨p1,w2,e3,h⟩:=bs2 h;refine q u (dJ u rfl rfl e3) fun a u=>qa u rfl fun a u=>aC<|t_n<|wp_seq<|?_;have⟨w4,e5,h⟩:=bs1 h;have⟨v6,e7,h⟩:=bs1 h;have⟨v8,e9,h⟩:=bs1 h;have⟨v10,w11,e12,h⟩:=bs2 h;have⟨p13,e14,h⟩:=bs1 h;have⟨v15,e16,h⟩:=bs1 h;obtain⟨e17,h⟩:=dO h;have u:Has 11 [(1,(pV (some a1))),(2,(pV (some p1)))] a:=u.sb rfl;refine bC (n:=11) (ds:=(aN (Sl.v v6) false 0 1 [] [(1,(pV (some a1)))]::aQ (Sl.v v8) 0 [] 1 (pV (some a1))::aQ (.func (.func 34) #[] #[(pV (some p1))]) 0 [] 2 (pV (some p1))::aN (iV v10) true 0 0 [1,2] [(5,(Sl.v v8)),(6,(.func (.func 34) #[] #[(pV (some p1))]))]::bY (pV (some p13)) 1 (rn 0 4) [(4,(Sl.v v6)),(7,(iV v10))]::aQ (pV (some (p13.add 1))) 1 (rn 0 5) 8 (pV (some p13))::aQ (iV v15) 1 (rn 0 6) 9 (pV (some (p13.add 1)))::dD (iV v15) 1 (rn 0 7) 10::[])) (W:=(fun j=>match j with | 0=>w4 | 1=>w11 | _=>w11)) (by kernel_rfl) u (gN e5) (by kernel_rfl) ?_ (bA (by kernel_rfl)) (by kernel_rfl) (m:=1) (by kernel_rfl) (fun a u=>?_)
 .refine⟨?_,oc 0 (kd (aH · rfl aAg (bG e9))),oa (kY (vs:=[(pV (some p1))]) · ⟨rfl,aBP⟩),oc 0 (kd (fP (xs:=[_,_]) (vs:=[(Sl.v v8),(.func (.func 34) #[] #[(pV (some p1))])]) · ⟨rfl,rfl,aBP⟩ Try.call33 (fQ e12))),oa (dL · rfl rfl zL zW e14),oa (aI · rfl zM rfl rfl yR),oc 1 (kd (aH · rfl yS (aL e16))),oa (dZ · rfl),aBP⟩;intro j h1 h2;have h1:0<=j:=h1;have h2:j<=1:=h2;rcases(by omega:j=0\/j=1) with rfl | rfl
  .exact kd (aH · rfl aAg (bG e7))
  exact kd (aH · rfl aAg (bG e17))
 have u:Has 11 [(3,(iV v15))] a:=u.sb rfl;refine t_n<|wp_ret<|?_;have y:=u;cases h;exact aX Try.results32 y rfl ⟨rfl,rfl⟩
noncomputable def jT (a0:Bool) (w:World):Option (Int×World) :=
 if a0=true then
 (some (1,w))
 else
 (some (0,w))
theorem kI {a0 w w' r0} (h:jT a0 w=some (r0,w')):Calls Try.prog 80 #[(.bool a0)] w fun e w''=>e=.returned (.int .i64 r0)/\w''=w':=by
 refine aG (n:=4) Try.func80 rfl Try.ntmps80 (by simp) fun a u=>?_;unfold jT at h;refine wp_seq<|aA<|qa u rfl fun a u=>aC<|t_n<|wp_seq<|wp_seq<|aA<|qm u rfl fun a u=>aC<|t_n<|?_;refine aF u rfl h (fun b1 h=>?_) (fun b1 h=>?_)
 .refine wp_seq<|aA<|qa u rfl fun a u=>aC<|t_n<|wp_ret<|t_r<|?_;have y:=u;cases h;exact aX Try.results80 y rfl ⟨rfl,rfl⟩
 refine wp_skip<|t_n<|wp_seq<|aA<|qa u rfl fun a u=>aC<|t_n<|wp_ret<|?_;have y:=u;cases h;exact aX Try.results80 y rfl ⟨rfl,rfl⟩
noncomputable def dQ (a0:ByteArray) (a1:Int) (w:World):Option ((List Value)×World) :=
 aE (mk w 40 ([.string ByteArray.empty,.int .i64 0,.bool false,.int .i64 0,.int .i64 0,.string ByteArray.empty,.string ByteArray.empty,.bool false,.int .u8 0,.bool false,.slice none 0 0,.slice none 0 0])) fun p1 w2 =>
 aE (jT (a1==1) w2) fun v4 w5 =>
 aE (jT (a1==1) w5) fun v7 w8 =>
 aE (jT (a1==3) w8) fun v10 w11 =>
 (stA w11 p1 0 ([.string a0,.int .i64 a1,.bool false,.int .i64 (IntKind.wrap .i64 ((-9223372036854775808)*v4)),.int .i64 (IntKind.wrap .i64 (9223372036854775807*v7)),.string ByteArray.empty,.string ByteArray.empty,.bool (a1==2),.int .u8 (IntKind.wrap .u8 (IntKind.wrap .i64 (3*v10))),.bool false,.slice none 0 0,.slice none 0 0])).bind fun w13 =>
 (ldA 12 w13 p1 0).bind fun v15 =>
 some (v15,w13)
theorem eM {a0 a1 w w' r0} (h:dQ a0 a1 w=some (r0,w')):Calls Try.prog 78 #[(.string a0),(.int .i64 a1)] w fun e w''=>e=.returned (.agg (List.toArray r0))/\w''=w':=by
 refine aG (n:=23) Try.func78 rfl Try.ntmps78 (by simp) fun a u=>?_;unfold dQ at h;refine wp_seq<|aA<|?_;have⟨p1,w2,e3,h⟩:=bs2 h;refine q u (dG yZ (by kernel_rfl) e3) fun a u=>aC<|t_n<|wp_seq<|aA<|qm u rfl fun a u=>qm u rfl fun a u=>qm u rfl fun a u=>q u (cA u rfl rfl) fun a u=>?_;have⟨v4,w5,e6,h⟩:=bs2 h;refine q u (dc1 u rfl Try.call80 (kI e6)) fun a u=>q u (lC u rfl rfl) fun a u=>qm u rfl fun a u=>q u (cA u rfl rfl) fun a u=>?_;have⟨v7,w8,e9,h⟩:=bs2 h;refine q u (dc1 u rfl Try.call80 (kI e9)) fun a u=>q u (lC u rfl rfl) fun a u=>qm u rfl fun a u=>q u (cA u rfl rfl) fun a u=>qm u rfl fun a u=>q u (cA u rfl rfl) fun a u=>?_;have⟨v10,w11,e12,h⟩:=bs2 h;refine q u (dc1 u rfl Try.call80 (kI e12)) fun a u=>q u (lC u rfl rfl) fun a u=>q u (wH u rfl Try.runUnderlying2 Try.runUnderlying5) fun a u=>q u (gT (vs:=[(0,(.string a0)),(1,(iV a1)),(3,(iV (IntKind.wrap .i64 ((-9223372036854775808)*v4)))),(4,(iV (IntKind.wrap .i64 (9223372036854775807*v7)))),(7,(bV (a1==2))),(8,(.int .u8 (IntKind.wrap .u8 (IntKind.wrap .i64 (3*v10)))))]) (pl:=#[(0,1),(1,1),(2,1),(3,1),(4,1),(5,1),(6,1),(7,1),(8,1),(9,1),(10,1),(11,1)]) (cs:=([.string a0,.int .i64 a1,.bool false,.int .i64 (IntKind.wrap .i64 ((-9223372036854775808)*v4)),.int .i64 (IntKind.wrap .i64 (9223372036854775807*v7)),.string ByteArray.empty,.string ByteArray.empty,.bool (a1==2),.int .u8 (IntKind.wrap .u8 (IntKind.wrap .i64 (3*v10))),.bool false,.slice none 0 0,.slice none 0 0])) u ⟨rfl,rfl,rfl,rfl,rfl,rfl,rfl,rfl,rfl,rfl,rfl,rfl,aBP⟩ yZ yG (by intro w;kernel_rfl) (by kernel_rfl)) fun a u=>?_;have⟨w13,e14,h⟩:=bs1 h;refine q u (eU u rfl rfl yH rfl e14) fun a u=>aC<|t_n<|wp_ret<|?_;have⟨v15,e16,h⟩:=bs1 h;have y:=u;cases h;exact wI (vs:=[_]) Try.results78 y ⟨⟨_,rfl,wD zC yH e16⟩,aBP⟩ ⟨rfl,rfl⟩
noncomputable def kN (a0:Option Addr) (w:World):Option (World) :=
 some w
theorem nF {a0 w w'} (h:kN a0 w=some w'):Calls Try.prog 53 #[(.pointer a0)] w fun e w''=>e=.returned (.tuple #[])/\w''=w':=by
 refine aG (n:=2) Try.func53 rfl Try.ntmps53 (by simp) fun a u=>?_;unfold kN at h;refine wp_skip<|?_;have y:=u;cases h;exact nP Try.results53 y ⟨rfl,rfl⟩
structure ND (α:Type) where
 t:(α->Prop)->Prop
 m:∀ {Q Q':α->Prop},(∀ a,Q a->Q' a)->t Q->t Q'
section
variable {α β γ δ ε ζ ρ S R ι : Type}
def cO (a:α):ND α:=⟨fun Q=>Q a,fun h k=>h _ k⟩
def nX:ND α:=⟨fun _=>False,fun _ k=>k⟩
def nck (p:Prop) (x:ND α):ND α:=⟨fun Q=>p/\x.t Q,fun h k=>⟨k.1,x.m h k.2⟩⟩
def lb1 (o:Option α) (f:α->ND ρ):ND ρ:=⟨fun Q=>∃ a,o=some a/\(f a).t Q,fun h ⟨a,e,k⟩=>⟨a,e,(f a).m h k⟩⟩
def lb2 (o:Option (α×β)) (f:α->β->ND ρ):ND ρ:=⟨fun Q=>∃ a b,o=some (a,b)/\(f a b).t Q,fun h ⟨a,b,e,k⟩=>⟨a,b,e,(f a b).m h k⟩⟩
def lb3 (o:Option (α×β×γ)) (f:α->β->γ->ND ρ):ND ρ:=⟨fun Q=>∃ a b c,o=some (a,b,c)/\(f a b c).t Q,fun h ⟨a,b,c,e,k⟩=>⟨a,b,c,e,(f a b c).m h k⟩⟩
def lb4 (o:Option (α×β×γ×δ)) (f:α->β->γ->δ->ND ρ):ND ρ:=⟨fun Q=>∃ a b c d,o=some (a,b,c,d)/\(f a b c d).t Q,fun h ⟨a,b,c,d,e,k⟩=>⟨a,b,c,d,e,(f a b c d).m h k⟩⟩
def lb5 (o:Option (α×β×γ×δ×ε)) (f:α->β->γ->δ->ε->ND ρ):ND ρ:=⟨fun Q=>∃ a b c d x,o=some (a,b,c,d,x)/\(f a b c d x).t Q,fun h ⟨a,b,c,d,x,e,k⟩=>⟨a,b,c,d,x,e,(f a b c d x).m h k⟩⟩
def cb1 (x:ND α) (f:α->ND ρ):ND ρ:=⟨fun Q=>x.t fun i=>(f i).t Q,fun h=>x.m fun i=>(f i).m h⟩
def cb2 (x:ND (α×β)) (f:α->β->ND ρ):ND ρ:=⟨fun Q=>x.t fun i=>(f i.1 i.2).t Q,fun h=>x.m fun i=>(f i.1 i.2).m h⟩
def cb3 (x:ND (α×β×γ)) (f:α->β->γ->ND ρ):ND ρ:=⟨fun Q=>x.t fun i=>(f i.1 i.2.1 i.2.2).t Q,fun h=>x.m fun i=>(f i.1 i.2.1 i.2.2).m h⟩
def cbX (x:ND (ρ⊕α)) (f:α->ND ρ):ND ρ:=⟨fun Q=>x.t (Sum.elim Q fun i=>(f i).t Q),fun h=>x.m fun i=>by cases i with | inl r=>exact h r | inr i=>exact(f i).m h⟩
def mY (step:S->ND (S⊕R)) (s:S):ND R :=
 ⟨fun Q=>∀ X:S->Prop,(∀ s,(step s).t (Sum.elim X Q)->X s)->X s,fun h k X hX=>k X fun s hs=>hX s ((step s).m (fun i=>by cases i with | inl x=>exact id | inr r=>exact h r) hs)⟩
variable {Q : ρ -> Prop}
theorem un1 {x:ND α} {f:α->ND ρ} (h:(cb1 x f).t Q):x.t fun i=>(f i).t Q:=h
theorem un2 {x:ND (α×β)} {f:α->β->ND ρ} (h:(cb2 x f).t Q):x.t fun i=>(f i.1 i.2).t Q:=h
theorem un3 {x:ND (α×β×γ)} {f:α->β->γ->ND ρ} (h:(cb3 x f).t Q):x.t fun i=>(f i.1 i.2.1 i.2.2).t Q:=h
theorem unX {x:ND (ρ⊕α)} {f:α->ND ρ} (h:(cbX x f).t Q):x.t (Sum.elim Q fun i=>(f i).t Q):=h
theorem unL {x:ND ρ} {K:α->Prop} (h:(cb1 x fun g=>cO (.inl g)).t (Sum.elim Q K)):x.t Q:=h
theorem oD {b:Bool} {A B:ND ρ} {G:Prop} (h:(if b=true then A else B).t Q) (ht:b=true->A.t Q->G) (hf:b≠true->B.t Q->G):G:=by
 by_cases e:b=true
 .exact ht e (by rwa[if_pos e] at h)
 exact hf e (by rwa[if_neg e] at h)
end
section
variable {ρ ι : Type} {P : Program} {n : Nat} {L : List (Nat × Value)} {a : Act} {w : World} {Q : Exit -> Act -> World -> Prop}
theorem cJ {c:Operand} {x y:Code} {b:Bool} {A B:ND ρ} {C:ρ->Prop} (ha:Has n L a) (hc:evO L c=some (.bool b)) (h:(if b=true then A else B).t C)
  (ht:b=true->A.t C->x.wp P Q a w) (hf:b=false->B.t C->y.wp P Q a w):(Code.cond c x y).wp P Q a w:=by
 refine wp_cond_split (ha.ev hc) (fun e=>ht e ?_) (fun e=>hf e ?_)
 .rwa[if_pos e] at h
 rwa[if_neg (by simp[e])] at h
theorem mU {x y:Code} {X:ND ι} {Lf:ι->List (Nat×Value)} {wf:ι->World} {C:ι->Prop} (h:X.t C) (hk:∀ i,C i->∀ a,Has n (Lf i) a->y.wp P Q a (wf i))
  (hx:X.t C->(∀ i,C i->∀ a,Has n (Lf i) a->Exit.then (y.wp P Q) Q .normal a (wf i))->x.wp P (Exit.then (y.wp P Q) Q) a w):(Code.seq x y).wp P Q a w :=
 wp_seq (hx h hk)
theorem kL {x y:Code} {X:ND (ρ⊕ι)} {Lf:ι->List (Nat×Value)} {wf:ι->World} {C0:ρ->Prop} {C:ι->Prop} (h:X.t (Sum.elim C0 C)) (hk:∀ i,C i->∀ a,Has n (Lf i) a->y.wp P Q a (wf i))
  (hx:X.t (Sum.elim C0 C)->(∀ i,C i->∀ a,Has n (Lf i) a->Exit.then (y.wp P Q) Q .normal a (wf i))->x.wp P (Exit.then (y.wp P Q) Q) a w):(Code.seq x y).wp P Q a w :=
 wp_seq (hx h hk)
theorem gU {c:Code} {X:ND ι} {Lf:ι->List (Nat×Value)} {wf:ι->World} {C:ι->Prop} (h:X.t C) (hk:∀ i,C i->∀ a,Has n (Lf i) a->Q .normal a (wf i))
  (hx:X.t C->(∀ i,C i->∀ a,Has n (Lf i) a->Q .normal a (wf i))->c.wp P Q a w):c.wp P Q a w:=hx h hk
theorem uL {S R:Type} {step:S->ND (S⊕R)} {I:S->Act->World->Prop} {C:R->Prop} {body:Code} {s0:S}
  (h:(mY step s0).t C) (hI:I s0 a w)
  (hb:∀ (X:S->Prop) s a w,I s a w->(step s).t (Sum.elim X C)->body.wp P (Exit.then (fun a w=>∃ s,I s a w/\X s) Q) a w):(Code.loop body).wp P Q a w:=by
 have key:=h (fun s=>∀ a w,I s a w->∀ (b:Frame) (k:List Item) (cs:List Frame),∃ e a' w',Q e a' w'/\Arrives P (lone (b.at a (.code body :: .inLoop body::k)) cs w) b k cs e a' w') ?_
 .intro b k cs;obtain⟨e,a',w',hq,harr⟩:=key a w hI b k cs;exact⟨e,a',w',hq,.of_steps (.one step_loop) harr⟩
 intro s hs a w hIs b k cs;obtain⟨e,a₁,w₁,hq,harr⟩:=hb _ s a w hIs hs b (.inLoop body::k) cs
 cases e with
 | normal =>
  obtain⟨s',hI',hX⟩:=hq;obtain⟨e₂,a₂,w₂,hq₂,harr₂⟩:=hX a₁ w₁ hI' b k cs;exact⟨e₂,a₂,w₂,hq₂,.of_steps (Steps.trans harr (.one step_inLoop)) harr₂⟩
 | exit id=>exact⟨_,a₁,w₁,hq,.pass rfl (fun _ _=>.inl (by simp)) harr⟩
 | goto l=>exact⟨_,a₁,w₁,hq,.pass rfl (fun _ _=>.inl (by simp)) harr⟩
 | ret=>exact⟨_,a₁,w₁,hq,.pass rfl (fun _ _=>.inl (by simp)) harr⟩
 | panic ch=>exact⟨_,a₁,w₁,hq,.pass rfl (fun _ _=>.inl (by simp)) harr⟩
 | outgrown=>exact⟨_,a₁,w₁,hq,.pass rfl (fun _ _=>.inl (by simp)) harr⟩
theorem qC {S R1 R2:Type} {step:S->ND (S⊕(R1⊕R2))} {I:S->Act->World->Prop} {C:R1⊕R2->Prop} {body:Code} {s0:S} {e1 e2:Exit} {L1:R1->List (Nat×Value)} {w1:R1->World} {L2:R2->List (Nat×Value)} {w2:R2->World}
  (h:(mY step s0).t C) (hI:I s0 a w) (hk1:∀ i,C (.inl i)->∀ a,Has n (L1 i) a->Q e1 a (w1 i)) (hk2:∀ i,C (.inr i)->∀ a,Has n (L2 i) a->Q e2 a (w2 i))
  (hb:(∀ i,C (.inl i)->∀ a,Has n (L1 i) a->Q e1 a (w1 i))->(∀ i,C (.inr i)->∀ a,Has n (L2 i) a->Q e2 a (w2 i))->∀ (X:S->Prop) s a w,I s a w->(step s).t (Sum.elim X C)->body.wp P (Exit.then (fun a w=>∃ s,I s a w/\X s) Q) a w):(Code.loop body).wp P Q a w:=uL h hI (hb hk1 hk2)
theorem eT {ops:Array Oper} {rest:List Oper} {d ty pos af f} {xs:List Operand} {ts:Array TypeId} {vs:List Value} {pk:ι->Value} {wf:ι->World} {C:ι->Prop} (ha:Has n L a) (hx:evs L xs vs) (hf:∀ (args:Array Value) (w:World),(callFunc f args).run P w = .ok (.enter f args) w)
  (h:Calls P f vs.toArray w fun e w''=>∃ i,e = .returned (pk i)/\C i/\w''=wf i) (hr:∀ i,C i->∀ a',Has n (upd d (pk i) L) a'->wpList P ops Q rest a' (wf i)) (hd:ltb n d=true:=by rfl) :
  wpList P ops Q (⟨d,.call { callee:=.value (.func f),args:=xs.toArray,argTypes:=ts },ty,pos,af,none⟩::rest) a w:=by
 unfold wpList;rw[if_pos (by simp[Region.wanted])];left;unfold Oper.wp;have hrun:(execOp a.eval ⟨d,.call { callee:=.value (.func f),args:=xs.toArray,argTypes:=ts },ty,pos,af,none⟩).run P w = .ok (.enter f vs.toArray) w:=by
  simp[execOp,resolve,Deferred.ofValue,invoke,Act.eval,hf];have:=lK ha hx;exact this
 rw[hrun];refine h.mono fun e w' ⟨i,he,hC,hw⟩=>?_;subst he;subst hw;exact hr i hC _ (ha.put _ (ltd hd) _)
end
section
variable {α β γ δ ε ζ ρ S R : Type} {Φ : ρ -> Prop}
theorem Nd.ret {r:ρ} (h:Φ r):(cO r).t Φ:=h
theorem Nd.b1 {o:Option α} {a:α} {f:α->ND ρ} (e:o=some a) (h:(f a).t Φ):(lb1 o f).t Φ:=⟨a,e,h⟩
theorem Nd.s1 {a:α} {f:α->ND ρ} (h:(f a).t Φ):(lb1 (some a) f).t Φ:=⟨a,rfl,h⟩
theorem Nd.b2 {o:Option (α×β)} {a:α} {b:β} {f:α->β->ND ρ} (e:o=some (a,b)) (h:(f a b).t Φ):(lb2 o f).t Φ:=⟨a,b,e,h⟩
theorem Nd.b3 {o:Option (α×β×γ)} {a:α} {b:β} {c:γ} {f:α->β->γ->ND ρ} (e:o=some (a,b,c)) (h:(f a b c).t Φ):(lb3 o f).t Φ:=⟨a,b,c,e,h⟩
theorem Nd.b4 {o:Option (α×β×γ×δ)} {a:α} {b:β} {c:γ} {d:δ} {f:α->β->γ->δ->ND ρ} (e:o=some (a,b,c,d)) (h:(f a b c d).t Φ):(lb4 o f).t Φ:=⟨a,b,c,d,e,h⟩
theorem Nd.b5 {o:Option (α×β×γ×δ×ε)} {a:α} {b:β} {c:γ} {d:δ} {x:ε} {f:α->β->γ->δ->ε->ND ρ} (e:o=some (a,b,c,d,x)) (h:(f a b c d x).t Φ):(lb5 o f).t Φ:=⟨a,b,c,d,x,e,h⟩
theorem Nd.ck {p:Prop} {x:ND ρ} (hp:p) (h:x.t Φ):(nck p x).t Φ:=⟨hp,h⟩
theorem Nd.t {c:Prop} [Decidable c] {A B:ND ρ} (hc:c) (h:A.t Φ):(if c then A else B).t Φ:=by rw[if_pos hc];exact h
theorem Nd.f {c:Prop} [Decidable c] {A B:ND ρ} (hc:¬ c) (h:B.t Φ):(if c then A else B).t Φ:=by rw[if_neg hc];exact h
theorem Nd.j1 {x:ND α} {f:α->ND ρ} {Ψ:α->Prop} (h:x.t Ψ) (k:∀ a,Ψ a->(f a).t Φ):(cb1 x f).t Φ:=x.m k h
theorem Nd.j2 {x:ND (α×β)} {f:α->β->ND ρ} {Ψ:α×β->Prop} (h:x.t Ψ) (k:∀ a b,Ψ (a,b)->(f a b).t Φ):(cb2 x f).t Φ:=x.m (fun i hi=>k _ _ hi) h
theorem Nd.j3 {x:ND (α×β×γ)} {f:α->β->γ->ND ρ} {Ψ:α×β×γ->Prop} (h:x.t Ψ) (k:∀ a b c,Ψ (a,b,c)->(f a b c).t Φ):(cb3 x f).t Φ:=x.m (fun i hi=>k _ _ _ hi) h
theorem Nd.jX {x:ND (ρ⊕α)} {f:α->ND ρ} {Ψ:α->Prop} (h:x.t (Sum.elim Φ Ψ)) (k:∀ a,Ψ a->(f a).t Φ):(cbX x f).t Φ:=x.m (fun i=>by cases i with | inl r=>exact id | inr i=>exact k i) h
theorem Nd.mono {x:ND ρ} {Ψ:ρ->Prop} (h:x.t Ψ) (k:∀ r,Ψ r->Φ r):x.t Φ:=x.m k h
theorem Nd.next {step:S->ND (S⊕R)} {s:S} {Φ:R->Prop} (h:(step s).t (Sum.elim (fun s'=>(mY step s').t Φ) Φ)):(mY step s).t Φ:=fun X hX =>
 hX s ((step s).m (fun i=>by cases i with | inl x=>exact fun h=>h X hX | inr r=>exact id) h)
end
def xH (X:List Nat) (ds:List OpD):Bool:=ds.zipIdx.all fun (d,i)=>d.cl.all fun k=>X.contains k||d.o.after.toList.any fun e=>Region.binds .any e&&decide (e.on<i)&&(k==e.on||((ds[e.on]?).any fun d'=>d'.cl.contains k))
def mC (X:List Nat) (ds:List OpD):Bool:=xH X ds&&qE ds&&uE ds&&vN ds&&pK ds
section
variable {P : Program} {n : Nat} {L0 : List (Nat × Value)} {Q : Exit -> Act -> World -> Prop}
theorem lF {ds:List OpD} {W:Nat->World} {X:List Nat} (hok:mC X ds=true) (hO:∀ (i:Nat) (d:OpD),ds[i]?=some d->¬ i∈X->∀ j,d.lo<=j->j<=d.hi->jK P n (ds.map (·.o)).toArray d.o d.li d.v (W j) (W (j+if d.e=true then 1 else 0))) (hR:hD ds L0) (hd:∀ (i:Nat) (d:OpD) (t:Nat),ds[i]?=some d->d.o.dst=some t->t<n)
  (hQ:∀ a,Has n (eQ ds 0 (fun _=>true) L0) a->Q .normal a (W (cnt ds 0 fun _=>true))) :
  ∀ (fuel:Nat) (listed:Array Bool) (a:Act),listed.size=ds.length->(∀ k∈X,listed.getD k false=true) ->
   (∀ (i:Nat) (d:OpD),ds[i]?=some d->listed.getD i false=true->∀ e∈d.o.after.toList,Region.binds .any e=true->listed.getD e.on false=true) ->
   Has n (eQ ds 0 (fun k=>listed.getD k false) L0) a->fuel=((List.range ds.length).filter fun i=>!listed.getD i false).length ->
   wpAny P .any (ds.map (·.o)).toArray Q fuel listed a (W (cnt ds 0 fun k=>listed.getD k false)):=by
 simp only[mC,aAl] at hok;obtain⟨⟨⟨⟨hcl,hds⟩,hli⟩,hrg⟩,hed⟩:=hok;have zi:∀ (i:Nat) (d:OpD),ds[i]?=some d->(d,i)∈ds.zipIdx:=fun i d h=>aAr.2 h;have hed':∀ (i:Nat) (d:OpD),ds[i]?=some d->∀ e∈d.o.after.toList,Region.binds .any e=true->e.on<i:=fun i d h e he hb=>by
  have:=aAj.1 (aAj.1 hed _ (zi i d h)) e he;simpa[hb] using this
 have hcl':∀ (i:Nat) (d:OpD),ds[i]?=some d->∀ k∈d.cl,k∈X\/∃ e∈d.o.after.toList,Region.binds .any e=true/\e.on<i/\(k=e.on\/∃ d',ds[e.on]?=some d'/\k∈d'.cl):=fun i d h k hk=>by
  have:=aAj.1 (aAj.1 hcl _ (zi i d h)) k hk;rcases aAA _ _ ▸ this with this | this
  .exact .inl (by simpa using this)
  right;obtain⟨e,he,hx⟩:=aAM.1 this;simp only[aAl,decide_eq_true_eq,aAA,beq_iff_eq,aBv,aAy] at hx;exact⟨e,he,hx.1.1,hx.1.2,hx.2⟩
 have hds':∀ (i k:Nat) (d d':OpD) (t:Nat),ds[i]?=some d->ds[k]?=some d'->i<k->d.o.dst=some t->d'.o.dst=some t->i∈d'.cl:=fun i k d d' t h h' hik ht ht'=>by
  have:=aAj.1 hds _ (zi i d h);simp only[ht,aBI] at this;have:=aAj.1 this _ (zi k d' h');simpa[hik,ht'] using this
 have hli':∀ (i k:Nat) (d d':OpD) (t:Nat) (u:Value),ds[i]?=some d->ds[k]?=some d'->(t,u)∈d.li->d'.o.dst=some t->k=i\/(k<i/\k∈d.cl)\/(i<k/\i∈d'.cl):=fun i k d d' t u h h' ht ht'=>by
  have:=aAj.1 (aAj.1 (aAj.1 hli _ (zi i d h)) _ ht) _ (zi k d' h');simp only[ht',bne_self_eq_false,aBL,aAA,beq_iff_eq,aAl,decide_eq_true_eq,aAy] at this;rcases this with(h1 | h1) | h1
  .exact .inl h1
  .exact .inr (.inl h1)
  exact .inr (.inr h1)
 have hrg':∀ (i:Nat) (d:OpD),ds[i]?=some d->d.lo<=(cnt ds 0 fun k=>d.cl.contains k)/\(cnt ds 0 fun k=>k !=i&&!((ds[k]?).any fun d'=>d'.cl.contains i))<=d.hi:=fun i d h=>by
  have:=aAj.1 hrg _ (zi i d h);simpa using this
 -- what lies ahead of a listed one is listed
 have closed:∀ (listed:Array Bool),(∀ k∈X,listed.getD k false=true)->(∀ (i:Nat) (d:OpD),ds[i]?=some d->listed.getD i false=true->∀ e∈d.o.after.toList,Region.binds .any e=true->listed.getD e.on false=true) ->
   ∀ (i:Nat) (d:OpD),ds[i]?=some d->(∀ e∈d.o.after.toList,Region.binds .any e=true->listed.getD e.on false=true)->∀ k∈d.cl,listed.getD k false=true:=by
  intro listed hX hc i
  induction i using Nat.strongRecOn with
  | _ i ih =>
   intro d hd0 he k hk;rcases hcl' i d hd0 k hk with hkX | ⟨e,he1,he2,he3,he4⟩
   .exact hX k hkX
   rcases he4 with rfl | ⟨d',hd',hk'⟩
   .exact he e he1 he2
   exact ih e.on he3 d' hd' (hc e.on d' hd' (he e he1 he2)) k hk'
 have opsAt:∀ (i:Nat),(ds.map fun d=>d.o).toArray[i]?=(ds[i]?).map (fun d:OpD=>d.o):=fun i=>by simp
 intro fuel
 induction fuel with
 | zero =>
  intro listed a hsz hX hc ha hf;have hall:∀ k,k<ds.length->listed.getD k false=true:=fun k hk=>by
   cases h:listed.getD k false with
   | true=>rfl
   | false =>
    have:k∈(List.range ds.length).filter fun i=>!listed.getD i false:=by simp[hk];simpa using h
    rw[aAv hf.symm] at this;cases this
  have e1:eQ ds 0 (fun k=>listed.getD k false) L0=eQ ds 0 (fun _=>true) L0:=by
   have key:∀ (l:List OpD) (m:Nat) (L:List (Nat×Value)),m+l.length<=ds.length->eQ l m (fun k=>listed.getD k false) L=eQ l m (fun _=>true) L:=by
    intro l
    induction l with
    | nil=>intro m L _;rfl
    | cons x xs ih=>intro m L hm;simp only[eQ];simp only[aAE] at hm;rw[if_pos (hall m (by omega)),if_pos trivial];exact ih _ _ (by omega)
   exact key ds 0 L0 (by omega)
  have e2:(cnt ds 0 fun k=>listed.getD k false)=cnt ds 0 fun _=>true:=tD ds 0 fun k hk=>by simpa using hall k hk
  rw[e2];refine⟨?_,hQ a (e1 ▸ ha)⟩;unfold Region.ready;rw[aBi];intro i hi;simp at hi;have:=hall i hi;simp only[aAh] at this ⊢;have h3:listed[i]?=some true:=by
   cases h4:listed[i]? with
   | none=>simp[h4] at this
   | some b=>simpa[h4] using this
  simp[h3]
 | succ fuel ih =>
  intro listed a hsz hX hc ha hf;have some_ready:Region.ready .any (ds.map (·.o)).toArray listed≠[]:=by
   have hne:((List.range ds.length).filter fun i=>!listed.getD i false)≠[]:=fun h=>by rw[h] at hf;cases hf
   obtain⟨x,hx⟩:=aAC _ hne;have hx':x<ds.length/\listed.getD x false=false:=by simpa using hx
   have hmin:∃ m,(m<ds.length/\listed.getD m false=false)/\∀ k,k<m->¬ (k<ds.length/\listed.getD k false=false):=by
    clear hx hf hne
    induction x using Nat.strongRecOn with
    | _ x ihx =>
     by_cases h:∃ k,k<x/\(k<ds.length/\listed.getD k false=false)
     .obtain⟨k,hk,hk'⟩:=h;exact ihx k hk hk'
     exact⟨x,hx',fun k hk hk'=>h ⟨k,hk,hk'⟩⟩
   obtain⟨m,⟨hm1,hm2⟩,hm3⟩:=hmin;intro hr;have:m∈Region.ready .any (ds.map (·.o)).toArray listed:=by
    unfold Region.ready;simp only[aAw,aAu,aAl,aAt];have hl:listed[m]?=some false:=by
     have h4:m<listed.size:=by omega
     simp only[aAh] at hm2;simpa[h4] using hm2
    refine⟨by simpa using hm1,by simp[hl],?_⟩;rw[opsAt];obtain⟨d,hd0⟩:∃ d,ds[m]?=some d:=⟨_,aAk hm1⟩;rw[hd0];simp only[aAq,aAx];rw[<-aAU,aAj];intro e he;by_cases hb:Region.binds .any e=true
    .have h5:=hed' m d hd0 e he hb;have h6:listed.getD e.on false=true:=by
      cases h7:listed.getD e.on false with
      | true=>rfl
      | false=>exact(hm3 e.on h5 ⟨by omega,h7⟩).elim
     simp[h6]
    simp at hb;simp[hb]
   rw[hr] at this;cases this
  refine⟨fun h=>(some_ready h).elim,fun i hi=>?_⟩;unfold Region.ready at hi;simp only[aAw,aAu,aAl,aAt] at hi;obtain⟨hi1,hi2,hi3⟩:=hi;have hi1':i<ds.length:=by simpa using hi1
  obtain⟨d,hd0⟩:∃ d,ds[i]?=some d:=⟨_,aAk hi1'⟩;have hun:listed.getD i false=false:=by
   have h4:i<listed.size:=by omega
   simp only[aAh] at hi2 ⊢;simpa[h4] using hi2
  rw[opsAt,hd0] at hi3;simp only[aAq,aAx] at hi3;rw[<-aAU,aAj] at hi3;have hed2:∀ e∈d.o.after.toList,Region.binds .any e=true->listed.getD e.on false=true:=fun e he hb=>by
   have:=hi3 e he;simpa[hb] using this
  have hcl2:=closed listed hX hc i d hd0 hed2;have notl:∀ k (d':OpD),ds[k]?=some d'->i∈d'.cl->listed.getD k false=false:=fun k d' hk hik=>by
   cases h:listed.getD k false with
   | false=>rfl
   | true =>
    have:=closed listed hX hc k d' hk (hc k d' hk h) i hik;rw[hun] at this;cases this
  have hj1:d.lo<=cnt ds 0 fun k=>listed.getD k false:=aAO (hrg' i d hd0).1 (kK ds 0 fun k d' h1 h2 h3=>by
   simp only[aBO] at h3 ⊢;exact hcl2 k (by simpa using h3))
  have hj2:(cnt ds 0 fun k=>listed.getD k false)<=d.hi:=aAO (kK ds 0 fun k d' h1 h2 h3=>by
   simp only[aBO] at h3 ⊢;simp only[aAl,bne_iff_ne,aAt,Option.any_eq_false];refine⟨fun e=>?_,fun d'' h4=>?_⟩
   .subst e;rw[hun] at h3;cases h3
   rw[h1] at h4;cases h4;simp only[List.contains_eq_mem,decide_eq_false_iff_not];intro h5;rw[notl k d' h1 h5] at h3;cases h3) (hrg' i d hd0).2
  have hop:=hO i d hd0 (fun h=>by have:=hX i h;rw[hun] at this;cases this) _ hj1 hj2;have hLi:Has n d.li a:=by
   have hs:=hD.get 0 hR hd0;refine⟨ha.d,ha.z,fun t v hv=>ha.l t v ?_⟩;have h1:=hs.look hv;obtain⟨u,hu⟩:=lZ hv;rw[gI] at h1 ⊢;rw[<-h1];congr 1;refine gM ds 0 fun k d' hk hkd=>?_;simp only[aBO];rcases hli' i k d d' t u hd0 hk hu hkd with rfl | ⟨h2,h3⟩ | ⟨h2,h3⟩
   .rw[hun];simp
   .rw[hcl2 k h3];simp[h2]
   rw[notl k d' hk h3];simp;omega
  have goal:=fun K hk=>hop a hLi K Q hk;unfold wpOp;rw[opsAt,hd0];simp only[aAq];have hK:=goal (wpAny P .any (ds.map (·.o)).toArray Q fuel (listed.setIfInBounds i true)) ?_
  .split
   .rename_i hw;rw[if_pos hw] at hK;exact .inl hK
   rename_i hw;rw[if_neg hw] at hK;exact hK
  have hset:∀ k,(listed.setIfInBounds i true).getD k false=fA (fun k=>listed.getD k false) i k:=fun k=>by
   simp only[fA,aAh];by_cases h:k=i
   .subst h;have:k<listed.size:=by omega
    simp[this]
   rw[aAp (Ne.symm h),if_neg h]
  have hset':(fun k=>(listed.setIfInBounds i true).getD k false)=fA (fun k=>listed.getD k false) i:=funext hset;have hcnt:=nH (S:=fun k=>listed.getD k false) (j:=i) ds 0 i d hd0 (by omega) hun;have hfin:=ih (listed.setIfInBounds i true) (a.put d.o.dst d.v) (by simpa using hsz) ?_ ?_ ?_ ?_
  .rw[hset',hcnt] at hfin;exact hfin
  .intro k hk;rw[hset];simp only[fA];split
   .rfl
   exact hX k hk
  .intro k d' hk hl e he hb;rw[hset] at hl ⊢;simp only[fA] at hl ⊢;split
   .rfl
   split at hl
   .rename_i h1 h2;subst h2;rw[hd0] at hk;cases hk;exact hed2 e he hb
   exact hc k d' hk hl e he hb
  .have hput:=ha.put d.o.dst (fun t ht=>hd i d t hd0 ht) d.v;refine⟨hput.d,hput.z,fun t v hv=>hput.l t v ?_⟩;rw[hset'] at hv;rw[kD];rw[gI] at hv ⊢;by_cases ht:d.o.dst=some t
   .rw[if_pos ht];rw[mM ds 0 i d hd0 ht (by simp[fA]) (fun k' d' h1 h2 h3=>by
     simp only[aBO,fA];rw[if_neg (by omega)];exact notl k' d' h2 (hds' i k' d d' t hd0 h2 h1 ht h3))] at hv
    simpa using hv
   rw[if_neg ht];rw[<-hv];congr 1;refine gM ds 0 fun k d' hk hkd=>?_;simp only[aBO,fA];split
   .rename_i h1;subst h1;rw[hd0] at hk;cases hk;exact(ht hkd).elim
   rfl
  have h1:(List.range ds.length).filter (fun k=>!(listed.setIfInBounds i true).getD k false)=((List.range ds.length).filter fun k=>!listed.getD k false).filter (fun k=>k !=i):=by
   rw[aBw];apply aBk;intro k _;rw[hset];simp only[fA];by_cases h:k=i<;>simp[h]
  rw[h1];have hmem:i∈(List.range ds.length).filter fun k=>!listed.getD k false:=by
   simp only[aAw,aAu];exact⟨hi1',by rw[hun];rfl⟩
  have hnd:((List.range ds.length).filter fun k=>!listed.getD k false).Nodup:=List.nodup_range.filter _;have:=hnd.erase_eq_filter i;rw[<-this,aBc hmem,<-hf];rfl
def tF (ds:List OpD) (Pv Dp:List Nat):Bool :=
 (Pv.all fun i=>Dp.contains i&&decide (i<ds.length)) &&
 ds.zipIdx.all fun (d,i)=>if Dp.contains i then Pv.contains i||d.o.after.toList.any (fun e=>Region.binds .any e&&Dp.contains e.on) else !d.e&&d.cl.all fun k=>!Dp.contains k
def xQ (ds ds':List OpD) (Dp:List Nat):Prop:=∀ (i:Nat) (d d':OpD),ds[i]?=some d->ds'[i]?=some d'->¬ i∈Dp->d.v=d'.v/\d.cl=d'.cl
theorem eD {listed:Array Bool} {i:Nat} (hi:i<listed.size) (k:Nat):(listed.setIfInBounds i true).getD k false=fA (fun k=>listed.getD k false) i k:=by
 simp only[fA,aAh];by_cases h:k=i
 .subst h;simp[hi]
 rw[aAp (Ne.symm h),if_neg h]
theorem rC {ds:List OpD} {listed:Array Bool} {a:Act} {i:Nat} {d:OpD} (hds:qE ds=true) (hd0:ds[i]?=some d) (hi:i<listed.size) (notl:∀ k (d':OpD),ds[k]?=some d'->i∈d'.cl->listed.getD k false=false)
  (ha:Has n (eQ ds 0 (fun k=>listed.getD k false) L0) a) (hd:∀ t,d.o.dst=some t->t<n):Has n (eQ ds 0 (fun k=>(listed.setIfInBounds i true).getD k false) L0) (a.put d.o.dst d.v):=by
 have hset':(fun k=>(listed.setIfInBounds i true).getD k false)=fA (fun k=>listed.getD k false) i:=funext (eD hi);have zi:∀ (i:Nat) (d:OpD),ds[i]?=some d->(d,i)∈ds.zipIdx:=fun i d h=>aAr.2 h;have hds':∀ (i k:Nat) (d d':OpD) (t:Nat),ds[i]?=some d->ds[k]?=some d'->i<k->d.o.dst=some t->d'.o.dst=some t->i∈d'.cl:=fun i k d d' t h h' hik ht ht'=>by
  have:=aAj.1 hds _ (zi i d h);simp only[ht,aBI] at this;have:=aAj.1 this _ (zi k d' h');simpa[hik,ht'] using this
 have hput:=ha.put d.o.dst hd d.v;refine⟨hput.d,hput.z,fun t v hv=>hput.l t v ?_⟩;rw[hset'] at hv;rw[kD];rw[gI] at hv ⊢;by_cases ht:d.o.dst=some t
 .rw[if_pos ht];rw[mM ds 0 i d hd0 ht (by simp[fA]) (fun k' d' h1 h2 h3=>by
   simp only[aBO,fA];rw[if_neg (by omega)];exact notl k' d' h2 (hds' i k' d d' t hd0 h2 h1 ht h3))] at hv
  simpa using hv
 rw[if_neg ht];rw[<-hv];congr 1;refine gM ds 0 fun k d' hk hkd=>?_;simp only[aBO,fA];split
 .rename_i h1;subst h1;rw[hd0] at hk;cases hk;exact(ht hkd).elim
 rfl
theorem pT {N fuel:Nat} {listed:Array Bool} {i:Nat} (hi:i<listed.size) (hN:i<N) (hun:listed.getD i false=false) (hf:fuel+1=((List.range N).filter fun i=>!listed.getD i false).length) :
  fuel=((List.range N).filter fun k=>!(listed.setIfInBounds i true).getD k false).length:=by
 have h1:(List.range N).filter (fun k=>!(listed.setIfInBounds i true).getD k false)=((List.range N).filter fun k=>!listed.getD k false).filter (fun k=>k !=i):=by
  rw[aBw];apply aBk;intro k _;rw[eD hi];simp only[fA];by_cases h:k=i<;>simp[h]
 rw[h1];have hmem:i∈(List.range N).filter fun k=>!listed.getD k false:=by
  simp only[aAw,aAu];exact⟨hN,by rw[hun];rfl⟩
 have hnd:((List.range N).filter fun k=>!listed.getD k false).Nodup:=List.nodup_range.filter _;have:=hnd.erase_eq_filter i;rw[<-this,aBc hmem,<-hf];rfl
theorem tY {ops:List Oper} {fuel:Nat} {listed:Array Bool} (hsz:listed.size=ops.length) (hed:∀ (i:Nat) (o:Oper),ops[i]?=some o->∀ e∈o.after.toList,Region.binds .any e=true->e.on<i)
  (hf:fuel+1=((List.range ops.length).filter fun i=>!listed.getD i false).length):Region.ready .any ops.toArray listed≠[]:=by
 have hne:((List.range ops.length).filter fun i=>!listed.getD i false)≠[]:=fun h=>by rw[h] at hf;cases hf
 obtain⟨x,hx⟩:=aAC _ hne;have hx':x<ops.length/\listed.getD x false=false:=by simpa using hx
 have hmin:∃ m,(m<ops.length/\listed.getD m false=false)/\∀ k,k<m->¬ (k<ops.length/\listed.getD k false=false):=by
  clear hx hf hne
  induction x using Nat.strongRecOn with
  | _ x ihx =>
   by_cases h:∃ k,k<x/\(k<ops.length/\listed.getD k false=false)
   .obtain⟨k,hk,hk'⟩:=h;exact ihx k hk hk'
   exact⟨x,hx',fun k hk hk'=>h ⟨k,hk,hk'⟩⟩
 obtain⟨m,⟨hm1,hm2⟩,hm3⟩:=hmin;intro hr;have:m∈Region.ready .any ops.toArray listed:=by
  unfold Region.ready;simp only[aAw,aAu,aAl,aAt];have hl:listed[m]?=some false:=by
   have h4:m<listed.size:=by omega
   simp only[aAh] at hm2;simpa[h4] using hm2
  refine⟨by simpa using hm1,by simp[hl],?_⟩;rw[aAL,aAk hm1];simp only[aAq,aAx];rw[<-aAU,aAj];intro e he;by_cases hb:Region.binds .any e=true
  .have h5:=hed m ops[m] (aAk hm1) e he hb;have h6:listed.getD e.on false=true:=by
    cases h7:listed.getD e.on false with
    | true=>rfl
    | false=>exact(hm3 e.on h5 ⟨by omega,h7⟩).elim
   simp[h6]
  simp at hb;simp[hb]
 rw[hr] at this;cases this
theorem oZ {σ:Type} {C:σ->Prop} {piv:σ->Nat} {ds0:List OpD} {D:σ->List OpD} {W:σ->Nat->World} {m:σ->Nat} {X:Nat->List Nat} {Pv Dp:List Nat} {w0:World} {ops:List Oper}
  (hok0:(wE ds0&&qE ds0&&uE ds0&&pK ds0)=true) (hdp:tF ds0 Pv Dp=true) (hne:Pv≠[]) (ho0:ds0.map (·.o)=ops) (hR0:hD ds0 L0) (hd:∀ (i:Nat) (d:OpD) (t:Nat),ds0[i]?=some d->d.o.dst=some t->t<n)
  (hO0:∀ (i:Nat) (d:OpD),ds0[i]?=some d->¬ i∈Dp->jK P n ops.toArray d.o d.li d.v w0 w0)
  (hP:∀ i∈Pv,∀ (d:OpD),ds0[i]?=some d->∀ a,Has n d.li a->∀ (K:Act->World->Prop),(∀ s,C s->piv s=i->∀ v,((D s)[i]?).map (·.v)=some v->K (a.put d.o.dst v) (W s 1))->wpOp P ops.toArray Q i K a w0)
  (hXp:∀ i,i∈X i) (hX:∀ s,C s->∀ k∈X (piv s),k=piv s\/∃ d,ds0[piv s]?=some d/\k∈d.cl)
  (hS:∀ s,C s->(D s).map (·.o)=ops/\mC (X (piv s)) (D s)=true/\xQ ds0 (D s) Dp/\hD (D s) L0/\((D s)[piv s]?).map (·.e)=some true/\(∀ (i:Nat) (d:OpD),(D s)[i]?=some d->i≠piv s->∀ j,d.lo<=j->j<=d.hi->jK P n ops.toArray d.o d.li d.v (W s j) (W s (j+if d.e=true then 1 else 0)))/\(∀ (i:Nat) (d:OpD),(D s)[i]?=some d->¬ i∈Dp->d.e=false) /\
   ∀ a,Has n (eQ (D s) 0 (fun _=>true) L0) a->Q .normal a (W s (cnt (D s) 0 fun _=>true))) :
  ∀ (fuel:Nat) (listed:Array Bool) (a:Act),listed.size=ds0.length->(∀ k∈Dp,listed.getD k false=false) ->
   (∀ (i:Nat) (d:OpD),ds0[i]?=some d->listed.getD i false=true->∀ e∈d.o.after.toList,Region.binds .any e=true->listed.getD e.on false=true) ->
   Has n (eQ ds0 0 (fun k=>listed.getD k false) L0) a->fuel=((List.range ds0.length).filter fun i=>!listed.getD i false).length ->
   wpAny P .any ops.toArray Q fuel listed a w0:=by
 simp only[aAl] at hok0;obtain⟨⟨⟨hcl,hds⟩,hli⟩,hed⟩:=hok0;unfold tF at hdp;simp only[aAl] at hdp;obtain⟨hdp1,hdp2⟩:=hdp;have zi:∀ (i:Nat) (d:OpD),ds0[i]?=some d->(d,i)∈ds0.zipIdx:=fun i d h=>aAr.2 h;have hpv:∀ i∈Pv,i∈Dp/\i<ds0.length:=fun i hi=>by
  have:=aAj.1 hdp1 i hi;simpa using this
 have hdep:∀ (i:Nat) (d:OpD),ds0[i]?=some d->i∈Dp->i∈Pv\/∃ e∈d.o.after.toList,Region.binds .any e=true/\e.on∈Dp:=fun i d h hi=>by
  have:=aAj.1 hdp2 _ (zi i d h);simp only[aAy,hi,if_true,aAA,aAM,aAl] at this;rcases this with h1 | ⟨e,h1,h2⟩
  .exact .inl (by simpa using h1)
  exact .inr ⟨e,h1,h2.1,by simpa using h2.2⟩
 have hind:∀ (i:Nat) (d:OpD),ds0[i]?=some d->¬ i∈Dp->d.e=false/\∀ k∈d.cl,¬ k∈Dp:=fun i d h hi=>by
  have:=aAj.1 hdp2 _ (zi i d h);simp only[aAy,hi,if_false,aAl,aAt,aAj,decide_eq_true_eq,Bool.not_eq_eq_eq_not,Bool.not_true] at this;exact⟨this.1,fun k hk=>by simpa using this.2 k hk⟩
 have hed':∀ (i:Nat) (d:OpD),ds0[i]?=some d->∀ e∈d.o.after.toList,Region.binds .any e=true->e.on<i:=fun i d h e he hb=>by
  have:=aAj.1 (aAj.1 hed _ (zi i d h)) e he;simpa[hb] using this
 have hcl':∀ (i:Nat) (d:OpD),ds0[i]?=some d->∀ k∈d.cl,∃ e∈d.o.after.toList,Region.binds .any e=true/\e.on<i/\(k=e.on\/∃ d',ds0[e.on]?=some d'/\k∈d'.cl):=fun i d h k hk=>by
  have:=aAj.1 (aAj.1 hcl _ (zi i d h)) k hk;obtain⟨e,he,hx⟩:=aAM.1 this;simp only[aAl,decide_eq_true_eq,aAA,beq_iff_eq,aBv,aAy] at hx;exact⟨e,he,hx.1.1,hx.1.2,hx.2⟩
 have hli':∀ (i k:Nat) (d d':OpD) (t:Nat) (u:Value),ds0[i]?=some d->ds0[k]?=some d'->(t,u)∈d.li->d'.o.dst=some t->k=i\/(k<i/\k∈d.cl)\/(i<k/\i∈d'.cl):=fun i k d d' t u h h' ht ht'=>by
  have:=aAj.1 (aAj.1 (aAj.1 hli _ (zi i d h)) _ ht) _ (zi k d' h');simp only[ht',bne_self_eq_false,aBL,aAA,beq_iff_eq,aAl,decide_eq_true_eq,aAy] at this;rcases this with(h1 | h1) | h1
  .exact .inl h1
  .exact .inr (.inl h1)
  exact .inr (.inr h1)
 have closed:∀ (listed:Array Bool),(∀ (i:Nat) (d:OpD),ds0[i]?=some d->listed.getD i false=true->∀ e∈d.o.after.toList,Region.binds .any e=true->listed.getD e.on false=true) ->
   ∀ (i:Nat) (d:OpD),ds0[i]?=some d->(∀ e∈d.o.after.toList,Region.binds .any e=true->listed.getD e.on false=true)->∀ k∈d.cl,listed.getD k false=true:=by
  intro listed hc i
  induction i using Nat.strongRecOn with
  | _ i ih =>
   intro d hd0 he k hk;obtain⟨e,he1,he2,he3,he4⟩:=hcl' i d hd0 k hk;rcases he4 with rfl | ⟨d',hd',hk'⟩
   .exact he e he1 he2
   exact ih e.on he3 d' hd' (hc e.on d' hd' (he e he1 he2)) k hk'
 have hol:ops.length=ds0.length:=by rw[<-ho0];simp
 have opsAt:∀ (i:Nat),ops.toArray[i]?=(ds0[i]?).map (fun d:OpD=>d.o):=fun i=>by rw[<-ho0];simp
 intro fuel
 induction fuel with
 | zero =>
  intro listed a hsz hdl hc ha hf;obtain⟨i,hi⟩:=aAC _ hne;obtain⟨h1,h2⟩:=hpv i hi;have:i∈(List.range ds0.length).filter fun i=>!listed.getD i false:=by
   simp only[aAw,aAu];exact⟨h2,by rw[hdl i h1];rfl⟩
  rw[aAv hf.symm] at this;cases this
 | succ fuel ih =>
  intro listed a hsz hdl hc ha hf;refine⟨fun h=>((tY (ops:=ops) (fuel:=fuel) (by omega) (fun i o h=>?_) (by rw[hol];exact hf)) h).elim,fun i hi=>?_⟩
  .have h1:=opsAt i;rw[aAL,h] at h1;obtain⟨d,hd0,rfl⟩:=aBj.1 h1.symm;exact hed' i d hd0
  unfold Region.ready at hi;simp only[aAw,aAu,aAl,aAt] at hi;obtain⟨hi1,hi2,hi3⟩:=hi;have hi1':i<ds0.length:=by simpa[hol] using hi1
  have hils:i<listed.size:=by omega
  obtain⟨d,hd0⟩:∃ d,ds0[i]?=some d:=⟨_,aAk hi1'⟩;have hun:listed.getD i false=false:=by
   simp only[aAh] at hi2 ⊢;simpa[hils] using hi2
  rw[opsAt,hd0] at hi3;simp only[aAq,aAx] at hi3;rw[<-aAU,aAj] at hi3;have hed2:∀ e∈d.o.after.toList,Region.binds .any e=true->listed.getD e.on false=true:=fun e he hb=>by
   have:=hi3 e he;simpa[hb] using this
  have hcl2:=closed listed hc i d hd0 hed2;have hLi:Has n d.li a:=by
   have hs:=hD.get 0 hR0 hd0;refine⟨ha.d,ha.z,fun t v hv=>ha.l t v ?_⟩;have h1:=hs.look hv;obtain⟨u,hu⟩:=lZ hv;rw[gI] at h1 ⊢;rw[<-h1];congr 1;refine gM ds0 0 fun k d' hk hkd=>?_;simp only[aBO];rcases hli' i k d d' t u hd0 hk hu hkd with rfl | ⟨h2,h3⟩ | ⟨h2,h3⟩
   .rw[hun];simp
   .rw[hcl2 k h3];simp[h2]
   have:listed.getD k false=false:=by
    cases h:listed.getD k false with
    | false=>rfl
    | true =>
     have:=closed listed hc k d' hk (hc k d' hk h) i h3;rw[hun] at this;cases this
   rw[this];simp;omega
  have hcset:∀ (k:Nat) (d':OpD),ds0[k]?=some d'->(listed.setIfInBounds i true).getD k false=true->∀ e∈d'.o.after.toList,Region.binds .any e=true->(listed.setIfInBounds i true).getD e.on false=true:=by
   intro k d' hk hl e he hb;rw[eD hils] at hl ⊢;simp only[fA] at hl ⊢;split
   .rfl
   split at hl
   .rename_i h1 h2;subst h2;rw[hd0] at hk;cases hk;exact hed2 e he hb
   exact hc k d' hk hl e he hb
  by_cases hiD:i∈Dp
  .-- the first act
   have hiP:i∈Pv:=by
    rcases hdep i d hd0 hiD with h | ⟨e,h1,h2,h3⟩
    .exact h
    have:=hed2 e h1 h2;rw[hdl _ h3] at this;cases this
   refine hP i hiP d hd0 a hLi _ fun s hs hps v hv=>?_;obtain⟨s1,s2,s3,s4,s5,s6,s7,s8⟩:=hS s hs;subst hps;have hlen:(D s).length=ds0.length:=by rw[<-hol,<-s1];simp
   obtain⟨ds',hds'⟩:∃ d',(D s)[piv s]?=some d':=⟨_,aAk (by omega)⟩;have same:∀ (k:Nat) (d':OpD),(D s)[k]?=some d'->∃ d1,ds0[k]?=some d1/\d1.o=d'.o:=fun k d' hk=>by
    have h1:=congrArg (fun l:List Oper=>l[k]?) (s1.trans ho0.symm);simp only[aBm,hk,aAq] at h1;obtain⟨d1,h2,h3⟩:=aBj.1 h1.symm;exact⟨d1,h2,h3⟩
   have hdo:d.o=ds'.o:=by obtain⟨d1,h1,h2⟩:=same _ _ hds';rw[hd0] at h1;cases h1;exact h2
   have hvs:ds'.v=v:=by rw[hds'] at hv;simpa using hv
   have hes:ds'.e=true:=by rw[hds'] at s5;simpa using s5
   have notD:∀ k,listed.getD k false=true->¬ k∈Dp:=fun k hk hkD=>by rw[hdl k hkD] at hk;cases hk
   have henv:eQ (D s) 0 (fun k=>listed.getD k false) L0=eQ ds0 0 (fun k=>listed.getD k false) L0:=by
    have key:∀ (l l':List OpD) (b:Nat) (L:List (Nat×Value)),(∀ j,l[j]?=(D s)[b+j]?)->(∀ j,l'[j]?=ds0[b+j]?)->eQ l b (fun k=>listed.getD k false) L=eQ l' b (fun k=>listed.getD k false) L:=by
     intro l
     induction l with
     | nil =>
      intro l' b L h1 h2
      cases l' with
      | nil=>rfl
      | cons x xs =>
       have e1:=h1 0;have e2:=h2 0
       simp only[aAN,List.getElem?_nil,aAI] at e1 e2;have:=aAS.1 e1.symm;have:=(aAi.1 e2.symm).1;omega
     | cons x xs ihx =>
      intro l' b L h1 h2
      cases l' with
      | nil =>
       have e1:=h1 0;have e2:=h2 0
       simp only[aAN,List.getElem?_nil,aAI] at e1 e2;have:=aAS.1 e2.symm;have:=(aAi.1 e1.symm).1;omega
      | cons y ys =>
       have e1:=h1 0;have e2:=h2 0
       simp only[aAN,aAI] at e1 e2;have hrec:∀ L,eQ xs (b+1) (fun k=>listed.getD k false) L=eQ ys (b+1) (fun k=>listed.getD k false) L:=fun L =>
        ihx ys (b+1) L (fun j=>by have:=h1 (j+1);simp only[aAG] at this;rw[this];congr 1;omega) (fun j=>by have:=h2 (j+1);simp only[aAG] at this;rw[this];congr 1;omega)
       simp only[eQ];by_cases hb:listed.getD b false=true
       .have hag:=(s3 b y x e2.symm e1.symm (notD b hb)).1;obtain⟨d1,k1,k2⟩:=same b x e1.symm;rw[<-e2] at k1;cases k1;rw[if_pos hb,if_pos hb,hrec,k2,hag]
       rw[if_neg hb,if_neg hb,hrec]
    exact key (D s) ds0 0 L0 (fun j=>by rw[aBO]) (fun j=>by rw[aBO])
   have hallX:=s2;simp only[mC,aAl] at hallX;have hput:=rC (n:=n) (L0:=L0) (ds:=D s) (listed:=listed) (a:=a) (i:=piv s) (d:=ds') hallX.1.1.1.2 hds' hils (fun k d' hk hik=>by
    cases h:listed.getD k false with
    | false=>rfl
    | true =>
     obtain⟨d1,k1,k2⟩:=same k d' hk;have hcl3:=(s3 k d1 d' k1 hk (notD k h)).2;rw[<-hcl3] at hik;exact((hind k d1 k1 (notD k h)).2 _ hik hiD).elim) (by rw[henv];exact ha) (fun t ht=>hd _ d t hd0 (by rw[hdo];exact ht))
   have hcnt:cnt (D s) 0 (fun k=>(listed.setIfInBounds (piv s) true).getD k false)=1:=by
    have h0:cnt (D s) 0 (fun k=>listed.getD k false)=0:=by
     have key:∀ (l:List OpD) (b:Nat),(∀ j,l[j]?=(D s)[b+j]?)->cnt l b (fun k=>listed.getD k false)=0:=by
      intro l
      induction l with
      | nil=>intro b _;rfl
      | cons x xs ihx =>
       intro b h1;have e1:=h1 0;simp only[aAN,aAI] at e1;simp only[cnt];rw[ihx (b+1) (fun j=>by have:=h1 (j+1);simp only[aAG] at this;rw[this];congr 1;omega),if_neg];rintro⟨h2,h3⟩;rw[s7 b x e1.symm (notD b h2)] at h3;cases h3
     exact key (D s) 0 (fun j=>by rw[aBO])
    have hset':(fun k=>(listed.setIfInBounds (piv s) true).getD k false)=fA (fun k=>listed.getD k false) (piv s):=funext (eD hils);rw[hset',nH (D s) 0 (piv s) ds' hds' (by omega) hun,h0,hes];rfl
   have hfin:=lF (P:=P) (n:=n) (L0:=L0) (Q:=Q) (ds:=D s) (W:=W s) s2 (by rw[s1];exact fun i d h hi=>s6 i d h (fun e=>hi (by rw[e];exact hXp _))) s4 (fun i d' t h1 h2=>by
    obtain⟨d1,k1,k2⟩:=same i d' h1;exact hd i d1 t k1 (by rw[k2];exact h2)) s8 fuel (listed.setIfInBounds (piv s) true) (a.put ds'.o.dst ds'.v) (by simp[hsz,hlen]) (fun k hk=>by
     rw[eD hils];simp only[fA];rcases hX s hs k hk with rfl | ⟨d1,k1,k2⟩
     .simp
     .rw[hd0] at k1;cases k1;rw[hcl2 k k2];simp) (fun k d' hk hl e he hb=>by
     obtain⟨d1,k1,k2⟩:=same k d' hk;exact hcset k d1 k1 hl e (by rw[k2];exact he) hb) hput (by rw[hlen];exact pT hils hi1' hun hf)
   rw[hcnt,s1] at hfin;rw[hdo,<-hvs];exact hfin
  have hop:=hO0 i d hd0 hiD;unfold wpOp;rw[opsAt,hd0];simp only[aAq];have hK:=hop a hLi (wpAny P .any ops.toArray Q fuel (listed.setIfInBounds i true)) Q (ih (listed.setIfInBounds i true) (a.put d.o.dst d.v) (by simpa using hsz) (fun k hk=>by
    rw[eD hils];simp only[fA];rw[if_neg (fun e:k=i=>hiD (e ▸ hk))];exact hdl k hk) hcset
   (rC hds hd0 hils (fun k d' hk hik=>by
    cases h:listed.getD k false with
    | false=>rfl
    | true =>
     have:=closed listed hc k d' hk (hc k d' hk h) i hik;rw[hun] at this;cases this) ha (fun t ht=>hd i d t hd0 ht)) (pT hils hi1' hun hf))
  split
  .rename_i hw;rw[if_pos hw] at hK;exact .inl hK
  rename_i hw;rw[if_neg hw] at hK;exact hK
end
def qH {α:Type} (x y:ND α):ND α:=⟨fun Q=>x.t Q/\y.t Q,fun h k=>⟨x.m h k.1,y.m h k.2⟩⟩
theorem Nd.both {α:Type} {x y:ND α} {Φ:α->Prop} (h:x.t Φ) (k:y.t Φ):(qH x y).t Φ:=⟨h,k⟩
def nU:List Oper->List (List Nat)->List (List Nat)
 | [],acc=>acc
 | o::os,acc=>nU os (acc++[(o.after.toList.filter fun e=>Region.binds .any e).flatMap fun e=>e.on::acc.getD e.on []])
def hY (ds:List OpD) (cls:List (List Nat)):List OpD:=List.zipWith (fun d c=>{ d with cl:=c }) ds cls
def gH (ds:List OpD):List OpD:=hY ds (nU (ds.map (·.o)) [])
def rG (ds:List OpD) (Dp:List Nat):List (Value×List Nat):=(ds.zipIdx.filter fun x=>!Dp.contains x.2).map fun x=>(x.1.v,x.1.cl)
def lS (n:Nat) (ds:List OpD) (i:Nat) (Pv Dp:List Nat):Bool :=
 let b:=gH ds
 wE b&&qE b&&uE b&&pK b&&tF b Pv Dp&&(ds.all fun d=>d.o.dst.all fun t=>decide (t<n))&&decide (b.length=ds.length) &&
 mC (i::((b[i]?).map (·.cl)).getD []) ds&&((ds[i]?).any fun d=>d.e&&d.lo==0)&&ds.zipIdx.all fun (d,k)=>Dp.contains k||(!d.e&&d.lo==0&&d.cl==((b[k]?).map (·.cl)).getD [])
section
variable {P : Program} {n : Nat} {L0 : List (Nat × Value)} {Q : Exit -> Act -> World -> Prop} {a : Act} {w : World}
theorem kF {ds:List OpD} {cls:List (List Nat)} {k:Nat} {d:OpD} (h:(hY ds cls)[k]?=some d):∃ d',ds[k]?=some d'/\d'.o=d.o/\d'.v=d.v/\d'.e=d.e/\d'.lo=d.lo/\d'.li=d.li/\cls[k]?=some d.cl:=by
 unfold hY at h;rw[aBp] at h
 cases h1:ds[k]? with
 | none=>rw[h1] at h;simp at h
 | some d' =>
  cases h2:cls[k]? with
  | none=>rw[h1,h2] at h;simp at h
  | some c=>rw[h1,h2] at h;simp at h;subst h;exact⟨d',rfl,rfl,rfl,rfl,rfl,rfl,rfl⟩
theorem mL:∀ {ds:List OpD} {cls:List (List Nat)} {L:List (Nat×Value)},hD ds L->hD (hY ds cls) L
 | [],_,_,_=>by simp[hY,hD]
 | _::_,[],_,_=>by simp[hY,hD]
 | d::ds,c::cls,L,h=>⟨h.1,mL h.2⟩
theorem pU:∀ {ds:List OpD} {cls:List (List Nat)},(hY ds cls).length=ds.length->(hY ds cls).map (·.o)=ds.map (·.o)
 | [],_,_=>by simp[hY]
 | _::_,[],h=>by simp[hY] at h
 | d::ds,c::cls,h=>by
  have:=pU (ds:=ds) (cls:=cls) (by simpa[hY] using h);simp only[hY,List.zipWith_cons_cons,aBC] at this ⊢;rw[this]
theorem qG {ds ds':List OpD} {Dp:List Nat} (hl:ds.length=ds'.length) (h:rG ds Dp=rG ds' Dp) {k:Nat} {d d':OpD} (h1:ds[k]?=some d) (h2:ds'[k]?=some d') (hk:¬ k∈Dp):d.v=d'.v/\d.cl=d'.cl:=by
 have key:∀ (l l':List OpD) (b:Nat),l.length=l'.length->((l.zipIdx b).filter fun x=>!Dp.contains x.2).map (fun x=>(x.1.v,x.1.cl))=((l'.zipIdx b).filter fun x=>!Dp.contains x.2).map (fun x=>(x.1.v,x.1.cl))->∀ j x y,l[j]?=some x->l'[j]?=some y->¬ (b+j)∈Dp->x.v=y.v/\x.cl=y.cl:=by
  intro l
  induction l with
  | nil=>intro l' b _ _ j x y hx;simp at hx
  | cons u us ih =>
   intro l' b hl' he j x y hx hy hj
   cases l' with
   | nil=>simp at hl'
   | cons u' us' =>
    simp only[List.zipIdx_cons,aAZ] at he;by_cases hb:b∈Dp
    .have:(!Dp.contains b)=false:=by simp[hb]
     simp only[this,aBf,if_false] at he
     cases j with
     | zero=>exact(hj (by simpa using hb)).elim
     | succ j=>exact ih us' (b+1) (by simpa using hl') he j x y (by simpa using hx) (by simpa using hy) (by rwa[show b+1+j=b+(j+1) by omega])
    have:(!Dp.contains b)=true:=by simp[hb]
    simp only[this,if_true,aBC,List.cons.injEq,Prod.mk.injEq] at he
    cases j with
    | zero=>simp at hx hy;subst hx;subst hy;exact he.1
    | succ j=>exact ih us' (b+1) (by simpa using hl') he.2 j x y (by simpa using hx) (by simpa using hy) (by rwa[show b+1+j=b+(j+1) by omega])
 exact key ds ds' 0 hl h k d d' h1 h2 (by simpa using hk)
theorem pG {ops:List Oper} {id:Nat} (hm:P.follows .mixedOrders=true) (h:wpAny P .any ops.toArray Q ops.length (Array.replicate ops.length false) a w.drew):(Code.region id ops.toArray true).wp P Q a w:=by
 refine wp_region_any hm ?_;have:ops.toArray.size=ops.length:=by simp
 rw[this];exact h
theorem kA (N k:Nat):(Array.replicate N false).getD k false=false:=by
 simp only[aAh,aAF];split<;>rfl
theorem sA (l:List OpD):∀ (i:Nat) (L:List (Nat×Value)),eQ l i (fun _=>false) L=L:=by
 induction l with
 | nil=>intro i L;rfl
 | cons x xs ih=>intro i L;simp only[eQ];rw[if_neg (by simp)];exact ih _ _
theorem qX {ops:Array Oper} {i:Nat} {o:Oper} {li:List (Nat×Value)} {v:Value} {w w':World} (hi:ops[i]?=some o) (h:jK P n ops o li v w w') (ha:Has n li a) {K:Act->World->Prop} (hk:K (a.put o.dst v) w'):wpOp P ops Q i K a w:=by
 unfold wpOp;rw[hi];simp only;have:=h a ha K Q hk;split
 .rename_i hw;rw[if_pos hw] at this;exact .inl this
 rename_i hw;rw[if_neg hw] at this;exact this
theorem qJ {σ : Type} {C : σ -> Prop} {piv : σ -> Nat} {Pv Dp : List Nat} {D : σ -> List OpD} {W : σ -> Nat -> World} {m : σ -> Nat} {ops : List Oper} {id : Nat} (s0 : σ) (hm : P.follows .mixedOrders = true) (ha : Has n L0 a) (hne : Pv ≠ [])
    (hs0 : (D s0).map (·.o) = ops) (hok : ∀ s, lS n (D s) (piv s) Pv Dp = true) (ho : ∀ s, (D s).map (·.o) = ops) (hv : ∀ s, rG (D s) Dp = rG (D s0) Dp) (hR : ∀ s, hD (D s) L0) (hO0 : ∀ (i : Nat) (d : OpD), (D s0)[i]? = some d -> ¬ i ∈ Dp -> jK P n ops.toArray d.o d.li d.v w.drew w.drew)
    (hP : ∀ i ∈ Pv, ∀ (d : OpD), (D s0)[i]? = some d -> ∀ a, Has n d.li a -> ∀ (K : Act -> World -> Prop), (∀ s, C s -> piv s = i -> ∀ v, ((D s)[i]?).map (·.v) = some v -> K (a.put d.o.dst v) (W s 1)) -> wpOp P ops.toArray Q i K a w.drew)
    (hO : ∀ s, C s -> ∀ (i : Nat) (d : OpD), (D s)[i]? = some d -> i ≠ piv s -> ∀ j, d.lo <= j -> j <= d.hi -> jK P n ops.toArray d.o d.li d.v (W s j) (W s (j + if d.e = true then 1 else 0))) (hcm : ∀ s, cnt (D s) 0 (fun _ => true) = m s) (hQ : ∀ s, C s -> ∀ a, Has n (eQ (D s) 0 (fun _ => true) L0) a -> Q .normal a (W s (m s))) : (Code.region id ops.toArray true).wp P Q a w := by
  have b0 := hok s0
  simp only [lS, aAl] at b0
  obtain ⟨⟨⟨⟨⟨⟨⟨⟨⟨c1, c2⟩, c3⟩, c4⟩, c5⟩, c6⟩, c7⟩, c8⟩, c9⟩, c10⟩ := b0
  have hl0 : (gH (D s0)).length = (D s0).length := by simpa using c7
  have hlo : ops.length = (D s0).length := by rw [<- hs0]; simp
  have hall : ∀ s, (D s).length = (D s0).length := fun s => by rw [<- hlo, <- ho s]; simp
  have zi : ∀ s (i : Nat) (d : OpD), (D s)[i]? = some d -> (d, i) ∈ (D s).zipIdx := fun s i d h => aAr.2 h
  have nd : ∀ s (k : Nat) (d : OpD), (D s)[k]? = some d -> ¬ k ∈ Dp -> d.e = false /\ d.cl = (((gH (D s))[k]?).map (·.cl)).getD [] := fun s k d h hk => by
    have b := hok s
    simp only [lS, aAl] at b
    have := aAj.1 b.2 _ (zi s k d h)
    simp only [aAA, aAl, aAt, beq_iff_eq] at this
    rcases this with h | h
    . exact (hk (by simpa using h)).elim
    . exact ⟨h.1.1, h.2⟩
  refine pG hm ?_
  have hmain := oZ (P := P) (n := n) (L0 := L0) (Q := Q) (C := C) (piv := piv) (ds0 := gH (D s0)) (D := D) (W := W) (m := m) (X := fun i => i :: (((gH (D s0))[i]?).map (·.cl)).getD []) (Pv := Pv) (Dp := Dp) (w0 := w.drew) (ops := ops)
    (by simp only [aAl]; exact ⟨⟨⟨c1, c2⟩, c3⟩, c4⟩) c5 hne (by rw [<- hs0]; exact pU hl0) (mL (hR s0)) (fun i d t h ht => by
      obtain ⟨d', h1, h2, _⟩ := kF h
      have := aAj.1 c6 d' (aAn h1)
      rw [h2, ht] at this
      simpa using this) (fun i d h hi => by
      obtain ⟨d', h1, h2, h3, _, _, h6, _⟩ := kF h
      have := hO0 i d' h1 hi
      rwa [h2, h6, h3] at this) (fun i hi d h a ha K hK => by
      obtain ⟨d', h1, h2, h3, _, _, h6, _⟩ := kF h
      refine hP i hi d' h1 a (h6 ▸ ha) K fun s hs hp v hv => ?_
      rw [h2]; exact hK s hs hp v hv) (fun i => by simp) (fun s hs k hk => by
      rcases aBD.1 hk with h | h
      . exact .inl h
      . right
        cases e : (gH (D s0))[piv s]? with
        | none => rw [e] at h; simp at h
        | some d => rw [e] at h; exact ⟨d, rfl, by simpa using h⟩) (fun s hs => by
      have b := hok s
      simp only [lS, aAl] at b
      obtain ⟨⟨⟨_, b8⟩, b9⟩, b10⟩ := b
      have hpl : gH (D s) = hY (D s) (nU ops []) := by unfold gH; rw [ho s]
      have hpl0 : gH (D s0) = hY (D s0) (nU ops []) := by unfold gH; rw [hs0]
      have hcl : ∀ k : Nat, (((gH (D s))[k]?).map (·.cl)).getD [] = (((gH (D s0))[k]?).map (·.cl)).getD [] := fun k => by
        rw [hpl, hpl0]
        unfold hY
        rw [aBp, aBp]
        cases h1 : (D s)[k]? with
        | none =>
          have : (D s0)[k]? = none := by rw [aAS] at h1 ⊢; rw [<- hall s]; exact h1
          rw [this]
        | some d1 =>
          have : k < (D s0).length := by rw [<- hall s]; exact (aAi.1 h1).1
          rw [aAk this]
          cases (nU ops [])[k]? <;> simp
      refine ⟨ho s, by rw [<- hcl (piv s)]; exact b8, fun k d d' h h' hk => ?_, hR s, ?_, hO s hs, fun k d h hk => (nd s k d h hk).1, by rw [hcm s]; exact hQ s hs⟩
      . obtain ⟨d1, h1, h2, h3, _, _, _, h7⟩ := kF h
        have hva := qG (hall s) (hv s) h' h1 hk
        refine ⟨by rw [<- h3, hva.1], ?_⟩
        rw [(nd s k d' h' hk).2, hcl k, h]; rfl
      . cases e : (D s)[piv s]? with
        | none => rw [e] at b9; simp at b9
        | some d => rw [e] at b9; simp at b9; simp [b9.1])
    ops.length (Array.replicate ops.length false) a (by simp [hl0, hlo]) (fun k _ => kA _ _) (fun i d _ h => by rw [kA] at h; cases h)
    (by have : (fun k => (Array.replicate ops.length false).getD k false) = fun _ => false := funext (kA _)
        rw [this, sA]; exact ha)
    (by have : ((List.range (gH (D s0)).length).filter fun i => !(Array.replicate ops.length false).getD i false) = List.range (gH (D s0)).length := by
          rw [aBa]; intro k _; rw [kA]; rfl
        rw [this, List.length_range, hl0, hlo])
  exact hmain
theorem jD {i j:Nat} {Dp:List Nat} {ds1 ds2:List OpD} {W1 W2:Nat->World} {m1 m2:Nat} {id:Nat} (hm:P.follows .mixedOrders=true) (ha:Has n L0 a) (h1:W1 0=w.drew) (h2:W2 0=w.drew)
  (ho:ds2.map (·.o)=ds1.map (·.o)) (hok1:lS n ds1 i [i,j] Dp=true) (hok2:lS n ds2 j [i,j] Dp=true) (hv:rG ds2 Dp=rG ds1 Dp) (hli:(ds2[j]?).map (·.li)=(ds1[j]?).map (·.li)) (hij:i≠j)
  (hR1:hD ds1 L0) (hR2:hD ds2 L0) (hO1:Obl P n (ds1.map (·.o)).toArray W1 ds1) (hO2:Obl P n (ds1.map (·.o)).toArray W2 ds2) (hc1:cnt ds1 0 (fun _=>true)=m1) (hc2:cnt ds2 0 (fun _=>true)=m2)
  (hQ1:∀ a,Has n (eQ ds1 0 (fun _=>true) L0) a->Q .normal a (W1 m1)) (hQ2:∀ a,Has n (eQ ds2 0 (fun _=>true) L0) a->Q .normal a (W2 m2)):(Code.region id (ds1.map (·.o)).toArray true).wp P Q a w:=by
 have opsAt:∀ (k:Nat),(ds1.map (·.o)).toArray[k]?=(ds1[k]?).map (fun d:OpD=>d.o):=fun k=>by simp
 have lo0:∀ {ds:List OpD} {i:Nat} (hok:lS n ds i [i,j] Dp=true) (k:Nat) (d:OpD),ds[k]?=some d->¬ k∈Dp->d.e=false/\d.lo=0:=fun {ds i} hok k d h hk=>by
  simp only[lS,aAl] at hok;have:=aAj.1 hok.2 _ (aAr.2 h:(d,k)∈ds.zipIdx);simp only[aAA,aAl,aAt,beq_iff_eq] at this;rcases this with h | h
  .exact(hk (by simpa using h)).elim
  exact⟨h.1.1,h.1.2⟩
 have pv:∀ {ds:List OpD} {i j p:Nat} {Pv:List Nat} (hok:lS n ds p Pv Dp=true) (d:OpD),ds[p]?=some d->d.e=true/\d.lo=0:=fun {ds i j p Pv} hok d h=>by
  simp only[lS,aAl] at hok;have:=hok.1.2;rw[h] at this;simpa using this
 refine qJ (σ:=Bool) (C:=fun _=>True) (piv:=fun s=>if s=true then i else j) (Pv:=[i,j]) (Dp:=Dp) (D:=fun s=>if s=true then ds1 else ds2) (W:=fun s=>if s=true then W1 else W2) (m:=fun s=>if s=true then m1 else m2)
  true hm ha (by simp) rfl (fun s=>?_) (fun s=>?_) (fun s=>?_) (fun s=>?_) (fun k d h hk=>?_) (fun k hk d h a ha K hK=>?_) (fun s _=>?_) (fun s=>?_) (fun s _ a ha=>?_)
 .cases s
  .exact hok2
  exact hok1
 .cases s
  .exact ho
  rfl
 .cases s
  .exact hv
  rfl
 .cases s
  .exact hR2
  exact hR1
 .simp only[if_true] at h;obtain⟨he,hlo⟩:=lo0 hok1 k d h hk;have:=hO1.get h 0 (by omega) (by omega);rw[he,h1] at this;simpa[h1] using this
 .simp only[if_true] at h;have hk':k=i\/k=j:=by simpa using hk
  rcases hk' with rfl | rfl
  .obtain⟨he,hlo⟩:=pv (i:=k) (j:=j) hok1 d h;have hop:=hO1.get h 0 (by omega) (by omega);rw[he,h1] at hop;have hK1:=hK true trivial (by simp) d.v (by simp[h]);exact qX (by rw[opsAt,h];rfl) (by simpa using hop) ha (by simpa using hK1)
  obtain⟨d2,h2',hl2⟩:∃ d2,ds2[k]?=some d2/\d2.li=d.li:=by rw[h] at hli;exact aBj.1 hli
  have ho2:d2.o=d.o:=by
   have:=congrArg (fun l:List Oper=>l[k]?) ho;simp only[aBm,h2',h,aAq,Option.some.injEq] at this;exact this
  obtain⟨he,hlo⟩:=pv (i:=i) (j:=k) hok2 d2 h2';have hop:=hO2.get h2' 0 (by omega) (by omega);rw[he,h2,ho2,hl2] at hop;have hK1:=hK false trivial (by simp) d2.v (by simp[h2']);exact qX (by rw[opsAt,h];rfl) (by simpa using hop) ha (by simpa using hK1)
 .cases s
  .exact fun i d h _=>hO2.get h
  exact fun i d h _=>hO1.get h
 .cases s
  .exact hc2
  exact hc1
 cases s
 .exact hQ2 a ha
 exact hQ1 a ha
def uZ (P:Program) (n:Nat) (ops:Array Oper) (W:Nat->World) (p:Nat):Nat->List OpD->Prop
 | _,[]=>True
 | i,d::ds=>(if i==p then True else ∀ j,d.lo<=j->j<=d.hi->jK P n ops d.o d.li d.v (W j) (W (j+if d.e=true then 1 else 0)))/\uZ P n ops W p (i+1) ds
theorem uZ.get {ops:Array Oper} {W:Nat->World} {p:Nat}:∀ {ds:List OpD} {b:Nat},uZ P n ops W p b ds->∀ {i:Nat} {d:OpD},ds[i]?=some d->b+i≠p->∀ j,d.lo<=j->j<=d.hi->jK P n ops d.o d.li d.v (W j) (W (j+if d.e=true then 1 else 0))
 | [],_,_,_,_,h,_=>by simp at h
 | _::_,b,h,0,_,hd,hp=>by
  simp at hd;subst hd;have h1:=h.1;have:(b==p)=false:=by simpa using hp
  rw[this] at h1;simpa using h1
 | _::_,b,h,i+1,_,hd,hp=>uZ.get h.2 (i:=i) (by simpa using hd) (by omega)
end
end
end Go.Proofs.Ytggheaclnklhaaa.D
