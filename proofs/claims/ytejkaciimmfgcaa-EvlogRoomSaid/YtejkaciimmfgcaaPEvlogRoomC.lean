/- EvlogRoom -/
import Derived.Test.YtejkaciimmfgcaaPEvlogRoomA
import Derived.Test.YtejkaciimmfgcaaPEvlogRoomB
namespace Go.Proofs.Ytejkaciimmfgcaa.D
open Go
set_option linter.unusedVariables false
set_option linter.unusedSimpArgs false
set_option maxHeartbeats 1000000
set_option maxRecDepth 100000
noncomputable section
def iW (v3:Sl) (a0:Option Addr) (a1:Int) (x5:Sl) (x6:Int) (w7:World):Option ((Sl×Int×World)⊕((Sl×World)⊕(Sl×Int×World))) :=
 if (decide (x6<(v3.n:Int)))=true then
 (pS ((ix v3 x6 5).bind fun p26 =>
 (ldA 5 w7 p26 0).bind fun c28 =>
 aN (mk w7 125 (List.replicate 4 (.int .i64 0)++[.slice none 0 0])) fun p30 w31 =>
 (stA w31 p30 0 c28).bind fun w33 =>
 aN ((a0).bind fun p39 =>
 (ldL w33 (p39.add 7)).bind fun v41 =>
 if (x6==(IntKind.wrap .i64 ((v41.n:Int)-1)))=true then
 (some (true,w33))
 else
 ((ldI .i64 w33 (p30.add 3)).bind fun v44 =>
 some ((decide (a1<v44)),w33))) fun v35 w36 =>
 if v35=true then
 ((ldA 5 w36 p30 0).bind fun c47 =>
 aN (bsl w36 125 5 [c47]) fun s49 w50 =>
 aN (apS Try.prog 117 x5 s49 w50) fun s52 w53 =>
 some (.inr (s52,w53)))
 else
 ((dr w36).bind fun w55 =>
 (a0).bind fun p57 =>
 (ldP w55 (p57.add 0)).bind fun v59 =>
 (ldI .i64 w55 (p30.add 0)).bind fun v61 =>
 aN (jD a0 v61 0 w55) fun v63 w64 =>
 aN (cD v59 v63 Sl.nil w64) fun v66 w67 =>
 chk (ldP w64 (p57.add 0)=some v59) <|
 if (v66 !=0)=true then
 ((some (.inr (.inr (Sl.nil,v66,w67)))).bind fun g25=>some (.inl g25))
 else
 (some (.inr (x5,w67))))) some fun (i:Sl×World)=>u2 i fun v19 w20 =>
 some (.inl (v19,(IntKind.wrap .i64 (x6+1)),w20)))
 else
 (some (.inr (.inl (x5,w7))))
noncomputable def kK (a0:Option Addr) (a1:Int) (w:World):Option (Sl×Int×World) :=
 (a0).bind fun p1 =>
 (ldL w (p1.add 7)).bind fun v3 =>
 (bM (fun s:Sl×Int×World=>iW v3 a0 a1 s.1 s.2.1 s.2.2) (Sl.nil,0,w)).bind fun r8=>Sum.elim (fun (i:Sl×World)=>u2 i fun v10 w11 =>
 some (v10,0,w11)) (fun (i:Sl×Int×World)=>u3 i fun v12 v13 w14 =>
 some (v12,v13,w14)) r8
theorem pT {a0 a1 w w' r0 r1} (h:kK a0 a1 w=some (r0,r1,w')):Calls Try.prog 71 #[(.pointer a0),(.int .i64 a1)] w fun e w''=>e=.returned (.tuple #[(Sl.v r0),(.int .i64 r1)])/\w''=w':=by
 refine aP (n:=51) Try.func71 rfl Try.ntmps71 (by simp) fun a u=>?_;unfold kK at h;refine wp_seq<|aA<|qa u rfl fun a u=>qa u rfl fun a u=>aB<|t_n<|wp_seq<|wp_seq<|aA<|qm u rfl fun a u=>?_;have⟨p1,e2,h⟩:=bs1 h;refine q u (aH u rfl e2) fun a u=>q u (aK u rfl aGO rfl rfl aHn) fun a u=>?_;have⟨v3,e4,h⟩:=bs1 h;refine q u (aJ u rfl aHA (aV e4)) fun a u=>q u (aZ u rfl aGX) fun a u=>qm u rfl fun a u=>aB<|t_n<|wp_block<|?_;have⟨r8,e9,h⟩:=bs1 h;refine oR (n:=51) (L1:=fun i=>[(4,(Sl.v i.1))]) (w1:=fun i=>i.2) (L2:=fun i=>[(4,(Sl.v i.1)),(5,(iV i.2.1))]) (w2:=fun i=>i.2.2) (e1:=.exit 0) (e2:=.ret) (I:=fun (s:Sl×Int×World) a w=>Has 51 [(4,(Sl.v s.1)),(14,(iV s.2.1)),(0,(pV a0)),(1,(iV a1)),(12,(Sl.v v3)),(13,(iV (v3.n:Int)))] a/\w=s.2.2) ⟨u.sub ⟨rfl,rfl,rfl,rfl,rfl,rfl,aLz⟩,rfl⟩ e9 (fun i hi a u=>?_) (fun i hi a u=>?_) (fun hk15 hk16=>?_)
 .subst hi;obtain⟨v10,w11⟩:=i;dsimp only[Sum.elim_inl,Sum.elim_inr,u1,u2,u3,u4,u5,u6] at h;have u:Has 51 [(4,(Sl.v v10))] a:=u;refine eC<|t_n<|wp_seq<|aA<|qm u rfl fun a u=>qa u rfl fun a u=>qa u rfl fun a u=>aB<|t_n<|wp_ret<|?_;have y:=u;cases h;exact jA Try.results71 y rfl rfl ⟨rfl,rfl⟩
 .subst hi;obtain⟨v12,v13,w14⟩:=i;dsimp only[Sum.elim_inl,Sum.elim_inr,u1,u2,u3,u4,u5,u6] at h;have u:Has 51 [(4,(Sl.v v12)),(5,(iV v13))] a:=u;refine b_r<|t_r<|?_;have y:=u;cases h;exact jA Try.results71 y rfl rfl ⟨rfl,rfl⟩
 clear h;rintro⟨x5,x6,w7⟩ a wq o ⟨u,hwq⟩ h hr17;obtain rfl:w7=wq:=hwq.symm;have u:Has 51 [(4,(Sl.v x5)),(14,(iV x6)),(0,(pV a0)),(1,(iV a1)),(12,(Sl.v v3)),(13,(iV (v3.n:Int)))] a:=u;have h:iW v3 a0 a1 x5 x6 w7=some o:=h;unfold iW at h;refine wp_seq<|aA<|q u (dK u rfl rfl) fun a u=>aB<|t_n<|wp_seq<|?_;refine aO u rfl h (fun b18 h=>?_) (fun b18 h=>?_)
 .refine wp_skip<|t_n<|?_;obtain⟨o23,e21,h22⟩:=bsX h;clear h;refine tT (n:=51) (ι:=Sl×World) (Lf:=fun i=>[(4,(Sl.v i.1)),(0,(pV a0)),(1,(iV a1)),(12,(Sl.v v3)),(13,(iV (v3.n:Int))),(14,(iV x6))]) (wf:=fun i=>i.2) (C:=fun i=>o23=.inr i) (fun i hi a u=>?_) (fun hk24=>?_)
  .subst hi;obtain⟨v19,w20⟩:=i;have h:=h22;dsimp only[pS,u1,u2,u3,u4,u5,u6] at h;have u:Has 51 [(4,(Sl.v v19)),(0,(pV a0)),(1,(iV a1)),(12,(Sl.v v3)),(13,(iV (v3.n:Int))),(14,(iV x6))] a:=u;refine aA<|q u (bJ u rfl rfl) fun a u=>qm u rfl fun a u=>aB<|?_;have y:=u;cases h;exact dS ⟨y.sb rfl,rfl⟩
  have h:=e21;refine wp_block<|wp_seq<|aA<|qm u rfl fun a u=>?_;have⟨p26,e27,h⟩:=bs1 h;refine q u (bZ u rfl rfl aGX aGW e27) fun a u=>?_;have⟨c28,e29,h⟩:=bs1 h;refine q u (gC u rfl aHx aGW e29) fun a u=>?_;have⟨p30,w31,e32,h⟩:=bs2 h;refine q u (eX aHq (by kernel_rfl) e32) fun a u=>qa u rfl fun a u=>?_;have⟨w33,e34,h⟩:=bs1 h;refine q u (eW u rfl rfl aGW ((kR e29).1) e34) fun a u=>aB<|t_n<|wp_seq<|wp_seq<|?_;have⟨v35,w36,e37,h⟩:=bs2 h;refine bP (n:=51) (L:=[(32,(bV v35)),(0,(pV a0)),(1,(iV a1)),(4,(Sl.v x5)),(7,(pV (some p30))),(12,(Sl.v v3)),(13,(iV (v3.n:Int))),(14,(iV x6))]) (w':=w36) (fun a u=>?_) (fun hk38=>?_)
  .refine t_n<|?_;refine aO u rfl h (fun b46 h=>?_) (fun b46 h=>?_)
   .refine wp_seq<|aA<|qm u rfl fun a u=>?_;have⟨c47,e48,h⟩:=bs1 h;refine q u (gC u rfl aHx aGW e48) fun a u=>?_;have⟨s49,w50,e51,h⟩:=bs2 h;refine q u (iK (vs:=[(0,(.agg (List.toArray c47)))]) (ps:=[c47]) u ⟨rfl,rfl,aLz⟩ ⟨rfl,rfl,aLz⟩ rfl aGX aGW aHq (by decide) e51) fun a u=>?_;have⟨s52,w53,e54,h⟩:=bs2 h;refine q u (iF u rfl rfl e54) fun a u=>qa u rfl fun a u=>aB<|t_n<|wp_exit<|t_x<|eC<|?_;have y:=u;cases h;exact hk24 _ rfl _ (y.sb rfl)
   refine wp_skip<|t_n<|wp_seq<|?_;have⟨w55,e56,h⟩:=bs1 h;have⟨p57,e58,h⟩:=bs1 h;have⟨v59,e60,h⟩:=bs1 h;have⟨v61,e62,h⟩:=bs1 h;have⟨v63,w64,e65,h⟩:=bs2 h;have⟨v66,w67,e68,h⟩:=bs2 h;obtain⟨e69,h⟩:=bO h;have u:Has 51 [(0,(pV a0)),(1,(iV a1)),(4,(Sl.v x5)),(7,(pV (some p30))),(12,(Sl.v v3)),(13,(iV (v3.n:Int))),(14,(iV x6))] a:=u.sb rfl;refine aM (n:=51) (ds:=(aI (pV a0) false 0 1 [] [(0,(pV a0))]::aI (pV (some p57)) false 0 1 [0] [(37,(pV a0))]::aI (pV (some (p57.add 0))) false 0 1 [0,1] [(38,(pV (some p57)))]::aI (pV v59) false 0 1 [0,1,2] [(39,(pV (some (p57.add 0))))]::aS (pV a0) 0 [] 0::aG (pV (some (p30.add 0))) 0 [] 7 (pV (some p30))::aG (iV v61) 0 [5] 42 (pV (some (p30.add 0)))::aI (iV v63) true 0 0 [4,5,6] [(41,(pV a0)),(43,(iV v61))]::aI (iV v66) true 1 1 (rn 0 8) [(40,(pV v59)),(44,(iV v63))]::aS (iV v66) 2 (rn 0 9) 45::[])) (W:=(fun j=>match j with | 0=>w55 | 1=>w64 | 2=>w67 | _=>w67)) (by kernel_rfl) u (cY e56) (by kernel_rfl) ?_ (aR (by kernel_rfl)) (by kernel_rfl) (m:=2) (by kernel_rfl) (fun a u=>?_)
   .refine⟨oa (aC · rfl),oa (aH · rfl e58),oa (aK · rfl aGO rfl rfl aHm),?_,oa (aC · rfl),oa (aK · rfl aGU rfl rfl aGL),oc 0 (kd (aJ · rfl aGN (aQ e62))),oc 0 (kd (dc3 · rfl rfl rfl Try.call85 (lD e65))),oc 1 (kd (mO (xs:=[_,_,_]) (vs:=[(pV v59),(iV v63),(Sl.v Sl.nil)]) · ⟨rfl,rfl,rfl,aLz⟩ Try.call84 (fC e68))),oa (bD · rfl),aLz⟩;intro j h1 h2;have h1:0<=j:=h1;have h2:j<=1:=h2;rcases(by omega:j=0\/j=1) with rfl | rfl
    .exact kd (aJ · rfl aHj (bA e60))
    exact kd (aJ · rfl aHj (bA e69))
   have u:Has 51 [(0,(pV a0)),(1,(iV a1)),(4,(Sl.v x5)),(8,(iV v66)),(12,(Sl.v v3)),(13,(iV (v3.n:Int))),(14,(iV x6))] a:=u.sb rfl;refine t_n<|wp_seq<|aA<|qm u rfl fun a u=>q u (fJ u rfl rfl) fun a u=>aB<|t_n<|?_;refine aO u rfl h (fun b70 h=>?_) (fun b70 h=>?_)
   .refine wp_seq<|aA<|qm u rfl fun a u=>qa u rfl fun a u=>qa u rfl fun a u=>aB<|t_n<|wp_ret<|b_r<|?_;have y:=u;have⟨g25,e71,h⟩:=bs1 h;cases h;cases h22;have h:=e71;have u:=y;refine t_r<|?_;have y:=u;cases h;cases hr17 _ rfl;refine vV<|?_;exact hk16 _ rfl _ (y.sb rfl)
   refine wp_skip<|b_n<|?_;have y:=u;cases h;exact hk24 _ rfl _ (y.sb rfl)
  clear h;have h:=e37;refine aA<|qm u rfl fun a u=>qm u rfl fun a u=>?_;have⟨p39,e40,h⟩:=bs1 h;refine q u (aH u rfl e40) fun a u=>q u (aK u rfl aGO rfl rfl aHn) fun a u=>?_;have⟨v41,e42,h⟩:=bs1 h;refine q u (aJ u rfl aHA (aV e42)) fun a u=>q u (aZ u rfl aGX) fun a u=>q u (iB u rfl rfl) fun a u=>q u (gD u rfl rfl) fun a u=>qm u rfl fun a u=>?_;refine bW h (fun b43 h=>?_) (fun b43 h=>?_)
  .refine qn u 27 (tn b43) fun a u=>qn u 27 (tn b43) fun a u=>qn u 27 (tn b43) fun a u=>qn u 27 (tn b43) fun a u=>q u (aF u rfl b43 rfl) fun a u=>aB<|?_;have y:=u;cases h;exact hk38 _ (y.sb rfl)
  refine qg u 27 (nt b43) (aK u rfl aGU rfl rfl aGL) fun a u=>?_;have⟨v44,e45,h⟩:=bs1 h;refine qg u 27 (nt b43) (aJ u rfl aGN (aQ e45)) fun a u=>qg u 27 (nt b43) (aC u rfl) fun a u=>qg u 27 (nt b43) (gF u rfl rfl) fun a u=>q u (aL u rfl b43 rfl) fun a u=>aB<|?_;have y:=u;cases h;exact hk38 _ (y.sb rfl)
 refine wp_exit<|t_x<|?_;have y:=u;cases h;cases hr17 _ rfl;refine lM<|?_;exact hk15 _ rfl _ (y.sb rfl)
noncomputable def fV (a0:Option Addr) (a1:Int) (x1:Int) (x2:Int) (w3:World):Option ((Int×Int×World)⊕((Int×World)⊕(Int×Int×World))) :=
 if (decide (x2<16))=true then
 (pS (aN (jO a0 a1 x2 w3) fun v22 w23 =>
 aN (mY v22 w23) fun v25 w26 =>
 if v25=true then
 (some (.inr (x1,w26)))
 else
 ((dr w26).bind fun w29 =>
 (a0).bind fun p31 =>
 (ldP w29 (p31.add 0)).bind fun v33 =>
 aN (jD a0 a1 x2 w29) fun v35 w36 =>
 aN (cD v33 v35 Sl.nil w36) fun v38 w39 =>
 chk (ldP w36 (p31.add 0)=some v33) <|
 if (v38 !=0)=true then
 ((some (.inr (.inr (x1,v38,w39)))).bind fun g21=>some (.inl g21))
 else
 (some (.inr ((IntKind.wrap .i64 (x1+1)),w39))))) some fun (i:Int×World)=>u2 i fun v15 w16 =>
 some (.inl (v15,(IntKind.wrap .i64 (x2+1)),w16)))
 else
 (some (.inr (.inl (x1,w3))))
noncomputable def kG (a0:Option Addr) (a1:Int) (a2:Int) (w:World):Option (Int×Int×World) :=
 (bM (fun s:Int×Int×World=>fV a0 a1 s.1 s.2.1 s.2.2) (0,a2,w)).bind fun r4=>Sum.elim (fun (i:Int×World)=>u2 i fun v6 w7 =>
 some (v6,0,w7)) (fun (i:Int×Int×World)=>u3 i fun v8 v9 w10 =>
 some (v8,v9,w10)) r4
theorem pX {a0 a1 a2 w w' r0 r1} (h:kG a0 a1 a2 w=some (r0,r1,w')):Calls Try.prog 72 #[(.pointer a0),(.int .i64 a1),(.int .i64 a2)] w fun e w''=>e=.returned (.tuple #[(.int .i64 r0),(.int .i64 r1)])/\w''=w':=by
 refine aP (n:=37) Try.func72 rfl Try.ntmps72 (by simp) fun a u=>?_;unfold kG at h;refine wp_seq<|aA<|qa u rfl fun a u=>qa u rfl fun a u=>aB<|t_n<|wp_seq<|aA<|qa u rfl fun a u=>aB<|t_n<|wp_seq<|wp_seq<|aA<|qm u rfl fun a u=>qa u rfl fun a u=>aB<|t_n<|wp_block<|?_;have⟨r4,e5,h⟩:=bs1 h;refine oR (n:=37) (L1:=fun i=>[(8,(iV i.1))]) (w1:=fun i=>i.2) (L2:=fun i=>[(6,(iV i.1)),(7,(iV i.2.1))]) (w2:=fun i=>i.2.2) (e1:=.exit 0) (e2:=.ret) (I:=fun (s:Int×Int×World) a w=>Has 37 [(8,(iV s.1)),(9,(iV s.2.1)),(0,(pV a0)),(1,(iV a1))] a/\w=s.2.2) ⟨u.sub ⟨rfl,rfl,rfl,rfl,aLz⟩,rfl⟩ e5 (fun i hi a u=>?_) (fun i hi a u=>?_) (fun hk11 hk12=>?_)
 .subst hi;obtain⟨v6,w7⟩:=i;dsimp only[Sum.elim_inl,Sum.elim_inr,u1,u2,u3,u4,u5,u6] at h;have u:Has 37 [(8,(iV v6))] a:=u;refine eC<|t_n<|wp_seq<|aA<|qm u rfl fun a u=>qa u rfl fun a u=>qa u rfl fun a u=>aB<|t_n<|wp_ret<|?_;have y:=u;cases h;exact jA Try.results72 y rfl rfl ⟨rfl,rfl⟩
 .subst hi;obtain⟨v8,v9,w10⟩:=i;dsimp only[Sum.elim_inl,Sum.elim_inr,u1,u2,u3,u4,u5,u6] at h;have u:Has 37 [(6,(iV v8)),(7,(iV v9))] a:=u;refine b_r<|t_r<|?_;have y:=u;cases h;exact jA Try.results72 y rfl rfl ⟨rfl,rfl⟩
 clear h;rintro⟨x1,x2,w3⟩ a wq o ⟨u,hwq⟩ h hr13;obtain rfl:w3=wq:=hwq.symm;have u:Has 37 [(8,(iV x1)),(9,(iV x2)),(0,(pV a0)),(1,(iV a1))] a:=u;have h:fV a0 a1 x1 x2 w3=some o:=h;unfold fV at h;refine wp_seq<|wp_seq<|aA<|qm u rfl fun a u=>q u (dK u rfl rfl) fun a u=>aB<|t_n<|?_;refine aO u rfl h (fun b14 h=>?_) (fun b14 h=>?_)
 .refine wp_skip<|t_n<|?_;obtain⟨o19,e17,h18⟩:=bsX h;clear h;refine tT (n:=37) (ι:=Int×World) (Lf:=fun i=>[(8,(iV i.1)),(0,(pV a0)),(1,(iV a1)),(9,(iV x2))]) (wf:=fun i=>i.2) (C:=fun i=>o19=.inr i) (fun i hi a u=>?_) (fun hk20=>?_)
  .subst hi;obtain⟨v15,w16⟩:=i;have h:=h18;dsimp only[pS,u1,u2,u3,u4,u5,u6] at h;have u:Has 37 [(8,(iV v15)),(0,(pV a0)),(1,(iV a1)),(9,(iV x2))] a:=u;refine aA<|qm u rfl fun a u=>q u (bJ u rfl rfl) fun a u=>qa u rfl fun a u=>aB<|?_;have y:=u;cases h;exact dS ⟨y.sb rfl,rfl⟩
  have h:=e17;refine wp_block<|wp_seq<|wp_seq<|aA<|qm u rfl fun a u=>qm u rfl fun a u=>qm u rfl fun a u=>?_;have⟨v22,w23,e24,h⟩:=bs2 h;refine q u (dc3 u rfl rfl rfl Try.call111 (nD e24)) fun a u=>?_;have⟨v25,w26,e27,h⟩:=bs2 h;refine q u (dc1 u rfl Try.call110 (rH e27)) fun a u=>aB<|t_n<|?_;refine aO u rfl h (fun b28 h=>?_) (fun b28 h=>?_)
  .refine wp_exit<|t_x<|eC<|?_;have y:=u;cases h;exact hk20 _ rfl _ (y.sb rfl)
  refine wp_skip<|t_n<|wp_seq<|wp_seq<|?_;have⟨w29,e30,h⟩:=bs1 h;have⟨p31,e32,h⟩:=bs1 h;have⟨v33,e34,h⟩:=bs1 h;have⟨v35,w36,e37,h⟩:=bs2 h;have⟨v38,w39,e40,h⟩:=bs2 h;obtain⟨e41,h⟩:=bO h;have u:Has 37 [(0,(pV a0)),(1,(iV a1)),(8,(iV x1)),(9,(iV x2))] a:=u.sb rfl;refine aM (n:=37) (ds:=(aI (pV a0) false 0 1 [] [(0,(pV a0))]::aI (pV (some p31)) false 0 1 [0] [(21,(pV a0))]::aI (pV (some (p31.add 0))) false 0 1 [0,1] [(22,(pV (some p31)))]::aI (pV v33) false 0 1 [0,1,2] [(23,(pV (some (p31.add 0))))]::aS (pV a0) 0 [] 0::aS (iV a1) 0 [] 1::aS (iV x2) 0 [] 9::aI (iV v35) true 0 0 [4,5,6] [(25,(pV a0)),(26,(iV a1)),(27,(iV x2))]::aI (iV v38) true 1 1 (rn 0 8) [(24,(pV v33)),(28,(iV v35))]::aS (iV v38) 2 (rn 0 9) 29::[])) (W:=(fun j=>match j with | 0=>w29 | 1=>w36 | 2=>w39 | _=>w39)) (by kernel_rfl) u (cY e30) (by kernel_rfl) ?_ (aR (by kernel_rfl)) (by kernel_rfl) (m:=2) (by kernel_rfl) (fun a u=>?_)
  .refine⟨oa (aC · rfl),oa (aH · rfl e32),oa (aK · rfl aGO rfl rfl aHm),?_,oa (aC · rfl),oa (aC · rfl),oa (aC · rfl),oc 0 (kd (dc3 · rfl rfl rfl Try.call85 (lD e37))),oc 1 (kd (mO (xs:=[_,_,_]) (vs:=[(pV v33),(iV v35),(Sl.v Sl.nil)]) · ⟨rfl,rfl,rfl,aLz⟩ Try.call84 (fC e40))),oa (bD · rfl),aLz⟩;intro j h1 h2;have h1:0<=j:=h1;have h2:j<=1:=h2;rcases(by omega:j=0\/j=1) with rfl | rfl
   .exact kd (aJ · rfl aHj (bA e34))
   exact kd (aJ · rfl aHj (bA e41))
  have u:Has 37 [(0,(pV a0)),(1,(iV a1)),(8,(iV x1)),(9,(iV x2)),(10,(iV v38))] a:=u.sb rfl;refine t_n<|wp_seq<|aA<|qm u rfl fun a u=>q u (fJ u rfl rfl) fun a u=>aB<|t_n<|?_;refine aO u rfl h (fun b42 h=>?_) (fun b42 h=>?_)
  .refine wp_seq<|aA<|qm u rfl fun a u=>qm u rfl fun a u=>qa u rfl fun a u=>qa u rfl fun a u=>aB<|t_n<|wp_ret<|t_r<|b_r<|?_;have y:=u;have⟨g21,e43,h⟩:=bs1 h;cases h;cases h18;have h:=e43;have u:=y;refine t_r<|?_;have y:=u;cases h;cases hr13 _ rfl;refine vV<|?_;exact hk12 _ rfl _ (y.sb rfl)
  refine wp_skip<|t_n<|aA<|qm u rfl fun a u=>q u (bJ u rfl rfl) fun a u=>qa u rfl fun a u=>aB<|b_n<|?_;have y:=u;cases h;exact hk20 _ rfl _ (y.sb rfl)
 refine wp_exit<|t_x<|?_;have y:=u;cases h;cases hr13 _ rfl;refine lM<|?_;exact hk11 _ rfl _ (y.sb rfl)
noncomputable def mV (a0:Option Addr) (a1:Int) (a2:Int) (w:World):ND ((Option Addr)×Int×World) :=
 if (a0.isNone)=true then
 (aU (none,1,w))
 else
 (lb2 (dB a0 w) fun v2 w3 =>
 if v2=true then
 (aU (none,10,w3))
 else
 (cb2 (if (decide (a2<2))=true then
 (aU (true,w3))
 else
 (if (decide (16<a2))=true then
 (aU (true,w3))
 else
 (if (decide (a1<0))=true then
 (aU (true,w3))
 else
 (lb2 (eL a0 w3) fun v13 w14 =>
 aU ((decide ((IntKind.wrap .i64 ((IntKind.wrap .i64 (v13-2))-(IntKind.wrap .i64 (a2*16))))<a1)),w14))))) fun v6 w7 =>
 if v6=true then
 (aU (none,2,w7))
 else
 (lb2 (iC a0 w7) fun v17 w18 =>
 lb2 (mk w18 119 ([.pointer a0,.pointer none,.int .i64 a1,.int .i64 a2,.int .i64 v17,.int .i64 0,.int .i64 0,.slice none 0 0])) fun p20 w21 =>
 lb3 (oZ a0 a1 1 w21) fun v23 v24 w25 =>
 lb1 (stV w25 (p20.add 1) (.pointer v23)) fun w27 =>
 cb1 (lZ (some p20) w27) fun w29 =>
 lb1 (ldL w29 (p20.add 7)) fun v31 =>
 lb1 (ldI .i64 w29 (p20.add 6)) fun v33 =>
 lb3 (kK (some p20) v33 w29) fun v35 v36 w37 =>
 if (v36 !=0)=true then
 (aU (none,v36,w37))
 else
 (cbX (lb1 (stV w37 (p20.add 7) (Sl.v v35)) fun w47 =>
 if (decide (0<(v35.n:Int)))=true then
 (lb1 (ix v35 (IntKind.wrap .i64 ((v35.n:Int)-1)) 5) fun p50 =>
 lb1 (ldA 5 w47 p50 0) fun c52 =>
 lb2 (mk w47 125 (List.replicate 4 (.int .i64 0)++[.slice none 0 0])) fun p54 w55 =>
 lb1 (stA w55 p54 0 c52) fun w57 =>
 lb1 (ldI .i64 w57 (p54.add 0)) fun v59 =>
 lb1 (ldI .i64 w57 (p54.add 2)) fun v61 =>
 lb3 (kG (some p20) v59 v61 w57) fun v63 v64 w65 =>
 if (v64 !=0)=true then
 (cb1 (aU (none,v64,w65)) fun g46=>aU (.inl g46))
 else
 (aU (.inr ((IntKind.wrap .i64 ((IntKind.wrap .i64 ((v31.n:Int)-(v35.n:Int)))+v63)),w65))))
 else
 (aU (.inr ((IntKind.wrap .i64 ((v31.n:Int)-(v35.n:Int))),w47)))) fun (i:Int×World)=>u2 i fun v40 w41 =>
 cbX (if (decide (0<v40))=true then
 (lb2 (bY a0 w41) fun v76 w77 =>
 if (v76 !=0)=true then
 (cb1 (aU (none,v76,w77)) fun g74=>aU (.inl g74))
 else
 (aU (.inr w77)))
 else
 (aU (.inr w41))) fun (i:World)=>u1 i fun w69 =>
 aU ((some p20),0,w69)))))
theorem pZ {a0 a1 a2 w Q} (h:(mV a0 a1 a2 w).t Q):Calls Try.prog 32 #[(.pointer a0),(.int .i64 a1),(.int .i64 a2)] w fun e w''=>∃ i,e=.returned (.tuple #[(.pointer i.1),(.int .i64 i.2.1)])/\Q i/\w''=i.2.2:=by
 refine aP (n:=119) Try.func32 rfl Try.ntmps32 (by simp) fun a u=>?_;unfold mV at h;refine wp_seq<|aA<|qa u rfl fun a u=>qa u rfl fun a u=>aB<|t_n<|wp_seq<|wp_block<|wp_seq<|aA<|qm u rfl fun a u=>q u (jJ u rfl rfl aHt) fun a u=>qa u rfl fun a u=>aB<|t_n<|?_;refine aX u rfl h (fun b1 h=>?_) (fun b1 h=>?_)
 .refine wp_seq<|aA<|qa u rfl fun a u=>qa u rfl fun a u=>aB<|t_n<|wp_ret<|b_r<|t_r<|?_;exact jA Try.results32 u rfl rfl ⟨(none,1,w),rfl,h,rfl⟩
 refine wp_seq<|aA<|qm u rfl fun a u=>?_;obtain⟨v2,w3,e4,h⟩:=h;refine q u (dc1 u rfl Try.call47 (hJ e4)) fun a u=>qa u rfl fun a u=>aB<|t_n<|?_;refine aX u rfl h (fun b5 h=>?_) (fun b5 h=>?_)
 .refine wp_seq<|aA<|qa u rfl fun a u=>qa u rfl fun a u=>aB<|t_n<|wp_ret<|b_r<|t_r<|?_;exact jA Try.results32 u rfl rfl ⟨(none,10,w3),rfl,h,rfl⟩
 refine wp_seq<|?_;refine dD (n:=119) (ι:=Bool×World) (Lf:=fun i=>[(23,(bV i.1)),(0,(pV a0)),(1,(iV a1)),(2,(iV a2))]) (wf:=fun i=>i.2) (un2 h) (fun i h a u=>?_) (fun h hk9=>?_)
 .obtain⟨v6,w7⟩:=i;have u:Has 119 [(23,(bV v6)),(0,(pV a0)),(1,(iV a1)),(2,(iV a2))] a:=u;refine t_n<|?_;refine aX u rfl h (fun b16 h=>?_) (fun b16 h=>?_)
  .refine wp_seq<|aA<|qa u rfl fun a u=>qa u rfl fun a u=>aB<|t_n<|wp_ret<|b_r<|t_r<|?_;exact jA Try.results32 u rfl rfl ⟨(none,2,w7),rfl,h,rfl⟩
  refine wp_skip<|b_n<|t_n<|wp_seq<|aA<|qm u rfl fun a u=>qm u rfl fun a u=>qm u rfl fun a u=>qm u rfl fun a u=>?_;obtain⟨v17,w18,e19,h⟩:=h;refine q u (dc1 u rfl Try.call68 (pI e19)) fun a u=>q u (dZ (vs:=[(0,(pV a0)),(2,(iV a1)),(3,(iV a2)),(4,(iV v17))]) (pl:=#[(0,1),(1,1),(2,1),(3,1),(4,1),(5,1),(6,1),(7,1)]) (cs:=([.pointer a0,.pointer none,.int .i64 a1,.int .i64 a2,.int .i64 v17,.int .i64 0,.int .i64 0,.slice none 0 0])) u ⟨rfl,rfl,rfl,rfl,rfl,rfl,rfl,rfl,aLz⟩ Try.zeroValue119 aGO (by intro w;kernel_rfl) (by kernel_rfl)) fun a u=>?_;obtain⟨p20,w21,e22,h⟩:=h;refine q u (rF u rfl rfl e22) fun a u=>qa u rfl fun a u=>aB<|t_n<|wp_seq<|aA<|qm u rfl fun a u=>qm u rfl fun a u=>qm u rfl fun a u=>?_;obtain⟨v23,v24,w25,e26,h⟩:=h;refine q u (dc3 u rfl rfl rfl Try.call69 (zC e26)) fun a u=>qm u rfl fun a u=>q u (aW u rfl rfl) fun a u=>q u (aW u rfl rfl) fun a u=>q u (lX u rfl) fun a u=>q u (aK u rfl aGO rfl rfl aIn) fun a u=>?_;obtain⟨w27,e28,h⟩:=h;refine q u (fO u rfl rfl aIn e28) fun a u=>aB<|t_n<|wp_seq<|aA<|qm u rfl fun a u=>?_;refine jV (ι:=World) (pk:=fun i=>(.tuple #[])) (wf:=fun i=>i) (xs:=[_]) (vs:=[(pV (some p20))]) u ⟨rfl,aLz⟩ Try.call70 (tD (un1 h)) (fun i h a u=>?_);obtain⟨w29,rfl⟩:∃ x,x=i:=⟨i,rfl⟩;refine aB<|t_n<|wp_seq<|aA<|qm u rfl fun a u=>q u (lX u rfl) fun a u=>q u (aK u rfl aGO rfl rfl aHn) fun a u=>?_;obtain⟨v31,e32,h⟩:=h;refine q u (aJ u rfl aHA (aV e32)) fun a u=>q u (aZ u rfl aGX) fun a u=>qa u rfl fun a u=>aB<|t_n<|wp_seq<|aA<|qm u rfl fun a u=>qm u rfl fun a u=>q u (lX u rfl) fun a u=>q u (aK u rfl aGO rfl rfl aGL) fun a u=>?_;obtain⟨v33,e34,h⟩:=h;refine q u (aJ u rfl aGN (aQ e34)) fun a u=>?_;obtain⟨v35,v36,w37,e38,h⟩:=h;refine q u (dc2 u rfl rfl Try.call71 (pT e38)) fun a u=>qm u rfl fun a u=>q u (aW u rfl rfl) fun a u=>q u (aW u rfl rfl) fun a u=>qa u rfl fun a u=>qa u rfl fun a u=>aB<|t_n<|wp_seq<|wp_seq<|aA<|qm u rfl fun a u=>q u (fJ u rfl rfl) fun a u=>aB<|t_n<|?_;refine aX u rfl h (fun b39 h=>?_) (fun b39 h=>?_)
  .refine wp_seq<|aA<|qm u rfl fun a u=>qa u rfl fun a u=>qa u rfl fun a u=>aB<|t_n<|wp_ret<|t_r<|?_;exact jA Try.results32 u rfl rfl ⟨(none,v36,w37),rfl,h,rfl⟩
  refine wp_skip<|t_n<|wp_seq<|aA<|qm u rfl fun a u=>qm u rfl fun a u=>q u (aZ u rfl aGX) fun a u=>q u (iB u rfl rfl) fun a u=>qa u rfl fun a u=>aB<|t_n<|?_;refine mU (n:=119) (ι:=Int×World) (Lf:=fun i=>[(12,(iV i.1)),(0,(pV a0)),(8,(pV (some p20)))]) (wf:=fun i=>i.2) (unX h) (fun i h a u=>?_) (fun h hk45=>?_)
  .obtain⟨v40,w41⟩:=i
   try dsimp only[Sum.elim_inl,Sum.elim_inr,u1,u2,u3,u4,u5,u6] at h
   have u:Has 119 [(12,(iV v40)),(0,(pV a0)),(8,(pV (some p20)))] a:=u;refine mU (n:=119) (ι:=World) (Lf:=fun i=>[(8,(pV (some p20)))]) (wf:=fun i=>i) (unX h) (fun i h a u=>?_) (fun h hk73=>?_)
   .obtain⟨w69,rfl⟩:∃ x,x=i:=⟨i,rfl⟩
    try dsimp only[Sum.elim_inl,Sum.elim_inr,u1,u2,u3,u4,u5,u6] at h
    have u:Has 119 [(8,(pV (some p20)))] a:=u;refine wp_seq<|aA<|qm u rfl fun a u=>qa u rfl fun a u=>qa u rfl fun a u=>aB<|t_n<|wp_ret<|?_;exact jA Try.results32 u rfl rfl ⟨((some p20),0,w69),rfl,h,rfl⟩
   refine wp_seq<|aA<|qm u rfl fun a u=>q u (gF u rfl rfl) fun a u=>aB<|t_n<|?_;refine aX u rfl h (fun b75 h=>?_) (fun b75 h=>?_)
   .refine wp_seq<|aA<|qm u rfl fun a u=>?_;obtain⟨v76,w77,e78,h⟩:=h;refine q u (dc1 u rfl Try.call36 (jB e78)) fun a u=>qa u rfl fun a u=>aB<|t_n<|wp_seq<|aA<|qm u rfl fun a u=>q u (fJ u rfl rfl) fun a u=>aB<|t_n<|?_;refine aX u rfl h (fun b79 h=>?_) (fun b79 h=>?_)
    .refine wp_seq<|aA<|qm u rfl fun a u=>qa u rfl fun a u=>qa u rfl fun a u=>aB<|t_n<|wp_ret<|?_;have h:=unL h;refine t_r<|?_;exact jA Try.results32 u rfl rfl ⟨(none,v76,w77),rfl,h,rfl⟩
    refine wp_skip<|?_;exact hk73 w77 h _ (u.sb rfl)
   refine wp_skip<|?_;exact hk73 w41 h _ (u.sb rfl)
  refine wp_seq<|aA<|qm u rfl fun a u=>qm u rfl fun a u=>q u (lX u rfl) fun a u=>q u (aK u rfl aGO rfl rfl aHn) fun a u=>?_;obtain⟨w47,e48,h⟩:=h;refine q u (fO u rfl rfl aHn e48) fun a u=>aB<|t_n<|wp_seq<|aA<|qm u rfl fun a u=>q u (aZ u rfl aGX) fun a u=>q u (gF u rfl rfl) fun a u=>aB<|t_n<|?_;refine aX u rfl h (fun b49 h=>?_) (fun b49 h=>?_)
  .refine wp_seq<|aA<|qm u rfl fun a u=>qm u rfl fun a u=>q u (aZ u rfl aGX) fun a u=>q u (iB u rfl rfl) fun a u=>?_;obtain⟨p50,e51,h⟩:=h;refine q u (bZ u rfl rfl aGX aGW e51) fun a u=>?_;obtain⟨c52,e53,h⟩:=h;refine q u (gC u rfl aHx aGW e53) fun a u=>?_;obtain⟨p54,w55,e56,h⟩:=h;refine q u (eX aHq (by kernel_rfl) e56) fun a u=>?_;obtain⟨w57,e58,h⟩:=h;refine q u (eW u rfl rfl aGW ((kR e53).1) e58) fun a u=>aB<|t_n<|wp_seq<|aA<|qm u rfl fun a u=>q u (aK u rfl aGU rfl rfl aGL) fun a u=>?_;obtain⟨v59,e60,h⟩:=h;refine q u (aJ u rfl aGN (aQ e60)) fun a u=>q u (aK u rfl aGU rfl rfl aGL) fun a u=>?_;obtain⟨v61,e62,h⟩:=h;refine q u (aJ u rfl aGN (aQ e62)) fun a u=>?_;obtain⟨v63,v64,w65,e66,h⟩:=h;refine q u (dc3 u rfl rfl rfl Try.call72 (pX e66)) fun a u=>qm u rfl fun a u=>q u (aW u rfl rfl) fun a u=>q u (aW u rfl rfl) fun a u=>qa u rfl fun a u=>qa u rfl fun a u=>aB<|t_n<|wp_seq<|wp_seq<|aA<|qm u rfl fun a u=>q u (fJ u rfl rfl) fun a u=>aB<|t_n<|?_;refine aX u rfl h (fun b67 h=>?_) (fun b67 h=>?_)
   .refine wp_seq<|aA<|qm u rfl fun a u=>qa u rfl fun a u=>qa u rfl fun a u=>aB<|t_n<|wp_ret<|t_r<|?_;have h:=unL h;refine t_r<|?_;exact jA Try.results32 u rfl rfl ⟨(none,v64,w65),rfl,h,rfl⟩
   refine wp_skip<|t_n<|aA<|qm u rfl fun a u=>qm u rfl fun a u=>q u (bJ u rfl rfl) fun a u=>qa u rfl fun a u=>aB<|?_;exact hk45 ((IntKind.wrap .i64 ((IntKind.wrap .i64 ((v31.n:Int)-(v35.n:Int)))+v63)),w65) h _ (u.sb rfl)
  refine wp_skip<|?_;exact hk45 ((IntKind.wrap .i64 ((v31.n:Int)-(v35.n:Int))),w47) h _ (u.sb rfl)
 refine aA<|qm u rfl fun a u=>q u (dK u rfl rfl) fun a u=>qm u rfl fun a u=>?_;refine iE h (fun b10 h=>?_) (fun b10 h=>?_)
 .refine qn u 26 (tn b10) fun a u=>qn u 26 (tn b10) fun a u=>q u (aF u rfl b10 rfl) fun a u=>qm u rfl fun a u=>qn u 30 (tn rfl) fun a u=>qn u 30 (tn rfl) fun a u=>q u (aF u rfl rfl rfl) fun a u=>qm u rfl fun a u=>qn u 34 (tn rfl) fun a u=>qn u 34 (tn rfl) fun a u=>qn u 34 (tn rfl) fun a u=>qn u 34 (tn rfl) fun a u=>qn u 34 (tn rfl) fun a u=>qn u 34 (tn rfl) fun a u=>qn u 34 (tn rfl) fun a u=>qn u 34 (tn rfl) fun a u=>q u (aF u rfl rfl rfl) fun a u=>qa u rfl fun a u=>aB<|?_;exact hk9 (true,w3) h _ (u.sb rfl)
 refine qg u 26 (nt b10) (aC u rfl) fun a u=>qg u 26 (nt b10) (gF u rfl rfl) fun a u=>q u (aL u rfl b10 rfl) fun a u=>qm u rfl fun a u=>?_;refine iE h (fun b11 h=>?_) (fun b11 h=>?_)
 .refine qn u 30 (tn b11) fun a u=>qn u 30 (tn b11) fun a u=>q u (aF u rfl b11 rfl) fun a u=>qm u rfl fun a u=>qn u 34 (tn rfl) fun a u=>qn u 34 (tn rfl) fun a u=>qn u 34 (tn rfl) fun a u=>qn u 34 (tn rfl) fun a u=>qn u 34 (tn rfl) fun a u=>qn u 34 (tn rfl) fun a u=>qn u 34 (tn rfl) fun a u=>qn u 34 (tn rfl) fun a u=>q u (aF u rfl rfl rfl) fun a u=>qa u rfl fun a u=>aB<|?_;exact hk9 (true,w3) h _ (u.sb rfl)
 refine qg u 30 (nt b11) (aC u rfl) fun a u=>qg u 30 (nt b11) (dK u rfl rfl) fun a u=>q u (aL u rfl b11 rfl) fun a u=>qm u rfl fun a u=>?_;refine iE h (fun b12 h=>?_) (fun b12 h=>?_)
 .refine qn u 34 (tn b12) fun a u=>qn u 34 (tn b12) fun a u=>qn u 34 (tn b12) fun a u=>qn u 34 (tn b12) fun a u=>qn u 34 (tn b12) fun a u=>qn u 34 (tn b12) fun a u=>qn u 34 (tn b12) fun a u=>qn u 34 (tn b12) fun a u=>q u (aF u rfl b12 rfl) fun a u=>qa u rfl fun a u=>aB<|?_;exact hk9 (true,w3) h _ (u.sb rfl)
 refine qg u 34 (nt b12) (aC u rfl) fun a u=>qg u 34 (nt b12) (aC u rfl) fun a u=>?_;obtain⟨v13,w14,e15,h⟩:=h;refine qg u 34 (nt b12) (dc1 u rfl Try.call67 (oI e15)) fun a u=>qg u 34 (nt b12) (iB u rfl rfl) fun a u=>qg u 34 (nt b12) (aC u rfl) fun a u=>qg u 34 (nt b12) (oN u rfl rfl) fun a u=>qg u 34 (nt b12) (iB u rfl rfl) fun a u=>qg u 34 (nt b12) (gF u rfl rfl) fun a u=>q u (aL u rfl b12 rfl) fun a u=>qa u rfl fun a u=>aB<|?_;exact hk9 ((decide ((IntKind.wrap .i64 ((IntKind.wrap .i64 (v13-2))-(IntKind.wrap .i64 (a2*16))))<a1)),w14) h _ (u.sb rfl)
noncomputable def kD (a0:Option Addr) (w:World):Option (Int×World) :=
 if (a0.isNone)=true then
 (some (1,w))
 else
 ((dr w).bind fun w2 =>
 (a0).bind fun p4 =>
 (ldP w2 (p4.add 0)).bind fun v6 =>
 aN (iC v6 w2) fun v8 w9 =>
 (ldI .i64 w9 (p4.add 4)).bind fun v11 =>
 chk (ldI .i64 w2 (p4.add 4)=some v11) <|
 if (v8 !=v11)=true then
 (some (13,w9))
 else
 ((ldP w9 (p4.add 0)).bind fun v15 =>
 aN (dB v15 w9) fun v17 w18 =>
 if v17=true then
 (some (10,w18))
 else
 (some (0,w18))))
theorem nP {a0 w w' r0} (h:kD a0 w=some (r0,w')):Calls Try.prog 80 #[(.pointer a0)] w fun e w''=>e=.returned (.int .i64 r0)/\w''=w':=by
 refine aP (n:=23) Try.func80 rfl Try.ntmps80 (by simp) fun a u=>?_;unfold kD at h;refine wp_seq<|aA<|qa u rfl fun a u=>aB<|t_n<|wp_seq<|wp_block<|wp_seq<|aA<|qm u rfl fun a u=>q u (jJ u rfl rfl aHL) fun a u=>qa u rfl fun a u=>aB<|t_n<|?_;refine aO u rfl h (fun b1 h=>?_) (fun b1 h=>?_)
 .refine wp_seq<|aA<|qa u rfl fun a u=>aB<|t_n<|wp_ret<|b_r<|t_r<|?_;have y:=u;cases h;exact bI Try.results80 y rfl ⟨rfl,rfl⟩
 refine wp_seq<|?_;have⟨w2,e3,h⟩:=bs1 h;have⟨p4,e5,h⟩:=bs1 h;have⟨v6,e7,h⟩:=bs1 h;have⟨v8,w9,e10,h⟩:=bs2 h;have⟨v11,e12,h⟩:=bs1 h;obtain⟨e13,h⟩:=bO h;have u:Has 23 [(0,(pV a0)),(3,(bV (a0.isNone)))] a:=u.sb rfl;refine aM (n:=23) (ds:=(aS (pV a0) 0 [] 0::aG (pV (some p4)) 0 [0] 7 (pV a0)::aG (pV (some (p4.add 0))) 0 [0,1] 8 (pV (some p4))::aG (pV v6) 0 [0,1,2] 9 (pV (some (p4.add 0)))::aI (iV v8) true 0 0 (rn 0 4) [(10,(pV v6))]::aI (pV a0) false 0 1 [] [(0,(pV a0))]::aI (pV (some p4)) false 0 1 [5] [(12,(pV a0))]::aI (pV (some (p4.add 4))) false 0 1 [5,6] [(13,(pV (some p4)))]::aI (iV v11) false 0 1 [5,6,7] [(14,(pV (some (p4.add 4))))]::aT (bV (v8 !=v11)) 1 (rn 0 9) [(11,(iV v8)),(15,(iV v11))]::aS (bV (v8 !=v11)) 1 (rn 0 10) 16::[])) (W:=(fun j=>match j with | 0=>w2 | 1=>w9 | _=>w9)) (by kernel_rfl) u (cY e3) (by kernel_rfl) ?_ (aR (by kernel_rfl)) (by kernel_rfl) (m:=1) (by kernel_rfl) (fun a u=>?_)
 .refine⟨oa (aC · rfl),oa (aH · rfl e5),oa (aK · rfl aGO rfl rfl aHm),oc 0 (kd (aJ · rfl aHj (bA e7))),oc 0 (kd (dc1 · rfl Try.call68 (pI e10))),oa (aC · rfl),oa (aH · rfl e5),oa (aK · rfl aGO rfl rfl aGL),?_,oa (fJ · rfl rfl),oa (bD · rfl),aLz⟩;intro j h1 h2;have h1:0<=j:=h1;have h2:j<=1:=h2;rcases(by omega:j=0\/j=1) with rfl | rfl
  .exact kd (aJ · rfl aGN (aQ e13))
  exact kd (aJ · rfl aGN (aQ e12))
 have u:Has 23 [(0,(pV a0)),(6,(bV (v8 !=v11)))] a:=u.sb rfl;refine t_n<|?_;refine aO u rfl h (fun b14 h=>?_) (fun b14 h=>?_)
 .refine wp_seq<|aA<|qa u rfl fun a u=>aB<|t_n<|wp_ret<|b_r<|t_r<|?_;have y:=u;cases h;exact bI Try.results80 y rfl ⟨rfl,rfl⟩
 refine wp_seq<|aA<|qm u rfl fun a u=>q u (aH u rfl e5) fun a u=>q u (aK u rfl aGO rfl rfl aHm) fun a u=>?_;have⟨v15,e16,h⟩:=bs1 h;refine q u (aJ u rfl aHj (bA e16)) fun a u=>?_;have⟨v17,w18,e19,h⟩:=bs2 h;refine q u (dc1 u rfl Try.call47 (hJ e19)) fun a u=>qa u rfl fun a u=>aB<|t_n<|?_;refine aO u rfl h (fun b20 h=>?_) (fun b20 h=>?_)
 .refine wp_seq<|aA<|qa u rfl fun a u=>aB<|t_n<|wp_ret<|b_r<|t_r<|?_;have y:=u;cases h;exact bI Try.results80 y rfl ⟨rfl,rfl⟩
 refine wp_skip<|b_n<|t_n<|wp_seq<|aA<|qa u rfl fun a u=>aB<|t_n<|wp_ret<|?_;have y:=u;cases h;exact bI Try.results80 y rfl ⟨rfl,rfl⟩
noncomputable def jW (a0:List Value) (a1:Addr) (w:World):Option (Bool×World) :=
 aN (mk w 125 a0) fun p1 w2 =>
 (ldI .i64 w2 (p1.add 0)).bind fun v4 =>
 (ldI .i64 w2 a1).bind fun v6 =>
 some ((v4==v6),w2)
theorem rL {a0 a1 w w' r0} (h:jW a0 a1 w=some (r0,w')):Calls Try.prog 121 #[(.agg (List.toArray a0)),(.pointer (some a1))] w fun e w''=>e=.returned (.bool r0)/\w''=w':=by
 refine aP (n:=8) Try.func121 rfl Try.ntmps121 (by simp) fun a u=>?_;unfold jW at h;refine wp_seq<|aA<|?_;have⟨p1,w2,e3,h⟩:=bs2 h;refine q u (rF u rfl rfl e3) fun a u=>qa u rfl fun a u=>aB<|t_n<|wp_seq<|aA<|q u (aK u rfl aGU rfl rfl aGL) fun a u=>?_;have⟨v4,e5,h⟩:=bs1 h;refine q u (aJ u rfl aGN (aQ e5)) fun a u=>?_;have⟨v6,e7,h⟩:=bs1 h;refine q u (aJ u rfl aGN (aQ e7)) fun a u=>q u (gD u rfl rfl) fun a u=>qa u rfl fun a u=>aB<|t_n<|wp_ret<|?_;have y:=u;cases h;exact bI Try.results121 y rfl ⟨rfl,rfl⟩
noncomputable def bH (a0:Sl) (a1_0:Addr) (x1:Int) (w2:World):Option ((Int×World)⊕((World)⊕(Int×World))) :=
 if (decide (x1<(a0.n:Int)))=true then
 ((ix a0 x1 5).bind fun p12 =>
 (ldA 5 w2 p12 0).bind fun c14 =>
 aN (jW c14 a1_0 w2) fun v16 w17 =>
 if v16=true then
 (some (.inr (.inr (x1,w17))))
 else
 (some (.inl ((IntKind.wrap .i64 (x1+1)),w17))))
 else
 (some (.inr (.inl w2)))
noncomputable def cS (a0:Sl) (a1_0:Addr) (w:World):Option (Int×World) :=
 (bM (fun s:Int×World=>bH a0 a1_0 s.1 s.2) (0,w)).bind fun r3=>Sum.elim (fun (i:World)=>u1 i fun w5 =>
 some ((-1),w5)) (fun (i:Int×World)=>u2 i fun v6 w7 =>
 some (v6,w7)) r3
theorem kQ {a0 a1_0 w w' r0} (h:cS a0 a1_0 w=some (r0,w')):Calls Try.prog 148 #[(Sl.v a0),(.func (.func 121) #[] #[(.pointer (some a1_0))])] w fun e w''=>e=.returned (.int .i64 r0)/\w''=w':=by
 refine aP (n:=19) Try.func148 rfl Try.ntmps148 (by simp) fun a u=>?_;unfold cS at h;refine wp_seq<|aA<|qa u rfl fun a u=>aB<|t_n<|wp_seq<|wp_seq<|aA<|qm u rfl fun a u=>q u (aZ u rfl aGX) fun a u=>qm u rfl fun a u=>aB<|t_n<|wp_block<|?_;have⟨r3,e4,h⟩:=bs1 h;refine oR (n:=19) (L1:=fun i=>[]) (w1:=fun i=>i) (L2:=fun i=>[(4,(iV i.1))]) (w2:=fun i=>i.2) (e1:=.exit 0) (e2:=.ret) (I:=fun (s:Int×World) a w=>Has 19 [(8,(iV s.1)),(0,(Sl.v a0)),(1,(.func (.func 121) #[] #[(pV (some a1_0))])),(7,(iV (a0.n:Int)))] a/\w=s.2) ⟨u.sub ⟨rfl,rfl,rfl,rfl,aLz⟩,rfl⟩ e4 (fun i hi a u=>?_) (fun i hi a u=>?_) (fun hk8 hk9=>?_)
 .subst hi;obtain⟨w5,rfl⟩:∃ x,x=i:=⟨i,rfl⟩;dsimp only[Sum.elim_inl,Sum.elim_inr,u1,u2,u3,u4,u5,u6] at h;have u:Has 19 [] a:=u;refine eC<|t_n<|wp_seq<|aA<|qa u rfl fun a u=>aB<|t_n<|wp_ret<|?_;have y:=u;cases h;exact bI Try.results148 y rfl ⟨rfl,rfl⟩
 .subst hi;obtain⟨v6,w7⟩:=i;dsimp only[Sum.elim_inl,Sum.elim_inr,u1,u2,u3,u4,u5,u6] at h;have u:Has 19 [(4,(iV v6))] a:=u;refine b_r<|t_r<|?_;have y:=u;cases h;exact bI Try.results148 y rfl ⟨rfl,rfl⟩
 clear h;rintro⟨x1,w2⟩ a wq o ⟨u,hwq⟩ h hr10;obtain rfl:w2=wq:=hwq.symm;have u:Has 19 [(8,(iV x1)),(0,(Sl.v a0)),(1,(.func (.func 121) #[] #[(pV (some a1_0))])),(7,(iV (a0.n:Int)))] a:=u;have h:bH a0 a1_0 x1 w2=some o:=h;unfold bH at h;refine wp_seq<|aA<|q u (dK u rfl rfl) fun a u=>aB<|t_n<|wp_seq<|?_;refine aO u rfl h (fun b11 h=>?_) (fun b11 h=>?_)
 .refine wp_skip<|t_n<|wp_seq<|wp_block<|wp_seq<|aA<|qm u rfl fun a u=>qa u rfl fun a u=>aB<|t_n<|wp_seq<|aA<|qm u rfl fun a u=>qm u rfl fun a u=>qm u rfl fun a u=>?_;have⟨p12,e13,h⟩:=bs1 h;refine q u (bZ u rfl rfl aGX aGW e13) fun a u=>?_;have⟨c14,e15,h⟩:=bs1 h;refine q u (gC u rfl aHx aGW e15) fun a u=>?_;have⟨v16,w17,e18,h⟩:=bs2 h;refine q u (yH (xs:=[_]) (vs:=[(.agg (List.toArray c14))]) (cv:=[(pV (some a1_0))]) u rfl ⟨rfl,aLz⟩ Try.call121 (rL e18)) fun a u=>aB<|t_n<|?_;refine aO u rfl h (fun b19 h=>?_) (fun b19 h=>?_)
  .refine wp_seq<|aA<|qm u rfl fun a u=>qa u rfl fun a u=>aB<|t_n<|wp_ret<|b_r<|t_r<|?_;have y:=u;cases h;cases hr10 _ rfl;refine vV<|?_;exact hk9 _ rfl _ (y.sb rfl)
  refine wp_skip<|b_n<|t_n<|aA<|q u (bJ u rfl rfl) fun a u=>qm u rfl fun a u=>aB<|?_;have y:=u;cases h;exact dS ⟨y.sb rfl,rfl⟩
 refine wp_exit<|t_x<|?_;have y:=u;cases h;cases hr10 _ rfl;refine lM<|?_;exact hk8 _ rfl _ (y.sb rfl)
noncomputable def bT (a0:Sl) (a1_0:Addr) (w:World):Option (Bool×World) :=
 aN (cS a0 a1_0 w) fun v1 w2 =>
 some ((decide (0<=v1)),w2)
theorem kC {a0 a1_0 w w' r0} (h:bT a0 a1_0 w=some (r0,w')):Calls Try.prog 120 #[(Sl.v a0),(.func (.func 121) #[] #[(.pointer (some a1_0))])] w fun e w''=>e=.returned (.bool r0)/\w''=w':=by
 refine aP (n:=9) Try.func120 rfl Try.ntmps120 (by simp) fun a u=>?_;unfold bT at h;refine wp_seq<|aA<|qa u rfl fun a u=>aB<|t_n<|wp_seq<|aA<|qm u rfl fun a u=>qm u rfl fun a u=>?_;have⟨v1,w2,e3,h⟩:=bs2 h;refine q u (mO (xs:=[_,_]) (vs:=[(Sl.v a0),(.func (.func 121) #[] #[(pV (some a1_0))])]) u ⟨rfl,rfl,aLz⟩ Try.call148 (kQ e3)) fun a u=>q u (pP u rfl rfl) fun a u=>qa u rfl fun a u=>aB<|t_n<|wp_ret<|?_;have y:=u;cases h;exact bI Try.results120 y rfl ⟨rfl,rfl⟩
noncomputable def nO (a0:Int) (a1:Sl) (a2:Bool) (w:World):Option (Sl×World) :=
 aN (mkS Try.prog 72 64 64 w) fun s1 w2 =>
 (ix s1 0 1).bind fun p4 =>
 (stV w2 p4 (.int .u8 231)).bind fun w6 =>
 (ix s1 1 1).bind fun p8 =>
 (stV w6 p8 (.int .u8 (IntKind.wrap .u8 a0))).bind fun w10 =>
 (ix s1 2 1).bind fun p12 =>
 (stV w10 p12 (.int .u8 (IntKind.wrap .u8 (a1.n:Int)))).bind fun w14 =>
 (ix s1 63 1).bind fun p16 =>
 (stV w14 p16 (.int .u8 231)).bind fun w18 =>
 (if a2=true then
 ((ix s1 3 1).bind fun p24 =>
 (stV w18 p24 (.int .u8 1)).bind fun w26 =>
 some w26)
 else
 (some w18)).bind fun w20 =>
 (slS s1 4 (s1.n:Int) (s1.c:Int) 1).bind fun s28 =>
 aN (cpS Try.prog 72 72 s28 a1 w20) fun v30 w31 =>
 some (s1,w31)
theorem sF {a0 a1 a2 w w' r0} (h:nO a0 a1 a2 w=some (r0,w')):Calls Try.prog 86 #[(.int .i64 a0),(Sl.v a1),(.bool a2)] w fun e w''=>e=.returned (Sl.v r0)/\w''=w':=by
 refine aP (n:=30) Try.func86 rfl Try.ntmps86 (by simp) fun a u=>?_;unfold nO at h;refine wp_seq<|aA<|qa u rfl fun a u=>aB<|t_n<|wp_seq<|aA<|?_;have⟨s1,w2,e3,h⟩:=bs2 h;refine q u (uQ u rfl rfl e3) fun a u=>qa u rfl fun a u=>aB<|t_n<|wp_seq<|aA<|qm u rfl fun a u=>qm u rfl fun a u=>qm u rfl fun a u=>qm u rfl fun a u=>qm u rfl fun a u=>q u (iP u rfl aHl aGZ) fun a u=>qm u rfl fun a u=>q u (aZ u rfl aGK) fun a u=>q u (iP u rfl aHl aGZ) fun a u=>?_;have⟨p4,e5,h⟩:=bs1 h;refine q u (bZ u rfl rfl aGK aGT e5) fun a u=>?_;have⟨w6,e7,h⟩:=bs1 h;refine q u (fO u rfl rfl aGT e7) fun a u=>?_;have⟨p8,e9,h⟩:=bs1 h;refine q u (bZ u rfl rfl aGK aGT e9) fun a u=>?_;have⟨w10,e11,h⟩:=bs1 h;refine q u (fO u rfl rfl aGT e11) fun a u=>?_;have⟨p12,e13,h⟩:=bs1 h;refine q u (bZ u rfl rfl aGK aGT e13) fun a u=>?_;have⟨w14,e15,h⟩:=bs1 h;refine q u (fO u rfl rfl aGT e15) fun a u=>?_;have⟨p16,e17,h⟩:=bs1 h;refine q u (bZ u rfl rfl aGK aGT e17) fun a u=>?_;have⟨w18,e19,h⟩:=bs1 h;refine q u (fO u rfl rfl aGT e19) fun a u=>aB<|t_n<|?_;have⟨w20,e21,h⟩:=bs1 h;refine gW (n:=30) (L:=[(1,(Sl.v a1)),(7,(Sl.v s1))]) (w':=w20) (fun a u=>?_) (fun hk22=>?_)
 .refine wp_seq<|aA<|qm u rfl fun a u=>?_;have⟨s28,e29,h⟩:=bs1 h;refine q u (oG u rfl aGK aGT ⟨_,rfl⟩ rfl rfl (by simp) e29) fun a u=>qm u rfl fun a u=>?_;have⟨v30,w31,e32,h⟩:=bs2 h;refine q u (aAg u rfl rfl e32) fun a u=>aB<|t_n<|wp_seq<|aA<|qm u rfl fun a u=>qa u rfl fun a u=>aB<|t_n<|wp_ret<|?_;have y:=u;cases h;exact bI Try.results86 y rfl ⟨rfl,rfl⟩
 clear h;have h:=e21;refine wp_seq<|aA<|qm u rfl fun a u=>aB<|t_n<|?_;refine aO u rfl h (fun b23 h=>?_) (fun b23 h=>?_)
 .refine aA<|qm u rfl fun a u=>?_;have⟨p24,e25,h⟩:=bs1 h;refine q u (bZ u rfl rfl aGK aGT e25) fun a u=>?_;have⟨w26,e27,h⟩:=bs1 h;refine q u (fO u rfl rfl aGT e27) fun a u=>aB<|?_;have y:=u;cases h;exact hk22 _ (y.sb rfl)
 refine wp_skip<|?_;have y:=u;cases h;exact hk22 _ (y.sb rfl)
noncomputable def gG (a0:Option Addr) (p4:Addr)  (w9:World):Option ((World)⊕(World)) :=
 (a0).bind fun p15 =>
 (ldL w9 (p15.add 7)).bind fun v17 =>
 aN (bT v17 p4 w9) fun v19 w20 =>
 if v19=true then
 ((ldI .i64 w20 p4).bind fun v23 =>
 (stV w20 p4 (.int .i64 (IntKind.wrap .i64 (v23+1)))).bind fun w25 =>
 some (.inl w25))
 else
 (some (.inr w20))
noncomputable def lC (a0:Option Addr) (w:World):Option ((List Value)×Int×World) :=
 aN (mk w 125 (List.replicate 4 (.int .i64 0)++[.slice none 0 0])) fun p1 w2 =>
 aN (mk w2 3 ([.int .i64 0])) fun p4 w5 =>
 (stV w5 p4 (.int .i64 0)).bind fun w7 =>
 (bM (fun s:World=>gG a0 p4 s) w7).bind fun w12 =>
 aN ((a0).bind fun p31 =>
 (ldL w12 (p31.add 7)).bind fun v33 =>
 if (decide (0<(v33.n:Int)))=true then
 ((ldL w12 (p31.add 7)).bind fun v36 =>
 (ix v36 (IntKind.wrap .i64 ((v33.n:Int)-1)) 5).bind fun p38 =>
 (ldI .i64 w12 (p38.add 1)).bind fun v40 =>
 some ((IntKind.wrap .i64 (v40+1)),w12))
 else
 (some (1,w12))) fun v27 w28 =>
 (dr w28).bind fun w42 =>
 (ldI .i64 w42 p4).bind fun v44 =>
 (a0).bind fun p46 =>
 (ldI .i64 w42 (p46.add 3)).bind fun v48 =>
 if (v44==v48)=true then
 ((stA w42 p1 0 (List.replicate 4 (.int .i64 0)++[.slice none 0 0])).bind fun w51 =>
 (ldA 5 w51 p1 0).bind fun v53 =>
 some (v53,9,w51))
 else
 (if (decide (4611686018427387904<v27))=true then
 ((stA w42 p1 0 (List.replicate 4 (.int .i64 0)++[.slice none 0 0])).bind fun w56 =>
 (ldA 5 w56 p1 0).bind fun v58 =>
 some (v58,6,w56))
 else
 ((ldI .i64 w42 p4).bind fun v60 =>
 oM (kG a0 v60 0 w42) fun v62 v63 w64 =>
 if (v63 !=0)=true then
 ((stA w64 p1 0 (List.replicate 4 (.int .i64 0)++[.slice none 0 0])).bind fun w67 =>
 (ldA 5 w67 p1 0).bind fun v69 =>
 some (v69,v63,w67))
 else
 ((ldP w64 (p46.add 0)).bind fun v71 =>
 aN (bY v71 w64) fun v73 w74 =>
 if (v73 !=0)=true then
 ((stA w74 p1 0 (List.replicate 4 (.int .i64 0)++[.slice none 0 0])).bind fun w77 =>
 (ldA 5 w77 p1 0).bind fun v79 =>
 some (v79,v73,w77))
 else
 ((dr w74).bind fun w81 =>
 aN (jU v27 w81) fun v83 w84 =>
 (ldI .i64 w84 (p46.add 5)).bind fun v86 =>
 aN (jU v86 w84) fun v88 w89 =>
 aN (apS Try.prog 72 v83 v88 w89) fun s91 w92 =>
 chk (ldI .i64 w81 (p46.add 5)=some v86) <|
 (dr w92).bind fun w95 =>
 (ldI .i64 w95 p4).bind fun v97 =>
 (ldI .i64 w95 (p46.add 5)).bind fun v99 =>
 (ldP w95 (p46.add 0)).bind fun v101 =>
 (ldI .i64 w95 p4).bind fun v103 =>
 aN (jD a0 v103 0 w95) fun v105 w106 =>
 aN (nO 1 s91 true w106) fun v108 w109 =>
 aN (cD v101 v105 v108 w109) fun v111 w112 =>
 (stA w112 p1 0 ([.int .i64 v97,.int .i64 v27,.int .i64 1,.int .i64 v99,.slice none 0 0])).bind fun w114 =>
 chk (ldI .i64 w106 p4=some v97) <|
 chk (ldI .i64 w109 p4=some v97) <|
 chk (ldI .i64 w112 p4=some v97) <|
 chk (ldI .i64 w106 (p46.add 5)=some v99) <|
 chk (ldI .i64 w109 (p46.add 5)=some v99) <|
 chk (ldI .i64 w112 (p46.add 5)=some v99) <|
 chk (ldP w106 (p46.add 0)=some v101) <|
 chk (ldP w109 (p46.add 0)=some v101) <|
 (ldA 5 w114 p1 0).bind fun v124 =>
 some (v124,v111,w114)))))
theorem sL {a0 w w' r0 r1} (h:lC a0 w=some (r0,r1,w')):Calls Try.prog 82 #[(.pointer a0)] w fun e w''=>e=.returned (.tuple #[(.agg (List.toArray r0)),(.int .i64 r1)])/\w''=w':=by
 refine aP (n:=92) Try.func82 rfl Try.ntmps82 (by simp) fun a u=>?_;unfold lC at h;refine wp_seq<|aA<|?_;have⟨p1,w2,e3,h⟩:=bs2 h;refine q u (eX aHq (by kernel_rfl) e3) fun a u=>qa u rfl fun a u=>aB<|t_n<|wp_seq<|aA<|?_;have⟨p4,w5,e6,h⟩:=bs2 h;refine q u (eX Try.zeroValue3 (by kernel_rfl) e6) fun a u=>?_;have⟨w7,e8,h⟩:=bs1 h;refine q u (fO u rfl rfl aGL e8) fun a u=>qa u rfl fun a u=>aB<|t_n<|wp_seq<|wp_block<|?_;have⟨w12,e11,h⟩:=bs1 h;refine gT (n:=92) (L:=[(0,(pV a0)),(2,(pV (some p1))),(4,(pV (some p4))),(5,(iV 1))]) (w':=w12) (e:=.exit 0) (I:=fun (s:World) a w=>Has 92 [(0,(pV a0)),(2,(pV (some p1))),(4,(pV (some p4))),(5,(iV 1))] a/\w=s) ⟨u.sub ⟨rfl,rfl,rfl,rfl,aLz⟩,rfl⟩ e11 (fun a u=>?_) (fun hk13=>?_)
 .refine eC<|t_n<|?_;have⟨v27,w28,e29,h⟩:=bs2 h;refine gW (n:=92) (L:=[(5,(iV v27)),(0,(pV a0)),(2,(pV (some p1))),(4,(pV (some p4)))]) (w':=w28) (fun a u=>?_) (fun hk30=>?_)
  .refine wp_seq<|wp_block<|wp_seq<|?_;have⟨w42,e43,h⟩:=bs1 h;have⟨v44,e45,h⟩:=bs1 h;have⟨p46,e47,h⟩:=bs1 h;have⟨v48,e49,h⟩:=bs1 h;have u:Has 92 [(0,(pV a0)),(2,(pV (some p1))),(4,(pV (some p4))),(5,(iV v27))] a:=u.sb rfl;refine aM (n:=92) (ds:=(aG (iV v44) 0 [] 4 (pV (some p4))::aS (pV a0) 0 [] 0::aG (pV (some p46)) 0 [1] 38 (pV a0)::aG (pV (some (p46.add 3))) 0 [1,2] 39 (pV (some p46))::aG (iV v48) 0 [1,2,3] 40 (pV (some (p46.add 3)))::aT (bV (v44==v48)) 0 (rn 0 5) [(37,(iV v44)),(41,(iV v48))]::aS (bV (v44==v48)) 0 (rn 0 6) 42::[])) (W:=(fun _=>w42)) (by kernel_rfl) u (cY e43) (by kernel_rfl) ?_ (aR (by kernel_rfl)) (by kernel_rfl) (m:=0) (by kernel_rfl) (fun a u=>?_)
   .exact⟨oc (e:=false) 0 (kd (aJ · rfl aGN (aQ e45))),oa (aC · rfl),oa (aH · rfl e47),oa (aK · rfl aGO rfl rfl aGL),oc (e:=false) 0 (kd (aJ · rfl aGN (aQ e49))),oa (gD · rfl rfl),oa (bD · rfl),aLz⟩
   have u:Has 92 [(0,(pV a0)),(2,(pV (some p1))),(4,(pV (some p4))),(5,(iV v27)),(36,(bV (v44==v48)))] a:=u.sb rfl;refine t_n<|?_;refine aO u rfl h (fun b50 h=>?_) (fun b50 h=>?_)
   .refine wp_seq<|aA<|q u (dZ (vs:=[]) (pl:=#[(0,1),(1,1),(2,1),(3,1),(4,1)]) (cs:=(List.replicate 4 (iV 0)++[.slice none 0 0])) u trivial aHq aGU (by intro w;kernel_rfl) (by kernel_rfl)) fun a u=>?_;have⟨w51,e52,h⟩:=bs1 h;refine q u (eW u rfl rfl aGW rfl e52) fun a u=>qa u rfl fun a u=>aB<|t_n<|wp_ret<|b_r<|t_r<|?_;have⟨v53,e54,h⟩:=bs1 h;have y:=u;cases h;exact uH (vs:=[_,_]) Try.results82 y ⟨⟨_,rfl,uI aHx aGW e54⟩,rfl,aLz⟩ ⟨rfl,rfl⟩
   refine wp_seq<|aA<|qm u rfl fun a u=>q u (gF u rfl rfl) fun a u=>qa u rfl fun a u=>aB<|t_n<|?_;refine aO u rfl h (fun b55 h=>?_) (fun b55 h=>?_)
   .refine wp_seq<|aA<|q u (dZ (vs:=[]) (pl:=#[(0,1),(1,1),(2,1),(3,1),(4,1)]) (cs:=(List.replicate 4 (iV 0)++[.slice none 0 0])) u trivial aHq aGU (by intro w;kernel_rfl) (by kernel_rfl)) fun a u=>?_;have⟨w56,e57,h⟩:=bs1 h;refine q u (eW u rfl rfl aGW rfl e57) fun a u=>qa u rfl fun a u=>aB<|t_n<|wp_ret<|b_r<|t_r<|?_;have⟨v58,e59,h⟩:=bs1 h;have y:=u;cases h;exact uH (vs:=[_,_]) Try.results82 y ⟨⟨_,rfl,uI aHx aGW e59⟩,rfl,aLz⟩ ⟨rfl,rfl⟩
   refine wp_skip<|b_n<|t_n<|wp_seq<|wp_seq<|aA<|qm u rfl fun a u=>?_;have⟨v60,e61,h⟩:=bs1 h;refine q u (aJ u rfl aGN (aQ e61)) fun a u=>?_;have⟨v62,v63,w64,e65,h⟩:=bs3 h;refine q u (dc3 u rfl rfl rfl Try.call72 (pX e65)) fun a u=>qm u rfl fun a u=>q u (aW u rfl rfl) fun a u=>q u (aW u rfl rfl) fun a u=>qa u rfl fun a u=>qa u rfl fun a u=>aB<|t_n<|wp_seq<|aA<|qm u rfl fun a u=>q u (fJ u rfl rfl) fun a u=>aB<|t_n<|?_;refine aO u rfl h (fun b66 h=>?_) (fun b66 h=>?_)
   .refine wp_seq<|aA<|q u (dZ (vs:=[]) (pl:=#[(0,1),(1,1),(2,1),(3,1),(4,1)]) (cs:=(List.replicate 4 (iV 0)++[.slice none 0 0])) u trivial aHq aGU (by intro w;kernel_rfl) (by kernel_rfl)) fun a u=>qm u rfl fun a u=>?_;have⟨w67,e68,h⟩:=bs1 h;refine q u (eW u rfl rfl aGW rfl e68) fun a u=>qa u rfl fun a u=>aB<|t_n<|wp_ret<|t_r<|?_;have⟨v69,e70,h⟩:=bs1 h;have y:=u;cases h;exact uH (vs:=[_,_]) Try.results82 y ⟨⟨_,rfl,uI aHx aGW e70⟩,rfl,aLz⟩ ⟨rfl,rfl⟩
   refine wp_skip<|t_n<|wp_seq<|wp_seq<|aA<|qm u rfl fun a u=>q u (aH u rfl e47) fun a u=>q u (aK u rfl aGO rfl rfl aHm) fun a u=>?_;have⟨v71,e72,h⟩:=bs1 h;refine q u (aJ u rfl aHj (bA e72)) fun a u=>?_;have⟨v73,w74,e75,h⟩:=bs2 h;refine q u (dc1 u rfl Try.call36 (jB e75)) fun a u=>qa u rfl fun a u=>aB<|t_n<|wp_seq<|aA<|qm u rfl fun a u=>q u (fJ u rfl rfl) fun a u=>aB<|t_n<|?_;refine aO u rfl h (fun b76 h=>?_) (fun b76 h=>?_)
   .refine wp_seq<|aA<|q u (dZ (vs:=[]) (pl:=#[(0,1),(1,1),(2,1),(3,1),(4,1)]) (cs:=(List.replicate 4 (iV 0)++[.slice none 0 0])) u trivial aHq aGU (by intro w;kernel_rfl) (by kernel_rfl)) fun a u=>qm u rfl fun a u=>?_;have⟨w77,e78,h⟩:=bs1 h;refine q u (eW u rfl rfl aGW rfl e78) fun a u=>qa u rfl fun a u=>aB<|t_n<|wp_ret<|t_r<|?_;have⟨v79,e80,h⟩:=bs1 h;have y:=u;cases h;exact uH (vs:=[_,_]) Try.results82 y ⟨⟨_,rfl,uI aHx aGW e80⟩,rfl,aLz⟩ ⟨rfl,rfl⟩
   refine wp_skip<|t_n<|wp_seq<|?_;have⟨w81,e82,h⟩:=bs1 h;have⟨v83,w84,e85,h⟩:=bs2 h;have⟨v86,e87,h⟩:=bs1 h;have⟨v88,w89,e90,h⟩:=bs2 h;have⟨s91,w92,e93,h⟩:=bs2 h;obtain⟨e94,h⟩:=bO h;have u:Has 92 [(0,(pV a0)),(2,(pV (some p1))),(4,(pV (some p4))),(5,(iV v27))] a:=u.sb rfl;refine aM (n:=92) (ds:=(aS (iV v27) 0 [] 5::aI (Sl.v v83) true 0 0 [0] [(67,(iV v27))]::aI (pV a0) false 0 1 [] [(0,(pV a0))]::aI (pV (some p46)) false 0 1 [2] [(69,(pV a0))]::aI (pV (some (p46.add 5))) false 0 1 [2,3] [(70,(pV (some p46)))]::aI (iV v86) false 0 1 [2,3,4] [(71,(pV (some (p46.add 5))))]::aI (Sl.v v88) true 1 1 (rn 0 6) [(72,(iV v86))]::aI (Sl.v s91) true 2 2 (rn 0 7) [(68,(Sl.v v83)),(73,(Sl.v v88))]::aS (Sl.v s91) 3 (rn 0 8) 74::[])) (W:=(fun j=>match j with | 0=>w81 | 1=>w84 | 2=>w89 | 3=>w92 | _=>w92)) (by kernel_rfl) u (cY e82) (by kernel_rfl) ?_ (aR (by kernel_rfl)) (by kernel_rfl) (m:=3) (by kernel_rfl) (fun a u=>?_)
   .refine⟨oa (aC · rfl),oc 0 (kd (dc1 · rfl Try.call81 (nE e85))),oa (aC · rfl),oa (aH · rfl e47),oa (aK · rfl aGO rfl rfl aGL),?_,oc 1 (kd (dc1 · rfl Try.call81 (nE e90))),oc 2 (kd (iF · rfl rfl e93)),oa (bD · rfl),aLz⟩;intro j h1 h2;have h1:0<=j:=h1;have h2:j<=1:=h2;rcases(by omega:j=0\/j=1) with rfl | rfl
    .exact kd (aJ · rfl aGN (aQ e94))
    exact kd (aJ · rfl aGN (aQ e87))
   have u:Has 92 [(0,(pV a0)),(2,(pV (some p1))),(4,(pV (some p4))),(5,(iV v27)),(10,(Sl.v s91))] a:=u.sb rfl;refine t_n<|wp_seq<|?_;have⟨w95,e96,h⟩:=bs1 h;have⟨v97,e98,h⟩:=bs1 h;have⟨v99,e100,h⟩:=bs1 h;have⟨v101,e102,h⟩:=bs1 h;have⟨v103,e104,h⟩:=bs1 h;have⟨v105,w106,e107,h⟩:=bs2 h;have⟨v108,w109,e110,h⟩:=bs2 h;have⟨v111,w112,e113,h⟩:=bs2 h;have⟨w114,e115,h⟩:=bs1 h;obtain⟨e116,h⟩:=bO h;obtain⟨e117,h⟩:=bO h;obtain⟨e118,h⟩:=bO h;obtain⟨e119,h⟩:=bO h;obtain⟨e120,h⟩:=bO h;obtain⟨e121,h⟩:=bO h;obtain⟨e122,h⟩:=bO h;obtain⟨e123,h⟩:=bO h;have u:Has 92 [(0,(pV a0)),(2,(pV (some p1))),(4,(pV (some p4))),(5,(iV v27)),(10,(Sl.v s91))] a:=u.sb rfl;refine aM (n:=92) (ds:=(aI (iV v97) false 0 3 [] [(4,(pV (some p4)))]::aI (iV v27) false 0 3 [] [(5,(iV v27))]::aI (pV a0) false 0 3 [] [(0,(pV a0))]::aI (pV (some p46)) false 0 3 [2] [(77,(pV a0))]::aI (pV (some (p46.add 5))) false 0 3 [2,3] [(78,(pV (some p46)))]::aI (iV v99) false 0 3 [2,3,4] [(79,(pV (some (p46.add 5))))]::aI (.agg (List.toArray ([.int .i64 v97,.int .i64 v27,.int .i64 1,.int .i64 v99,.slice none 0 0]))) false 0 3 (rn 0 6) [(75,(iV v97)),(76,(iV v27)),(80,(iV v99))]::aI (pV a0) false 0 2 [] [(0,(pV a0))]::aI (pV (some p46)) false 0 2 [7] [(82,(pV a0))]::aI (pV (some (p46.add 0))) false 0 2 [7,8] [(83,(pV (some p46)))]::aI (pV v101) false 0 2 [7,8,9] [(84,(pV (some (p46.add 0))))]::aS (pV a0) 0 [] 0::aG (iV v103) 0 [] 4 (pV (some p4))::aI (iV v105) true 0 0 [11,12] [(86,(pV a0)),(87,(iV v103))]::aI (Sl.v s91) false 0 1 [] [(10,(Sl.v s91))]::aI (Sl.v v108) true 1 1 (rn 11 4) [(89,(Sl.v s91))]::aI (iV v111) true 2 2 (rn 7 9) [(85,(pV v101)),(88,(iV v105)),(90,(Sl.v v108))]::aI (undef) true 3 3 (rn 0 17) [(2,(pV (some p1))),(81,(.agg (List.toArray ([.int .i64 v97,.int .i64 v27,.int .i64 1,.int .i64 v99,.slice none 0 0]))))]::aS (iV v111) 4 (rn 0 18) 91::[])) (W:=(fun j=>match j with | 0=>w95 | 1=>w106 | 2=>w109 | 3=>w112 | 4=>w114 | _=>w114)) (by kernel_rfl) u (cY e96) (by kernel_rfl) ?_ (aR (by kernel_rfl)) (by kernel_rfl) (m:=4) (by kernel_rfl) (fun a u=>?_)
   .refine⟨?_,oa (aC · rfl),oa (aC · rfl),oa (aH · rfl e47),oa (aK · rfl aGO rfl rfl aGL),?_,oa (dZ (vs:=[(0,(iV v97)),(1,(iV v27)),(2,(iV 1)),(3,(iV v99))]) (pl:=#[(0,1),(1,1),(2,1),(3,1),(4,1)]) (cs:=([.int .i64 v97,.int .i64 v27,.int .i64 1,.int .i64 v99,.slice none 0 0])) · ⟨rfl,rfl,rfl,rfl,rfl,rfl,rfl,rfl,aLz⟩ aHq aGU (by intro w;kernel_rfl) (by kernel_rfl)),oa (aC · rfl),oa (aH · rfl e47),oa (aK · rfl aGO rfl rfl aHm),?_,oa (aC · rfl),oc 0 (kd (aJ · rfl aGN (aQ e104))),oc 0 (kd (dc3 · rfl rfl rfl Try.call85 (lD e107))),oa (aC · rfl),oc 1 (kd (dc3 · rfl rfl rfl Try.call86 (sF e110))),oc 2 (kd (dc3 · rfl rfl rfl Try.call84 (fC e113))),oc 3 (kd (eW · rfl rfl aGW rfl e115)),oa (bD · rfl),aLz⟩
    .intro j h1 h2;have h1:0<=j:=h1;have h2:j<=3:=h2;rcases(by omega:j=0\/j=1\/j=2\/j=3) with rfl | rfl | rfl | rfl
     .exact kd (aJ · rfl aGN (aQ e98))
     .exact kd (aJ · rfl aGN (aQ e116))
     .exact kd (aJ · rfl aGN (aQ e117))
     exact kd (aJ · rfl aGN (aQ e118))
    .intro j h1 h2;have h1:0<=j:=h1;have h2:j<=3:=h2;rcases(by omega:j=0\/j=1\/j=2\/j=3) with rfl | rfl | rfl | rfl
     .exact kd (aJ · rfl aGN (aQ e100))
     .exact kd (aJ · rfl aGN (aQ e119))
     .exact kd (aJ · rfl aGN (aQ e120))
     exact kd (aJ · rfl aGN (aQ e121))
    intro j h1 h2;have h1:0<=j:=h1;have h2:j<=2:=h2;rcases(by omega:j=0\/j=1\/j=2) with rfl | rfl | rfl
    .exact kd (aJ · rfl aHj (bA e102))
    .exact kd (aJ · rfl aHj (bA e122))
    exact kd (aJ · rfl aHj (bA e123))
   have u:Has 92 [(2,(pV (some p1))),(3,(iV v111))] a:=u.sb rfl;refine t_n<|wp_ret<|?_;have⟨v124,e125,h⟩:=bs1 h;have y:=u;cases h;exact uH (vs:=[_,_]) Try.results82 y ⟨⟨_,rfl,uI aHx aGW e125⟩,rfl,aLz⟩ ⟨rfl,rfl⟩
  clear h;have h:=e29;refine wp_seq<|aA<|qm u rfl fun a u=>?_;have⟨p31,e32,h⟩:=bs1 h;refine q u (aH u rfl e32) fun a u=>q u (aK u rfl aGO rfl rfl aHn) fun a u=>?_;have⟨v33,e34,h⟩:=bs1 h;refine q u (aJ u rfl aHA (aV e34)) fun a u=>q u (aZ u rfl aGX) fun a u=>qa u rfl fun a u=>aB<|t_n<|wp_seq<|aA<|qm u rfl fun a u=>q u (gF u rfl rfl) fun a u=>aB<|t_n<|?_;refine aO u rfl h (fun b35 h=>?_) (fun b35 h=>?_)
  .refine aA<|qm u rfl fun a u=>q u (aH u rfl e32) fun a u=>q u (aK u rfl aGO rfl rfl aHn) fun a u=>?_;have⟨v36,e37,h⟩:=bs1 h;refine q u (aJ u rfl aHA (aV e37)) fun a u=>qm u rfl fun a u=>q u (iB u rfl rfl) fun a u=>?_;have⟨p38,e39,h⟩:=bs1 h;refine q u (bZ u rfl rfl aGX aGW e39) fun a u=>q u (aK u rfl aGU rfl rfl aGL) fun a u=>?_;have⟨v40,e41,h⟩:=bs1 h;refine q u (aJ u rfl aGN (aQ e41)) fun a u=>q u (bJ u rfl rfl) fun a u=>qa u rfl fun a u=>aB<|?_;have y:=u;cases h;exact hk30 _ (y.sb rfl)
  refine wp_skip<|?_;have y:=u;cases h;exact hk30 _ (y.sb rfl)
 clear h;rintro w9 a wq o ⟨u,hwq⟩ h hr14;obtain rfl:w9=wq:=hwq.symm;have u:Has 92 [(0,(pV a0)),(2,(pV (some p1))),(4,(pV (some p4))),(5,(iV 1))] a:=u;have h:gG a0 p4 w9=some o:=h;unfold gG at h;refine wp_seq<|wp_seq<|aA<|qm u rfl fun a u=>?_;have⟨p15,e16,h⟩:=bs1 h;refine q u (aH u rfl e16) fun a u=>q u (aK u rfl aGO rfl rfl aHn) fun a u=>?_;have⟨v17,e18,h⟩:=bs1 h;refine q u (aJ u rfl aHA (aV e18)) fun a u=>q u (aGt (vs:=[(pV (some p4))]) u ⟨rfl,aLz⟩) fun a u=>?_;have⟨v19,w20,e21,h⟩:=bs2 h;refine q u (mO (xs:=[_,_]) (vs:=[(Sl.v v17),(.func (.func 121) #[] #[(pV (some p4))])]) u ⟨rfl,rfl,aLz⟩ Try.call120 (kC e21)) fun a u=>aB<|t_n<|?_;refine aO u rfl h (fun b22 h=>?_) (fun b22 h=>?_)
 .refine wp_skip<|t_n<|wp_block<|aA<|?_;have⟨v23,e24,h⟩:=bs1 h;refine q u (aJ u rfl aGN (aQ e24)) fun a u=>q u (bJ u rfl rfl) fun a u=>?_;have⟨w25,e26,h⟩:=bs1 h;refine q u (fO u rfl rfl aGL e26) fun a u=>aB<|b_n<|?_;have y:=u;cases h;exact dS ⟨y.sb rfl,rfl⟩
 refine wp_exit<|t_x<|?_;have y:=u;cases h;cases hr14 _ rfl;refine lM<|?_;exact hk13 _ (y.sb rfl)
noncomputable def fF (a0:Sl) (w:World):Option (Sl×World) :=
 if (a0.p.isNone)=true then
 (some (Sl.nil,w))
 else
 (aN (bsl w 5 1 []) fun s2 w3 =>
 aN (apS Try.prog 72 s2 a0 w3) fun s5 w6 =>
 some (s5,w6))
theorem mL {a0 w w' r0} (h:fF a0 w=some (r0,w')):Calls Try.prog 83 #[(Sl.v a0)] w fun e w''=>e=.returned (Sl.v r0)/\w''=w':=by
 refine aP (n:=8) Try.func83 rfl Try.ntmps83 (by simp) fun a u=>?_;unfold fF at h;refine wp_seq<|aA<|qa u rfl fun a u=>aB<|t_n<|wp_seq<|wp_seq<|aA<|qm u rfl fun a u=>q u (aFi u rfl rfl aGK) fun a u=>aB<|t_n<|?_;refine aO u rfl h (fun b1 h=>?_) (fun b1 h=>?_)
 .refine wp_seq<|aA<|qa u rfl fun a u=>aB<|t_n<|wp_ret<|t_r<|?_;have y:=u;cases h;exact bI Try.results83 y rfl ⟨rfl,rfl⟩
 refine wp_skip<|t_n<|wp_seq<|aA<|?_;have⟨s2,w3,e4,h⟩:=bs2 h;refine q u (iK (vs:=[]) (ps:=[]) u trivial trivial rfl aGK aGT aHG (by decide) e4) fun a u=>qm u rfl fun a u=>?_;have⟨s5,w6,e7,h⟩:=bs2 h;refine q u (iF u rfl rfl e7) fun a u=>qa u rfl fun a u=>aB<|t_n<|wp_ret<|?_;have y:=u;cases h;exact bI Try.results83 y rfl ⟨rfl,rfl⟩
noncomputable def dC (a0:Sl) (w:World):Option (Sl×World) :=
 if (a0.p.isNone)=true then
 (some (Sl.nil,w))
 else
 (aN (bsl w 87 2 []) fun s2 w3 =>
 aN (apS Try.prog 74 s2 a0 w3) fun s5 w6 =>
 some (s5,w6))
theorem kF {a0 w w' r0} (h:dC a0 w=some (r0,w')):Calls Try.prog 87 #[(Sl.v a0)] w fun e w''=>e=.returned (Sl.v r0)/\w''=w':=by
 refine aP (n:=8) Try.func87 rfl Try.ntmps87 (by simp) fun a u=>?_;unfold dC at h;refine wp_seq<|aA<|qa u rfl fun a u=>aB<|t_n<|wp_seq<|wp_seq<|aA<|qm u rfl fun a u=>q u (aFi u rfl rfl aGY) fun a u=>aB<|t_n<|?_;refine aO u rfl h (fun b1 h=>?_) (fun b1 h=>?_)
 .refine wp_seq<|aA<|qa u rfl fun a u=>aB<|t_n<|wp_ret<|t_r<|?_;have y:=u;cases h;exact bI Try.results87 y rfl ⟨rfl,rfl⟩
 refine wp_skip<|t_n<|wp_seq<|aA<|?_;have⟨s2,w3,e4,h⟩:=bs2 h;refine q u (iK (vs:=[]) (ps:=[]) u trivial trivial rfl aGY aHe aHh (by decide) e4) fun a u=>qm u rfl fun a u=>?_;have⟨s5,w6,e7,h⟩:=bs2 h;refine q u (iF u rfl rfl e7) fun a u=>qa u rfl fun a u=>aB<|t_n<|wp_ret<|?_;have y:=u;cases h;exact bI Try.results87 y rfl ⟨rfl,rfl⟩
noncomputable def hY (a0:Option Addr) (p39:Addr) (x81:Sl) (x82:Int) (w83:World):ND ((Sl×Int×World)⊕((World)⊕(Int×World))) :=
 if (decide (0<(x81.n:Int)))=true then
 (lb1 (dr w83) fun w93 =>
 lb1 (a0) fun p95 =>
 lb1 (ldP w93 (p95.add 0)) fun v97 =>
 lb1 (ldI .i64 w93 (p39.add 0)) fun v99 =>
 lb1 (ldI .i64 w93 (p39.add 2)) fun v101 =>
 lb2 (jD a0 v99 v101 w93) fun v103 w104 =>
 lb1 (slS x81 0 (mnI 59 (x81.n:Int)) (mnI 59 (x81.n:Int)) 1) fun s106 =>
 lb2 (nO x82 s106 ((mnI 59 (x81.n:Int))==(x81.n:Int)) w104) fun v108 w109 =>
 lb2 (cD v97 v103 v108 w109) fun v111 w112 =>
 nck (ldP w104 (p95.add 0)=some v97) <|
 nck (ldP w109 (p95.add 0)=some v97) <|
 if (v111 !=0)=true then
 (aU (.inr (.inr (v111,w112))))
 else
 (lb1 (slS x81 (mnI 59 (x81.n:Int)) (x81.n:Int) (x81.c:Int) 1) fun s117 =>
 lb1 (ldI .i64 w112 (p39.add 2)) fun v119 =>
 lb1 (stV w112 (p39.add 2) (.int .i64 (IntKind.wrap .i64 (v119+1)))) fun w121 =>
 aU (.inl (s117,3,w121))))
 else
 (aU (.inr (.inl w83)))
noncomputable def iJ (a0:Option Addr) (a1:Int) (a2:Sl) (w:World):ND (Int×World) :=
 lb2 (kD a0 w) fun v1 w2 =>
 if (v1 !=0)=true then
 (aU (v1,w2))
 else
 (if (decide (400<(a2.n:Int)))=true then
 (aU (6,w2))
 else
 (cb2 (lb1 (a0) fun p10 =>
 lb1 (ldI .i64 w2 (p10.add 5)) fun v12 =>
 if (decide (a1<=v12))=true then
 (aU (true,w2))
 else
 (aU ((decide (1099511627776<a1)),w2))) fun v6 w7 =>
 if v6=true then
 (aU (14,w7))
 else
 (lb2 (jU a1 w7) fun v16 w17 =>
 lb2 (apS Try.prog 72 v16 a2 w17) fun s19 w20 =>
 lb1 (dvI .i64 (IntKind.wrap .i64 ((IntKind.wrap .i64 ((s19.n:Int)+59))-1)) 59) fun v22 =>
 lb1 (a0) fun p24 =>
 lb1 (ldL w20 (p24.add 7)) fun v26 =>
 cb2 (if (decide ((IntKind.wrap .i64 ((v26.n:Int)-1))<0))=true then
 (aU (true,w20))
 else
 (lb1 (ldL w20 (p24.add 7)) fun v33 =>
 lb1 (ix v33 (IntKind.wrap .i64 ((v26.n:Int)-1)) 5) fun p35 =>
 lb1 (ldI .i64 w20 (p35.add 2)) fun v37 =>
 aU ((decide (16<(IntKind.wrap .i64 (v37+v22)))),w20))) fun v28 w29 =>
 lb2 (mk w29 125 (List.replicate 4 (.int .i64 0)++[.slice none 0 0])) fun p39 w40 =>
 cbX (if v28=true then
 (lb3 (lC a0 w40) fun v49 v50 w51 =>
 lb2 (mk w51 125 (List.replicate 4 (.int .i64 0)++[.slice none 0 0])) fun p53 w54 =>
 lb1 (stA w54 p53 0 v49) fun w57 =>
 nck ((v49).length=5) <|
 if (v50 !=0)=true then
 (cb1 (aU (v50,w57)) fun g47=>aU (.inl g47))
 else
 (lb1 (ldA 5 w57 p53 0) fun c61 =>
 lb1 (stA w57 p39 0 c61) fun w63 =>
 aU (.inr w63)))
 else
 (lb1 (ldL w40 (p24.add 7)) fun v65 =>
 lb1 (ix v65 (IntKind.wrap .i64 ((v26.n:Int)-1)) 5) fun p67 =>
 lb1 (ldA 5 w40 p67 0) fun c69 =>
 lb1 (stA w40 p39 0 c69) fun w71 =>
 aU (.inr w71))) fun (i:World)=>u1 i fun w42 =>
 lb2 (fF a2 w42) fun v73 w74 =>
 lb2 (mk w74 87 ([.int .i64 0,.slice none 0 0])) fun p76 w77 =>
 lb1 (stA w77 p76 0 ([.int .i64 a1,Sl.v v73])) fun w79 =>
 cb1 (fB (fun s:Sl×Int×World=>hY a0 p39 s.1 s.2.1 s.2.2) (s19,2,w79)) fun r84=>Sum.elim (fun (i:World)=>u1 i fun w86 =>
 cb1 (lb1 (dr w86) fun w126 =>
 lb1 (ldL w126 (p39.add 4)) fun v128 =>
 lb1 (ldA 2 w126 p76 0) fun c130 =>
 aCA (lb2 (dC v128 w126) fun v132 w133 =>
 lb2 (bsl w133 87 2 [c130]) fun s135 w136 =>
 lb2 (apS Try.prog 74 v132 s135 w136) fun s138 w139 =>
 lb1 (stV w139 (p39.add 4) (Sl.v s138)) fun w141 =>
 nck (ldA 2 w133 p76 0=some c130) <|
 aU w141) (lb2 (bsl w126 87 2 [c130]) fun s144 w145 =>
 lb2 (dC v128 w145) fun v147 w148 =>
 lb2 (apS Try.prog 74 v147 s144 w148) fun s150 w151 =>
 lb1 (stV w151 (p39.add 4) (Sl.v s150)) fun w153 =>
 nck (ldL w145 (p39.add 4)=some v128) <|
 aU w153)) fun w123 =>
 lb1 (stV w123 (p39.add 3) (.int .i64 a1)) fun w156 =>
 lb1 (stV w156 (p24.add 5) (.int .i64 a1)) fun w158 =>
 cb1 (if v28=true then
 (lb1 (dr w158) fun w164 =>
 lb1 (ldL w164 (p24.add 7)) fun v166 =>
 lb1 (ldA 5 w164 p39 0) fun c168 =>
 lb2 (bsl w164 125 5 [c168]) fun s170 w171 =>
 lb2 (apS Try.prog 117 v166 s170 w171) fun s173 w174 =>
 lb1 (stV w174 (p24.add 7) (Sl.v s173)) fun w176 =>
 nck (ldL w171 (p24.add 7)=some v166) <|
 aU w176)
 else
 (lb1 (dr w158) fun w179 =>
 lb1 (ldL w179 (p24.add 7)) fun v181 =>
 lb1 (ldA 5 w179 p39 0) fun c183 =>
 lb1 (ix v181 (IntKind.wrap .i64 ((v26.n:Int)-1)) 5) fun p185 =>
 lb1 (stA w179 p185 0 c183) fun w187 =>
 aU w187)) fun w160 =>
 aU (0,w160)) (fun (i:Int×World)=>u2 i fun v87 w88 =>
 aU (v87,w88)) r84)))
theorem mP {a0 a1 a2 w Q} (h:(iJ a0 a1 a2 w).t Q):Calls Try.prog 42 #[(.pointer a0),(.int .i64 a1),(Sl.v a2)] w fun e w''=>∃ i,e=.returned (.int .i64 i.1)/\Q i/\w''=i.2:=by
 refine aP (n:=158) Try.func42 rfl Try.ntmps42 (by simp) fun a u=>?_;unfold iJ at h;refine wp_seq<|aA<|qa u rfl fun a u=>aB<|t_n<|wp_seq<|wp_seq<|aA<|qm u rfl fun a u=>?_;obtain⟨v1,w2,e3,h⟩:=h;refine q u (dc1 u rfl Try.call80 (nP e3)) fun a u=>qa u rfl fun a u=>aB<|t_n<|wp_seq<|aA<|qm u rfl fun a u=>q u (fJ u rfl rfl) fun a u=>aB<|t_n<|?_;refine aX u rfl h (fun b4 h=>?_) (fun b4 h=>?_)
 .refine wp_seq<|aA<|qm u rfl fun a u=>qa u rfl fun a u=>aB<|t_n<|wp_ret<|t_r<|?_;exact bI Try.results42 u rfl ⟨(v1,w2),rfl,h,rfl⟩
 refine wp_skip<|t_n<|wp_seq<|wp_block<|wp_seq<|aA<|qm u rfl fun a u=>q u (aZ u rfl aGK) fun a u=>q u (gF u rfl rfl) fun a u=>qa u rfl fun a u=>aB<|t_n<|?_;refine aX u rfl h (fun b5 h=>?_) (fun b5 h=>?_)
 .refine wp_seq<|aA<|qa u rfl fun a u=>aB<|t_n<|wp_ret<|b_r<|t_r<|?_;exact bI Try.results42 u rfl ⟨(6,w2),rfl,h,rfl⟩
 refine wp_seq<|?_;refine dD (n:=158) (ι:=Bool×World) (Lf:=fun i=>[(28,(bV i.1)),(0,(pV a0)),(1,(iV a1)),(2,(Sl.v a2))]) (wf:=fun i=>i.2) (un2 h) (fun i h a u=>?_) (fun h hk9=>?_)
 .obtain⟨v6,w7⟩:=i;have u:Has 158 [(28,(bV v6)),(0,(pV a0)),(1,(iV a1)),(2,(Sl.v a2))] a:=u;refine t_n<|?_;refine aX u rfl h (fun b15 h=>?_) (fun b15 h=>?_)
  .refine wp_seq<|aA<|qa u rfl fun a u=>aB<|t_n<|wp_ret<|b_r<|t_r<|?_;exact bI Try.results42 u rfl ⟨(14,w7),rfl,h,rfl⟩
  refine wp_skip<|b_n<|t_n<|wp_seq<|aA<|qm u rfl fun a u=>?_;obtain⟨v16,w17,e18,h⟩:=h;refine q u (dc1 u rfl Try.call81 (nE e18)) fun a u=>qm u rfl fun a u=>?_;obtain⟨s19,w20,e21,h⟩:=h;refine q u (iF u rfl rfl e21) fun a u=>qa u rfl fun a u=>aB<|t_n<|wp_seq<|aA<|qm u rfl fun a u=>q u (aZ u rfl aGK) fun a u=>q u (bJ u rfl rfl) fun a u=>q u (iB u rfl rfl) fun a u=>?_;obtain⟨v22,e23,h⟩:=h;refine q u (aAl u rfl rfl e23) fun a u=>qa u rfl fun a u=>aB<|t_n<|wp_seq<|aA<|qm u rfl fun a u=>?_;obtain⟨p24,e25,h⟩:=h;refine q u (aH u rfl e25) fun a u=>q u (aK u rfl aGO rfl rfl aHn) fun a u=>?_;obtain⟨v26,e27,h⟩:=h;refine q u (aJ u rfl aHA (aV e27)) fun a u=>q u (aZ u rfl aGX) fun a u=>q u (iB u rfl rfl) fun a u=>qa u rfl fun a u=>aB<|t_n<|wp_seq<|?_;refine dD (n:=158) (ι:=Bool×World) (Lf:=fun i=>[(11,(bV i.1)),(0,(pV a0)),(1,(iV a1)),(2,(Sl.v a2)),(8,(Sl.v s19)),(10,(iV (IntKind.wrap .i64 ((v26.n:Int)-1))))]) (wf:=fun i=>i.2) (un2 h) (fun i h a u=>?_) (fun h hk31=>?_)
  .obtain⟨v28,w29⟩:=i;have u:Has 158 [(11,(bV v28)),(0,(pV a0)),(1,(iV a1)),(2,(Sl.v a2)),(8,(Sl.v s19)),(10,(iV (IntKind.wrap .i64 ((v26.n:Int)-1))))] a:=u;refine t_n<|wp_seq<|aA<|?_;obtain⟨p39,w40,e41,h⟩:=h;refine q u (eX aHq (by kernel_rfl) e41) fun a u=>aB<|t_n<|?_;refine mU (n:=158) (ι:=World) (Lf:=fun i=>[(0,(pV a0)),(1,(iV a1)),(2,(Sl.v a2)),(8,(Sl.v s19)),(10,(iV (IntKind.wrap .i64 ((v26.n:Int)-1)))),(11,(bV v28)),(12,(pV (some p39)))]) (wf:=fun i=>i) (unX h) (fun i h a u=>?_) (fun h hk46=>?_)
   .obtain⟨w42,rfl⟩:∃ x,x=i:=⟨i,rfl⟩
    try dsimp only[Sum.elim_inl,Sum.elim_inr,u1,u2,u3,u4,u5,u6] at h
    have u:Has 158 [(0,(pV a0)),(1,(iV a1)),(2,(Sl.v a2)),(8,(Sl.v s19)),(10,(iV (IntKind.wrap .i64 ((v26.n:Int)-1)))),(11,(bV v28)),(12,(pV (some p39)))] a:=u;refine wp_seq<|aA<|qm u rfl fun a u=>qm u rfl fun a u=>?_;obtain⟨v73,w74,e75,h⟩:=h;refine q u (dc1 u rfl Try.call83 (mL e75)) fun a u=>q u (dZ (vs:=[(0,(iV a1)),(1,(Sl.v v73))]) (pl:=#[(0,1),(1,1)]) (cs:=([.int .i64 a1,Sl.v v73])) u ⟨rfl,rfl,rfl,rfl,aLz⟩ aHh aHa (by intro w;kernel_rfl) (by kernel_rfl)) fun a u=>?_;obtain⟨p76,w77,e78,h⟩:=h;refine q u (eX aHh (by kernel_rfl) e78) fun a u=>?_;obtain⟨w79,e80,h⟩:=h;refine q u (eW u rfl rfl aHe rfl e80) fun a u=>aB<|t_n<|wp_seq<|wp_seq<|aA<|qa u rfl fun a u=>aB<|t_n<|wp_block<|?_;refine sW (n:=158) (L1:=fun i=>[(0,(pV a0)),(1,(iV a1)),(10,(iV (IntKind.wrap .i64 ((v26.n:Int)-1)))),(11,(bV v28)),(12,(pV (some p39))),(15,(pV (some p76)))]) (w1:=fun i=>i) (L2:=fun i=>[(6,(iV i.1))]) (w2:=fun i=>i.2) (e1:=.exit 1) (e2:=.ret) (I:=fun (s:Sl×Int×World) a w=>Has 158 [(8,(Sl.v s.1)),(16,(iV s.2.1)),(0,(pV a0)),(1,(iV a1)),(10,(iV (IntKind.wrap .i64 ((v26.n:Int)-1)))),(11,(bV v28)),(12,(pV (some p39))),(15,(pV (some p76)))] a/\w=s.2.2) (un1 h) ⟨u.sub ⟨rfl,rfl,rfl,rfl,rfl,rfl,rfl,rfl,aLz⟩,rfl⟩ (fun i h a u=>?_) (fun i h a u=>?_) (fun hk89 hk90=>?_)
    .obtain⟨w86,rfl⟩:∃ x,x=i:=⟨i,rfl⟩
     try dsimp only[Sum.elim_inl,Sum.elim_inr,u1,u2,u3,u4,u5,u6] at h
     have u:Has 158 [(0,(pV a0)),(1,(iV a1)),(10,(iV (IntKind.wrap .i64 ((v26.n:Int)-1)))),(11,(bV v28)),(12,(pV (some p39))),(15,(pV (some p76)))] a:=u;refine eC<|t_n<|wp_seq<|?_;refine dD (n:=158) (ι:=World) (Lf:=fun i=>[(0,(pV a0)),(1,(iV a1)),(10,(iV (IntKind.wrap .i64 ((v26.n:Int)-1)))),(11,(bV v28)),(12,(pV (some p39)))]) (wf:=fun i=>i) (un1 h) (fun i h a u=>?_) (fun h hk125=>?_)
     .obtain⟨w123,rfl⟩:∃ x,x=i:=⟨i,rfl⟩;have u:Has 158 [(0,(pV a0)),(1,(iV a1)),(10,(iV (IntKind.wrap .i64 ((v26.n:Int)-1)))),(11,(bV v28)),(12,(pV (some p39)))] a:=u;refine t_n<|wp_seq<|aA<|qm u rfl fun a u=>qm u rfl fun a u=>qm u rfl fun a u=>q u (aK u rfl aGU rfl rfl aGL) fun a u=>?_;obtain⟨w156,e157,h⟩:=h;refine q u (fO u rfl rfl aGL e157) fun a u=>q u (aH u rfl e25) fun a u=>q u (aK u rfl aGO rfl rfl aGL) fun a u=>?_;obtain⟨w158,e159,h⟩:=h;refine q u (fO u rfl rfl aGL e159) fun a u=>aB<|t_n<|?_;refine gJ (n:=158) (ι:=World) (Lf:=fun i=>[]) (wf:=fun i=>i) (un1 h) (fun i h a u=>?_) (fun h hk162=>?_)
      .obtain⟨w160,rfl⟩:∃ x,x=i:=⟨i,rfl⟩;have u:Has 158 [] a:=u;refine wp_seq<|aA<|qa u rfl fun a u=>aB<|t_n<|wp_ret<|?_;exact bI Try.results42 u rfl ⟨(0,w160),rfl,h,rfl⟩
      refine wp_seq<|aA<|qm u rfl fun a u=>aB<|t_n<|?_;refine aX u rfl h (fun b163 h=>?_) (fun b163 h=>?_)
      .obtain⟨w164,e165,h⟩:=h;obtain⟨v166,e167,h⟩:=h;obtain⟨c168,e169,h⟩:=h;obtain⟨s170,w171,e172,h⟩:=h;obtain⟨s173,w174,e175,h⟩:=h;obtain⟨w176,e177,h⟩:=h;obtain⟨e178,h⟩:=h;have u:Has 158 [(0,(pV a0)),(10,(iV (IntKind.wrap .i64 ((v26.n:Int)-1)))),(12,(pV (some p39))),(140,(bV v28))] a:=u.sb rfl;refine aM (n:=158) (ds:=(aI (pV a0) false 0 2 [] [(0,(pV a0))]::aI (pV a0) false 0 1 [] [(0,(pV a0))]::aI (pV (some p24)) false 0 1 [1] [(142,(pV a0))]::aI (pV (some (p24.add 7))) false 0 1 [1,2] [(143,(pV (some p24)))]::aI (Sl.v v166) false 0 1 [1,2,3] [(144,(pV (some (p24.add 7))))]::aG (.agg (List.toArray c168)) 0 [] 12 (pV (some p39))::aI (Sl.v s170) true 0 0 [5] [(146,(.agg (List.toArray c168)))]::aI (Sl.v s173) true 1 1 (rn 1 6) [(145,(Sl.v v166)),(147,(Sl.v s170))]::aG (pV (some p24)) 2 (rn 0 8) 141 (pV a0)::aG (pV (some (p24.add 7))) 2 (rn 0 9) 149 (pV (some p24))::aI (undef) true 2 2 (rn 0 10) [(150,(pV (some (p24.add 7)))),(148,(Sl.v s173))]::[])) (W:=(fun j=>match j with | 0=>w164 | 1=>w171 | 2=>w174 | 3=>w176 | _=>w176)) (by kernel_rfl) u (cY e165) (by kernel_rfl) ?_ (aR (by kernel_rfl)) (by kernel_rfl) (m:=3) (by kernel_rfl) (fun a u=>?_)
       .refine⟨oa (aC · rfl),oa (aC · rfl),oa (aH · rfl e25),oa (aK · rfl aGO rfl rfl aHn),?_,oc 0 (kd (gC · rfl aHx aGW e169)),oc 0 (kd (iK (vs:=[(0,(.agg (List.toArray c168)))]) (ps:=[c168]) · ⟨rfl,rfl,aLz⟩ ⟨rfl,rfl,aLz⟩ rfl aGX aGW aHq (by decide) e172)),oc 1 (kd (iF · rfl rfl e175)),oa (aH · rfl e25),oa (aK · rfl aGO rfl rfl aHn),oc 2 (kd (fO · rfl rfl aHn e177)),aLz⟩;intro j h1 h2;have h1:0<=j:=h1;have h2:j<=1:=h2;rcases(by omega:j=0\/j=1) with rfl | rfl
        .exact kd (aJ · rfl aHA (aV e167))
        exact kd (aJ · rfl aHA (aV e178))
       have u:Has 158 [] a:=u.sb rfl;exact hk162 w176 h _ (u.sb rfl)
      obtain⟨w179,e180,h⟩:=h;obtain⟨v181,e182,h⟩:=h;obtain⟨c183,e184,h⟩:=h;obtain⟨p185,e186,h⟩:=h;obtain⟨w187,e188,h⟩:=h;have u:Has 158 [(0,(pV a0)),(10,(iV (IntKind.wrap .i64 ((v26.n:Int)-1)))),(12,(pV (some p39))),(140,(bV v28))] a:=u.sb rfl;refine aM (n:=158) (ds:=(aS (pV a0) 0 [] 0::aG (pV (some p24)) 0 [0] 151 (pV a0)::aG (pV (some (p24.add 7))) 0 [0,1] 152 (pV (some p24))::aG (Sl.v v181) 0 [0,1,2] 153 (pV (some (p24.add 7)))::aS (iV (IntKind.wrap .i64 ((v26.n:Int)-1))) 0 [] 10::aG (.agg (List.toArray c183)) 0 [] 12 (pV (some p39))::aT (pV (some p185)) 0 (rn 0 6) [(154,(Sl.v v181)),(155,(iV (IntKind.wrap .i64 ((v26.n:Int)-1))))]::aI (undef) true 0 0 (rn 0 7) [(157,(pV (some p185))),(156,(.agg (List.toArray c183)))]::[])) (W:=(fun j=>match j with | 0=>w179 | 1=>w187 | _=>w187)) (by kernel_rfl) u (cY e180) (by kernel_rfl) ?_ (aR (by kernel_rfl)) (by kernel_rfl) (m:=1) (by kernel_rfl) (fun a u=>?_)
      .exact⟨oa (aC · rfl),oa (aH · rfl e25),oa (aK · rfl aGO rfl rfl aHn),oc 0 (kd (aJ · rfl aHA (aV e182))),oa (aC · rfl),oc 0 (kd (gC · rfl aHx aGW e184)),oa (bZ · rfl rfl aGX aGW e186),oc 0 (kd (eW · rfl rfl aGW ((kR e184).1) e188)),aLz⟩
      have u:Has 158 [] a:=u.sb rfl;exact hk162 w187 h _ (u.sb rfl)
     obtain⟨w126,e127,h⟩:=h;obtain⟨v128,e129,h⟩:=h;obtain⟨c130,e131,h⟩:=h;obtain⟨h,hB⟩:=h;obtain⟨v132,w133,e134,h⟩:=h;obtain⟨s135,w136,e137,h⟩:=h;obtain⟨s138,w139,e140,h⟩:=h;obtain⟨w141,e142,h⟩:=h;obtain⟨e143,h⟩:=h;have hA:=h;have h:=hB;obtain⟨s144,w145,e146,h⟩:=h;obtain⟨v147,w148,e149,h⟩:=h;obtain⟨s150,w151,e152,h⟩:=h;obtain⟨w153,e154,h⟩:=h;obtain⟨e155,h⟩:=h;have hB:=h;have u:Has 158 [(0,(pV a0)),(1,(iV a1)),(10,(iV (IntKind.wrap .i64 ((v26.n:Int)-1)))),(11,(bV v28)),(12,(pV (some p39))),(15,(pV (some p76)))] a:=u.sb rfl;refine qN (n:=158) (i:=2) (j:=4) (Dp:=[2,4,5,6,7]) (ds1:=(aG (pV (some (p39.add 4))) 0 [] 12 (pV (some p39))::aG (Sl.v v128) 0 [0] 127 (pV (some (p39.add 4)))::aI (Sl.v v132) true 0 0 [0,1] [(128,(Sl.v v128))]::aI (.agg (List.toArray c130)) false 0 1 [] [(15,(pV (some p76)))]::aI (Sl.v s135) true 1 1 (rn 0 4) [(130,(.agg (List.toArray c130)))]::aI (Sl.v s138) true 2 2 (rn 0 5) [(129,(Sl.v v132)),(131,(Sl.v s135))]::aG (pV (some (p39.add 4))) 3 (rn 0 6) 12 (pV (some p39))::aI (undef) true 3 3 (rn 0 7) [(133,(pV (some (p39.add 4)))),(132,(Sl.v s138))]::[])) (ds2:=(aI (pV (some (p39.add 4))) false 0 1 [] [(12,(pV (some p39)))]::aI (Sl.v v128) false 0 1 [0] [(127,(pV (some (p39.add 4))))]::aI (Sl.v v147) true 1 1 [0,1,3,4] [(128,(Sl.v v128))]::aG (.agg (List.toArray c130)) 0 [] 15 (pV (some p76))::aI (Sl.v s144) true 0 0 [3] [(130,(.agg (List.toArray c130)))]::aI (Sl.v s150) true 2 2 (rn 0 5) [(129,(Sl.v v147)),(131,(Sl.v s144))]::aG (pV (some (p39.add 4))) 3 (rn 0 6) 12 (pV (some p39))::aI (undef) true 3 3 (rn 0 7) [(133,(pV (some (p39.add 4)))),(132,(Sl.v s150))]::[])) (W1:=(fun j=>match j with | 0=>w126 | 1=>w133 | 2=>w136 | 3=>w139 | 4=>w141 | _=>w141)) (W2:=(fun j=>match j with | 0=>w126 | 1=>w145 | 2=>w148 | 3=>w151 | 4=>w153 | _=>w153)) (m1:=4) (m2:=4) (by kernel_rfl) u (cY e127) (cY e127) rfl (by kernel_rfl) (by kernel_rfl) rfl rfl (by decide) (aR (by kernel_rfl)) (aR (by kernel_rfl)) ?_ ?_ (by kernel_rfl) (by kernel_rfl) (fun a u=>?_) (fun a u=>?_)
     .refine⟨oa (aK · rfl aGU rfl rfl aHy),oc 0 (kd (aJ · rfl aHI (aV e129))),oc 0 (kd (dc1 · rfl Try.call87 (kF e134))),?_,oc 1 (kd (iK (vs:=[(0,(.agg (List.toArray c130)))]) (ps:=[c130]) · ⟨rfl,rfl,aLz⟩ ⟨rfl,rfl,aLz⟩ rfl aGY aHe aHh (by decide) e137)),oc 2 (kd (iF · rfl rfl e140)),oa (aK · rfl aGU rfl rfl aHy),oc 3 (kd (fO · rfl rfl aHy e142)),aLz⟩;intro j h1 h2;have h1:0<=j:=h1;have h2:j<=1:=h2;rcases(by omega:j=0\/j=1) with rfl | rfl
      .exact kd (gC · rfl aHW aHe e131)
      exact kd (gC · rfl aHW aHe e143)
     .refine⟨oa (aK · rfl aGU rfl rfl aHy),?_,oc 1 (kd (dc1 · rfl Try.call87 (kF e149))),oc 0 (kd (gC · rfl aHW aHe e131)),oc 0 (kd (iK (vs:=[(0,(.agg (List.toArray c130)))]) (ps:=[c130]) · ⟨rfl,rfl,aLz⟩ ⟨rfl,rfl,aLz⟩ rfl aGY aHe aHh (by decide) e146)),oc 2 (kd (iF · rfl rfl e152)),oa (aK · rfl aGU rfl rfl aHy),oc 3 (kd (fO · rfl rfl aHy e154)),aLz⟩;intro j h1 h2;have h1:0<=j:=h1;have h2:j<=1:=h2;rcases(by omega:j=0\/j=1) with rfl | rfl
      .exact kd (aJ · rfl aHI (aV e129))
      exact kd (aJ · rfl aHI (aV e155))
     .have h:=hA;have u:Has 158 [(0,(pV a0)),(1,(iV a1)),(10,(iV (IntKind.wrap .i64 ((v26.n:Int)-1)))),(11,(bV v28)),(12,(pV (some p39)))] a:=u.sb rfl;exact hk125 w141 h _ (u.sb rfl)
     have h:=hB;have u:Has 158 [(0,(pV a0)),(1,(iV a1)),(10,(iV (IntKind.wrap .i64 ((v26.n:Int)-1)))),(11,(bV v28)),(12,(pV (some p39)))] a:=u.sb rfl;exact hk125 w153 h _ (u.sb rfl)
    .obtain⟨v87,w88⟩:=i
     try dsimp only[Sum.elim_inl,Sum.elim_inr,u1,u2,u3,u4,u5,u6] at h
     have u:Has 158 [(6,(iV v87))] a:=u;refine b_r<|t_r<|?_;exact bI Try.results42 u rfl ⟨(v87,w88),rfl,h,rfl⟩
    clear h;intro hX189;rintro⟨x81,x82,w83⟩ a wq ⟨u,hwq⟩ h;obtain rfl:w83=wq:=hwq.symm;have u:Has 158 [(8,(Sl.v x81)),(16,(iV x82)),(0,(pV a0)),(1,(iV a1)),(10,(iV (IntKind.wrap .i64 ((v26.n:Int)-1)))),(11,(bV v28)),(12,(pV (some p39))),(15,(pV (some p76)))] a:=u;have h:(hY a0 p39 x81 x82 w83).t _:=h;unfold hY at h;refine wp_seq<|wp_seq<|aA<|qm u rfl fun a u=>q u (aZ u rfl aGK) fun a u=>q u (gF u rfl rfl) fun a u=>aB<|t_n<|?_;refine aX u rfl h (fun b92 h=>?_) (fun b92 h=>?_)
    .refine wp_skip<|t_n<|wp_seq<|wp_block<|wp_seq<|aA<|qm u rfl fun a u=>q u (aZ u rfl aGK) fun a u=>q u (aGx u rfl rfl) fun a u=>qa u rfl fun a u=>aB<|t_n<|wp_seq<|wp_seq<|?_;obtain⟨w93,e94,h⟩:=h;obtain⟨p95,e96,h⟩:=h;obtain⟨v97,e98,h⟩:=h;obtain⟨v99,e100,h⟩:=h;obtain⟨v101,e102,h⟩:=h;obtain⟨v103,w104,e105,h⟩:=h;obtain⟨s106,e107,h⟩:=h;obtain⟨v108,w109,e110,h⟩:=h;obtain⟨v111,w112,e113,h⟩:=h;obtain⟨e114,h⟩:=h;obtain⟨e115,h⟩:=h;have u:Has 158 [(0,(pV a0)),(1,(iV a1)),(8,(Sl.v x81)),(10,(iV (IntKind.wrap .i64 ((v26.n:Int)-1)))),(11,(bV v28)),(12,(pV (some p39))),(15,(pV (some p76))),(16,(iV x82)),(17,(iV (mnI 59 (x81.n:Int))))] a:=u.sb rfl;refine aM (n:=158) (ds:=(aI (pV a0) false 0 2 [] [(0,(pV a0))]::aI (pV (some p95)) false 0 2 [0] [(96,(pV a0))]::aI (pV (some (p95.add 0))) false 0 2 [0,1] [(97,(pV (some p95)))]::aI (pV v97) false 0 2 [0,1,2] [(98,(pV (some (p95.add 0))))]::aS (pV a0) 0 [] 0::aG (pV (some (p39.add 0))) 0 [] 12 (pV (some p39))::aG (iV v99) 0 [5] 101 (pV (some (p39.add 0)))::aG (pV (some (p39.add 2))) 0 [] 12 (pV (some p39))::aG (iV v101) 0 [7] 103 (pV (some (p39.add 2)))::aI (iV v103) true 0 0 (rn 4 5) [(100,(pV a0)),(102,(iV v99)),(104,(iV v101))]::aI (iV x82) false 0 1 [] [(16,(iV x82))]::aI (Sl.v x81) false 0 1 [] [(8,(Sl.v x81))]::aI (iV (mnI 59 (x81.n:Int))) false 0 1 [] [(17,(iV (mnI 59 (x81.n:Int))))]::aI (iV (mnI 59 (x81.n:Int))) false 0 1 [] [(17,(iV (mnI 59 (x81.n:Int))))]::aI (Sl.v s106) false 0 1 [11,12,13] [(107,(Sl.v x81)),(108,(iV (mnI 59 (x81.n:Int)))),(109,(iV (mnI 59 (x81.n:Int))))]::aI (iV (mnI 59 (x81.n:Int))) false 0 1 [] [(17,(iV (mnI 59 (x81.n:Int))))]::aI (Sl.v x81) false 0 1 [] [(8,(Sl.v x81))]::aI (iV (x81.n:Int)) false 0 1 [16] [(112,(Sl.v x81))]::aI (bV ((mnI 59 (x81.n:Int))==(x81.n:Int))) false 0 1 [15,16,17] [(111,(iV (mnI 59 (x81.n:Int)))),(113,(iV (x81.n:Int)))]::aI (Sl.v v108) true 1 1 (rn 4 15) [(106,(iV x82)),(110,(Sl.v s106)),(114,(bV ((mnI 59 (x81.n:Int))==(x81.n:Int))))]::aI (iV v111) true 2 2 (rn 0 20) [(99,(pV v97)),(105,(iV v103)),(115,(Sl.v v108))]::aS (iV v111) 3 (rn 0 21) 116::[])) (W:=(fun j=>match j with | 0=>w93 | 1=>w104 | 2=>w109 | 3=>w112 | _=>w112)) (by kernel_rfl) u (cY e94) (by kernel_rfl) ?_ (aR (by kernel_rfl)) (by kernel_rfl) (m:=3) (by kernel_rfl) (fun a u=>?_)
     .refine⟨oa (aC · rfl),oa (aH · rfl e96),oa (aK · rfl aGO rfl rfl aHm),?_,oa (aC · rfl),oa (aK · rfl aGU rfl rfl aGL),oc 0 (kd (aJ · rfl aGN (aQ e100))),oa (aK · rfl aGU rfl rfl aGL),oc 0 (kd (aJ · rfl aGN (aQ e102))),oc 0 (kd (dc3 · rfl rfl rfl Try.call85 (lD e105))),oa (aC · rfl),oa (aC · rfl),oa (aC · rfl),oa (aC · rfl),oa (oG · rfl aGK aGT rfl ⟨_,rfl⟩ ⟨_,rfl⟩ (fun _=>rfl) e107),oa (aC · rfl),oa (aC · rfl),oa (aZ · rfl aGK),oa (gD · rfl rfl),oc 1 (kd (dc3 · rfl rfl rfl Try.call86 (sF e110))),oc 2 (kd (dc3 · rfl rfl rfl Try.call84 (fC e113))),oa (bD · rfl),aLz⟩;intro j h1 h2;have h1:0<=j:=h1;have h2:j<=2:=h2;rcases(by omega:j=0\/j=1\/j=2) with rfl | rfl | rfl
      .exact kd (aJ · rfl aHj (bA e98))
      .exact kd (aJ · rfl aHj (bA e114))
      exact kd (aJ · rfl aHj (bA e115))
     have u:Has 158 [(0,(pV a0)),(1,(iV a1)),(8,(Sl.v x81)),(10,(iV (IntKind.wrap .i64 ((v26.n:Int)-1)))),(11,(bV v28)),(12,(pV (some p39))),(15,(pV (some p76))),(17,(iV (mnI 59 (x81.n:Int)))),(18,(iV v111))] a:=u.sb rfl;refine t_n<|wp_seq<|aA<|qm u rfl fun a u=>q u (fJ u rfl rfl) fun a u=>aB<|t_n<|?_;refine aX u rfl h (fun b116 h=>?_) (fun b116 h=>?_)
     .refine wp_seq<|aA<|qm u rfl fun a u=>qa u rfl fun a u=>aB<|t_n<|wp_ret<|t_r<|b_r<|t_r<|t_r<|?_;exact hk90 (v111,w112) h _ (u.sb rfl)
     refine wp_skip<|t_n<|wp_seq<|aA<|qm u rfl fun a u=>qm u rfl fun a u=>?_;obtain⟨s117,e118,h⟩:=h;refine q u (oG u rfl aGK aGT ⟨_,rfl⟩ rfl rfl (by simp) e118) fun a u=>qa u rfl fun a u=>aB<|t_n<|aA<|q u (aK u rfl aGU rfl rfl aGL) fun a u=>?_;obtain⟨v119,e120,h⟩:=h;refine q u (aJ u rfl aGN (aQ e120)) fun a u=>q u (bJ u rfl rfl) fun a u=>q u (aK u rfl aGU rfl rfl aGL) fun a u=>?_;obtain⟨w121,e122,h⟩:=h;refine q u (fO u rfl rfl aGL e122) fun a u=>aB<|b_n<|t_n<|aA<|qa u rfl fun a u=>aB<|?_;exact⟨(s117,3,w121),⟨u.sb rfl,rfl⟩,h⟩
    refine wp_exit<|t_x<|t_x<|?_;exact hk89 w83 h _ (u.sb rfl)
   refine wp_seq<|aA<|qm u rfl fun a u=>aB<|t_n<|?_;refine aX u rfl h (fun b48 h=>?_) (fun b48 h=>?_)
   .refine wp_seq<|aA<|qm u rfl fun a u=>?_;obtain⟨v49,v50,w51,e52,h⟩:=h;refine q u (dc1 u rfl Try.call82 (sL e52)) fun a u=>qm u rfl fun a u=>q u (aW u rfl rfl) fun a u=>q u (aW u rfl rfl) fun a u=>?_;obtain⟨p53,w54,e55,h⟩:=h;refine q u (eX aHq (by kernel_rfl) e55) fun a u=>?_;obtain⟨w57,e58,h⟩:=h;obtain⟨e56,h⟩:=h;refine q u (eW u rfl rfl aGW e56 e58) fun a u=>qa u rfl fun a u=>aB<|t_n<|wp_seq<|wp_seq<|aA<|qm u rfl fun a u=>q u (fJ u rfl rfl) fun a u=>aB<|t_n<|?_;refine aX u rfl h (fun b59 h=>?_) (fun b59 h=>?_)
    .refine wp_seq<|aA<|qm u rfl fun a u=>qa u rfl fun a u=>aB<|t_n<|wp_ret<|t_r<|?_;have h:=unL h;refine t_r<|?_;exact bI Try.results42 u rfl ⟨(v50,w57),rfl,h,rfl⟩
    refine wp_skip<|t_n<|aA<|?_;obtain⟨c61,e62,h⟩:=h;refine q u (gC u rfl aHx aGW e62) fun a u=>?_;obtain⟨w63,e64,h⟩:=h;refine q u (eW u rfl rfl aGW ((kR e62).1) e64) fun a u=>aB<|?_;exact hk46 w63 h _ (u.sb rfl)
   refine aA<|qm u rfl fun a u=>q u (aH u rfl e25) fun a u=>q u (aK u rfl aGO rfl rfl aHn) fun a u=>?_;obtain⟨v65,e66,h⟩:=h;refine q u (aJ u rfl aHA (aV e66)) fun a u=>qm u rfl fun a u=>?_;obtain⟨p67,e68,h⟩:=h;refine q u (bZ u rfl rfl aGX aGW e68) fun a u=>?_;obtain⟨c69,e70,h⟩:=h;refine q u (gC u rfl aHx aGW e70) fun a u=>?_;obtain⟨w71,e72,h⟩:=h;refine q u (eW u rfl rfl aGW ((kR e70).1) e72) fun a u=>aB<|?_;exact hk46 w71 h _ (u.sb rfl)
  refine aA<|qm u rfl fun a u=>q u (dK u rfl rfl) fun a u=>qm u rfl fun a u=>?_;refine iE h (fun b32 h=>?_) (fun b32 h=>?_)
  .refine qn u 56 (tn b32) fun a u=>qn u 56 (tn b32) fun a u=>qn u 56 (tn b32) fun a u=>qn u 56 (tn b32) fun a u=>qn u 56 (tn b32) fun a u=>qn u 56 (tn b32) fun a u=>qn u 56 (tn b32) fun a u=>qn u 56 (tn b32) fun a u=>qn u 56 (tn b32) fun a u=>qn u 56 (tn b32) fun a u=>qn u 56 (tn b32) fun a u=>q u (aF u rfl b32 rfl) fun a u=>qa u rfl fun a u=>aB<|?_;exact hk31 (true,w20) h _ (u.sb rfl)
  refine qg u 56 (nt b32) (aC u rfl) fun a u=>qg u 56 (nt b32) (aH u rfl e25) fun a u=>qg u 56 (nt b32) (aK u rfl aGO rfl rfl aHn) fun a u=>?_;obtain⟨v33,e34,h⟩:=h;refine qg u 56 (nt b32) (aJ u rfl aHA (aV e34)) fun a u=>qg u 56 (nt b32) (aC u rfl) fun a u=>?_;obtain⟨p35,e36,h⟩:=h;refine qg u 56 (nt b32) (bZ u rfl rfl aGX aGW e36) fun a u=>qg u 56 (nt b32) (aK u rfl aGU rfl rfl aGL) fun a u=>?_;obtain⟨v37,e38,h⟩:=h;refine qg u 56 (nt b32) (aJ u rfl aGN (aQ e38)) fun a u=>qg u 56 (nt b32) (aC u rfl) fun a u=>qg u 56 (nt b32) (bJ u rfl rfl) fun a u=>qg u 56 (nt b32) (gF u rfl rfl) fun a u=>q u (aL u rfl b32 rfl) fun a u=>qa u rfl fun a u=>aB<|?_;exact hk31 ((decide (16<(IntKind.wrap .i64 (v37+v22)))),w20) h _ (u.sb rfl)
 refine aA<|qm u rfl fun a u=>qm u rfl fun a u=>?_;obtain⟨p10,e11,h⟩:=h;refine q u (aH u rfl e11) fun a u=>q u (aK u rfl aGO rfl rfl aGL) fun a u=>?_;obtain⟨v12,e13,h⟩:=h;refine q u (aJ u rfl aGN (aQ e13)) fun a u=>q u (sU u rfl rfl) fun a u=>qm u rfl fun a u=>?_;refine iE h (fun b14 h=>?_) (fun b14 h=>?_)
 .refine qn u 35 (tn b14) fun a u=>qn u 35 (tn b14) fun a u=>q u (aF u rfl b14 rfl) fun a u=>qa u rfl fun a u=>aB<|?_;exact hk9 (true,w2) h _ (u.sb rfl)
 refine qg u 35 (nt b14) (aC u rfl) fun a u=>qg u 35 (nt b14) (gF u rfl rfl) fun a u=>q u (aL u rfl b14 rfl) fun a u=>qa u rfl fun a u=>aB<|?_;exact hk9 ((decide (1099511627776<a1)),w2) h _ (u.sb rfl)
noncomputable def kH (a0:Option Addr) (w:World):Option (Int×World) :=
 aN (kD a0 w) fun v1 w2 =>
 if (v1 !=0)=true then
 (some (v1,w2))
 else
 ((a0).bind fun p5 =>
 (ldP w2 (p5.add 0)).bind fun v7 =>
 aN (bY v7 w2) fun v9 w10 =>
 some (v9,w10))
theorem pW {a0 w w' r0} (h:kH a0 w=some (r0,w')):Calls Try.prog 41 #[(.pointer a0)] w fun e w''=>e=.returned (.int .i64 r0)/\w''=w':=by
 refine aP (n:=14) Try.func41 rfl Try.ntmps41 (by simp) fun a u=>?_;unfold kH at h;refine wp_seq<|aA<|qa u rfl fun a u=>aB<|t_n<|wp_seq<|wp_seq<|aA<|qm u rfl fun a u=>?_;have⟨v1,w2,e3,h⟩:=bs2 h;refine q u (dc1 u rfl Try.call80 (nP e3)) fun a u=>qa u rfl fun a u=>aB<|t_n<|wp_seq<|aA<|qm u rfl fun a u=>q u (fJ u rfl rfl) fun a u=>aB<|t_n<|?_;refine aO u rfl h (fun b4 h=>?_) (fun b4 h=>?_)
 .refine wp_seq<|aA<|qm u rfl fun a u=>qa u rfl fun a u=>aB<|t_n<|wp_ret<|t_r<|?_;have y:=u;cases h;exact bI Try.results41 y rfl ⟨rfl,rfl⟩
 refine wp_skip<|t_n<|wp_seq<|aA<|qm u rfl fun a u=>?_;have⟨p5,e6,h⟩:=bs1 h;refine q u (aH u rfl e6) fun a u=>q u (aK u rfl aGO rfl rfl aHm) fun a u=>?_;have⟨v7,e8,h⟩:=bs1 h;refine q u (aJ u rfl aHj (bA e8)) fun a u=>?_;have⟨v9,w10,e11,h⟩:=bs2 h;refine q u (dc1 u rfl Try.call36 (jB e11)) fun a u=>qa u rfl fun a u=>aB<|t_n<|wp_ret<|?_;have y:=u;cases h;exact bI Try.results41 y rfl ⟨rfl,rfl⟩
noncomputable def kJ (a0:Option Addr) (a1:Int) (w:World):Option (Int×World) :=
 aN (kD a0 w) fun v1 w2 =>
 if (v1 !=0)=true then
 (some (v1,w2))
 else
 (aN (if (decide (a1<0))=true then
 (some (true,w2))
 else
 ((a0).bind fun p10 =>
 (ldI .i64 w2 (p10.add 5)).bind fun v12 =>
 some ((decide (v12<a1)),w2))) fun v5 w6 =>
 if v5=true then
 (some (2,w6))
 else
 ((a0).bind fun p15 =>
 (ldI .i64 w6 (p15.add 6)).bind fun v17 =>
 if (decide (a1<=v17))=true then
 (some (0,w6))
 else
 ((ldP w6 (p15.add 1)).bind fun v20 =>
 aN (jN v20 0 a1 w6) fun v22 w23 =>
 if (v22 !=0)=true then
 (some (v22,w23))
 else
 (oM (kK a0 a1 w23) fun v26 v27 w28 =>
 aN (aN (if (v27==0)=true then
 ((ldL w28 (p15.add 7)).bind fun v39 =>
 some ((decide ((v26.n:Int)<(v39.n:Int))),w28))
 else
 (some (false,w28))) fun v34 w35 =>
 if v34=true then
 ((ldP w35 (p15.add 0)).bind fun v42 =>
 aN (bY v42 w35) fun v44 w45 =>
 some (v44,w45))
 else
 (some (v27,w35))) fun v30 w31 =>
 if (v30 !=0)=true then
 (some (v30,w31))
 else
 ((stV w31 (p15.add 7) (Sl.v v26)).bind fun w48 =>
 (stV w48 (p15.add 6) (.int .i64 a1)).bind fun w50 =>
 some (0,w50))))))
theorem pU {a0 a1 w w' r0} (h:kJ a0 a1 w=some (r0,w')):Calls Try.prog 43 #[(.pointer a0),(.int .i64 a1)] w fun e w''=>e=.returned (.int .i64 r0)/\w''=w':=by
 refine aP (n:=75) Try.func43 rfl Try.ntmps43 (by simp) fun a u=>?_;unfold kJ at h;refine wp_seq<|aA<|qa u rfl fun a u=>aB<|t_n<|wp_seq<|wp_seq<|aA<|qm u rfl fun a u=>?_;have⟨v1,w2,e3,h⟩:=bs2 h;refine q u (dc1 u rfl Try.call80 (nP e3)) fun a u=>qa u rfl fun a u=>aB<|t_n<|wp_seq<|aA<|qm u rfl fun a u=>q u (fJ u rfl rfl) fun a u=>aB<|t_n<|?_;refine aO u rfl h (fun b4 h=>?_) (fun b4 h=>?_)
 .refine wp_seq<|aA<|qm u rfl fun a u=>qa u rfl fun a u=>aB<|t_n<|wp_ret<|t_r<|?_;have y:=u;cases h;exact bI Try.results43 y rfl ⟨rfl,rfl⟩
 refine wp_skip<|t_n<|wp_seq<|wp_block<|wp_seq<|?_;have⟨v5,w6,e7,h⟩:=bs2 h;refine bP (n:=75) (L:=[(14,(bV v5)),(0,(pV a0)),(1,(iV a1))]) (w':=w6) (fun a u=>?_) (fun hk8=>?_)
 .refine t_n<|?_;refine aO u rfl h (fun b14 h=>?_) (fun b14 h=>?_)
  .refine wp_seq<|aA<|qa u rfl fun a u=>aB<|t_n<|wp_ret<|b_r<|t_r<|?_;have y:=u;cases h;exact bI Try.results43 y rfl ⟨rfl,rfl⟩
  refine wp_seq<|aA<|qm u rfl fun a u=>qm u rfl fun a u=>?_;have⟨p15,e16,h⟩:=bs1 h;refine q u (aH u rfl e16) fun a u=>q u (aK u rfl aGO rfl rfl aGL) fun a u=>?_;have⟨v17,e18,h⟩:=bs1 h;refine q u (aJ u rfl aGN (aQ e18)) fun a u=>q u (sU u rfl rfl) fun a u=>qa u rfl fun a u=>aB<|t_n<|?_;refine aO u rfl h (fun b19 h=>?_) (fun b19 h=>?_)
  .refine wp_seq<|aA<|qa u rfl fun a u=>aB<|t_n<|wp_ret<|b_r<|t_r<|?_;have y:=u;cases h;exact bI Try.results43 y rfl ⟨rfl,rfl⟩
  refine wp_skip<|b_n<|t_n<|wp_seq<|wp_seq<|aA<|qm u rfl fun a u=>q u (aH u rfl e16) fun a u=>q u (aK u rfl aGO rfl rfl aIn) fun a u=>?_;have⟨v20,e21,h⟩:=bs1 h;refine q u (aJ u rfl Try.isAgg116 (bA e21)) fun a u=>qm u rfl fun a u=>?_;have⟨v22,w23,e24,h⟩:=bs2 h;refine q u (dc3 u rfl rfl rfl Try.call88 (sZ e24)) fun a u=>qa u rfl fun a u=>aB<|t_n<|wp_seq<|aA<|qm u rfl fun a u=>q u (fJ u rfl rfl) fun a u=>aB<|t_n<|?_;refine aO u rfl h (fun b25 h=>?_) (fun b25 h=>?_)
  .refine wp_seq<|aA<|qm u rfl fun a u=>qa u rfl fun a u=>aB<|t_n<|wp_ret<|t_r<|?_;have y:=u;cases h;exact bI Try.results43 y rfl ⟨rfl,rfl⟩
  refine wp_skip<|t_n<|wp_seq<|aA<|qm u rfl fun a u=>qm u rfl fun a u=>?_;have⟨v26,v27,w28,e29,h⟩:=bs3 h;refine q u (dc2 u rfl rfl Try.call71 (pT e29)) fun a u=>qm u rfl fun a u=>q u (aW u rfl rfl) fun a u=>q u (aW u rfl rfl) fun a u=>qa u rfl fun a u=>qa u rfl fun a u=>aB<|t_n<|?_;have⟨v30,w31,e32,h⟩:=bs2 h;refine gW (n:=75) (L:=[(8,(iV v30)),(0,(pV a0)),(1,(iV a1)),(7,(Sl.v v26))]) (w':=w31) (fun a u=>?_) (fun hk33=>?_)
  .refine wp_seq<|wp_seq<|aA<|qm u rfl fun a u=>q u (fJ u rfl rfl) fun a u=>aB<|t_n<|?_;refine aO u rfl h (fun b47 h=>?_) (fun b47 h=>?_)
   .refine wp_seq<|aA<|qm u rfl fun a u=>qa u rfl fun a u=>aB<|t_n<|wp_ret<|t_r<|?_;have y:=u;cases h;exact bI Try.results43 y rfl ⟨rfl,rfl⟩
   refine wp_skip<|t_n<|wp_seq<|aA<|qm u rfl fun a u=>qm u rfl fun a u=>qm u rfl fun a u=>qm u rfl fun a u=>q u (aH u rfl e16) fun a u=>q u (aK u rfl aGO rfl rfl aHn) fun a u=>?_;have⟨w48,e49,h⟩:=bs1 h;refine q u (fO u rfl rfl aHn e49) fun a u=>q u (aH u rfl e16) fun a u=>q u (aK u rfl aGO rfl rfl aGL) fun a u=>?_;have⟨w50,e51,h⟩:=bs1 h;refine q u (fO u rfl rfl aGL e51) fun a u=>aB<|t_n<|wp_seq<|aA<|qa u rfl fun a u=>aB<|t_n<|wp_ret<|?_;have y:=u;cases h;exact bI Try.results43 y rfl ⟨rfl,rfl⟩
  clear h;have h:=e32;refine wp_seq<|?_;have⟨v34,w35,e36,h⟩:=bs2 h;refine bP (n:=75) (L:=[(58,(bV v34)),(0,(pV a0)),(1,(iV a1)),(7,(Sl.v v26)),(8,(iV v27))]) (w':=w35) (fun a u=>?_) (fun hk37=>?_)
  .refine t_n<|?_;refine aO u rfl h (fun b41 h=>?_) (fun b41 h=>?_)
   .refine aA<|qm u rfl fun a u=>q u (aH u rfl e16) fun a u=>q u (aK u rfl aGO rfl rfl aHm) fun a u=>?_;have⟨v42,e43,h⟩:=bs1 h;refine q u (aJ u rfl aHj (bA e43)) fun a u=>?_;have⟨v44,w45,e46,h⟩:=bs2 h;refine q u (dc1 u rfl Try.call36 (jB e46)) fun a u=>qa u rfl fun a u=>aB<|?_;have y:=u;cases h;exact hk33 _ (y.sb rfl)
   refine wp_skip<|?_;have y:=u;cases h;exact hk33 _ (y.sb rfl)
  clear h;have h:=e36;refine aA<|qm u rfl fun a u=>q u (gD u rfl rfl) fun a u=>qm u rfl fun a u=>?_;refine bW h (fun b38 h=>?_) (fun b38 h=>?_)
  .refine qg u 49 b38 (aC u rfl) fun a u=>qg u 49 b38 (aZ u rfl aGX) fun a u=>qg u 49 b38 (aC u rfl) fun a u=>qg u 49 b38 (aH u rfl e16) fun a u=>qg u 49 b38 (aK u rfl aGO rfl rfl aHn) fun a u=>?_;have⟨v39,e40,h⟩:=bs1 h;refine qg u 49 b38 (aJ u rfl aHA (aV e40)) fun a u=>qg u 49 b38 (aZ u rfl aGX) fun a u=>qg u 49 b38 (dK u rfl rfl) fun a u=>q u (aF u rfl b38 rfl) fun a u=>aB<|?_;have y:=u;cases h;exact hk37 _ (y.sb rfl)
  refine qn u 49 (nm b38) fun a u=>qn u 49 (nm b38) fun a u=>qn u 49 (nm b38) fun a u=>qn u 49 (nm b38) fun a u=>qn u 49 (nm b38) fun a u=>qn u 49 (nm b38) fun a u=>qn u 49 (nm b38) fun a u=>qn u 49 (nm b38) fun a u=>q u (aL u rfl b38 rfl) fun a u=>aB<|?_;have y:=u;cases h;exact hk37 _ (y.sb rfl)
 clear h;have h:=e7;refine aA<|qm u rfl fun a u=>q u (dK u rfl rfl) fun a u=>qm u rfl fun a u=>?_;refine bW h (fun b9 h=>?_) (fun b9 h=>?_)
 .refine qn u 17 (tn b9) fun a u=>qn u 17 (tn b9) fun a u=>qn u 17 (tn b9) fun a u=>qn u 17 (tn b9) fun a u=>qn u 17 (tn b9) fun a u=>qn u 17 (tn b9) fun a u=>q u (aF u rfl b9 rfl) fun a u=>qa u rfl fun a u=>aB<|?_;have y:=u;cases h;exact hk8 _ (y.sb rfl)
 refine qg u 17 (nt b9) (aC u rfl) fun a u=>qg u 17 (nt b9) (aC u rfl) fun a u=>?_;have⟨p10,e11,h⟩:=bs1 h;refine qg u 17 (nt b9) (aH u rfl e11) fun a u=>qg u 17 (nt b9) (aK u rfl aGO rfl rfl aGL) fun a u=>?_;have⟨v12,e13,h⟩:=bs1 h;refine qg u 17 (nt b9) (aJ u rfl aGN (aQ e13)) fun a u=>qg u 17 (nt b9) (gF u rfl rfl) fun a u=>q u (aL u rfl b9 rfl) fun a u=>qa u rfl fun a u=>aB<|?_;have y:=u;cases h;exact hk8 _ (y.sb rfl)
def iQ (a0:Option Addr) (w:World):Option (Int×World) :=
 if (a0.isNone)=true then
 (some (0,w))
 else
 ((a0).bind fun p2 =>
 (ldI .i64 w (p2.add 5)).bind fun v4 =>
 some (v4,w))
theorem fU {a0 w w' r0} (h:iQ a0 w=some (r0,w')):Calls Try.prog 38 #[(.pointer a0)] w fun e w''=>e=.returned (.int .i64 r0)/\w''=w':=by
 refine aP (n:=9) Try.func38 rfl Try.ntmps38 (by simp) fun a u=>?_;unfold iQ at h;refine wp_seq<|aA<|qa u rfl fun a u=>aB<|t_n<|wp_seq<|wp_seq<|aA<|qm u rfl fun a u=>q u (jJ u rfl rfl aHL) fun a u=>aB<|t_n<|?_;refine aO u rfl h (fun b1 h=>?_) (fun b1 h=>?_)
 .refine wp_seq<|aA<|qa u rfl fun a u=>aB<|t_n<|wp_ret<|t_r<|?_;have y:=u;cases h;exact bI Try.results38 y rfl ⟨rfl,rfl⟩
 refine wp_skip<|t_n<|wp_seq<|aA<|qm u rfl fun a u=>?_;have⟨p2,e3,h⟩:=bs1 h;refine q u (aH u rfl e3) fun a u=>q u (aK u rfl aGO rfl rfl aGL) fun a u=>?_;have⟨v4,e5,h⟩:=bs1 h;refine q u (aJ u rfl aGN (aQ e5)) fun a u=>qa u rfl fun a u=>aB<|t_n<|wp_ret<|?_;have y:=u;cases h;exact bI Try.results38 y rfl ⟨rfl,rfl⟩
noncomputable def mR (a0:Option Addr) (w:World):Option (Int×World) :=
 if (a0.isNone)=true then
 (some (0,w))
 else
 ((a0).bind fun p2 =>
 (ldI .i64 w (p2.add 6)).bind fun v4 =>
 some (v4,w))
theorem mG {a0 w w' r0} (h:mR a0 w=some (r0,w')):Calls Try.prog 39 #[(.pointer a0)] w fun e w''=>e=.returned (.int .i64 r0)/\w''=w':=by
 refine aP (n:=9) Try.func39 rfl Try.ntmps39 (by simp) fun a u=>?_;unfold mR at h;refine wp_seq<|aA<|qa u rfl fun a u=>aB<|t_n<|wp_seq<|wp_seq<|aA<|qm u rfl fun a u=>q u (jJ u rfl rfl aHL) fun a u=>aB<|t_n<|?_;refine aO u rfl h (fun b1 h=>?_) (fun b1 h=>?_)
 .refine wp_seq<|aA<|qa u rfl fun a u=>aB<|t_n<|wp_ret<|t_r<|?_;have y:=u;cases h;exact bI Try.results39 y rfl ⟨rfl,rfl⟩
 refine wp_skip<|t_n<|wp_seq<|aA<|qm u rfl fun a u=>?_;have⟨p2,e3,h⟩:=bs1 h;refine q u (aH u rfl e3) fun a u=>q u (aK u rfl aGO rfl rfl aGL) fun a u=>?_;have⟨v4,e5,h⟩:=bs1 h;refine q u (aJ u rfl aGN (aQ e5)) fun a u=>qa u rfl fun a u=>aB<|t_n<|wp_ret<|?_;have y:=u;cases h;exact bI Try.results39 y rfl ⟨rfl,rfl⟩
noncomputable def kI (a0:Option Addr) (w:World):Option (Int×World) :=
 if (a0.isNone)=true then
 (some (0,w))
 else
 ((a0).bind fun p2 =>
 (ldL w (p2.add 7)).bind fun v4 =>
 some ((v4.n:Int),w))
theorem lJ {a0 w w' r0} (h:kI a0 w=some (r0,w')):Calls Try.prog 40 #[(.pointer a0)] w fun e w''=>e=.returned (.int .i64 r0)/\w''=w':=by
 refine aP (n:=10) Try.func40 rfl Try.ntmps40 (by simp) fun a u=>?_;unfold kI at h;refine wp_seq<|aA<|qa u rfl fun a u=>aB<|t_n<|wp_seq<|wp_seq<|aA<|qm u rfl fun a u=>q u (jJ u rfl rfl aHL) fun a u=>aB<|t_n<|?_;refine aO u rfl h (fun b1 h=>?_) (fun b1 h=>?_)
 .refine wp_seq<|aA<|qa u rfl fun a u=>aB<|t_n<|wp_ret<|t_r<|?_;have y:=u;cases h;exact bI Try.results40 y rfl ⟨rfl,rfl⟩
 refine wp_skip<|t_n<|wp_seq<|aA<|qm u rfl fun a u=>?_;have⟨p2,e3,h⟩:=bs1 h;refine q u (aH u rfl e3) fun a u=>q u (aK u rfl aGO rfl rfl aHn) fun a u=>?_;have⟨v4,e5,h⟩:=bs1 h;refine q u (aJ u rfl aHA (aV e5)) fun a u=>q u (aZ u rfl aGX) fun a u=>qa u rfl fun a u=>aB<|t_n<|wp_ret<|?_;have y:=u;cases h;exact bI Try.results40 y rfl ⟨rfl,rfl⟩
noncomputable def eP (v25:Sl) (a1:Int) (a2:Int) (a0:Option Addr) (x27:Sl) (x28:Int) (w29:World):Option ((Sl×Int×World)⊕(Sl×World)) :=
 if (decide (x28<(v25.n:Int)))=true then
 (aN ((ix v25 x28 2).bind fun p41 =>
 (ldA 2 w29 p41 0).bind fun c43 =>
 aN (mk w29 87 ([.int .i64 0,.slice none 0 0])) fun p45 w46 =>
 (stA w46 p45 0 c43).bind fun w48 =>
 aN ((dr w48).bind fun w54 =>
 (ldI .i64 w54 (p45.add 0)).bind fun v56 =>
 if (decide (a1<=v56))=true then
 ((ldI .i64 w54 (p45.add 0)).bind fun v59 =>
 if (decide (v59<=a2))=true then
 ((ldI .i64 w54 (p45.add 0)).bind fun v62 =>
 (a0).bind fun p64 =>
 (ldI .i64 w54 (p64.add 6)).bind fun v66 =>
 some ((decide (v66<v62)),w54))
 else
 (some (false,w54)))
 else
 (some (false,w54))) fun v50 w51 =>
 if v50=true then
 ((dr w51).bind fun w69 =>
 (ldI .i64 w69 (p45.add 0)).bind fun v71 =>
 (ldL w69 (p45.add 1)).bind fun v73 =>
 aN (fF v73 w69) fun v75 w76 =>
 aN (bsl w76 87 2 [([.int .i64 v71,Sl.v v75])]) fun s78 w79 =>
 aN (apS Try.prog 74 x27 s78 w79) fun s81 w82 =>
 chk (ldI .i64 w76 (p45.add 0)=some v71) <|
 some (s81,w82))
 else
 (some (x27,w51))) fun v37 w38 =>
 some (.inl (v37,(IntKind.wrap .i64 (x28+1)),w38)))
 else
 (some (.inr (x27,w29)))
noncomputable def fQ (v4:Sl) (a1:Int) (a2:Int) (a0:Option Addr) (x6:Sl) (x7:Int) (w8:World):Option ((Sl×Int×World)⊕(Sl×World)) :=
 if (decide (x7<(v4.n:Int)))=true then
 ((ix v4 x7 5).bind fun p16 =>
 (ldA 5 w8 p16 0).bind fun c18 =>
 aN (mk w8 125 (List.replicate 4 (.int .i64 0)++[.slice none 0 0])) fun p20 w21 =>
 (stA w21 p20 0 c18).bind fun w23 =>
 (ldL w23 (p20.add 4)).bind fun v25 =>
 aN (bM (fun s:Sl×Int×World=>eP v25 a1 a2 a0 s.1 s.2.1 s.2.2) (x6,0,w23)) fun v32 w33 =>
 some (.inl (v32,(IntKind.wrap .i64 (x7+1)),w33)))
 else
 (some (.inr (x6,w8)))
noncomputable def fG (a0:Option Addr) (a1:Int) (a2:Int) (w:World):Option (Sl×World) :=
 if (a0.isNone)=true then
 (some (Sl.nil,w))
 else
 ((a0).bind fun p2 =>
 (ldL w (p2.add 7)).bind fun v4 =>
 aN (bM (fun s:Sl×Int×World=>fQ v4 a1 a2 a0 s.1 s.2.1 s.2.2) (Sl.nil,0,w)) fun v11 w12 =>
 some (v11,w12))
theorem jC {a0 a1 a2 w w' r0} (h:fG a0 a1 a2 w=some (r0,w')):Calls Try.prog 44 #[(.pointer a0),(.int .i64 a1),(.int .i64 a2)] w fun e w''=>e=.returned (Sl.v r0)/\w''=w':=by
 refine aP (n:=61) Try.func44 rfl Try.ntmps44 (by simp) fun a u=>?_;unfold fG at h;refine wp_seq<|aA<|qa u rfl fun a u=>aB<|t_n<|wp_seq<|wp_seq<|aA<|qm u rfl fun a u=>q u (jJ u rfl rfl aHL) fun a u=>aB<|t_n<|?_;refine aO u rfl h (fun b1 h=>?_) (fun b1 h=>?_)
 .refine wp_seq<|aA<|qa u rfl fun a u=>aB<|t_n<|wp_ret<|t_r<|?_;have y:=u;cases h;exact bI Try.results44 y rfl ⟨rfl,rfl⟩
 refine wp_skip<|t_n<|wp_seq<|aA<|qa u rfl fun a u=>aB<|t_n<|wp_seq<|wp_seq<|aA<|qm u rfl fun a u=>?_;have⟨p2,e3,h⟩:=bs1 h;refine q u (aH u rfl e3) fun a u=>q u (aK u rfl aGO rfl rfl aHn) fun a u=>?_;have⟨v4,e5,h⟩:=bs1 h;refine q u (aJ u rfl aHA (aV e5)) fun a u=>q u (aZ u rfl aGX) fun a u=>qm u rfl fun a u=>aB<|t_n<|wp_block<|?_;have⟨v11,w12,e10,h⟩:=bs2 h;refine gT (n:=61) (L:=[(7,(Sl.v v11))]) (w':=w12) (e:=.exit 0) (I:=fun (s:Sl×Int×World) a w=>Has 61 [(7,(Sl.v s.1)),(19,(iV s.2.1)),(0,(pV a0)),(1,(iV a1)),(2,(iV a2)),(17,(Sl.v v4)),(18,(iV (v4.n:Int)))] a/\w=s.2.2) ⟨u.sub ⟨rfl,rfl,rfl,rfl,rfl,rfl,rfl,aLz⟩,rfl⟩ e10 (fun a u=>?_) (fun hk13=>?_)
 .refine eC<|t_n<|wp_seq<|aA<|qm u rfl fun a u=>qa u rfl fun a u=>aB<|t_n<|wp_ret<|?_;have y:=u;cases h;exact bI Try.results44 y rfl ⟨rfl,rfl⟩
 clear h;rintro⟨x6,x7,w8⟩ a wq o ⟨u,hwq⟩ h hr14;obtain rfl:w8=wq:=hwq.symm;have u:Has 61 [(7,(Sl.v x6)),(19,(iV x7)),(0,(pV a0)),(1,(iV a1)),(2,(iV a2)),(17,(Sl.v v4)),(18,(iV (v4.n:Int)))] a:=u;have h:fQ v4 a1 a2 a0 x6 x7 w8=some o:=h;unfold fQ at h;refine wp_seq<|aA<|q u (dK u rfl rfl) fun a u=>aB<|t_n<|wp_seq<|?_;refine aO u rfl h (fun b15 h=>?_) (fun b15 h=>?_)
 .refine wp_skip<|t_n<|wp_seq<|wp_block<|wp_seq<|aA<|?_;have⟨p16,e17,h⟩:=bs1 h;refine q u (bZ u rfl rfl aGX aGW e17) fun a u=>?_;have⟨c18,e19,h⟩:=bs1 h;refine q u (gC u rfl aHx aGW e19) fun a u=>?_;have⟨p20,w21,e22,h⟩:=bs2 h;refine q u (eX aHq (by kernel_rfl) e22) fun a u=>?_;have⟨w23,e24,h⟩:=bs1 h;refine q u (eW u rfl rfl aGW ((kR e19).1) e24) fun a u=>aB<|t_n<|wp_seq<|aA<|q u (aK u rfl aGU rfl rfl aHy) fun a u=>?_;have⟨v25,e26,h⟩:=bs1 h;refine q u (aJ u rfl aHI (aV e26)) fun a u=>q u (aZ u rfl aGY) fun a u=>qm u rfl fun a u=>aB<|t_n<|wp_block<|?_;have⟨v32,w33,e31,h⟩:=bs2 h;refine gT (n:=61) (L:=[(7,(Sl.v v32)),(0,(pV a0)),(1,(iV a1)),(2,(iV a2)),(17,(Sl.v v4)),(18,(iV (v4.n:Int))),(19,(iV x7))]) (w':=w33) (e:=.exit 2) (I:=fun (s:Sl×Int×World) a w=>Has 61 [(7,(Sl.v s.1)),(26,(iV s.2.1)),(0,(pV a0)),(1,(iV a1)),(2,(iV a2)),(17,(Sl.v v4)),(18,(iV (v4.n:Int))),(19,(iV x7)),(24,(Sl.v v25)),(25,(iV (v25.n:Int)))] a/\w=s.2.2) ⟨u.sub ⟨rfl,rfl,rfl,rfl,rfl,rfl,rfl,rfl,rfl,rfl,aLz⟩,rfl⟩ e31 (fun a u=>?_) (fun hk34=>?_)
  .refine eC<|b_n<|t_n<|aA<|q u (bJ u rfl rfl) fun a u=>qm u rfl fun a u=>aB<|?_;have y:=u;cases h;exact dS ⟨y.sb rfl,rfl⟩
  clear h;rintro⟨x27,x28,w29⟩ a wq o ⟨u,hwq⟩ h hr35;obtain rfl:w29=wq:=hwq.symm;have u:Has 61 [(7,(Sl.v x27)),(26,(iV x28)),(0,(pV a0)),(1,(iV a1)),(2,(iV a2)),(17,(Sl.v v4)),(18,(iV (v4.n:Int))),(19,(iV x7)),(24,(Sl.v v25)),(25,(iV (v25.n:Int)))] a:=u;have h:eP v25 a1 a2 a0 x27 x28 w29=some o:=h;unfold eP at h;refine wp_seq<|aA<|q u (dK u rfl rfl) fun a u=>aB<|t_n<|wp_seq<|?_;refine aO u rfl h (fun b36 h=>?_) (fun b36 h=>?_)
  .refine wp_skip<|t_n<|?_;have⟨v37,w38,e39,h⟩:=bs2 h;refine gW (n:=61) (L:=[(7,(Sl.v v37)),(0,(pV a0)),(1,(iV a1)),(2,(iV a2)),(17,(Sl.v v4)),(18,(iV (v4.n:Int))),(19,(iV x7)),(24,(Sl.v v25)),(25,(iV (v25.n:Int))),(26,(iV x28))]) (w':=w38) (fun a u=>?_) (fun hk40=>?_)
   .refine aA<|q u (bJ u rfl rfl) fun a u=>qm u rfl fun a u=>aB<|?_;have y:=u;cases h;exact dS ⟨y.sb rfl,rfl⟩
   clear h;have h:=e39;refine wp_block<|wp_seq<|aA<|?_;have⟨p41,e42,h⟩:=bs1 h;refine q u (bZ u rfl rfl aGY aHe e42) fun a u=>?_;have⟨c43,e44,h⟩:=bs1 h;refine q u (gC u rfl aHW aHe e44) fun a u=>?_;have⟨p45,w46,e47,h⟩:=bs2 h;refine q u (eX aHh (by kernel_rfl) e47) fun a u=>?_;have⟨w48,e49,h⟩:=bs1 h;refine q u (eW u rfl rfl aHe ((kR e44).1) e49) fun a u=>aB<|t_n<|wp_seq<|?_;have⟨v50,w51,e52,h⟩:=bs2 h;refine bP (n:=61) (L:=[(48,(bV v50)),(0,(pV a0)),(1,(iV a1)),(2,(iV a2)),(7,(Sl.v x27)),(11,(pV (some p45))),(17,(Sl.v v4)),(18,(iV (v4.n:Int))),(19,(iV x7)),(24,(Sl.v v25)),(25,(iV (v25.n:Int))),(26,(iV x28))]) (w':=w51) (fun a u=>?_) (fun hk53=>?_)
   .refine t_n<|?_;refine aO u rfl h (fun b68 h=>?_) (fun b68 h=>?_)
    .have⟨w69,e70,h⟩:=bs1 h;have⟨v71,e72,h⟩:=bs1 h;have⟨v73,e74,h⟩:=bs1 h;have⟨v75,w76,e77,h⟩:=bs2 h;have⟨s78,w79,e80,h⟩:=bs2 h;have⟨s81,w82,e83,h⟩:=bs2 h;obtain⟨e84,h⟩:=bO h;have u:Has 61 [(0,(pV a0)),(1,(iV a1)),(2,(iV a2)),(7,(Sl.v x27)),(11,(pV (some p45))),(17,(Sl.v v4)),(18,(iV (v4.n:Int))),(19,(iV x7)),(24,(Sl.v v25)),(25,(iV (v25.n:Int))),(26,(iV x28)),(48,(bV v50))] a:=u.sb rfl;refine aM (n:=61) (ds:=(aI (Sl.v x27) false 0 2 [] [(7,(Sl.v x27))]::aI (pV (some (p45.add 0))) false 0 1 [] [(11,(pV (some p45)))]::aI (iV v71) false 0 1 [1] [(50,(pV (some (p45.add 0))))]::aG (pV (some (p45.add 1))) 0 [] 11 (pV (some p45))::aG (Sl.v v73) 0 [3] 52 (pV (some (p45.add 1)))::aI (Sl.v v75) true 0 0 [3,4] [(53,(Sl.v v73))]::aT (.agg (List.toArray ([.int .i64 v71,Sl.v v75]))) 1 (rn 1 5) [(51,(iV v71)),(54,(Sl.v v75))]::aI (Sl.v s78) true 1 1 (rn 1 6) [(55,(.agg (List.toArray ([.int .i64 v71,Sl.v v75]))))]::aI (Sl.v s81) true 2 2 (rn 0 8) [(49,(Sl.v x27)),(56,(Sl.v s78))]::aS (Sl.v s81) 3 (rn 0 9) 57::[])) (W:=(fun j=>match j with | 0=>w69 | 1=>w76 | 2=>w79 | 3=>w82 | _=>w82)) (by kernel_rfl) u (cY e70) (by kernel_rfl) ?_ (aR (by kernel_rfl)) (by kernel_rfl) (m:=3) (by kernel_rfl) (fun a u=>?_)
     .refine⟨oa (aC · rfl),oa (aK · rfl aHa rfl rfl aGL),?_,oa (aK · rfl aHa rfl rfl aHJ),oc 0 (kd (aJ · rfl aHN (aV e74))),oc 0 (kd (dc1 · rfl Try.call83 (mL e77))),oa (dZ (vs:=[(0,(iV v71)),(1,(Sl.v v75))]) (pl:=#[(0,1),(1,1)]) (cs:=([.int .i64 v71,Sl.v v75])) · ⟨rfl,rfl,rfl,rfl,aLz⟩ aHh aHa (by intro w;kernel_rfl) (by kernel_rfl)),oc 1 (kd (iK (vs:=[(0,(.agg (List.toArray ([.int .i64 v71,Sl.v v75]))))]) (ps:=[([.int .i64 v71,Sl.v v75])]) · ⟨rfl,rfl,aLz⟩ ⟨rfl,rfl,aLz⟩ rfl aGY aHe aHh (by decide) e80)),oc 2 (kd (iF · rfl rfl e83)),oa (bD · rfl),aLz⟩;intro j h1 h2;have h1:0<=j:=h1;have h2:j<=1:=h2;rcases(by omega:j=0\/j=1) with rfl | rfl
      .exact kd (aJ · rfl aGN (aQ e72))
      exact kd (aJ · rfl aGN (aQ e84))
     have u:Has 61 [(0,(pV a0)),(1,(iV a1)),(2,(iV a2)),(7,(Sl.v s81)),(17,(Sl.v v4)),(18,(iV (v4.n:Int))),(19,(iV x7)),(24,(Sl.v v25)),(25,(iV (v25.n:Int))),(26,(iV x28))] a:=u.sb rfl;refine b_n<|?_;have y:=u;cases h;exact hk40 _ (y.sb rfl)
    refine wp_skip<|b_n<|?_;have y:=u;cases h;exact hk40 _ (y.sb rfl)
   clear h;have h:=e52;have⟨w54,e55,h⟩:=bs1 h;have⟨v56,e57,h⟩:=bs1 h;refine bW h (fun b58 h=>?_) (fun b58 h=>?_)
   .have⟨v59,e60,h⟩:=bs1 h;refine bW h (fun b61 h=>?_) (fun b61 h=>?_)
    .have⟨v62,e63,h⟩:=bs1 h;have⟨p64,e65,h⟩:=bs1 h;have⟨v66,e67,h⟩:=bs1 h;have u:Has 61 [(0,(pV a0)),(1,(iV a1)),(2,(iV a2)),(7,(Sl.v x27)),(11,(pV (some p45))),(17,(Sl.v v4)),(18,(iV (v4.n:Int))),(19,(iV x7)),(24,(Sl.v v25)),(25,(iV (v25.n:Int))),(26,(iV x28))] a:=u.sb rfl;refine aM (n:=61) (ds:=(aG (pV (some (p45.add 0))) 0 [] 11 (pV (some p45))::aG (iV v56) 0 [0] 30 (pV (some (p45.add 0)))::aS (iV a1) 0 [] 1::aT (bV (decide (a1<=v56))) 0 [0,1,2] [(31,(iV v56)),(32,(iV a1))]::aS (bV (decide (a1<=v56))) 0 (rn 0 4) 33::aT (pV (some (p45.add 0))) 0 (rn 0 5) [(11,(pV (some p45))),(34,(bV (decide (a1<=v56))))]::aT (iV v59) 0 (rn 0 6) [(35,(pV (some (p45.add 0)))),(34,(bV (decide (a1<=v56))))]::aT (iV a2) 0 (rn 0 5) [(2,(iV a2)),(34,(bV (decide (a1<=v56))))]::aT (bV (decide (v59<=a2))) 0 (rn 0 8) [(36,(iV v59)),(37,(iV a2)),(34,(bV (decide (a1<=v56))))]::aT (bV (decide (v59<=a2))) 0 (rn 0 9) [(34,(bV (decide (a1<=v56)))),(38,(bV (decide (v59<=a2))))]::aS (bV (decide (v59<=a2))) 0 (rn 0 10) 39::aT (pV (some (p45.add 0))) 0 (rn 0 11) [(11,(pV (some p45))),(40,(bV (decide (v59<=a2))))]::aT (iV v62) 0 (rn 0 12) [(41,(pV (some (p45.add 0)))),(40,(bV (decide (v59<=a2))))]::aT (pV a0) 0 (rn 0 11) [(0,(pV a0)),(40,(bV (decide (v59<=a2))))]::aT (pV (some p64)) 0 (rn 0 11++[13]) [(43,(pV a0)),(40,(bV (decide (v59<=a2))))]::aT (pV (some (p64.add 6))) 0 (rn 0 11++[13,14]) [(44,(pV (some p64))),(40,(bV (decide (v59<=a2))))]::aT (iV v66) 0 (rn 0 11++[13,14,15]) [(45,(pV (some (p64.add 6)))),(40,(bV (decide (v59<=a2))))]::aT (bV (decide (v66<v62))) 0 (rn 0 17) [(42,(iV v62)),(46,(iV v66)),(40,(bV (decide (v59<=a2))))]::aT (bV (decide (v66<v62))) 0 (rn 0 18) [(40,(bV (decide (v59<=a2)))),(47,(bV (decide (v66<v62))))]::[])) (W:=(fun _=>w54)) (by kernel_rfl) u (cY e55) (by kernel_rfl) ?_ (aR (by kernel_rfl)) (by kernel_rfl) (m:=0) (by kernel_rfl) (fun a u=>?_)
     .exact⟨oa (aK · rfl aHa rfl rfl aGL),oc (e:=false) 0 (kd (aJ · rfl aGN (aQ e57))),oa (aC · rfl),oa (pP · rfl rfl),oa (aC · rfl),oag 34 b58 (aK · rfl aHa rfl rfl aGL),oc (e:=false) 0 (kg 34 b58 (aJ · rfl aGN (aQ e60))),oag 34 b58 (aC · rfl),oag 34 b58 (sU · rfl rfl),oa (aF · rfl b58 rfl),oa (aC · rfl),oag 40 b61 (aK · rfl aHa rfl rfl aGL),oc (e:=false) 0 (kg 40 b61 (aJ · rfl aGN (aQ e63))),oag 40 b61 (aC · rfl),oag 40 b61 (aH · rfl e65),oag 40 b61 (aK · rfl aGO rfl rfl aGL),oc (e:=false) 0 (kg 40 b61 (aJ · rfl aGN (aQ e67))),oag 40 b61 (gF · rfl rfl),oa (aF · rfl b61 rfl),aLz⟩
     have u:Has 61 [(0,(pV a0)),(1,(iV a1)),(2,(iV a2)),(7,(Sl.v x27)),(11,(pV (some p45))),(17,(Sl.v v4)),(18,(iV (v4.n:Int))),(19,(iV x7)),(24,(Sl.v v25)),(25,(iV (v25.n:Int))),(26,(iV x28)),(48,(bV (decide (v66<v62))))] a:=u.sb rfl;have y:=u;cases h;exact hk53 _ (y.sb rfl)
    have u:Has 61 [(0,(pV a0)),(1,(iV a1)),(2,(iV a2)),(7,(Sl.v x27)),(11,(pV (some p45))),(17,(Sl.v v4)),(18,(iV (v4.n:Int))),(19,(iV x7)),(24,(Sl.v v25)),(25,(iV (v25.n:Int))),(26,(iV x28))] a:=u.sb rfl;refine aM (n:=61) (ds:=(aG (pV (some (p45.add 0))) 0 [] 11 (pV (some p45))::aG (iV v56) 0 [0] 30 (pV (some (p45.add 0)))::aS (iV a1) 0 [] 1::aT (bV (decide (a1<=v56))) 0 [0,1,2] [(31,(iV v56)),(32,(iV a1))]::aS (bV (decide (a1<=v56))) 0 (rn 0 4) 33::aT (pV (some (p45.add 0))) 0 (rn 0 5) [(11,(pV (some p45))),(34,(bV (decide (a1<=v56))))]::aT (iV v59) 0 (rn 0 6) [(35,(pV (some (p45.add 0)))),(34,(bV (decide (a1<=v56))))]::aT (iV a2) 0 (rn 0 5) [(2,(iV a2)),(34,(bV (decide (a1<=v56))))]::aT (bV (decide (v59<=a2))) 0 (rn 0 8) [(36,(iV v59)),(37,(iV a2)),(34,(bV (decide (a1<=v56))))]::aT (bV (decide (v59<=a2))) 0 (rn 0 9) [(34,(bV (decide (a1<=v56)))),(38,(bV (decide (v59<=a2))))]::aS (bV (decide (v59<=a2))) 0 (rn 0 10) 39::aG (undef) 0 (rn 0 11) 40 (bV (decide (v59<=a2)))::aG (undef) 0 (rn 0 12) 40 (bV (decide (v59<=a2)))::aG (undef) 0 (rn 0 11) 40 (bV (decide (v59<=a2)))::aG (undef) 0 (rn 0 11++[13]) 40 (bV (decide (v59<=a2)))::aG (undef) 0 (rn 0 11++[13,14]) 40 (bV (decide (v59<=a2)))::aG (undef) 0 (rn 0 11++[13,14,15]) 40 (bV (decide (v59<=a2)))::aG (undef) 0 (rn 0 17) 40 (bV (decide (v59<=a2)))::aT (bV false) 0 (rn 0 18) [(40,(bV (decide (v59<=a2)))),(47,undef)]::[])) (W:=(fun _=>w54)) (by kernel_rfl) u (cY e55) (by kernel_rfl) ?_ (aR (by kernel_rfl)) (by kernel_rfl) (m:=0) (by kernel_rfl) (fun a u=>?_)
    .exact⟨oa (aK · rfl aHa rfl rfl aGL),oc (e:=false) 0 (kd (aJ · rfl aGN (aQ e57))),oa (aC · rfl),oa (pP · rfl rfl),oa (aC · rfl),oag 34 b58 (aK · rfl aHa rfl rfl aGL),oc (e:=false) 0 (kg 34 b58 (aJ · rfl aGN (aQ e60))),oag 34 b58 (aC · rfl),oag 34 b58 (sU · rfl rfl),oa (aF · rfl b58 rfl),oa (aC · rfl),on 40 (nm b61),on 40 (nm b61),on 40 (nm b61),on 40 (nm b61),on 40 (nm b61),on 40 (nm b61),on 40 (nm b61),oa (aL · rfl b61 rfl),aLz⟩
    have u:Has 61 [(0,(pV a0)),(1,(iV a1)),(2,(iV a2)),(7,(Sl.v x27)),(11,(pV (some p45))),(17,(Sl.v v4)),(18,(iV (v4.n:Int))),(19,(iV x7)),(24,(Sl.v v25)),(25,(iV (v25.n:Int))),(26,(iV x28)),(48,(bV false))] a:=u.sb rfl;have y:=u;cases h;exact hk53 _ (y.sb rfl)
   have u:Has 61 [(0,(pV a0)),(1,(iV a1)),(2,(iV a2)),(7,(Sl.v x27)),(11,(pV (some p45))),(17,(Sl.v v4)),(18,(iV (v4.n:Int))),(19,(iV x7)),(24,(Sl.v v25)),(25,(iV (v25.n:Int))),(26,(iV x28))] a:=u.sb rfl;refine aM (n:=61) (ds:=(aG (pV (some (p45.add 0))) 0 [] 11 (pV (some p45))::aG (iV v56) 0 [0] 30 (pV (some (p45.add 0)))::aS (iV a1) 0 [] 1::aT (bV (decide (a1<=v56))) 0 [0,1,2] [(31,(iV v56)),(32,(iV a1))]::aS (bV (decide (a1<=v56))) 0 (rn 0 4) 33::aG (undef) 0 (rn 0 5) 34 (bV (decide (a1<=v56)))::aG (undef) 0 (rn 0 6) 34 (bV (decide (a1<=v56)))::aG (undef) 0 (rn 0 5) 34 (bV (decide (a1<=v56)))::aG (undef) 0 (rn 0 8) 34 (bV (decide (a1<=v56)))::aT (bV false) 0 (rn 0 9) [(34,(bV (decide (a1<=v56)))),(38,undef)]::aS (bV false) 0 (rn 0 10) 39::aG (undef) 0 (rn 0 11) 40 (bV false)::aG (undef) 0 (rn 0 12) 40 (bV false)::aG (undef) 0 (rn 0 11) 40 (bV false)::aG (undef) 0 (rn 0 11++[13]) 40 (bV false)::aG (undef) 0 (rn 0 11++[13,14]) 40 (bV false)::aG (undef) 0 (rn 0 11++[13,14,15]) 40 (bV false)::aG (undef) 0 (rn 0 17) 40 (bV false)::aT (bV false) 0 (rn 0 18) [(40,(bV false)),(47,undef)]::[])) (W:=(fun _=>w54)) (by kernel_rfl) u (cY e55) (by kernel_rfl) ?_ (aR (by kernel_rfl)) (by kernel_rfl) (m:=0) (by kernel_rfl) (fun a u=>?_)
   .exact⟨oa (aK · rfl aHa rfl rfl aGL),oc (e:=false) 0 (kd (aJ · rfl aGN (aQ e57))),oa (aC · rfl),oa (pP · rfl rfl),oa (aC · rfl),on 34 (nm b58),on 34 (nm b58),on 34 (nm b58),on 34 (nm b58),oa (aL · rfl b58 rfl),oa (aC · rfl),on 40 (nm aIr),on 40 (nm aIr),on 40 (nm aIr),on 40 (nm aIr),on 40 (nm aIr),on 40 (nm aIr),on 40 (nm aIr),oa (aL · rfl aIr rfl),aLz⟩
   have u:Has 61 [(0,(pV a0)),(1,(iV a1)),(2,(iV a2)),(7,(Sl.v x27)),(11,(pV (some p45))),(17,(Sl.v v4)),(18,(iV (v4.n:Int))),(19,(iV x7)),(24,(Sl.v v25)),(25,(iV (v25.n:Int))),(26,(iV x28)),(48,(bV false))] a:=u.sb rfl;have y:=u;cases h;exact hk53 _ (y.sb rfl)
  refine wp_exit<|t_x<|?_;have y:=u;cases h;cases hr35 _ rfl;refine lM<|?_;exact hk34 _ (y.sb rfl)
 refine wp_exit<|t_x<|?_;have y:=u;cases h;cases hr14 _ rfl;refine lM<|?_;exact hk13 _ (y.sb rfl)
def sY (b:List Int):Bool :=
 decide (b.length=64)&&b.getD 0 0==231&&b.getD 63 0==231&&decide (1<=b.getD 1 0)&&decide (b.getD 1 0<=3)&&decide (b.getD 2 0<=59)&&decide (b.getD 3 0<=1)&&!(b.getD 3 0==0&&b.getD 2 0 !=59)
theorem sX (b:List Int):sD b=(sY b&&mK ((b.take 63).drop (4+(b.getD 2 0).toNat))):=rfl
section
variable {F0 : Nat -> Prop} {g g0 g' : Gh} {w w0 w' : World} {L : List Rs} {s : Sl} {xs : List Int}
theorem ifO {c b:Bool}:(if c=true then some (true,w) else some (b,w))=some (c||b,w):=by cases c<;>rfl
theorem ifA {c b:Bool}:(if c=true then some (b,w) else some (false,w))=some (c&&b,w):=by cases c<;>rfl
theorem ld1 {ρ:Type} {f:Int->Option ρ} {j:Int} (h:Rd w s 1 (nums .u8 xs)) (h0:0<=j) (h1:j.toNat<xs.length):((ix s j 1).bind fun p=>(ldI .u8 w p).bind f)=f (xs.getD j.toNat 0):=by
 obtain⟨k,rfl⟩:∃ k:Nat,j=k:=⟨j.toNat,by omega⟩;obtain⟨a,e1,e2⟩:=tM (i:=k) h (by simpa using h1);rw[e1,aLx,e2,aLx];rfl
theorem Rd.ixK {k:IntKind} {j:Nat} {x:Int} (h:Rd w s 1 (nums k xs)) (hx:xs[j]?=some x):∃ a,D.ix s (j:Int) 1=some a/\D.ldI k w a=some x:=by
 have hx':(nums k xs)[j]?=some (.int k x):=by rw[lY,hx];rfl
 have hi:j<s.n:=by have:=h.len;have h2:=(aIt.1 hx').1;omega
 obtain⟨a,ha,hc⟩:=h.at_ (by omega);refine⟨a.add (j*1),?_,by rw[aKm];exact kZ (hc j _ hx')⟩;unfold D.ix;rw[ha];simp only[aLx];rw[if_pos ⟨by omega,by omega⟩];simp
theorem PR.sl {sz:Nat} {cs:List Value} {lo hi m:Nat} (h:PR g w s 1 cs) (h1:lo<=hi) (h2:hi<=s.n) (h3:hi<=m) (h4:m<=s.c):∃ z,slS s (lo:Int) (hi:Int) (m:Int) 1=some z/\PR g w z 1 ((cs.drop lo).take (hi-lo))/\z.n=hi-lo/\z.n<=z.c:=by
 have hl:cs.length=s.n:=by have:=h.rd.len;simpa using this
 refine⟨⟨if (m:Int)=(lo:Int) then s.p else s.p.map (·.add lo),hi-lo,m-lo⟩,?_,⟨⟨by simp;omega,fun hn=>?_⟩,fun a ha hn=>?_⟩,rfl,by simp only;omega⟩
 .unfold slS;rw[if_pos (by omega)];simp only[aJH,aKm,Option.some.injEq,Sl.mk.injEq,true_and];constructor<;>omega
 .simp only at hn;obtain⟨a,ha,hc⟩:=h.rd.at_ (by omega);rw[if_neg (by omega),ha];refine⟨a.add lo,rfl,fun j v hv=>?_⟩;rw[wC];refine hc _ v ?_;rw[aIV] at hv;split at hv
  .rwa[aJi] at hv
  cases hv
 simp only at ha hn;rw[if_neg (by omega)] at ha;obtain⟨a',ha',-⟩:=h.rd.at_ (by omega);rw[ha'] at ha;cases ha;have hb:(a'.add lo).block=a'.block:=by unfold Addr.add;split<;>rfl
 rw[hb];exact h.per a' ha' (by omega)
theorem PR.slN {k:IntKind} {lo hi m:Nat} (h:PR g w s 1 (nums k xs)) (h1:lo<=hi) (h2:hi<=s.n) (h3:hi<=m) (h4:m<=s.c):∃ z,slS s (lo:Int) (hi:Int) (m:Int) 1=some z/\PR g w z 1 (nums k ((xs.drop lo).take (hi-lo)))/\z.n=hi-lo/\z.n<=z.c:=by
 have:=h.sl (sz:=1) h1 h2 h3 h4;rwa[show((nums k xs).drop lo).take (hi-lo)=nums k ((xs.drop lo).take (hi-lo)) by simp[nums,aKN,aKB]] at this
theorem aAI (h:Rd w s 1 (nums .u8 xs)) (hn:s.n<=1000):mY s w=some (mK xs,w):=by
 have hl:xs.length=s.n:=by have:=h.len;simpa[nums] using this
 have lp:=Ex.loop (step:=fun t:Int×World=>cW s t.1 t.2)
  (Φ:=fun o=>match o with | .inl w'=>w'=w/\(xs.all fun x=>x==0)=true | .inr (i,w')=>w'=w/\0<=i/\(xs.all fun x=>x==0)=false)
  (fun m t=>∃ j:Nat,t=((j:Int),w)/\m+j=xs.length/\((xs.take j).all fun x=>x==0)=true) (fun m t ⟨j,e,hm,hz⟩=>by
   subst e;unfold cW;by_cases hj:j<xs.length
   .obtain⟨x,hx⟩:∃ x,xs[j]?=some x:=⟨_,aIs hj⟩;obtain⟨a,a1,a2⟩:=h.ixK hx;refine Ex.t (by simp;omega) (Ex.b1 a1 (Ex.b1 a2 (Ex.b2 (a:=x !=0) (b:=w) rfl ?_)));by_cases h0:x=0
    .subst h0;refine Ex.f (by simp) (Ex.ret ⟨m-1,by omega,j+1,by rw[iD (by omega) (by omega)];rfl,by omega,?_⟩);rw[aKt,hx,List.all_append,hz];rfl
    refine Ex.t (by simpa using h0) (Ex.ret ⟨rfl,by omega,?_⟩);rw[List.all_eq_false];exact⟨x,aIF hx,by simpa using h0⟩
   refine Ex.f (by simp;omega) (Ex.ret ⟨rfl,?_⟩);rwa[aIB (by omega)] at hz) xs.length ((0:Int),w) ⟨0,rfl,by omega,by simp⟩
 obtain⟨o,e,ho⟩:=lp;unfold mY eH fE;rw[e];unfold mK
 cases o with
 | inl w'=>obtain⟨rfl,hz⟩:=ho;rw[hz];rfl
 | inr r=>obtain⟨i,w'⟩:=r;obtain⟨rfl,h0,hz⟩:=ho;rw[hz];simp[u1,u2,h0]
theorem tY {b:List Int} {j:Nat} (hb:bU b):0<=b.getD j 0/\b.getD j 0<256:=by
 rw[aIu]
 cases e:b[j]? with
 | none=>simp
 | some y=>exact hb y (aIF e)
theorem xX (h:sY xs=true):xs.length=64/\1<=xs.getD 1 0/\xs.getD 1 0<=3/\xs.getD 2 0<=59/\xs.getD 3 0<=1:=by
 simp only[sY,aIz,decide_eq_true_eq] at h;exact⟨h.1.1.1.1.1.1.1,h.1.1.1.1.2,h.1.1.1.2,h.1.1.2,h.1.2⟩
theorem aBD (H:Hp F0 g0 w0 g w L) (h:PR g w s 1 (nums .u8 xs)) (hb:bU xs) (hc:s.n<=s.c) (hm:s.n<=1000) :
  ∃ z w',nN s w=some ((bL xs).1,z,(bL xs).2.2,w')/\Hp F0 g0 w0 g w' L/\Mo g w g w'/\PR g w' z 1 (nums .u8 (bL xs).2.1)/\z.n<=z.c:=by
 have hn:xs.length=s.n:=by have:=h.rd.len;simpa using this
 have t1:(if ((s.n:Int) !=64)=true then (some (true,w))
   else ((ix s 0 1).bind fun p6=>(ldI .u8 w p6).bind fun v8=>if (v8 !=231)=true then (some (true,w))
   else ((ix s 63 1).bind fun p11=>(ldI .u8 w p11).bind fun v13=>if (v13 !=231)=true then (some (true,w))
   else ((ix s 1 1).bind fun p16=>(ldI .u8 w p16).bind fun v18=>if (decide (v18<1))=true then (some (true,w))
   else ((ix s 1 1).bind fun p21=>(ldI .u8 w p21).bind fun v23=>if (decide (3<v23))=true then (some (true,w))
   else ((ix s 2 1).bind fun p26=>(ldI .u8 w p26).bind fun v28=>if (decide (59<v28))=true then (some (true,w))
   else ((ix s 3 1).bind fun p31=>(ldI .u8 w p31).bind fun v33=>if (decide (1<v33))=true then (some (true,w))
   else ((ix s 3 1).bind fun p36=>(ldI .u8 w p36).bind fun v38=>if (v38==0)=true then ((ix s 2 1).bind fun p41=>(ldI .u8 w p41).bind fun v43=>some ((v43 !=59),w))
   else (some (false,w))))))))))=some (!sY xs,w):=by
  by_cases hl:xs.length=64
  .have hlt:∀ j:Int,0<=j->j<64->j.toNat<xs.length:=fun j h0 h1=>by omega
   rw[if_neg (by simp;omega),ld1 h.rd (by decide) (hlt _ (by decide) (by decide)),ld1 h.rd (by decide) (hlt _ (by decide) (by decide)),ld1 h.rd (by decide) (hlt _ (by decide) (by decide)),ld1 h.rd (by decide) (hlt _ (by decide) (by decide)),
    ld1 h.rd (by decide) (hlt _ (by decide) (by decide)),ld1 h.rd (by decide) (hlt _ (by decide) (by decide)),ld1 h.rd (by decide) (hlt _ (by decide) (by decide)),ld1 h.rd (by decide) (hlt _ (by decide) (by decide))]
   simp only[ifO,ifA,Option.some.injEq,Prod.mk.injEq,and_true];simp only[sY,hl,decide_true,aKr,aKy,Bool.not_not,bne,<-decide_not,aLw,aKO,Bool.not_or];rfl
  rw[if_pos (by simp;omega)];simp[sY,hl]
 unfold nN;rw[t1,aE,show bL xs=if sD xs=true then (xs.getD 1 0,(xs.drop 4).take (xs.getD 2 0).toNat,xs.getD 3 0==1) else (0,[],false) from rfl,sX]
 cases h8:sY xs with
 | false=>exact⟨Sl.nil,w,by simp,H,Mo.r,PR.nil rfl,aIv _⟩
 | true =>
  obtain⟨hl,k1,k3,k2,_⟩:=xX h8;have hlt:∀ j:Int,0<=j->j<64->j.toNat<xs.length:=fun j h0 h1=>by omega
  have r2:=tY (j:=2) hb;obtain⟨m,hm2⟩:∃ m:Nat,xs.getD 2 0=m:=⟨(xs.getD 2 0).toNat,by omega⟩;have hw:IntKind.wrap .i64 (4+IntKind.wrap .i64 (xs.getD (2:Int).toNat 0))=((4+m:Nat):Int):=by
   rw[show xs.getD (2:Int).toNat 0=(m:Int) from hm2,aIy,aIy];omega
  obtain⟨z1,e1,p1,n1,_⟩:=h.slN (lo:=4+m) (hi:=63) (m:=s.c) (by omega) (by omega) (by omega) (aIv _);have e1:slS s ((4+m:Nat):Int) 63 (s.c:Int) 1=some z1:=e1;have hz:(xs.take 63).drop (4+(xs.getD 2 0).toNat)=(xs.drop (4+m)).take (63-(4+m)):=by rw[hm2,aJH,List.drop_take]
  have e2:=aAI p1.rd (by omega);rw[if_neg (by simp),ld1 h.rd (by decide) (hlt _ (by decide) (by decide)),hw,e1,aLx,e2,aE,hz,aKr]
  cases hzz:mK ((xs.drop (4+m)).take (63-(4+m))) with
  | false=>exact⟨Sl.nil,w,by simp,H,Mo.r,PR.nil rfl,aIv _⟩
  | true =>
   obtain⟨w2,e3,H2,m2⟩:=H.dr;have h2:=h.mo m2;obtain⟨z3,e4,p3,n3,c3⟩:=h2.slN (lo:=4) (hi:=4+m) (m:=4+m) (by omega) (by omega) (aIv _) (by omega);refine⟨z3,w2,?_,H2,m2,?_,c3⟩
   .rw[if_neg (by simp),e3,aLx,ld1 h2.rd (by decide) (hlt _ (by decide) (by decide)),show(4:Int)=((4:Nat):Int) from rfl,e4,aLx,ld1 h2.rd (by decide) (hlt _ (by decide) (by decide)),if_pos rfl];have:IntKind.wrap .i64 (xs.getD (1:Int).toNat 0)=xs.getD 1 0:=by rw[show(1:Int).toNat=1 from rfl,iD (by omega) (by omega)]
    rw[this];rfl
   rw[if_pos rfl];simp only;rw[hm2,aJH];rwa[aKE] at p3
end
theorem yF {kind:Int} {p:List Int} {l:Bool} (hk:0<=kind/\kind<256) (hp:bU p) (hl:p.length<=59):bU (lL kind p l):=by
 intro b hb;simp only[lL,aIG,aJI,aLg,or_false] at hb;rcases hb with((h | hb) | hb) | rfl
 .rcases h with rfl | rfl | rfl | rfl
  .decide
  .exact hk
  .omega
  split<;>decide
 .exact hp b hb
 .rw[(aJk.1 hb).2];decide
 decide
section
variable {F0 : Nat -> Prop} {g g0 g' : Gh} {w w0 w' : World} {L : List Rs} {s z y : Sl} {xs p : List Int} {cs ys : List Value} {P : Program} {t e u : TypeId} {sz by_ : Nat} {Z : List Value}
theorem Hp.ocpy (st:ST P t e sz by_ Z) (H:Hp F0 g0 w0 g w (owR e sz z cs::L)) {b o n c:Nat} (hp:z.p=some ⟨b,0,none⟩) (hn:0<z.n) (ho:o+n*sz<=cs.length) (hy:Rd w y sz ys) (h1:∀ v∈ys,v.oneCell'=true) :
  ∃ w',cpS P t u ⟨some ⟨b,o,none⟩,n,c⟩ y w=some (((min y.n n:Nat):Int),w')/\Hp F0 g0 w0 g w' (owR e sz z (jQ cs o (ys.take (min y.n n*sz)))::L)/\Mo g w g w':=by
 have h0:=H.ow;obtain⟨b',rest,hp',hB,hr⟩:=h0.at_ hn;rw[hp] at hp';cases hp';have e1:=aFj (u:=u) (c:=c) st hB (by rw[aIE];omega:o+n*sz<=(cs++rest).length) hy h1;have hlen:(ys.take (min y.n n*sz)).length=min y.n n*sz:=by
  rw[aIN,hy.len];exact aLm (aIJ _ (aLn _ _))
 have hle:min y.n n*sz<=n*sz:=aIJ _ (Nat.min_le_right _ _);have e2:jQ (cs++rest) o (ys.take (min y.n n*sz))=jQ cs o (ys.take (min y.n n*sz))++rest:=sV (by omega);rw[e2] at e1;have hB':=wA (cs:=jQ cs o (ys.take (min y.n n*sz))++rest) hB;obtain⟨g',w'',⟨rfl,rfl⟩,h2,m⟩:=H.up (r':=owR e sz z (jQ cs o (ys.take (min y.n n*sz)))) (Ψ:=fun g' w''=>g'=g/\w''=wr w b (jQ cs o (ys.take (min y.n n*sz))++rest)) fun F h hF =>
  ⟨g,_,F,⟨rfl,rfl⟩,⟨⟨by rw[rI (by omega)];exact h0.len,h0.cap,h0.max,.inr ⟨b,rest,hp,hB',hr⟩⟩,h.2⟩,aAp hB (hF _ ((h.2 _).2 ⟨_,hp,rfl⟩)) ((h.2 _).2 ⟨_,hp,rfl⟩) H.lt,fun k hk=>⟨hF k hk,.inl hk⟩⟩
 exact⟨_,e1,h2,m⟩
theorem Hp.oput {T:TypeId} {k:IntKind} (H:Hp F0 g0 w0 g w (owR T 1 z (nums k xs)::L)) {b:Nat} (hp:z.p=some ⟨b,0,none⟩) {j:Int} (h0:0<=j) (hj:j.toNat<xs.length) (v:Int) {ρ:Type} {f:World->Option ρ} :
  ∃ w',((ix z j 1).bind fun p=>(D.stV w p (.int k v)).bind f)=f w'/\Hp F0 g0 w0 g w' (owR T 1 z (nums k (xs.set j.toNat v))::L)/\Mo g w g w':=by
 have hl:xs.length=z.n:=by have:=H.ow.len;simpa using this
 obtain⟨w',e,H1,m⟩:=H.oset (o:=j.toNat) (x:=.int k v) hp (by omega) (by simpa using hj) rfl;refine⟨w',?_,?_,m⟩
 .unfold D.ix;rw[hp,aLx,if_pos ⟨h0,by omega⟩,aLx,aD,aKm,aLy,e,aLx]
 rwa[show(nums k xs).set j.toNat (.int k v)=nums k (xs.set j.toNat v) by simp[nums,aLo]] at H1
theorem wr8 {x:Int} (h0:0<=x) (h1:x<256):IntKind.wrap .u8 x=x:=by simp[IntKind.wrap,IntKind.bits,IntKind.signed];omega
theorem aFL (kind l n:Int) (hp:p.length<=59):jQ (nums .u8 [231,kind,n,l] ++nums .u8 (List.replicate 59 0++[231])) 4 (nums .u8 p)=nums .u8 ([231,kind,n,l]++p++List.replicate (59-p.length) 0++[231]):=by
 unfold jQ;have e1:(nums .u8 [231,kind,n,l]++nums .u8 (List.replicate 59 0++[231])).take 4=nums .u8 [231,kind,n,l]:=rfl;have e2:(nums .u8 [231,kind,n,l]++nums .u8 (List.replicate 59 0++[231])).drop (4+(nums .u8 p).length)=nums .u8 (List.replicate (59-p.length) 0++[231]):=by
  rw[aLf,show(nums .u8 [231,kind,n,l]).length=4 from rfl,aIU (by rw[show(nums .u8 [231,kind,n,l]).length=4 from rfl];omega),aJL,aKE,bG];unfold nums;rw[<-aKB,aJo (by simpa using hp),List.drop_replicate]
 rw[e1,e2];simp[nums]
theorem aBT (H:Hp F0 g0 w0 g w L) (h:PR g w y 1 (nums .u8 p)) (hp:p.length<=59) {kind:Int} (k0:0<=kind) (k1:kind<256) (l:Bool) :
  ∃ z w',nO kind y l w=some (z,w')/\Hp F0 g0 w0 g w' (owR 5 1 z (nums .u8 (lL kind p l))::L)/\Mo g w g w':=by
 have hn:p.length=y.n:=by have:=h.rd.len;simpa using this
 obtain⟨z,w1,e1,n1,c1,H1,m1⟩:=H.mkS mS (m:=64) (by decide) (by decide);rw[show(64:Int).toNat=64 from rfl] at n1 c1 H1;have hz:(List.replicate 64 [Value.int .u8 0]).flatten=nums .u8 (List.replicate 64 0):=by rw[nV]
 rw[hz] at H1;obtain⟨b,rest,hpz,-,-⟩:=H1.ow.at_ (by omega);have w8k:=wr8 k0 k1;have w8n:IntKind.wrap .u8 (y.n:Int)=(p.length:Int):=by rw[hn];exact wr8 (by omega) (by omega)
 unfold nO;rw[e1,aE,w8k,w8n];obtain⟨w2,e2,H2,m2⟩:=H1.oput hpz (j:=0) (by decide) (by decide) 231 (f:=fun w6=>(ix z 1 1).bind fun p8=>(stV w6 p8 (.int .u8 kind)).bind fun w10=>(ix z 2 1).bind fun p12=>(stV w10 p12 (.int .u8 (p.length:Int))).bind fun w14=>(ix z 63 1).bind fun p16=>(stV w14 p16 (.int .u8 231)).bind fun w18 =>
  (if l=true then ((ix z 3 1).bind fun p24=>(stV w18 p24 (.int .u8 1)).bind fun w26=>some w26) else (some w18)).bind fun w20=>(slS z 4 (z.n:Int) (z.c:Int) 1).bind fun s28=>aN (cpS Try.prog 72 72 s28 y w20) fun v30 w31=>some (z,w31))
 rw[e2];obtain⟨w3,e3,H3,m3⟩:=H2.oput hpz (j:=1) (by decide) (by simp) kind (f:=fun w10=>(ix z 2 1).bind fun p12=>(stV w10 p12 (.int .u8 (p.length:Int))).bind fun w14=>(ix z 63 1).bind fun p16=>(stV w14 p16 (.int .u8 231)).bind fun w18 =>
  (if l=true then ((ix z 3 1).bind fun p24=>(stV w18 p24 (.int .u8 1)).bind fun w26=>some w26) else (some w18)).bind fun w20=>(slS z 4 (z.n:Int) (z.c:Int) 1).bind fun s28=>aN (cpS Try.prog 72 72 s28 y w20) fun v30 w31=>some (z,w31))
 rw[e3];obtain⟨w4,e4,H4,m4⟩:=H3.oput hpz (j:=2) (by decide) (by simp) (p.length:Int) (f:=fun w14=>(ix z 63 1).bind fun p16=>(stV w14 p16 (.int .u8 231)).bind fun w18 =>
  (if l=true then ((ix z 3 1).bind fun p24=>(stV w18 p24 (.int .u8 1)).bind fun w26=>some w26) else (some w18)).bind fun w20=>(slS z 4 (z.n:Int) (z.c:Int) 1).bind fun s28=>aN (cpS Try.prog 72 72 s28 y w20) fun v30 w31=>some (z,w31))
 rw[e4];obtain⟨w5,e5,H5,m5⟩:=H4.oput hpz (j:=63) (by decide) (by simp) 231 (f:=fun w18 =>
  (if l=true then ((ix z 3 1).bind fun p24=>(stV w18 p24 (.int .u8 1)).bind fun w26=>some w26) else (some w18)).bind fun w20=>(slS z 4 (z.n:Int) (z.c:Int) 1).bind fun s28=>aN (cpS Try.prog 72 72 s28 y w20) fun v30 w31=>some (z,w31))
 rw[e5];obtain⟨w6,e6,H6,m6⟩:∃ w6,(if l=true then ((ix z 3 1).bind fun p24=>(stV w5 p24 (.int .u8 1)).bind fun w26=>some w26) else (some w5))=some w6/\Hp F0 g0 w0 g w6 (owR 5 1 z (nums .u8 ([231,kind,(p.length:Int),if l=true then 1 else 0]++(List.replicate 59 0++[231])))::L)/\Mo g w5 g w6:=by
  cases l with
  | false=>exact⟨w5,by simp,H5,Mo.r⟩
  | true =>
   obtain⟨w6,e6,H6,m6⟩:=H5.oput hpz (j:=3) (by decide) (by simp) 1 (f:=fun w26=>some w26);exact⟨w6,by rw[if_pos rfl,e6],H6,m6⟩
 have h6:=h.mo (m1.t (m2.t (m3.t (m4.t (m5.t m6)))));obtain⟨w7,e7,H7,m7⟩:=H6.ocpy mS (u:=72) (o:=4) (n:=60) (c:=60) hpz (by omega) (by simp) h6.rd dU;have hsl:slS z 4 (z.n:Int) (z.c:Int) 1=some ⟨some ⟨b,4,none⟩,60,60⟩:=by rw[n1,c1];unfold slS;rw[hpz,if_pos (by omega)];rfl
 rw[e6,aLx,hsl,aLx,e7,aE];refine⟨z,w7,rfl,?_,m1.t (m2.t (m3.t (m4.t (m5.t (m6.t m7)))))⟩;have hmin:(nums .u8 p).take (min y.n 60*1)=nums .u8 p:=aIB (by rw[bG];omega);rw[hmin] at H7;have:=aFL (p:=p) kind (if l=true then 1 else 0) (p.length:Int) hp;rw[show nums .u8 ([231,kind,(p.length:Int),if l=true then 1 else 0]++(List.replicate 59 0++[231]))=nums .u8 [231,kind,(p.length:Int),if l=true then 1 else 0]++nums .u8 (List.replicate 59 0++[231]) by simp[nums],this] at H7;exact H7
end
structure LC (cs:List Value) (x:Nat) (base:Int):Prop where
 d:cs[0]?=some (.pointer (some ⟨x,0,none⟩))
 b:cs[2]?=some (.int .i64 base)
 b0:0<=base
 b1:base<=512
abbrev lbR (p:Nat) (cs:List Value):Rs:=bxR p cs 119
def sgC (s:Sg) (z:Sl):List Value:=[.int .i64 s.pos,.int .i64 s.seq,.int .i64 s.fin,.int .i64 s.high,z.v]
def sg0:List Value:=List.replicate 4 (.int .i64 0)++[.slice none 0 0]
def hdV:Option Sg->List Value
 | some s=>sgC s Sl.nil
 | none=>sg0
def rcC (t:Int) (z:Sl):List Value:=[.int .i64 t,z.v]
section
variable {F0 : Nat -> Prop} {g g0 g' : Gh} {w w0 w' : World} {L : List Rs} {s z y : Sl} {xs : List Int} {cs ys : List Value} {x p : Nat} {D : Dk} {base pos i : Int}
theorem aAK (hc:LC cs x base) (hp:0<=pos/\pos<=16) (hi:0<=i/\i<=16) (hb:B w p=some (cs,119)):jD (some ⟨p,0,none⟩) pos i w=some (base+2+pos*16+i,w):=by
 have h0:=hc.b0;have h1:=hc.b1;unfold jD;rw[aLx,aD,aLy,lP hb hc.b,aLx];congr 2;rw[aIy,aIy,aIy,aIy];omega
theorem aAe (h:D.Wf):(D.look base pos i).length<=64:=tE h _
theorem nU (h:D.Bt):bU (D.look base pos i):=nM h _
theorem yQ (hc:LC cs x base) (hp:0<=pos/\pos<=16) (hi:0<=i/\i<=16) (H:Hp F0 g0 w0 g w (lbR p cs::dkR x D::L)) (hbd:D.W.length<900000) :
  ∃ z g' w',jO (some ⟨p,0,none⟩) pos i w=some (z,w')/\Hp F0 g0 w0 g' w' (lbR p cs::dkR x D::L)/\Mo g w g' w'/\PR g' w' z 1 (nums .u8 (D.look base pos i))/\z.n<=z.c/\z.n<=64:=by
 obtain⟨w1,e1,H1,m1⟩:=H.dr;have l0:ldP w1 ⟨p,0,none⟩=some (some ⟨x,0,none⟩):=H1.ldP hc.d;have a1:=aAK hc hp hi H1.bx;obtain⟨o,w2,T,e2,H2,m2⟩:=H1.sw.dread (base+2+pos*16+i) (by omega);have hcap:=H2.ow.cap;obtain⟨g3,r3,H3,m3⟩:=H2.keepO;have hl:=aAe (base:=base) (pos:=pos) (i:=i) H1.sw.dwf;refine⟨o,g3,w2,?_,H3.sw,m1.t (m2.t m3),r3,hcap,?_⟩
 .unfold jO;rw[e1,aLx,aLx,aD,aLy,l0,aLx,a1,aE,e2,lW,gR l0]
 have:=r3.rd.len;rw[bG] at this;have h2:(D.read (base+2+pos*16+i)).1.length<=64:=hl;omega
theorem aFb (h:s.n<8):cV s 0 w=some (0,0,3,w):=by
 unfold cV;rw[if_neg (by simp),decide_eq_false (by omega),aE,if_neg (by simp),if_pos (by rw[decide_eq_true_eq,iD (by omega) (by omega)];omega)]
theorem vL (xs:List Int):(bL xs).2.1.length<=59:=by
 unfold bL;split
 .rename_i h;rw[sX] at h;obtain⟨_,_,_,k2,_⟩:=xX (by simp only[aIz] at h;exact h.1);simp only[aIN,aIY];omega
 simp
theorem qU (h:bU xs):bU (bL xs).2.1:=by
 unfold bL;split
 .exact fun b hb=>h b (aJC (aJh hb))
 intro b hb;cases hb
theorem aCK (hc:LC cs x base) (hp:0<=pos/\pos<=16) (H:Hp F0 g0 w0 g w (lbR p cs::dkR x D::L)) (hbt:D.Bt) (hbd:D.W.length<900000) :
  ∃ g' w',kO (some ⟨p,0,none⟩) pos w=some (hdV (nA pos (D.look base pos 0)),(nA pos (D.look base pos 0)).isSome,w')/\Hp F0 g0 w0 g' w' (lbR p cs::dkR x D::L)/\Mo g w g' w':=by
 obtain⟨pb,w1,e1,H1,m1⟩:=H.box (T:=125) (cs:=sg0);obtain⟨z,g2,w2,e2,H2,m2,r2,c2,n2⟩:=yQ (i:=0) hc hp (by omega) H1.b2 hbd;obtain⟨q,w3,e3,H3,m3,r3,c3⟩:=aBD H2 r2 (nU hbt) c2 (by omega);obtain⟨b,hb⟩:∃ b,D.look base pos 0=b:=⟨_,rfl⟩;have hby:bU b:=by rw[<-hb];exact nU hbt
 rw[hb] at e3 r3 ⊢;have hqn:(bL b).2.1.length=q.n:=by have:=r3.rd.len;simpa using this
 have H3':=H3.m2;have fin:∀ (vs:List Value) (ok:Bool),vs.length=5->(∀ v∈vs,v.oneCell'=true)->∃ g' w',((stA w3 ⟨pb,0,none⟩ 0 vs).bind fun w19=>(ldA 5 w19 ⟨pb,0,none⟩ 0).bind fun v21=>some (v21,ok,w19))=some (vs,ok,w')/\Hp F0 g0 w0 g' w' (lbR p cs::dkR x D::L)/\Mo g w g' w':=fun vs ok hl h1=>by
  obtain⟨w4,e4,H4,m4⟩:=H3'.stA (o:=0) (vs:=vs) (by rw[hl];simp[sg0]) h1;rw[pA (by rw[hl];simp[sg0])] at H4;have l4:ldA 5 w4 ⟨pb,0,none⟩ 0=some vs:=by
   rw[nK H4.bx (by omega),aJj,aIB (by omega)]
  exact⟨g2,w4,by rw[e4,aLx,l4,aLx],H4.tl,m1.t (m2.t (m3.t m4))⟩
 have e1':mk w 125 (List.replicate 4 (.int .i64 0)++[.slice none 0 0])=some (⟨pb,0,none⟩,w1):=e1;have t1:(if ((bL b).1 !=1)=true then some (true,w3) else if (!(bL b).2.2)=true then some (true,w3) else some (((q.n:Int) !=16),w3))=some (!((bL b).1==1&&(bL b).2.2&&decide ((bL b).2.1.length=16)),w3):=by
  rw[ifO,ifO];congr 2;rw[hqn];simp only[bne,aKy,aKO];congr 3;by_cases h:q.n=16<;>simp[h]
  omega
 unfold kO;rw[e1',aE,e2,aE,e3,cN,t1,aE];unfold nA zM
 cases h1:((bL b).1==1&&(bL b).2.2&&decide ((bL b).2.1.length=16)) with
 | false =>
  obtain⟨g',w',e,H',m'⟩:=fin sg0 false rfl (by intro v hv;simp[sg0] at hv;rcases hv with rfl | rfl<;>rfl);exact⟨g',w',e,H',m'⟩
 | true =>
  have h16:(bL b).2.1.length=16:=by simp only[aIz,decide_eq_true_eq] at h1;exact h1.2
  have k1:=tK (i:=0) r3.rd (qU hby) (by omega) c3 (by omega);have k2:=tK (i:=8) r3.rd (qU hby) (by omega) c3 (by omega);have k1':cV q 0 w3=some (eY (bL b).2.1 0,((0+8:Nat):Int),0,w3):=k1;have k2':cV q 8 w3=some (eY (bL b).2.1 8,((8+8:Nat):Int),0,w3):=k2;obtain⟨n,hn⟩:∃ n,eY (bL b).2.1 0=n:=⟨_,rfl⟩;obtain⟨t,ht⟩:∃ t,eY (bL b).2.1 8=t:=⟨_,rfl⟩;rw[hn] at k1' ⊢;rw[ht] at k2' ⊢;have t2:(if decide (n<1)=true then some (true,w3) else if decide (4611686018427387904<n)=true then some (true,w3) else if decide (t<0)=true then some (true,w3) else some (decide (1099511627776<t),w3))=some (!hdC n t,w3):=by
   rw[ifO,ifO,ifO];congr 2;simp only[hdC,aKy,<-decide_not,aLw,aKO]
  rw[if_neg (by simp),k1',cN,k2',cN,t2,aE,aKr]
  cases h2:hdC n t with
  | false =>
   obtain⟨g',w',e,H',m'⟩:=fin sg0 false rfl (by intro v hv;simp[sg0] at hv;rcases hv with rfl | rfl<;>rfl);exact⟨g',w',e,H',m'⟩
  | true =>
   obtain⟨g',w',e,H',m'⟩:=fin (sgC ⟨pos,n,1,t,[]⟩ Sl.nil) true rfl (by intro v hv;simp[sgC] at hv;rcases hv with rfl | rfl | rfl | rfl | rfl<;>rfl);exact⟨g',w',e,H',m'⟩
def rN (t:Int):Bool:=decide (0<=t)&&decide (t<=1099511627776)
def tZ (g:Gh) (w:World) (q:Int->Bool) (o:Option (Int×List Int×Int)) (vs:List Value) (nx:Int) (ok:Bool):Prop :=
 (∃ t z,vs=rcC t z)/\match o with
 | some r=>ok=q r.1/\(ok=true->nx=r.2.2/\∃ z,vs=rcC r.1 z/\PR g w z 1 (nums .u8 r.2.1)/\z.n<=z.c)
 | none=>ok=false
theorem tZ.mo {q:Int->Bool} {o:Option (Int×List Int×Int)} {nx:Int} {ok:Bool} (h:tZ g w q o cs nx ok) (m:Mo g w g' w'):tZ g' w' q o cs nx ok:=by
 refine⟨h.1,?_⟩;have h2:=h.2
 cases o with
 | none=>exact h2
 | some r=>exact⟨h2.1,fun hk=>by obtain⟨h3,z,h4,h5,h6⟩:=h2.2 hk;exact⟨h3,z,h4,h5.mo m,h6⟩⟩
theorem Hp.stA' {b:Nat} {T:TypeId} {vs:List Value} (H:Hp F0 g0 w0 g w (bxR b cs T::L)) (hl:vs.length=cs.length) (h1:∀ v∈vs,v.oneCell'=true) :
  ∃ w',Go.Proofs.Ytejkaciimmfgcaa.D.stA w ⟨b,0,none⟩ 0 vs=some w'/\Hp F0 g0 w0 g w' (bxR b vs T::L)/\Mo g w g w'/\ldA cs.length w' ⟨b,0,none⟩ 0=some vs:=by
 obtain⟨w',e,H',m⟩:=H.stA (o:=0) (vs:=vs) (by omega) h1;rw[pA hl] at H';refine⟨w',e,H',m,?_⟩;rw[nK H'.bx (by omega),aJj,aIB (by omega)]
theorem rY (hc:LC cs x base) (hp:0<=pos/\pos<=16) (H:Hp F0 g0 w0 g w (lbR p cs::dkR x D::L)) (hbt:D.Bt) (hbd:D.W.length<900000) (hi:0<=i/\i<=16) :
  ∃ vs nx ok g' w',jI (some ⟨p,0,none⟩) pos i w=some (vs,nx,ok,w')/\Hp F0 g0 w0 g' w' (lbR p cs::dkR x D::L)/\Mo g w g' w'/\tZ g' w' rN (D.rcd base pos (16-i).toNat i 2 []) vs nx ok:=by
 obtain⟨pb,w1,e1,H1,m1⟩:=H.box (T:=87) (cs:=rcC 0 Sl.nil);have e1':mk w 87 [.int .i64 0,.slice none 0 0]=some (⟨pb,0,none⟩,w1):=e1;have lp:=Ex.loop (step:=fun s:Int×Sl×Int×World=>iY (some ⟨p,0,none⟩) pos ⟨pb,0,none⟩ s.1 s.2.1 s.2.2.1 s.2.2.2)
  (Φ:=fun o=>match o with
   | .inl w'=>∃ g',Hp F0 g0 w0 g' w' (bxR pb (rcC 0 Sl.nil) 87::lbR p cs::dkR x D::L)/\Mo g w1 g' w'/\tZ g' w' rN (D.rcd base pos (16-i).toNat i 2 []) (rcC 0 Sl.nil) 0 false
   | .inr (nx,ok,w')=>∃ vs g',vs.length=2/\Hp F0 g0 w0 g' w' (bxR pb vs 87::lbR p cs::dkR x D::L)/\Mo g w1 g' w'/\tZ g' w' rN (D.rcd base pos (16-i).toNat i 2 []) vs nx ok)
  (fun m s=>∃ (j want:Int) (z:Sl) (all:List Int) (g1:Gh) (w':World),s=(j,z,want,w')/\(m:Int)+j=16/\0<=j/\D.rcd base pos m j want all=D.rcd base pos (16-i).toNat i 2 []/\bU all/\(all.length:Int)+59*m<=944 /\
   Hp F0 g0 w0 g1 w' (owR 5 1 z (nums .u8 all)::bxR pb (rcC 0 Sl.nil) 87::lbR p cs::dkR x D::L)/\Mo g w1 g1 w') (fun m s hI=>by
   obtain⟨j,want,z,all,g1,w',rfl,hm,hj,hr,hby,hal,Hi,mi⟩:=hI;unfold iY;by_cases hlt:j<16
   .obtain⟨m,rfl⟩:∃ k,m=k+1:=⟨m-1,by omega⟩;obtain⟨q,g2,w2,e2,H2,m2,r2,c2,n2⟩:=yQ (i:=j) hc hp (by omega) (Hi.perm (L':=lbR p cs::dkR x D::owR 5 1 z (nums .u8 all)::bxR pb (rcC 0 Sl.nil) 87::L) (by exact(aJT (l₁:=[owR 5 1 z (nums .u8 all),bxR pb (rcC 0 Sl.nil) 87]) (l₂:=[lbR p cs,dkR x D])).append_right L)) hbd;obtain⟨y,w3,e3,H3,m3,r3,c3⟩:=aBD H2 r2 (nU hbt) c2 (by omega);obtain⟨b,hb⟩:∃ b,D.look base pos j=b:=⟨_,rfl⟩;have hbb:bU b:=by rw[<-hb];exact nU hbt
    have hgl:=vL b;have hgb:=qU hbb;rw[Dk.rcd,hb] at hr;rw[hb] at e3 r3;have hyn:(bL b).2.1.length=y.n:=by have:=r3.rd.len;simpa using this
    have mi3:=mi.t (m2.t m3);have H3':=H3.perm (L':=owR 5 1 z (nums .u8 all)::bxR pb (rcC 0 Sl.nil) 87::lbR p cs::dkR x D::L) (by exact(aJT (l₁:=[lbR p cs,dkR x D]) (l₂:=[owR 5 1 z (nums .u8 all),bxR pb (rcC 0 Sl.nil) 87])).append_right L);refine Ex.t (by simpa using hlt) (Ex.b2 e2 (Ex.b4 e3 ?_));by_cases hk:(bL b).1=want
    .rw[if_pos hk] at hr;have hzn:all.length=z.n:=by have:=H3'.ow.len;simpa using this
     obtain⟨z4,w4,e4,n4,H4,m4⟩:=H3'.apS mS r3.rd dU (by omega);have hn4:nums .u8 all++nums .u8 (bL b).2.1=nums .u8 (all++(bL b).2.1):=by simp[nums]
     rw[hn4] at H4;obtain⟨al,hal2⟩:∃ al,all++(bL b).2.1=al:=⟨_,rfl⟩;have hall:al.length=z4.n:=by have:=H4.ow.len;rw[hal2] at this;simpa using this
     have haln:al.length=all.length+(bL b).2.1.length:=by rw[<-hal2,aIE]
     have halb:bU al:=by rw[<-hal2];intro v hv;exact(aIG.1 hv).elim (hby v) (hgb v)
     rw[hal2] at H4 hr;refine Ex.f (by simpa using hk) (Ex.b2 e4 ?_);by_cases hl:(bL b).2.2=true
     .rw[if_pos hl] at hr;refine Ex.t hl ?_;by_cases h8:al.length<8
      .rw[if_pos h8] at hr;refine Ex.b4 (aFb (by omega)) (Ex.b2 (a:=true) (b:=w4) (by simp) (Ex.t rfl (Ex.ret ?_)));exact⟨g2,H4.tl,mi3.t m4,⟨0,Sl.nil,rfl⟩,by rw[<-hr]⟩
      rw[if_neg h8] at hr;have hcap:=H4.ow.cap;have k1:cV z4 0 w4=some (eY al 0,((0+8:Nat):Int),0,w4):=tK (i:=0) H4.ow.rd halb (by omega) hcap (by omega);obtain⟨t,ht⟩:∃ t,eY al 0=t:=⟨_,rfl⟩;rw[ht] at k1 hr;have t1:(if ((0:Int) !=0)=true then some (true,w4) else if decide (t<0)=true then some (true,w4) else some (decide (1099511627776<t),w4))=some (!rN t,w4):=by
       rw[if_neg (by decide),ifO,show(decide (t<0)||decide (1099511627776<t))=!rN t by simp only[rN,aKy,<-decide_not,aLw]]
      refine Ex.b4 k1 (Ex.b2 t1 ?_)
      cases hq:rN t with
      | false =>
       refine Ex.t rfl (Ex.ret ⟨g2,H4.tl,mi3.t m4,⟨0,Sl.nil,rfl⟩,?_⟩);rw[<-hr];exact⟨hq.symm,fun h=>by cases h⟩
      | true =>
       obtain⟨g5,r5,H5,m5⟩:=H4.keepO;obtain⟨z6,e6,r6,n6,c6⟩:=r5.slN (lo:=8) (hi:=z4.n) (m:=z4.c) (by omega) (aIv _) hcap (aIv _);obtain⟨w7,e7,H7,m7,l7⟩:=H5.stA' (vs:=rcC t z6) rfl (by intro v hv;simp[rcC] at hv;rcases hv with rfl | rfl<;>rfl);refine Ex.f (by simp) (Ex.b1 e6 (Ex.b1 e7 (Ex.ret ⟨rcC t z6,g5,rfl,H7,mi3.t (m4.t (m5.t m7)),⟨t,z6,rfl⟩,?_⟩)));rw[<-hr];refine⟨hq.symm,fun _=>⟨by rw[iD (by omega) (by omega)],z6,rfl,?_,c6⟩⟩;have r6:=r6.mo m7;rwa[aIB (by rw[aIY];omega)] at r6
     rw[if_neg hl] at hr;refine Ex.f hl (Ex.ret ⟨m,by omega,j+1,3,z4,al,g2,w4,by rw[iD (by omega) (by omega)],by omega,by omega,hr,halb,by omega,H4,mi3.t m4⟩)
    rw[if_neg hk] at hr;refine Ex.t (by simpa using hk) (Ex.ret ⟨g2,H3'.tl,mi3,⟨0,Sl.nil,rfl⟩,by rw[<-hr]⟩)
   obtain rfl:m=0:=by omega
   refine Ex.f (by simpa using hlt) (Ex.ret ⟨g1,Hi.tl,mi,⟨0,Sl.nil,rfl⟩,?_⟩);rw[<-hr];rfl) (16-i).toNat (i,Sl.nil,2,w1) ⟨i,2,Sl.nil,[],g,w1,rfl,by omega,by omega,rfl,(fun b hb=>by cases hb),by simp;omega,H1.onil,Mo.r⟩
 obtain⟨o,e2,ho⟩:=lp;unfold jI;rw[e1',aE,e2,aLx]
 cases o with
 | inl w' =>
  obtain⟨g2,H2,m2,h2⟩:=ho;obtain⟨w3,e3,H3,m3,l3⟩:=H2.stA' (vs:=rcC 0 Sl.nil) rfl (by intro v hv;simp[rcC] at hv;rcases hv with rfl | rfl<;>rfl);have e3':stA w' ⟨pb,0,none⟩ 0 [.int .i64 0,.slice none 0 0]=some w3:=e3;have l3':ldA 2 w3 ⟨pb,0,none⟩ 0=some (rcC 0 Sl.nil):=l3;refine⟨rcC 0 Sl.nil,0,false,g2,w3,?_,H3.tl,m1.t (m2.t m3),h2.mo m3⟩;simp only[Sum.elim_inl,u1,e3',aLx,l3']
 | inr r =>
  obtain⟨nx,ok,w'⟩:=r;obtain⟨vs,g2,hl,H2,m2,h2⟩:=ho;refine⟨vs,nx,ok,g2,w',?_,H2.tl,m1.t m2,h2⟩;have l3':ldA 2 w' ⟨pb,0,none⟩ 0=some vs:=by
   rw[nK H2.bx (by omega),aJj,aIB (by omega)]
  simp only[Sum.elim_inr,u3,l3',aLx]
end
section
variable {F0 : Nat -> Prop} {g g0 g' : Gh} {w w0 w' : World} {L : List Rs} {z : Sl} {α : Type} {f : α -> List Value} {sz : Nat} {T : TypeId} {ps : List α} {q q' : α} {j : Nat}
theorem aDV (hf:∀ q∈ps,(f q).length=sz) (hj:ps[j]?=some q) {k:Nat} (hk:k<sz):(ps.flatMap f)[j*sz+k]?=(f q)[k]?:=by
 induction ps generalizing j with
 | nil=>cases hj
 | cons a ps ih =>
  have ha:=hf a (by simp);rw[aIQ]
  cases j with
  | zero=>cases hj;rw[aKY,aLy,aID (by omega)]
  | succ j =>
   rw[aII (by rw[ha,aJg];omega),<-ih (fun q hq=>hf q (by simp[hq])) (by simpa using hj),ha];congr 1;rw[aJg];omega
theorem cQ (hf:∀ q∈ps,(f q).length=sz):(ps.flatMap f).length=ps.length*sz:=oQ ps hf
theorem aFS (hf:∀ q∈ps,(f q).length=sz) (hj:ps[j]?=some q) {k:Nat} (hk:k<sz) {v:Value} (h:f q'=(f q).set k v):(ps.flatMap f).set (j*sz+k) v=(ps.set j q').flatMap f:=by
 induction ps generalizing j with
 | nil=>cases hj
 | cons a ps ih =>
  have ha:=hf a (by simp);rw[aIQ]
  cases j with
  | zero=>cases hj;rw[aKY,aLy,aJX _ _ (by omega),List.set_cons_zero,aIQ,h]
  | succ j =>
   rw[aJm _ _ (by rw[ha,aJg];omega),aKZ,aIQ,<-ih (fun q hq=>hf q (by simp[hq])) (by simpa using hj),ha];congr 2;rw[aJg];omega
theorem aFW (hf:∀ q∈ps,(f q).length=sz) (hj:ps[j]?=some q) (h:(f q').length=sz):jQ (ps.flatMap f) (j*sz) (f q')=(ps.set j q').flatMap f:=by
 induction ps generalizing j with
 | nil=>cases hj
 | cons a ps ih =>
  have ha:=hf a (by simp);rw[aIQ]
  cases j with
  | zero=>cases hj;simp[jQ,h,<-ha]
  | succ j =>
   have:=ih (fun q hq=>hf q (by simp[hq])) (j:=j) (by simpa using hj);rw[aKZ,aIQ,<-this];unfold jQ;have e1:(j+1)*sz=sz+j*sz:=by rw[aJg];omega
   rw[e1,aFr _ _ ha,show sz+j*sz+(f q').length=sz+(j*sz+(f q').length) by omega,aFg _ _ ha];simp only[aIK]
structure El (w:World) (z:Sl) (sz:Nat) (b j:Nat) (cs:List Value):Prop where
 p:z.p=some ⟨b,0,none⟩
 n:j<z.n
 ix:ix z (j:Int) sz=some ⟨b,j*sz,none⟩
 at_:∀ (k:Nat) (v:Value),cs[k]?=some v->w.cell? ⟨b,j*sz+k,none⟩=some v
 ldA:ldA sz w ⟨b,j*sz,none⟩ 0=some cs
theorem Hp.el (H:Hp F0 g0 w0 g w (owR T sz z (ps.flatMap f)::L)) (hf:∀ q∈ps,(f q).length=sz) (hs:0<sz) (hj:ps[j]?=some q):∃ b,El w z sz b j (f q):=by
 have ho:=H.ow;have hl:=ho.len;rw[cQ hf] at hl;have hjl:j<ps.length:=(aIt.1 hj).1;have hn:ps.length=z.n:=Nat.eq_of_mul_eq_mul_right hs hl;obtain⟨b,rest,hp,hB,hr⟩:=ho.at_ (by omega);have hql:(f q).length=sz:=hf q (aIF hj);have hle:j*sz+sz<=ps.length*sz:=by rw[<-aJg];exact aIJ _ hjl
 have hc:∀ (k:Nat) (v:Value),(f q)[k]?=some v->w.cell? ⟨b,j*sz+k,none⟩=some v:=fun k v hv=>by
  have hk:k<sz:=by have:=(aIt.1 hv).1;omega
  rw[pL hB,aID (by rw[cQ hf];omega),aDV hf hj hk,hv]
 refine⟨b,hp,by omega,?_,hc,oY sz w _ 0 (f q) hql fun k v hv=>?_⟩
 .unfold Go.Proofs.Ytejkaciimmfgcaa.D.ix;rw[hp,aLx,if_pos ⟨by omega,by omega⟩,aD];simp
 rw[aD,aLy];exact hc k v hv
theorem El.i {b:Nat} {cs:List Value} (h:El w z sz b j cs) {k:Nat} {kk:IntKind} {x:Int} (hx:cs[k]?=some (.int kk x)):ldI kk w ⟨b,j*sz+k,none⟩=some x:=kZ (h.at_ k _ hx)
theorem El.l {b:Nat} {cs:List Value} (h:El w z sz b j cs) {k:Nat} {x:Sl} (hx:cs[k]?=some x.v):ldL w ⟨b,j*sz+k,none⟩=some x:=rO (h.at_ k _ hx)
theorem Hp.elset (H:Hp F0 g0 w0 g w (owR T sz z (ps.flatMap f)::L)) (hf:∀ q∈ps,(f q).length=sz) {b:Nat} (he:El w z sz b j (f q)) (hj:ps[j]?=some q) {k:Nat} (hk:k<sz) {v:Value} (h:f q'=(f q).set k v) (h1:v.oneCell'=true) :
  ∃ w',D.stV w ⟨b,j*sz+k,none⟩ v=some w'/\Hp F0 g0 w0 g w' (owR T sz z ((ps.set j q').flatMap f)::L)/\Mo g w g w':=by
 have hjl:j<ps.length:=(aIt.1 hj).1;have hle:j*sz+sz<=ps.length*sz:=by rw[<-aJg];exact aIJ _ hjl
 obtain⟨w',e,H',m⟩:=H.oset (o:=j*sz+k) (x:=v) he.p (by have:=he.n;omega) (by rw[cQ hf];omega) h1;rw[aFS hf hj hk h] at H';exact⟨w',e,H',m⟩
theorem Hp.elput (H:Hp F0 g0 w0 g w (owR T sz z (ps.flatMap f)::L)) (hf:∀ q∈ps,(f q).length=sz) {b:Nat} {cs:List Value} (he:El w z sz b j cs) (hj:ps[j]?=some q) (h:(f q').length=sz) (h1:∀ v∈f q',v.oneCell'=true) :
  ∃ w',D.stA w ⟨b,j*sz,none⟩ 0 (f q')=some w'/\Hp F0 g0 w0 g w' (owR T sz z ((ps.set j q').flatMap f)::L)/\Mo g w g w':=by
 have hjl:j<ps.length:=(aIt.1 hj).1;have hle:j*sz+sz<=ps.length*sz:=by rw[<-aJg];exact aIJ _ hjl
 obtain⟨w',e,H',m⟩:=H.osetA (o:=j*sz) (vs:=f q') he.p (by have:=he.n;omega) (by rw[cQ hf,h];omega) h1;rw[aFW hf hj h] at H';exact⟨w',e,H',m⟩
end
theorem zP {x y:Sg}:∀ {l:List Sg},y∈qC x l->y=x\/y∈l
 | [],h=>.inl (by simpa[qC] using h)
 | a::l,h=>by
  unfold qC at h;split at h
  .rcases aJI.1 h with rfl | h
   .exact .inr (by simp)
   exact(zP h).imp id (fun h=>by simp[h])
  rcases aJI.1 h with rfl | h
  .exact .inl rfl
  exact .inr h
theorem zU {x:Sg}:∀ {l:List Sg},(qC x l).length=l.length+1
 | []=>rfl
 | a::l=>by
  unfold qC;split
  .simp[zU]
  simp
theorem aDd {x y:Sg} {l:List Sg} (h:y∈jM l x):y=x\/y∈l:=by
 unfold jM at h;exact(zP (List.mem_reverse.1 h)).imp id (fun h=>List.mem_reverse.1 h)
theorem aDI {x:Sg} {l:List Sg}:(jM l x).length=l.length+1:=by simp[jM,zU]
theorem mX {y:Sg}:∀ {us l:List Sg},y∈us.foldl jM l->y∈us\/y∈l
 | [],l,h=>.inr h
 | a::us,l,h=>by
  rcases mX (us:=us) h with h | h
  .exact .inl (by simp[h])
  rcases aDd h with rfl | h
  .exact .inl (by simp)
  exact .inr h
theorem nT:∀ {us l:List Sg},(us.foldl jM l).length=us.length+l.length
 | [],l=>by simp
 | a::us,l=>by rw[aJn,nT,aDI,aIH];omega
def sgN (s:Sg):List Value:=sgC s Sl.nil
theorem mH {s:Sg} {z:Sl}:∀ v∈sgC s z,v.oneCell'=true:=by intro v hv;simp[sgC] at hv;rcases hv with rfl | rfl | rfl | rfl | rfl<;>rfl
section
variable {F0 : Nat -> Prop} {g g0 g' : Gh} {w w0 w' : World} {L : List Rs} {z : Sl} {us : List Sg}
theorem aFJ (H:Hp F0 g0 w0 g w L) {a b:Sg} (ha:0<=a.seq/\a.seq<=4611686018427387904) (hb:0<=b.seq/\b.seq<=4611686018427387904) :
  ∃ w',kL (sgN a) (sgN b) w=some (a.seq-b.seq,w')/\Hp F0 g0 w0 g w' L/\Mo g w g w':=by
 obtain⟨p1,w1,e1,H1,m1⟩:=H.box (T:=125) (cs:=sgN a);obtain⟨p2,w2,e2,H2,m2⟩:=H1.box (T:=125) (cs:=sgN b);have l1:ldI .i64 w2 ⟨p1,1,none⟩=some a.seq:=H2.sw.ldI rfl;have l2:ldI .i64 w2 ⟨p2,1,none⟩=some b.seq:=H2.ldI rfl;refine⟨w2,?_,H2.tl.tl,m1.t m2⟩;unfold kL;rw[e1,aE,e2,aE,aD,aLy,l1,aLx,aD,aLy,l2,aLx,iD (by omega) (by omega)]
theorem oV:∀ q∈us,(sgN q).length=5:=fun _ _=>rfl
theorem aES {R M S:List Sg} {x:Sg}:(R.reverse++x::M++S)[R.length]?=some x:=by
 rw[aIK,aII (by simp),aKx,aKd];rfl
theorem aAc {S:List Sg} {x:Sg} (hx:0<=x.seq/\x.seq<=4611686018427387904) (hS:z.n<=1000):∀ (R M:List Sg) (w:World),(∀ y∈R,0<=y.seq/\y.seq<=4611686018427387904) ->
  Hp F0 g0 w0 g w (owR 125 5 z ((R.reverse++x::M++S).flatMap sgN)::L) ->
  ∃ w',bM (fun s:Int×World=>bC 0 z s.1 s.2) ((R.length:Int),w)=some w'/\Hp F0 g0 w0 g w' (owR 125 5 z (((qC x R).reverse++M++S).flatMap sgN)::L)/\Mo g w g w'
 | [],M,w,hR,H=>by
  obtain⟨w1,e1,H1,m1⟩:=H.dr;refine⟨w1,bS ?_,H1,m1⟩;unfold bC;simp only[aIS,e1,aLx];rw[if_neg (by simp),aE,if_neg (by simp)]
 | y::R,M,w,hR,H=>by
  obtain⟨w1,e1,H1,m1⟩:=H.dr;have hy:=hR y (by simp);have gx:((y::R).reverse++x::M++S)[R.length+1]?=some x:=aES (R:=y::R);have gy:((y::R).reverse++x::M++S)[R.length]?=some y:=by
   rw[aKb,aIK,aIK,aII (by simp),aKx,aKd];rfl
  obtain⟨b,ex⟩:=H1.el oV (by decide) gx;obtain⟨b',ey⟩:=H1.el oV (by decide) gy;have hbb:=ex.p.symm.trans ey.p;simp only[Option.some.injEq,Addr.mk.injEq,and_true] at hbb;subst hbb;have hxn:=ex.n;have i1:ix z (((R.length+1:Nat):Int)) 5=some ⟨b,(R.length+1)*5,none⟩:=ex.ix;have i2:ix z (IntKind.wrap .i64 (((R.length+1:Nat):Int)-1)) 5=some ⟨b,R.length*5,none⟩:=by rw[show IntKind.wrap .i64 (((R.length+1:Nat):Int)-1)=(R.length:Int) by rw[iD (by omega) (by omega)];omega];exact ey.ix
  obtain⟨w2,e2,H2,m2⟩:=aFJ H1 hx hy;by_cases hlt:x.seq<y.seq
  .obtain⟨w3,e3,H3,m3⟩:=H2.dr;obtain⟨_,ex3⟩:=H3.el oV (by decide) gx;obtain⟨_,ey3⟩:=H3.el oV (by decide) gy;have hb1:=ex.p.symm.trans ex3.p;simp only[Option.some.injEq,Addr.mk.injEq,and_true] at hb1;subst hb1;have hb2:=ex.p.symm.trans ey3.p;simp only[Option.some.injEq,Addr.mk.injEq,and_true] at hb2;subst hb2;obtain⟨w4,e4,H4,m4⟩:=H3.elput (q':=y) oV ex3 gx rfl mH;have gy4:(((y::R).reverse++x::M++S).set (R.length+1) y)[R.length]?=some y:=by rw[aKu (by omega)];exact gy
   obtain⟨_,ey4⟩:=H4.el oV (by decide) gy4;have hb3:=ex.p.symm.trans ey4.p;simp only[Option.some.injEq,Addr.mk.injEq,and_true] at hb3;subst hb3;obtain⟨w5,e5,H5,m5⟩:=H4.elput (q':=x) oV ey4 gy4 rfl mH;have hset:(((y::R).reverse++x::M++S).set (R.length+1) y).set R.length x=R.reverse++x::(y::M)++S:=by
    rw[aKb,aIK,aIK,aJm _ _ (by simp),aJm _ _ (by simp)];simp
   rw[hset] at H5;obtain⟨w6,e6,H6,m6⟩:=aAc hx hS R (y::M) w5 (fun q hq=>hR q (by simp[hq])) H5;refine⟨w6,?_,?_,m1.t (m2.t (m3.t (m4.t (m5.t m6))))⟩
   .rw[<-e6];refine cH ?_;unfold bC;simp only[aIH,e1,aLx];rw[if_pos (by simp)];simp only[i1,i2,aLx,ex.ldA,ey.ldA,e2,aE];rw[if_pos (by simp;omega)];simp only[e3,aLx,ey3.ldA,ex3.ldA,e4,e5];rw[show IntKind.wrap .i64 (((R.length+1:Nat):Int)-1)=(R.length:Int) by rw[iD (by omega) (by omega)];omega]
   rw[qC,if_pos hlt];have:(y::qC x R).reverse++M++S=(qC x R).reverse++(y::M)++S:=by simp
   rw[this];exact H6
  refine⟨w2,bS ?_,?_,m1.t m2⟩
  .unfold bC;simp only[aIH,e1,aLx];rw[if_pos (by simp)];simp only[i1,i2,aLx,ex.ldA,ey.ldA,e2,aE];rw[if_neg (by simp;omega)]
  rw[qC,if_neg hlt];have:(x::y::R).reverse++M++S=(y::R).reverse++x::M++S:=by simp
  rw[this];exact H2
theorem aAv (hs:∀ y∈us,0<=y.seq/\y.seq<=4611686018427387904) (hn:us.length=z.n) (hz:z.n<=16):∀ (m i:Nat) (w:World),m+i=us.length ->
  Hp F0 g0 w0 g w (owR 125 5 z (((us.take i).foldl jM []++us.drop i).flatMap sgN)::L) ->
  ∃ w',bM (fun s:Int×World=>aY (z.n:Int) 0 z s.1 s.2) ((i:Int),w)=some w'/\Hp F0 g0 w0 g w' (owR 125 5 z ((us.foldl jM []).flatMap sgN)::L)/\Mo g w g w'
 | 0,i,w,hm,H=>by
  refine⟨w,bS ?_,?_,Mo.r⟩
  .unfold aY;rw[if_neg (by simp;omega)]
  rwa[aIB (by omega),aIU (by omega),aKa] at H
 | m+1,i,w,hm,H=>by
  have hi:i<us.length:=by omega
  obtain⟨R,hR⟩:∃ R,(us.take i).foldl jM []=List.reverse R:=⟨((us.take i).foldl jM []).reverse,by simp⟩;have hRl:R.length=i:=by have:=congrArg List.length hR;rw[nT] at this;simp at this;omega
  have hRm:∀ y∈R,y∈us:=fun y hy=>by
   have:y∈(us.take i).foldl jM []:=by rw[hR];simpa using hy
   rcases mX this with h | h
   .exact aJh h
   cases h
  have hd:us.drop i=us[i]::us.drop (i+1):=aJa hi;rw[hR,hd] at H;have H':Hp F0 g0 w0 g w (owR 125 5 z ((R.reverse++us[i]::[]++us.drop (i+1)).flatMap sgN)::L):=by simpa using H
  obtain⟨w1,e1,H1,m1⟩:=aAc (hs _ (aJy hi)) (by omega) R [] w (fun y hy=>hs y (hRm y hy)) H';have ht:(us.take (i+1)).foldl jM []=(qC us[i] R).reverse:=by
   rw[aJD hi,aLb,hR];simp[jM]
  have H1':Hp F0 g0 w0 g w1 (owR 125 5 z (((us.take (i+1)).foldl jM []++us.drop (i+1)).flatMap sgN)::L):=by rw[ht];simpa using H1
  obtain⟨w2,e2,H2,m2⟩:=aAv hs hn hz m (i+1) w1 (by omega) H1';refine⟨w2,?_,H2,m1.t m2⟩;rw[<-e2];refine cH ?_;unfold aY;rw[hRl] at e1;rw[if_pos (by simp;omega),e1,aLx,cC (by omega)]
theorem aEx (hs:∀ y∈us,0<=y.seq/\y.seq<=4611686018427387904) (hz:us.length<=16) (H:Hp F0 g0 w0 g w (owR 125 5 z (us.flatMap sgN)::L)) :
  ∃ w',bQ z w=some w'/\Hp F0 g0 w0 g w' (owR 125 5 z ((us.foldl jM []).flatMap sgN)::L)/\Mo g w g w':=by
 have hn:us.length=z.n:=by have:=H.ow.len;rw[cQ oV] at this;omega
 have main:∃ w',bM (fun s:Int×World=>aY (z.n:Int) 0 z s.1 s.2) ((1:Int),w)=some w'/\Hp F0 g0 w0 g w' (owR 125 5 z ((us.foldl jM []).flatMap sgN)::L)/\Mo g w g w':=by
  rcases us with _ | ⟨u,us⟩
  .refine⟨w,bS ?_,H,Mo.r⟩;unfold aY;rw[if_neg (by simp at hn ⊢;omega)]
  exact aAv hs hn (by omega) us.length 1 w (by simp) (by simpa[jM,qC] using H)
 obtain⟨w1,e1,H1,m1⟩:=main;have l1:bM (fun s:Int×Int×World=>cI (z.n:Int) z s.1 s.2.1 s.2.2) (0,20,w)=some (0,w):=bS (by
  unfold cI;rw[if_neg (by simp;omega)])
 have l2:bM (fun s:Int×World=>cK (z.n:Int) s.1 s.2) (20,w1)=some w1:=bS (by
  unfold cK;rw[if_neg (by simp;omega)])
 refine⟨w1,?_,H1,m1⟩;unfold bQ dY cA;rw[l1,aE,show IntKind.wrap .i64 (0+1)=1 by rw[aIy];rfl,e1,aLx,aLx,l2,aLx,aLx]
end
theorem tO:ST Try.prog 74 87 2 32 [.int .i64 0,.slice none 0 0]:=⟨Try.underlying74,⟨Try.t87,.agg #[.int .i64 0,.slice none 0 0],by kernel_rfl,by kernel_rfl,rfl,rfl,rfl⟩,rfl,by decide,by decide⟩
theorem aDP:ST Try.prog 117 125 5 56 sg0:=⟨Try.underlying117,⟨Try.t125,Value.agg sg0.toArray,by kernel_rfl,by kernel_rfl,rfl,rfl,rfl⟩,rfl,by decide,by decide⟩
def lgC (x c:Nat) (base segs age high rel:Int) (s:Sl):List Value:=[.pointer (some ⟨x,0,none⟩),.pointer (some ⟨c,0,none⟩),.int .i64 base,.int .i64 segs,.int .i64 age,.int .i64 high,.int .i64 rel,s.v]
def sgF (q:Sg×Sl):List Value:=sgC q.1 q.2
def rcF (r:Int×Sl):List Value:=rcC r.1 r.2
theorem gX {t:Int} {z:Sl}:∀ v∈rcC t z,v.oneCell'=true:=by intro v hv;simp[rcC] at hv;rcases hv with rfl | rfl<;>rfl
def RZ (g:Gh) (w:World) (rz:List (Int×Sl)) (rs:List (Int×List Int)):Prop:=rz.length=rs.length/\∀ (j:Nat) (r:Int×Sl) (q:Int×List Int),rz[j]?=some r->rs[j]?=some q->r.1=q.1/\PR g w r.2 1 (nums .u8 q.2)
theorem RZ.mo {g g':Gh} {w w':World} {rz:List (Int×Sl)} {rs:List (Int×List Int)} (h:RZ g w rz rs) (m:Mo g w g' w'):RZ g' w' rz rs:=⟨h.1,fun j r q hr hq=>⟨(h.2 j r q hr hq).1,(h.2 j r q hr hq).2.mo m⟩⟩
theorem RZ.nil {g:Gh} {w:World}:RZ g w [] []:=⟨rfl,fun j r q hr=>by simp at hr⟩
theorem RZ.snoc {g:Gh} {w:World} {rz:List (Int×Sl)} {rs:List (Int×List Int)} (h:RZ g w rz rs) {t:Int} {z:Sl} {b:List Int} (hz:PR g w z 1 (nums .u8 b)):RZ g w (rz++[(t,z)]) (rs++[(t,b)]):=by
 refine⟨by simp[h.1],fun j r q hr hq=>?_⟩;by_cases hj:j<rz.length
 .rw[aID hj] at hr;rw[aID (by rw[<-h.1];exact hj)] at hq;exact h.2 j r q hr hq
 rw[aII (by omega)] at hr;rw[aII (by rw[<-h.1];omega)] at hq;have h0:j-rz.length=0:=by have:=(aIt.1 hr).1;simp at this;omega
 rw[h0] at hr;rw[<-h.1,h0] at hq;simp at hr hq;subst hr;subst hq;exact⟨rfl,hz⟩
theorem rR {D:Dk} {base pos:Int}:∀ {m:Nat} {i want:Int} {all:List Int} {r:Int×List Int×Int},D.rcd base pos m i want all=some r->i+1<=r.2.2/\r.2.2<=i+m
 | 0,_,_,_,_,h=>by cases h
 | m+1,i,want,all,r,h=>by
  unfold Dk.rcd at h;split at h
  .split at h
   .split at h
    .cases h
    cases h;simp only;omega
   have:=rR h;omega
  cases h
section
variable {F0 : Nat -> Prop} {g0 : Gh} {w0 : World} {L : List Rs} {s : Sl} {x c p b j : Nat} {D : Dk} {base pos segs age rel : Int}
theorem dL {ps:List (Sg×Sl)}:∀ q∈ps,(sgF q).length=5:=fun _ _=>rfl
theorem jP {rz:List (Int×Sl)}:∀ q∈rz,(rcF q).length=2:=fun _ _=>rfl
theorem qR {h:Int} (h0:0<=base) (h1:base<=512):LC (lgC x c base segs age h rel s) x base:=⟨rfl,rfl,h0,h1⟩
theorem aEq (hb0:0<=base) (hb1:base<=512) (hpos:0<=pos/\pos<=16) (hbt:D.Bt) (hbd:D.W.length<900000) (hsp:s.p=some ⟨b,0,none⟩) {Φ:World->Prop} :
  ∀ (m:Nat) (ps:List (Sg×Sl)) (q:Sg×Sl) (rz:List (Int×Sl)) (h:Int) (g:Gh) (w:World),(16:Int)<=m+q.1.fin->1<=q.1.fin->q.1.fin<=16->0<=h->ps[j]?=some q->q.1.pos=pos->RZ g w rz q.1.recs->(rz.length:Int)<q.1.fin ->
  Hp F0 g0 w0 g w (lbR p (lgC x c base segs age h rel s)::dkR x D::owR 125 5 s (ps.flatMap sgF)::owR 87 2 q.2 (rz.flatMap rcF)::L) ->
  (∀ g' w' z' rz',Hp F0 g0 w0 g' w' (lbR p (lgC x c base segs age (D.seg base pos m q.1.fin h q.1.recs).2.1 rel s)::dkR x D::owR 125 5 s ((ps.set j (⟨q.1.pos,q.1.seq,(D.seg base pos m q.1.fin h q.1.recs).1,q.1.high,(D.seg base pos m q.1.fin h q.1.recs).2.2⟩,z')).flatMap sgF)::owR 87 2 z' (rz'.flatMap rcF)::L) ->
   Mo g w g' w'->RZ g' w' rz' (D.seg base pos m q.1.fin h q.1.recs).2.2->Φ w') ->
  (fB (fun s:World=>iU ⟨b,j*5,none⟩ (some ⟨p,0,none⟩) s) w).t Φ:=by
 intro m
 induction m with
 | zero =>
  intro ps q rz h g w hm h1 h16 hh hj hq hz hzl H hΦ;have he:q.1.fin=16:=by omega
  have hset:ps.set j (⟨q.1.pos,q.1.seq,q.1.fin,q.1.high,q.1.recs⟩,q.2)=ps:=by
   obtain⟨hjl,hj'⟩:=aIt.1 hj;have:ps.set j ps[j]=ps:=aKo hjl;rw[hj'] at this;exact this
  have rd:∀ {g1:Gh} {w1:World} {L':List Rs},Hp F0 g0 w0 g1 w1 (owR 125 5 s (ps.flatMap sgF)::L')->ldI .i64 w1 ⟨b,j*5+0,none⟩=some pos/\ldI .i64 w1 ⟨b,j*5+2,none⟩=some q.1.fin:=fun Hs=>by
   obtain⟨b',e⟩:=Hs.el dL (by decide) hj;have hbb:=hsp.symm.trans e.p;simp only[Option.some.injEq,Addr.mk.injEq,and_true] at hbb;subst hbb;exact⟨e.i (k:=0) (by rw[<-hq];rfl),e.i (k:=2) rfl⟩
  obtain⟨w1,e1,H1,m1⟩:=H.dr;obtain⟨r1,r2⟩:=rd H1.m2;have hrc:∀ {vs:List Value} {nx:Int} {ok:Bool} {g1:Gh} {w1:World},tZ g1 w1 rN (D.rcd base pos (16-q.1.fin).toNat q.1.fin 2 []) vs nx ok->ok=false:=fun hr=>by
   rw[he] at hr;exact hr.2
  refine Nd.next ?_
  unfold iU;refine Nd.j4 (Ψ:=fun r=>r.2.2.1=false/\∃ g',Hp F0 g0 w0 g' r.2.2.2 (lbR p (lgC x c base segs age h rel s)::dkR x D::owR 125 5 s (ps.flatMap sgF)::owR 87 2 q.2 (rz.flatMap rcF)::L)/\Mo g w g' r.2.2.2) (Nd.b1 e1 (Nd.b1 (by rw[aD];exact r1) (Nd.b1 (by rw[aD];exact r2) (Nd.both ?_ ?_)))) ?_
  .obtain⟨vs,nx,ok,g2,w2,e2,H2,m2,hr⟩:=rY (qR hb0 hb1) hpos H1 hbt hbd ⟨by omega,h16⟩;obtain⟨t,z,rfl⟩:=hr.1;obtain⟨pb,w3,e3,H3,m3⟩:=H2.box (T:=87) (cs:=rcC 0 Sl.nil);obtain⟨w4,e4,H4,m4,l4⟩:=H3.stA' (vs:=rcC t z) rfl gX;exact Nd.b4 e2 (Nd.b2 e3 (Nd.b1 e4 (Nd.ck rfl (Nd.ret ⟨hrc hr,g2,H4.tl,m1.t (m2.t (m3.t m4))⟩))))
  .obtain⟨pb,w3,e3,H3,m3⟩:=H1.box (T:=87) (cs:=rcC 0 Sl.nil);obtain⟨vs,nx,ok,g2,w2,e2,H2,m2,hr⟩:=rY (qR hb0 hb1) hpos H3.b2 hbt hbd ⟨by omega,h16⟩;obtain⟨t,z,rfl⟩:=hr.1;obtain⟨w4,e4,H4,m4,l4⟩:=H2.m2.stA' (vs:=rcC t z) rfl gX;obtain⟨k1,k2⟩:=rd H3.m3;exact Nd.b2 e3 (Nd.b4 e2 (Nd.b1 e4 (Nd.ck rfl (Nd.ck (by rw[aD];exact k1) (Nd.ck (by rw[aD];exact k2) (Nd.ret ⟨hrc hr,g2,H4.tl,m1.t (m3.t (m2.t m4))⟩))))))
  rintro pv nx ok w5 ⟨hok,g5,H5,m5⟩;simp only at hok H5 m5;obtain⟨w6,e6,H6,m6⟩:=H5.dr;refine Nd.j2 (Ψ:=fun r=>r=(true,w6)) (Nd.b1 e6 (Nd.t (by rw[hok];rfl) (Nd.ret rfl))) ?_;rintro _ _ he2;cases he2;refine Nd.t rfl (Nd.ret (hΦ g5 w6 q.2 rz ?_ (m5.t m6) (hz.mo (m5.t m6))));simp only[Dk.seg];rw[hset];exact H6
 | succ m ih =>
  intro ps q rz h g w hm h1 h16 hh hj hq hz hzl H hΦ;have hset:ps.set j (⟨q.1.pos,q.1.seq,q.1.fin,q.1.high,q.1.recs⟩,q.2)=ps:=by
   obtain⟨hjl,hj'⟩:=aIt.1 hj;have:ps.set j ps[j]=ps:=aKo hjl;rw[hj'] at this;exact this
  have rd:∀ {g1:Gh} {w1:World} {L':List Rs} {ps:List (Sg×Sl)} {q:Sg×Sl},ps[j]?=some q->Hp F0 g0 w0 g1 w1 (owR 125 5 s (ps.flatMap sgF)::L')->El w1 s 5 b j (sgF q):=fun hj Hs=>by
   obtain⟨b',e⟩:=Hs.el dL (by decide) hj;have hbb:=hsp.symm.trans e.p;simp only[Option.some.injEq,Addr.mk.injEq,and_true] at hbb;subst hbb;exact e
  obtain⟨w1,e1,H1,m1⟩:=H.dr;have el1:=rd hj H1.m2;have r1:ldI .i64 w1 ⟨b,j*5+0,none⟩=some pos:=el1.i (by rw[<-hq];rfl);have r2:ldI .i64 w1 ⟨b,j*5+2,none⟩=some q.1.fin:=el1.i rfl;obtain⟨o,ho⟩:∃ o,D.rcd base pos (16-q.1.fin).toNat q.1.fin 2 []=o:=⟨_,rfl⟩;refine Nd.next ?_
  unfold iU;refine Nd.j4 (Ψ:=fun r=>∃ pb vs g',r.1=⟨pb,0,none⟩/\tZ g' r.2.2.2 rN o vs r.2.1 r.2.2.1/\Hp F0 g0 w0 g' r.2.2.2 (bxR pb vs 87::lbR p (lgC x c base segs age h rel s)::dkR x D::owR 125 5 s (ps.flatMap sgF)::owR 87 2 q.2 (rz.flatMap rcF)::L)/\Mo g w g' r.2.2.2) (Nd.b1 e1 (Nd.b1 (by rw[aD];exact r1) (Nd.b1 (by rw[aD];exact r2) (Nd.both ?_ ?_)))) ?_
  .obtain⟨vs,nx,ok,g2,w2,e2,H2,m2,hr⟩:=rY (qR hb0 hb1) hpos H1 hbt hbd ⟨by omega,h16⟩;rw[ho] at hr;obtain⟨t,z,hv⟩:=hr.1;obtain⟨pb,w3,e3,H3,m3⟩:=H2.box (T:=87) (cs:=rcC 0 Sl.nil);obtain⟨w4,e4,H4,m4,l4⟩:=H3.stA' (vs:=vs) (by rw[hv];rfl) (by rw[hv];exact gX);exact Nd.b4 e2 (Nd.b2 e3 (Nd.b1 e4 (Nd.ck (by rw[hv];rfl) (Nd.ret ⟨pb,vs,g2,rfl,hr.mo (m3.t m4),H4,m1.t (m2.t (m3.t m4))⟩))))
  .obtain⟨pb,w3,e3,H3,m3⟩:=H1.box (T:=87) (cs:=rcC 0 Sl.nil);obtain⟨vs,nx,ok,g2,w2,e2,H2,m2,hr⟩:=rY (qR hb0 hb1) hpos H3.b2 hbt hbd ⟨by omega,h16⟩;rw[ho] at hr;obtain⟨t,z,hv⟩:=hr.1;obtain⟨w4,e4,H4,m4,l4⟩:=H2.m2.stA' (vs:=vs) (by rw[hv];rfl) (by rw[hv];exact gX);have el3:=rd hj H3.m3;exact Nd.b2 e3 (Nd.b4 e2 (Nd.b1 e4 (Nd.ck (by rw[hv];rfl) (Nd.ck (by rw[aD];exact el3.i (by rw[<-hq];rfl)) (Nd.ck (by rw[aD];exact el3.i rfl) (Nd.ret ⟨pb,vs,g2,rfl,hr.mo m4,H4,m1.t (m3.t (m2.t m4))⟩))))))
  rintro pv nx ok w5 ⟨pb,vs,g5,hpv,hr,H5,m5⟩;simp only at hpv hr H5 m5;subst hpv;obtain⟨w6,e6,H6,m6⟩:=H5.dr;have stop:D.seg base pos (m+1) q.1.fin h q.1.recs=(q.1.fin,h,q.1.recs)->Φ w6:=fun hs=>hΦ g5 w6 q.2 rz (by rw[hs];simp only;rw[hset];exact H6.tl) (m5.t m6) (by rw[hs];exact hz.mo (m5.t m6))
  cases o with
  | none =>
   have hok:ok=false:=hr.2;refine Nd.j2 (Ψ:=fun r=>r=(true,w6)) (Nd.b1 e6 (Nd.t (by rw[hok];rfl) (Nd.ret rfl))) ?_;rintro _ _ he2;cases he2;exact Nd.t rfl (Nd.ret (stop (by unfold Dk.seg;rw[ho])))
  | some r =>
   obtain⟨t,bd,n⟩:=r;obtain⟨hok,hr2⟩:=hr.2;simp only at hok hr2;by_cases hgo:h<t/\t<=1099511627776
   .have hok1:ok=true:=by rw[hok];simp[rN];omega
    obtain⟨hnx,z,rfl,rz6,-⟩:=hr2 hok1;have hnx:=hnx.symm;subst hnx;obtain⟨hn1,hn2⟩:=rR ho;simp only at hn1 hn2;have l6:ldI .i64 w6 ⟨pb,0,none⟩=some t:=H6.ldI rfl;have l6h:ldI .i64 w6 ⟨p,5,none⟩=some h:=H6.sw.ldI rfl;refine Nd.j2 (Ψ:=fun r=>r=(false,w6)) (Nd.b1 e6 (Nd.f (by rw[hok1];simp) (Nd.b1 (by rw[aD];exact l6) (Nd.s1 (Nd.b1 (by rw[aD];exact l6h) (Nd.ret (by rw[decide_eq_false (by omega)]))))))) ?_;rintro _ _ he2;cases he2;refine Nd.f (by simp) ?_;obtain⟨w7,e7,H7,m7⟩:=H6.dr;have el7:=rd hj H7.m3;have l7:ldA 2 w7 ⟨pb,0,none⟩ 0=some (rcC t z):=by rw[nK H7.bx (by exact aIv _)];rfl
    obtain⟨z8,w8,e8,n8,_,H8,m8⟩:=H7.bsl (T:=87) (sz:=2) (ps:=[rcC t z]) (by intro v hv;simp at hv;subst hv;rfl) (by simp);have el8:=rd hj H8.m4;have hrl:rz.length=q.2.n:=by have:=H8.tl.m4.ow.len;rw[cQ jP] at this;omega
    obtain⟨z9,w9,e9,n9,H9,m9⟩:=H8.tl.m4.apS tO H8.ow.rd (by intro v hv;simp at hv;exact gX v hv) (by rw[n8];simp;omega);have hfl:rz.flatMap rcF++[rcC t z].flatten=(rz++[(t,z)]).flatMap rcF:=by simp[rcF]
    rw[hfl] at H9;obtain⟨w10,e10,H10,m10⟩:=H9.m4.elset (q':=(q.1,z9)) dL (rd hj H9.m4) hj (k:=4) (by decide) (v:=z9.v) rfl rfl;have hj1:(ps.set j (q.1,z9))[j]?=some (q.1,z9):=by rw[aJp (aIt.1 hj).1]
    obtain⟨w11,e11,H11,m11⟩:=H10.dr;have l11:ldI .i64 w11 ⟨pb,0,none⟩=some t:=H11.m2.ldI rfl;obtain⟨w12,e12,H12,m12⟩:=H11.elset (q':=(⟨q.1.pos,q.1.seq,n,q.1.high,q.1.recs++[(t,bd)]⟩,z9)) dL (rd hj1 H11) hj1 (k:=2) (by decide) (v:=.int .i64 n) rfl rfl;rw[aLa] at H12;have l12:ldI .i64 w12 ⟨pb,0,none⟩=some t:=H12.m2.ldI rfl;obtain⟨w13,e13,H13,m13⟩:=H12.m3.stV (o:=5) (x:=.int .i64 t) (by simp[lgC]) rfl;have H13:Hp F0 g0 w0 g5 w13 (lbR p (lgC x c base segs age t rel s)::owR 125 5 s ((ps.set j (⟨q.1.pos,q.1.seq,n,q.1.high,q.1.recs++[(t,bd)]⟩,z9)).flatMap sgF)::owR 87 2 z9 ((rz++[(t,z)]).flatMap rcF)::bxR pb (rcC t z) 87::dkR x D::L):=H13;have l7s:ldL w7 ⟨b,j*5+4,none⟩=some q.2:=el7.l rfl;have l8s:ldL w8 ⟨b,j*5+4,none⟩=some q.2:=el8.l rfl;have mm:=m7.t (m8.t (m9.t (m10.t (m11.t (m12.t m13)))));refine Nd.b1 e7 (Nd.b1 (by rw[aD];exact l7s) (Nd.b1 l7 (Nd.b2 e8 (Nd.b2 e9 (Nd.b1 (by rw[aD];exact e10) (Nd.ck (by rw[aD];exact l8s) (Nd.b1 e11 (Nd.b1 (by rw[aD];exact l11) (Nd.b1 (by rw[aD];exact e12) (Nd.s1 (Nd.b1 (by rw[aD];exact e13) (Nd.ck (by rw[aD];exact l12) (Nd.ret ?_)))))))))))));have hj2:(ps.set j (⟨q.1.pos,q.1.seq,n,q.1.high,q.1.recs++[(t,bd)]⟩,z9))[j]?=some (⟨q.1.pos,q.1.seq,n,q.1.high,q.1.recs++[(t,bd)]⟩,z9):=by rw[aJp (aIt.1 hj).1]
    have hseg:D.seg base pos (m+1) q.1.fin h q.1.recs=D.seg base pos m n t (q.1.recs++[(t,bd)]):=by rw[Dk.seg,ho];simp only;rw[if_pos hgo]
    refine ih _ (⟨q.1.pos,q.1.seq,n,q.1.high,q.1.recs++[(t,bd)]⟩,z9) (rz++[(t,z)]) t g5 w13 (by simp only;omega) (by simp only;omega) (by simp only;omega) (by omega) hj2 hq ((hz.mo (m5.t (m6.t mm))).snoc (rz6.mo (m6.t mm))) (by simp;omega) H13.m3.tl.m3.sw fun g' w' z' rz' H' m' hz'=>?_;simp only at H' hz';rw[aLa] at H';exact hΦ g' w' z' rz' (by rw[hseg];exact H') (m5.t (m6.t (mm.t m'))) (by rw[hseg];exact hz')
   have hs:D.seg base pos (m+1) q.1.fin h q.1.recs=(q.1.fin,h,q.1.recs):=by unfold Dk.seg;rw[ho];simp only;rw[if_neg hgo]
   refine Nd.j2 (Ψ:=fun r=>r=(true,w6)) (Nd.b1 e6 ?_) ?_
   .cases hk:ok with
    | false=>exact Nd.t (by simp) (Nd.ret rfl)
    | true =>
     obtain⟨-,z,rfl,-,-⟩:=hr2 hk;have l6:ldI .i64 w6 ⟨pb,0,none⟩=some t:=H6.ldI rfl;have l6h:ldI .i64 w6 ⟨p,5,none⟩=some h:=H6.sw.ldI rfl;have ht:t<=1099511627776:=by rw[hk] at hok;have:=hok.symm;simp[rN] at this;exact this.2
     exact Nd.f (by simp) (Nd.b1 (by rw[aD];exact l6) (Nd.s1 (Nd.b1 (by rw[aD];exact l6h) (Nd.ret (by rw[decide_eq_true (by omega)])))))
   rintro _ _ he2;cases he2;exact Nd.t rfl (Nd.ret (stop hs))
end
theorem aGf {g g':Gh} {w w':World} (m:Mo g w g' w') {k:Nat} (hg:g k) {x:List Value×TypeId} (h:B w k=some x):B w' k=some x:=by
 have:=(m.keep k hg).2;unfold B at h ⊢;rw[this];exact h
structure Cp (g:Gh) (w:World) (c x:Nat) (base count:Int):Prop where
 per:g c
 at_:kV w c x base count
section
variable {F F0 : Nat -> Prop} {g g' g0 : Gh} {w w' w0 : World} {L : List Rs} {x y c : Nat} {D D' : Dk} {i m base count : Int} {b o : Sl} {bs : List Int}
theorem Cp.mo (h:Cp g w c x base count) (m:Mo g w g' w'):Cp g' w' c x base count:=⟨(m.keep _ h.per).1,aGf m h.per h.at_.blk,h.at_.b0,h.at_.b1,h.at_.n0,h.at_.n1⟩
theorem Hp.mget (H:Hp F0 g0 w0 g w (dkR x D::L)) (hc:Cp g w c x base count) (hb:D.Bt) (hbd:D.W.length<900000) (i:Int) :
  ∃ w',kM (some ⟨c,0,none⟩) i w=some ((D.get base count i).1,(D.get base count i).2,w')/\Hp F0 g0 w0 g w' (dkR x D::L)/\Mo g w g w':=by
 obtain⟨F,h⟩:=H.dk;obtain⟨w',e,f⟩:=aFP h hc.at_ hb hbd i;exact⟨w',e,H.old f,H.mold f⟩
theorem Hp.mput (H:Hp F0 g0 w0 g w (dkR x D::L)) (hc:Cp g w c x base count) (hb:D.Bt) (hbd:D.W.length<900000) (hsz:base+2*count<=D.S.length) (i v:Int) :
  ∃ w',jN (some ⟨c,0,none⟩) i v w=some ((D.put base count i v).1,w')/\Hp F0 g0 w0 g w' (dkR x (D.put base count i v).2::L)/\Mo g w g w':=by
 obtain⟨g',w',⟨rfl,e⟩,h2,m⟩:=H.up (r':=dkR x (D.put base count i v).2) (Ψ:=fun g' w'=>g'=g/\jN (some ⟨c,0,none⟩) i v w=some ((D.put base count i v).1,w')) fun F h hF=>by
  obtain⟨w',e,d,fr⟩:=aFT h.1 h.2 hc.at_ (fun hk=>hF _ hk hc.per) hb hbd hsz i v;exact⟨g,w',qE F w w',⟨rfl,e⟩,⟨d,fun k hk=>hk.elim (fun h'=>aIX (h.2 k h') fr.size) (fun h=>h.2)⟩,aFf hF H.lt fr,
   fun k hk=>hk.elim (fun h'=>⟨hF k h',.inl h'⟩) (fun h'=>⟨fun hg=>by have:=H.lt k hg;omega,.inr h'.1⟩)⟩
 exact⟨w',e,h2,m⟩
theorem Hp.mopen (H:Hp F0 g0 w0 g w (dkR x D::L)) (hi : -9223372036854775808<=count/\count<=9223372036854775807) (hm:nG D.S.length base count=true) :
  ∃ c g' w',oZ (some ⟨x,0,none⟩) base count w=some (some ⟨c,0,none⟩,0,w')/\Hp F0 g0 w0 g' w' (dkR x D::L)/\Mo g w g' w'/\Cp g' w' c x base count:=by
 obtain⟨F,h⟩:=H.dk;obtain⟨c,w',e,hc,hcn,f⟩:=aDD h hi hm;have n:Nw g w (fun k=>g k\/k=c) w':=⟨f _,fun k hk _=>⟨fun h=>h.elim id (fun h=>by omega),.inl⟩,⟨(f (fun _=>False)).size,fun k hk=>⟨.inl hk,(f (fun _=>False)).block k (H.lt k hk) id⟩⟩,
  fun k hk=>hk.elim (fun h'=>aIX (H.lt k h') (f (fun _=>False)).size) (fun h'=>by subst h';exact qW hc.blk)⟩
 exact⟨c,_,w',e,H.nw n,n.mo,.inr rfl,hc⟩
end
def RcL (g:Gh) (w:World) (z:Sl) (rs:List (Int×List Int)):Prop:=∃ rz,PR g w z 2 (rz.flatMap rcF)/\RZ g w rz rs
theorem RcL.mo {g g':Gh} {w w':World} {z:Sl} {rs:List (Int×List Int)} (h:RcL g w z rs) (m:Mo g w g' w'):RcL g' w' z rs:=by obtain⟨rz,h1,h2⟩:=h;exact⟨rz,h1.mo m,h2.mo m⟩
theorem RcL.nil {g:Gh} {w:World}:RcL g w Sl.nil []:=⟨[],PR.nil rfl,RZ.nil⟩
def uV (g:Gh) (w:World) (dz:List (Sg×Sl)):Prop:=∀ q∈dz,RcL g w q.2 q.1.recs
theorem uV.mo {g g':Gh} {w w':World} {dz:List (Sg×Sl)} (h:uV g w dz) (m:Mo g w g' w'):uV g' w' dz:=fun q hq=>(h q hq).mo m
theorem aDO (a b:Int):mxI a b=max a b:=by unfold mxI;split<;>omega
theorem sM {D:Dk} {base:Int} {n:Nat}:D.heads base (n+1)=D.heads base n++(nA (n:Int) (D.look base n 0)).toList:=by
 unfold Dk.heads;rw[List.range_succ,List.filterMap_append];simp only[List.filterMap_cons,List.filterMap_nil];cases nA (n:Int) (D.look base n 0)<;>rfl
theorem aAE {pos:Int} {b:List Int} {s:Sg} (h:nA pos b=some s):s.pos=pos/\1<=s.seq/\s.seq<=4611686018427387904/\s.fin=1/\0<=s.high/\s.high<=1099511627776/\s.recs=[]:=by
 unfold nA at h;split at h
 .rename_i hc;cases h;simp only[zM,hdC,aIz,decide_eq_true_eq] at hc;exact⟨rfl,hc.2.1.1.1,hc.2.1.1.2,rfl,hc.2.1.2,hc.2.2,rfl⟩
 cases h
theorem pC {D:Dk} {base:Int} {n:Nat} {s:Sg} (h:s∈D.heads base n):0<=s.pos/\s.pos<n/\1<=s.seq/\s.seq<=4611686018427387904/\s.fin=1/\0<=s.high/\s.high<=1099511627776/\s.recs=[]:=by
 obtain⟨k,hk,hs⟩:=List.mem_filterMap.1 h;obtain⟨h1,h2⟩:=aAE hs;have:=aIO.1 hk;exact⟨by omega,by omega,h2⟩
theorem qJ {D:Dk} {base:Int} {n:Nat}:(D.heads base n).length<=n:=by
 have:=List.length_filterMap_le (fun k:Nat=>nA (k:Int) (D.look base k 0)) (List.range n);rwa[aKq] at this
section
variable {F0 : Nat -> Prop} {g g0 : Gh} {w w0 : World} {L : List Rs} {s : Sl} {x c p b j : Nat} {D : Dk} {base pos segs age rel high : Int}
abbrev seR (s:Sl) (dz:List (Sg×Sl)):Rs:=owR 125 5 s (dz.flatMap sgF)
theorem aDu (hb0:0<=base) (hb1:base<=512) (hs0:0<=segs) (hs1:segs<=16) (hbt:D.Bt) (hbd:D.W.length<900000) {Φ:World->Prop}
  (H:Hp F0 g0 w0 g w (lbR p (lgC x c base segs age high rel Sl.nil)::dkR x D::L))
  (hΦ:∀ g' w' s',Hp F0 g0 w0 g' w' (lbR p (lgC x c base segs age high rel s')::dkR x D::owR 125 5 s' ((D.heads base segs.toNat).flatMap sgN)::L)->Mo g w g' w'->Φ w') :
  (fB (fun s:Int×World=>jZ segs (some ⟨p,0,none⟩) s.1 s.2) (0,w)).t Φ:=by
 refine Nd.loop (fun m st=>∃ (j:Nat) (g':Gh) (w':World) (s':Sl),st=((j:Int),w')/\m+j=segs.toNat/\Hp F0 g0 w0 g' w' (lbR p (lgC x c base segs age high rel s')::dkR x D::owR 125 5 s' ((D.heads base j).flatMap sgN)::L)/\Mo g w g' w') (fun m st hI=>?_) segs.toNat (0,w) ⟨0,g,w,Sl.nil,rfl,by omega,H.onil.b2,Mo.r⟩;obtain⟨j,g1,w1,s1,rfl,hm,H1,m1⟩:=hI;unfold jZ;by_cases hlt:(j:Int)<segs
 .obtain⟨g2,w2,e2,H2,m2⟩:=aCK (pos:=(j:Int)) (qR hb0 hb1) ⟨by omega,by omega⟩ H1 hbt hbd;obtain⟨o,ho⟩:∃ o,nA (j:Int) (D.look base j 0)=o:=⟨_,rfl⟩;rw[ho] at e2;obtain⟨vs,hv,hvl,hv1⟩:∃ vs:List Value,hdV o=vs/\vs.length=5/\∀ v∈vs,v.oneCell'=true:=⟨_,rfl,by cases o<;>rfl,by
   cases o with
   | none=>intro v hv;simp[hdV,sg0] at hv;rcases hv with rfl | rfl<;>rfl
   | some s=>exact mH⟩
  rw[hv] at e2;obtain⟨pb,w3,e3,H3,m3⟩:=H2.box (T:=125) (cs:=sg0);have e3':mk w2 125 (List.replicate 4 (.int .i64 0)++[.slice none 0 0])=some (⟨pb,0,none⟩,w3):=e3;obtain⟨w4,e4,H4,m4,l4⟩:=H3.stA' (vs:=vs) (by rw[hvl];rfl) hv1;have mm:=m1.t (m2.t (m3.t m4));have hsucc:=sM (D:=D) (base:=base) (n:=j);have hlen:=qJ (D:=D) (base:=base) (n:=j);rw[ho] at hsucc;refine Nd.t (by simpa using hlt) (Nd.j1 (Ψ:=fun w'=>∃ g' s',Hp F0 g0 w0 g' w' (lbR p (lgC x c base segs age high rel s')::dkR x D::owR 125 5 s' ((D.heads base (j+1)).flatMap sgN)::L)/\Mo g w g' w') (Nd.b3 e2 (Nd.b2 e3' (Nd.b1 e4 (Nd.ck hvl ?_)))) ?_)
  .cases o with
   | none =>
    refine Nd.f (by simp) (Nd.ret ⟨g2,s1,?_,mm⟩);rw[hsucc];simpa using H4.tl
   | some q =>
    have hv:sgC q Sl.nil=vs:=hv;subst hv;obtain⟨w5,e5,H5,m5⟩:=H4.dr;have l5:ldL w5 ⟨p,7,none⟩=some s1:=H5.sw.ldL rfl;have l5a:ldA 5 w5 ⟨pb,0,none⟩ 0=some (sgC q Sl.nil):=by rw[nK H5.bx (by exact aIv _)];rfl
    obtain⟨z6,w6,e6,n6,_,H6,m6⟩:=H5.bsl (T:=125) (sz:=5) (ps:=[sgC q Sl.nil]) (by intro v hv;simp at hv;subst hv;rfl) (by simp);have l6:ldL w6 ⟨p,7,none⟩=some s1:=H6.m2.ldL rfl;have hsn:(D.heads base j).length=s1.n:=by have:=H6.tl.m3.ow.len;rw[cQ oV] at this;omega
    obtain⟨z7,w7,e7,n7,H7,m7⟩:=H6.tl.m3.apS aDP H6.ow.rd (by intro v hv;simp at hv;exact mH v hv) (by rw[n6];simp;omega);have hfl:(D.heads base j).flatMap sgN++[sgC q Sl.nil].flatten=(D.heads base (j+1)).flatMap sgN:=by rw[hsucc];simp[sgN]
    rw[hfl] at H7;obtain⟨w8,e8,H8,m8⟩:=H7.m2.stV (o:=7) (x:=z7.v) (by simp[lgC]) rfl;have H8:Hp F0 g0 w0 g2 w8 (lbR p (lgC x c base segs age high rel z7)::owR 125 5 z7 ((D.heads base (j+1)).flatMap sgN)::bxR pb (sgC q Sl.nil) 125::dkR x D::L):=H8;exact Nd.t (by simp) (Nd.b1 e5 (Nd.s1 (Nd.b1 (by rw[aD];exact l5) (Nd.b1 l5a (Nd.b2 e6 (Nd.b2 e7 (Nd.b1 (by rw[aD];exact e8) (Nd.ck (by rw[aD];exact l6) (Nd.ret ⟨g2,z7,H8.m2.tl.m2.sw,mm.t (m5.t (m6.t (m7.t m8)))⟩)))))))))
  rintro w' ⟨g',s',H',m'⟩;exact Nd.ret ⟨m-1,by omega,j+1,g',w',s',by rw[cC (by omega)],by omega,H',m'⟩
 have hj:j=segs.toNat:=by omega
 subst hj;exact Nd.f (by simpa using hlt) (Nd.ret (hΦ g1 w1 s1 H1 m1))
theorem aAf {D:Dk} {base:Int}:∀ {us:List Sg} {h:Int} {ds:List Sg},(D.segs base us h ds).2.length=ds.length+us.length
 | [],_,_=>rfl
 | u::us,h,ds=>by rw[Dk.segs,aAf];simp;omega
theorem aAM (hb0:0<=base) (hb1:base<=512) (hbt:D.Bt) (hbd:D.W.length<900000) {Φ:World->Prop}:∀ (us:List Sg) (dz:List (Sg×Sl)) (h:Int) (g:Gh) (w:World),
  (∀ u∈us,0<=u.pos/\u.pos<=16/\u.fin=1/\u.recs=[])->0<=h->s.n<=16->uV g w dz ->
  Hp F0 g0 w0 g w (lbR p (lgC x c base segs age h rel s)::dkR x D::seR s (dz++us.map fun u=>(u,Sl.nil))::L) ->
  (∀ g' w' dz',Hp F0 g0 w0 g' w' (lbR p (lgC x c base segs age (D.segs base us h (dz.map Prod.fst)).1 rel s)::dkR x D::seR s dz'::L)->Mo g w g' w'->dz'.map Prod.fst=(D.segs base us h (dz.map Prod.fst)).2->uV g' w' dz'->Φ w') ->
  (fB (fun t:Int×World=>iT s (some ⟨p,0,none⟩) t.1 t.2) ((dz.length:Int),w)).t Φ
 | [],dz,h,g,w,hu,hh,hsn,hdz,H,hΦ=>by
  have hl:dz.length=s.n:=by have:=H.m2.ow.len;rw[cQ dL] at this;simp at this;omega
  refine Nd.next ?_
  unfold iT;refine Nd.f (by simp;omega) (Nd.ret (hΦ g w dz (by simpa[Dk.segs] using H) Mo.r rfl hdz))
 | u::us,dz,h,g,w,hu,hh,hsn,hdz,H,hΦ=>by
  obtain⟨hu1,hu2,hu3,hu4⟩:=hu u (by simp);have hl:dz.length+us.length+1=s.n:=by have:=H.m2.ow.len;rw[cQ dL] at this;simp at this;omega
  have hj:(dz++(u::us).map fun u=>(u,Sl.nil))[dz.length]?=some (u,Sl.nil):=by rw[aII (aIv _),aKd];rfl
  obtain⟨b,e0⟩:=H.m2.el dL (by decide) hj;have l0:ldL w ⟨p,7,none⟩=some s:=H.ldL rfl;obtain⟨w1,e1,H1,m1⟩:=H.dr;obtain⟨b',el1⟩:=H1.m2.el dL (by decide) hj;have hbb:=e0.p.symm.trans el1.p;simp only[Option.some.injEq,Addr.mk.injEq,and_true] at hbb;subst hbb;have l1:ldI .i64 w1 ⟨p,5,none⟩=some h:=H1.ldI rfl;have l1h:ldI .i64 w1 ⟨b,dz.length*5+3,none⟩=some u.high:=el1.i rfl;obtain⟨w2,e2,H2,m2⟩:=H1.stV (o:=5) (x:=.int .i64 (max h u.high)) (by simp[lgC]) rfl;have H2:Hp F0 g0 w0 g w2 (lbR p (lgC x c base segs age (max h u.high) rel s)::dkR x D::seR s (dz++(u::us).map fun u=>(u,Sl.nil))::L):=H2;refine Nd.next ?_
  unfold iT;refine Nd.t (by simp;omega) (Nd.s1 (Nd.b1 (by rw[aD];exact l0) (Nd.b1 e0.ix (Nd.b1 e1 (Nd.b1 (by rw[aD];exact l1) (Nd.b1 (by rw[aD];exact l1h) (Nd.b1 (by rw[aD,aDO];exact e2) (Nd.j1 (Ψ:=fun w'=>∃ g' z' rz',Hp F0 g0 w0 g' w' (lbR p (lgC x c base segs age (D.seg base u.pos 16 u.fin (max h u.high) []).2.1 rel s)::dkR x D::seR s ((dz++(u::us).map fun u=>(u,Sl.nil)).set dz.length (⟨u.pos,u.seq,(D.seg base u.pos 16 u.fin (max h u.high) []).1,u.high,(D.seg base u.pos 16 u.fin (max h u.high) []).2.2⟩,z'))::owR 87 2 z' (rz'.flatMap rcF)::L)/\Mo g w g' w'/\RZ g' w' rz' (D.seg base u.pos 16 u.fin (max h u.high) []).2.2) ?_ ?_))))))))
  .refine aEq hb0 hb1 ⟨hu1,hu2⟩ hbt hbd e0.p 16 _ (u,Sl.nil) [] (max h u.high) g w2 (by simp only;omega) (by simp only;omega) (by simp only;omega) (by omega) hj rfl (by simp only[hu4];exact RZ.nil) (by simp only[aIS];omega) H2.onil.b3 fun g' w' z' rz' H' m' hz'=>?_;simp only[hu4] at H' hz';exact⟨g',z',rz',H',m1.t (m2.t m'),hz'⟩
  rintro w3 ⟨g3,z3,rz3,H3,m3,hz3⟩;obtain⟨r,hr⟩:∃ r,D.seg base u.pos 16 u.fin (max h u.high) []=r:=⟨_,rfl⟩;rw[hr] at H3 hz3;obtain⟨g4,p4,H4,m4⟩:=H3.m3.keepO;have l4:ldI .i64 w3 ⟨p,5,none⟩=some r.2.1:=H4.ldI rfl;have hj4:((dz++(u::us).map fun u=>(u,Sl.nil)).set dz.length (⟨u.pos,u.seq,r.1,u.high,r.2.2⟩,z3))[dz.length]?=some (⟨u.pos,u.seq,r.1,u.high,r.2.2⟩,z3):=by rw[aJp (aIt.1 hj).1]
  obtain⟨b',el4⟩:=H4.m2.el dL (by decide) hj4;have hbb:=e0.p.symm.trans el4.p;simp only[Option.some.injEq,Addr.mk.injEq,and_true] at hbb;subst hbb;obtain⟨w5,e5,H5,m5⟩:=H4.m2.elset (q':=(⟨u.pos,u.seq,r.1,r.2.1,r.2.2⟩,z3)) dL el4 hj4 (k:=3) (by decide) (v:=.int .i64 r.2.1) rfl rfl;rw[aLa] at H5;have hset:(dz++(u::us).map fun u=>(u,Sl.nil)).set dz.length (⟨u.pos,u.seq,r.1,r.2.1,r.2.2⟩,z3)=(dz++[(⟨u.pos,u.seq,r.1,r.2.1,r.2.2⟩,z3)])++us.map fun u=>(u,Sl.nil):=by
   rw[aJm _ _ (aIv _),aKd];simp
  rw[hset] at H5;refine Nd.b1 (by rw[aD];exact l4) (Nd.b1 (by rw[aD];exact e5) (Nd.ret ?_));have hseg:D.segs base (u::us) h (dz.map Prod.fst)=D.segs base us r.2.1 ((dz++[((⟨u.pos,u.seq,r.1,r.2.1,r.2.2⟩:Sg),z3)]).map Prod.fst):=by rw[Dk.segs,hr];simp
  have hle:0<=r.2.1:=by
   have key:∀ (m:Nat) (e h:Int) (rs:List (Int×List Int)),0<=h->0<=(D.seg base u.pos m e h rs).2.1:=by
    intro m
    induction m with
    | zero=>intro e h rs hh;exact hh
    | succ m ih =>
     intro e h rs hh;unfold Dk.seg;split
     .split
      .exact ih _ _ _ (by omega)
      exact hh
     exact hh
   rw[<-hr];exact key _ _ _ _ (by omega)
  have:=aAM hb0 hb1 hbt hbd (Φ:=Φ) us (dz++[(⟨u.pos,u.seq,r.1,r.2.1,r.2.2⟩,z3)]) r.2.1 g4 w5 (fun v hv=>hu v (by simp[hv])) hle hsn (fun q hq=>by
    rcases aIG.1 hq with hq | hq
    .exact(hdz q hq).mo (m3.t (m4.t m5))
    simp at hq;subst hq;exact⟨rz3,p4.mo m5,hz3.mo (m4.t m5)⟩) H5.b2 fun g' w' dz' H' m' h1 h2=>hΦ g' w' dz' (by rw[hseg];exact H') (m3.t (m4.t (m5.t m'))) (by rw[hseg];exact h1) h2
  have hlen:((dz++[((⟨u.pos,u.seq,r.1,r.2.1,r.2.2⟩:Sg),z3)]).length:Int)=IntKind.wrap .i64 ((dz.length:Int)+1):=by rw[cC (by omega)];simp
  rw[hlen] at this;exact this
theorem aEm (hb0:0<=base) (hb1:base<=512) (hs0:0<=segs) (hs1:segs<=16) (hbt:D.Bt) (hbd:D.W.length<900000) {Φ:World->Prop} (hc:Cp g w c x base 1)
  (H:Hp F0 g0 w0 g w (lbR p (lgC x c base segs D.age 0 0 Sl.nil)::dkR x D::L))
  (hΦ:∀ g' w' s' dz,Hp F0 g0 w0 g' w' (lbR p (lgC x c base segs D.age (D.readL base segs).high (D.readL base segs).rel s')::dkR x D::seR s' dz::L)->Mo g w g' w'->dz.map Prod.fst=(D.readL base segs).used->uV g' w' dz->Φ w') :
  (lZ (some ⟨p,0,none⟩) w).t Φ:=by
 have l0:ldI .i64 w ⟨p,3,none⟩=some segs:=H.ldI rfl;unfold lZ;refine Nd.s1 (Nd.b1 (by rw[aD];exact l0) (Nd.j1 (Ψ:=fun w'=>∃ g' s',Hp F0 g0 w0 g' w' (lbR p (lgC x c base segs D.age 0 0 s')::dkR x D::owR 125 5 s' ((D.heads base segs.toNat).flatMap sgN)::L)/\Mo g w g' w') (aDu hb0 hb1 hs0 hs1 hbt hbd H fun g' w' s' H' m'=>⟨g',s',H',m'⟩) ?_));rintro w1 ⟨g1,s1,H1,m1⟩;have l1:ldL w1 ⟨p,7,none⟩=some s1:=H1.ldL rfl;have hhl:=qJ (D:=D) (base:=base) (n:=segs.toNat);obtain⟨w2,e2,H2,m2⟩:=aEx (us:=D.heads base segs.toNat) (fun y hy=>by have:=pC hy;omega) (by omega) H1.m2;obtain⟨us,hus⟩:∃ us,(D.heads base segs.toNat).foldl jM []=us:=⟨_,rfl⟩;have husl:us.length<=16:=by rw[<-hus,nT];simp;omega
 have husw:∀ u∈us,0<=u.pos/\u.pos<=16/\u.fin=1/\u.recs=[]:=fun u hu=>by
  rw[<-hus] at hu;rcases mX hu with h | h
  .have:=pC h;exact⟨this.1,by omega,this.2.2.2.2.1,this.2.2.2.2.2.2.2⟩
  cases h
 rw[hus] at H2;have hmap:us.flatMap sgN=(([]:List (Sg×Sl))++us.map fun u=>(u,Sl.nil)).flatMap sgF:=by rw[aJL,List.flatMap_map];rfl
 rw[hmap] at H2;have H3:=H2.b2;have l3:ldL w2 ⟨p,7,none⟩=some s1:=H3.ldL rfl;have hsn:s1.n<=16:=by have:=H2.ow.len;rw[cQ dL] at this;simp at this;omega
 have hrl:D.readL base segs=⟨base,segs,D.age,max (D.segs base us 0 []).1 (D.get base 1 0).1,(D.get base 1 0).1,(D.segs base us 0 []).2⟩:=by unfold Dk.readL;rw[hus]
 refine Nd.b1 (by rw[aD];exact l1) (Nd.b1 e2 (Nd.b1 (by rw[aD];exact l3) (Nd.j1 (Ψ:=fun w'=>∃ g' dz,Hp F0 g0 w0 g' w' (lbR p (lgC x c base segs D.age (D.segs base us 0 []).1 0 s1)::dkR x D::seR s1 dz::L)/\Mo g w g' w'/\dz.map Prod.fst=(D.segs base us 0 []).2/\uV g' w' dz) (aAM hb0 hb1 hbt hbd us [] 0 g1 w2 husw (aIZ _) hsn (fun q hq=>by cases hq) H3 fun g' w' dz H' m' h1 h2=>⟨g',dz,H',m1.t (m2.t m'),h1,h2⟩) ?_)));rintro w4 ⟨g4,dz,H4,m4,hd1,hd2⟩;have l4:ldP w4 ⟨p,1,none⟩=some (some ⟨c,0,none⟩):=H4.ldP rfl;obtain⟨w5,e5,H5,m5⟩:=H4.sw.mget (hc.mo m4) hbt hbd 0;obtain⟨rl,hrel⟩:∃ rl,(D.get base 1 0).1=rl:=⟨_,rfl⟩;rw[hrel] at e5 hrl;obtain⟨w6,e6,H6,m6⟩:=H5.sw.stV (o:=6) (x:=.int .i64 rl) (by simp[lgC]) rfl;obtain⟨w7,e7,H7,m7⟩:=H6.dr;have l7:ldI .i64 w7 ⟨p,5,none⟩=some (D.segs base us 0 []).1:=H7.ldI rfl;have l7r:ldI .i64 w7 ⟨p,6,none⟩=some rl:=H7.ldI rfl;obtain⟨w8,e8,H8,m8⟩:=H7.stV (o:=5) (x:=.int .i64 (max (D.segs base us 0 []).1 rl)) (by simp[lgC]) rfl;refine Nd.b1 (by rw[aD];exact l4) (Nd.b3 e5 (Nd.b1 (by rw[aD];exact e6) (Nd.b1 e7 (Nd.b1 (by rw[aD];exact l7) (Nd.b1 (by rw[aD];exact l7r) (Nd.b1 (by rw[aD,aDO];exact e8) (Nd.ret (hΦ g4 w8 s1 dz ?_ (m4.t (m5.t (m6.t (m7.t m8)))) (by rw[hrl];exact hd1) (hd2.mo (m5.t (m6.t (m7.t m8))))))))))));rw[hrl];exact H8
end
theorem Ex.jX {ρ α:Type} {Φ:ρ->Prop} {o:Option (ρ⊕α)} {f:α->Option ρ} {Ψ:α->Prop} (h:Ex o fun r=>match r with | .inl r=>Φ r | .inr a=>Ψ a) (k:∀ a,Ψ a->Ex (f a) Φ):Ex (pS o some f) Φ:=by
 obtain⟨r,e,h⟩:=h;subst e
 cases r with
 | inl r=>exact⟨r,rfl,h⟩
 | inr a=>exact k a h
theorem jG {D:Dk} {base rel:Int} {s:Sg} {l:List Sg}:D.free base rel (s::l)=if l=[]\/rel<s.high then ((D.free base rel l).1,(D.free base rel l).2.1,s::(D.free base rel l).2.2)
  else if (D.write (base+2+s.pos*16+0) []).1=0 then (D.write (base+2+s.pos*16+0) []).2.free base rel l
  else ((D.write (base+2+s.pos*16+0) []).1,(D.write (base+2+s.pos*16+0) []).2,[]):=rfl
theorem zA {base rel:Int}:∀ (us:List Sg) (D:Dk),(D.free base rel us).2.1.W.length<=D.W.length+us.length
 | [],D=>aLh _ _
 | s::l,D=>by
  have h1:=lH D (base+2+s.pos*16+0) [];unfold Dk.free;split
  .have:=zA (base:=base) (rel:=rel) l D;simp only[aIH];omega
  split
  .have:=zA (base:=base) (rel:=rel) l (D.write (base+2+s.pos*16+0) []).2;simp only[aIH];omega
  simp only[aIH];omega
theorem uG {base pos:Int}:∀ (m:Nat) (D:Dk) (i n:Int),(D.wipe base pos m i n).2.2.W.length<=D.W.length+m
 | 0,D,_,_=>aLh _ _
 | m+1,D,i,n=>by
  have h1:=lH D (base+2+pos*16+i) [];unfold Dk.wipe;split
  .have:=uG (base:=base) (pos:=pos) m D (i+1) n;omega
  split
  .have:=uG (base:=base) (pos:=pos) m (D.write (base+2+pos*16+i) []).2 (i+1) (n+1);omega
  simp only;omega
section
variable {F0 : Nat -> Prop} {g g0 : Gh} {w w0 : World} {L : List Rs} {s : Sl} {x c p : Nat} {D : Dk} {base pos segs age rel high t : Int} {dz : List (Sg × Sl)} {cs : List Value}
theorem aBI {w:World}:Rd w Sl.nil 1 (nums .u8 []):=Rd.nil rfl
theorem aAA {j:Nat} {q:Sg×Sl} (h:dz[j]?=some q):(dz.map Prod.fst).drop j=q.1::(dz.map Prod.fst).drop (j+1):=by
 obtain⟨hj,rfl⟩:=aIt.1 h;rw[aJa (by simpa using hj)];simp
theorem aCa (hb0:0<=base) (hb1:base<=512) (hsn:dz.length<=1000) (hp:∀ q∈dz,0<=q.1.pos/\q.1.pos<=16) (hbd:D.W.length+dz.length<900000)
  (H:Hp F0 g0 w0 g w (lbR p (lgC x c base segs age high rel s)::dkR x D::seR s dz::L)) :
  ∃ z w' dz',kK (some ⟨p,0,none⟩) t w=some (z,(D.free base t (dz.map Prod.fst)).1,w')/\Hp F0 g0 w0 g w' (lbR p (lgC x c base segs age high rel s)::dkR x (D.free base t (dz.map Prod.fst)).2.1::seR s dz::seR z dz'::L)/\Mo g w g w' /\
   ((D.free base t (dz.map Prod.fst)).1=0->dz'.map Prod.fst=(D.free base t (dz.map Prod.fst)).2.2/\∀ q∈dz',q∈dz):=by
 have hsl:dz.length=s.n:=by have:=H.m2.ow.len;rw[cQ dL] at this;omega
 have l0:ldL w ⟨p,7,none⟩=some s:=H.ldL rfl;have lp:=Ex.loop (step:=fun r:Sl×Int×World=>iW s (some ⟨p,0,none⟩) t r.1 r.2.1 r.2.2)
  (Φ:=fun o=>match o with
   | .inl (z,w')=>∃ dz',(D.free base t (dz.map Prod.fst)).1=0/\Hp F0 g0 w0 g w' (lbR p (lgC x c base segs age high rel s)::dkR x (D.free base t (dz.map Prod.fst)).2.1::seR s dz::seR z dz'::L)/\Mo g w g w'/\dz'.map Prod.fst=(D.free base t (dz.map Prod.fst)).2.2/\∀ q∈dz',q∈dz
   | .inr (z,e,w')=>e=(D.free base t (dz.map Prod.fst)).1/\e≠0/\z=Sl.nil/\Hp F0 g0 w0 g w' (lbR p (lgC x c base segs age high rel s)::dkR x (D.free base t (dz.map Prod.fst)).2.1::seR s dz::L)/\Mo g w g w')
  (fun m r=>∃ (j:Nat) (D1:Dk) (acc:List (Sg×Sl)) (z:Sl) (w1:World),r=(z,(j:Int),w1)/\m+j=dz.length/\D1.W.length+m<900000/\Hp F0 g0 w0 g w1 (lbR p (lgC x c base segs age high rel s)::dkR x D1::seR s dz::seR z acc::L)/\Mo g w g w1/\acc.length<=j/\(∀ q∈acc,q∈dz) /\
   (D.free base t (dz.map Prod.fst)).1=(D1.free base t ((dz.map Prod.fst).drop j)).1/\(D.free base t (dz.map Prod.fst)).2.1=(D1.free base t ((dz.map Prod.fst).drop j)).2.1/\(D.free base t (dz.map Prod.fst)).2.2=acc.map Prod.fst++(D1.free base t ((dz.map Prod.fst).drop j)).2.2)
  (fun m r hI=>by
   obtain⟨j,D1,acc,z,w1,rfl,hm,hW,H1,m1,hal,hsub,r1,r2,r3⟩:=hI;unfold iW;by_cases hlt:j<dz.length
   .obtain⟨q,hq⟩:∃ q,dz[j]?=some q:=⟨_,aIs hlt⟩;have hqm:=aIF hq;have hqp:=hp q hqm;obtain⟨b,el⟩:=H1.m2.el dL (by decide) hq;obtain⟨pb,w2,e2,H2,m2⟩:=H1.box (T:=125) (cs:=sg0);have e2':mk w1 125 (List.replicate 4 (.int .i64 0)++[.slice none 0 0])=some (⟨pb,0,none⟩,w2):=e2;obtain⟨w3,e3,H3,m3,l3⟩:=H2.stA' (vs:=sgF q) rfl mH;have l3s:ldL w3 ⟨p,7,none⟩=some s:=H3.sw.ldL rfl;have l3h:ldI .i64 w3 ⟨pb,3,none⟩=some q.1.high:=H3.ldI rfl;have l3a:ldA 5 w3 ⟨pb,0,none⟩ 0=some (sgF q):=l3;have mm:=m1.t (m2.t m3);rw[aAA hq] at r1 r2 r3;rw[jG] at r1 r2 r3;have hlast:((dz.map Prod.fst).drop (j+1)=[])↔(j:Int)=IntKind.wrap .i64 ((s.n:Int)-1):=by
     rw[iD (by omega) (by omega),aJY];simp;omega
    refine Ex.t (by simp;omega) ?_;refine Ex.jX (Ψ:=fun r=>∃ (D2:Dk) (acc2:List (Sg×Sl)),D2.W.length+(m-1)<900000/\Hp F0 g0 w0 g r.2 (lbR p (lgC x c base segs age high rel s)::dkR x D2::seR s dz::seR r.1 acc2::L)/\Mo g w g r.2/\acc2.length<=j+1/\(∀ q∈acc2,q∈dz) /\
     (D.free base t (dz.map Prod.fst)).1=(D2.free base t ((dz.map Prod.fst).drop (j+1))).1/\(D.free base t (dz.map Prod.fst)).2.1=(D2.free base t ((dz.map Prod.fst).drop (j+1))).2.1/\(D.free base t (dz.map Prod.fst)).2.2=acc2.map Prod.fst++(D2.free base t ((dz.map Prod.fst).drop (j+1))).2.2) ?_ ?_
    .refine Ex.b1 el.ix (Ex.b1 el.ldA (Ex.b2 e2' (Ex.b1 e3 ?_)));by_cases hk:(dz.map Prod.fst).drop (j+1)=[]\/t<q.1.high
     .rw[if_pos hk] at r1 r2 r3;refine Ex.b2 (a:=true) (b:=w3) ?_ (Ex.t rfl (Ex.b1 l3a ?_))
      .rw[aLx,aD,aLy,l3s,aLx];by_cases h1:(dz.map Prod.fst).drop (j+1)=[]
       .rw[if_pos (by simpa using hlast.1 h1)]
       rw[if_neg (by simpa using fun h=>h1 (hlast.2 h)),aD,aLy,l3h,aLx,decide_eq_true (by rcases hk with h | h;exact(h1 h).elim;exact h)]
      obtain⟨z4,w4,e4,n4,_,H4,m4⟩:=H3.bsl (T:=125) (sz:=5) (ps:=[sgF q]) (by intro v hv;simp at hv;subst hv;rfl) (by simp);have hzn:acc.length=z.n:=by have:=H4.tl.m4.ow.len;rw[cQ dL] at this;omega
      obtain⟨z5,w5,e5,n5,H5,m5⟩:=H4.tl.m4.apS aDP H4.ow.rd (by intro v hv;simp at hv;exact mH v hv) (by rw[n4];simp;omega);have hfl:acc.flatMap sgF++[sgF q].flatten=(acc++[q]).flatMap sgF:=by simp
      rw[hfl] at H5;refine Ex.b2 e4 (Ex.b2 e5 (Ex.ret ⟨D1,acc++[q],by omega,H5.sw.tl.b3,mm.t (m4.t m5),by simp;omega,?_,r1,r2,by rw[r3];simp⟩));intro q' hq';rcases aIG.1 hq' with h | h
      .exact hsub q' h
      simp at h;subst h;exact hqm
     rw[if_neg hk] at r1 r2 r3;have hk1:¬ (dz.map Prod.fst).drop (j+1)=[]:=fun h=>hk (.inl h);refine Ex.b2 (a:=false) (b:=w3) ?_ (Ex.f (by simp) ?_)
     .rw[aLx,aD,aLy,l3s,aLx,if_neg (by simpa using fun h=>hk1 (hlast.2 h)),aD,aLy,l3h,aLx,decide_eq_false (fun h=>hk (.inr h))]
     obtain⟨w4,e4,H4,m4⟩:=H3.dr;have l4:ldP w4 ⟨p,0,none⟩=some (some ⟨x,0,none⟩):=H4.sw.ldP rfl;have l4p:ldI .i64 w4 ⟨pb,0,none⟩=some q.1.pos:=H4.ldI rfl;have a4:=aAK (i:=0) (qR (x:=x) (c:=c) (segs:=segs) (age:=age) (h:=high) (rel:=rel) (s:=s) hb0 hb1) hqp ⟨by omega,by omega⟩ H4.sw.bx;obtain⟨w5,e5,H5,m5⟩:=H4.m2.dwrite (i:=base+2+q.1.pos*16+0) aBI (by omega);have hww:=lH D1 (base+2+q.1.pos*16+0) [];refine Ex.b1 e4 (Ex.s1 (Ex.b1 (by rw[aD];exact l4) (Ex.b1 (by rw[aD];exact l4p) (Ex.b2 a4 (Ex.b2 e5 (Ex.ck (by rw[aD];exact l4) ?_))))));by_cases he:(D1.write (base+2+q.1.pos*16+0) []).1=0
     .rw[if_pos he] at r1 r2 r3;exact Ex.f (by rw[he];decide) (Ex.ret ⟨_,acc,by omega,H5.sw.tl.sw,mm.t (m4.t m5),by omega,hsub,r1,r2,r3⟩)
     rw[if_neg he] at r1 r2 r3;refine Ex.t (by simpa using he) (Ex.s1 (Ex.ret ⟨r1.symm,he,rfl,?_,mm.t (m4.t m5)⟩));rw[r2];exact H5.sw.tl.sw.m3.tl
    rintro⟨z6,w6⟩ ⟨D2,acc2,h1,h2,h3,h4,h5,h6,h7,h8⟩;exact Ex.ret ⟨m-1,by omega,j+1,D2,acc2,z6,w6,by rw[cC (by omega)],by omega,h1,h2,h3,h4,h5,h6,h7,h8⟩
   have hd:(dz.map Prod.fst).drop j=[]:=by rw[aJY];simp;omega
   rw[hd] at r1 r2 r3;refine Ex.f (by simp;omega) (Ex.ret ⟨acc,r1,?_,m1,by rw[r3];simp[Dk.free],hsub⟩);rw[r2];exact H1) dz.length (Sl.nil,((0:Nat):Int),w) ⟨0,D,[],Sl.nil,w,rfl,by omega,by omega,H.onil.b3,Mo.r,by simp,(fun q hq=>by cases hq),rfl,rfl,by simp⟩
 obtain⟨o,e2,ho⟩:=lp;have e2':bM (fun r:Sl×Int×World=>iW s (some ⟨p,0,none⟩) t r.1 r.2.1 r.2.2) (Sl.nil,0,w)=some o:=e2;unfold kK;rw[aLx,aD,aLy,l0,aLx,e2',aLx]
 cases o with
 | inl r =>
  obtain⟨z,w'⟩:=r;obtain⟨dz',h0,h1,h2,h3,h4⟩:=ho;exact⟨z,w',dz',by simp only[Sum.elim_inl,u2];rw[h0],h1,h2,fun _=>⟨h3,h4⟩⟩
 | inr r =>
  obtain⟨z,e,w'⟩:=r;obtain⟨rfl,h0,rfl,h1,h2⟩:=ho;exact⟨Sl.nil,w',[],by simp only[Sum.elim_inr,u3],h1.onil.b3,h2,fun h=>(h0 h).elim⟩
theorem yX (hc:LC cs x base) (hp:0<=pos/\pos<=16):∀ (m:Nat) (D:Dk) (i n:Int) (g:Gh) (w:World),(m:Int)+i=16->0<=i->D.W.length+m<900000->0<=n->n+m<=1000->Hp F0 g0 w0 g w (lbR p cs::dkR x D::L) ->
  ∃ o g' w',bM (fun r:Int×Int×World=>fV (some ⟨p,0,none⟩) pos r.1 r.2.1 r.2.2) (n,i,w)=some o/\(Sum.elim (fun (i:Int×World)=>u2 i fun v6 w7=>some (v6,0,w7)) (fun (i:Int×Int×World)=>u3 i fun v8 v9 w10=>some (v8,v9,w10)) o=some ((D.wipe base pos m i n).1,(D.wipe base pos m i n).2.1,w')) /\
   Hp F0 g0 w0 g' w' (lbR p cs::dkR x (D.wipe base pos m i n).2.2::L)/\Mo g w g' w'
 | 0,D,i,n,g,w,hm,hi,hbd,hn0,hn,H=>by
  refine⟨.inl (n,w),g,w,bS ?_,rfl,H,Mo.r⟩;unfold fV;rw[if_neg (by simp;omega)]
 | m+1,D,i,n,g,w,hm,hi,hbd,hn0,hn,H=>by
  obtain⟨q,g2,w2,e2,H2,m2,r2,c2,n2⟩:=yQ (i:=i) hc hp (by omega) H (by omega);have e3:=aAI r2.rd (by omega);have hlt:decide (i<16)=true:=by simp;omega
  by_cases hz:mK (D.look base pos i)=true
  .obtain⟨o,g',w',h1,h2,h3,h4⟩:=yX hc hp m D (i+1) n g2 w2 (by omega) (by omega) (by omega) hn0 (by omega) H2;refine⟨o,g',w',?_,?_,?_,m2.t h4⟩
   .rw[<-h1];refine cH ?_;unfold fV;rw[if_pos hlt,e2,aE,e3,aE,if_pos hz];simp only[pS,u2];rw[iD (by omega) (by omega)]
   .rw[Dk.wipe,if_pos hz];exact h2
   rw[Dk.wipe,if_pos hz];exact h3
  obtain⟨w4,e4,H4,m4⟩:=H2.dr;have l4:ldP w4 ⟨p,0,none⟩=some (some ⟨x,0,none⟩):=H4.ldP hc.d;have a4:=aAK (i:=i) hc hp (by omega) H4.bx;obtain⟨w5,e5,H5,m5⟩:=H4.sw.dwrite (i:=base+2+pos*16+i) aBI (by omega);have hww:=lH D (base+2+pos*16+i) [];by_cases he:(D.write (base+2+pos*16+i) []).1=0
  .obtain⟨o,g',w',h1,h2,h3,h4⟩:=yX hc hp m (D.write (base+2+pos*16+i) []).2 (i+1) (n+1) g2 w5 (by omega) (by omega) (by omega) (by omega) (by omega) H5.sw;refine⟨o,g',w',?_,?_,?_,m2.t (m4.t (m5.t h4))⟩
   .rw[<-h1];refine cH ?_;unfold fV;rw[if_pos hlt,e2,aE,e3,aE,if_neg hz,e4,aLx,aLx,aD,aLy,l4,aLx,a4,aE,e5,aE,gR l4,if_neg (by simp[he])];simp only[pS,u2];rw[iD (by omega) (by omega),iD (by omega) (by omega)]
   .rw[Dk.wipe,if_neg hz,if_pos he];exact h2
   rw[Dk.wipe,if_neg hz,if_pos he];exact h3
  refine⟨.inr (n,(D.write (base+2+pos*16+i) []).1,w5),g2,w5,bS ?_,?_,?_,m2.t (m4.t m5)⟩
  .unfold fV;rw[if_pos hlt,e2,aE,e3,aE,if_neg hz,e4,aLx,aLx,aD,aLy,l4,aLx,a4,aE,e5,aE,gR l4,if_pos (by simpa using he)];simp only[aLx,pS]
  .rw[Dk.wipe,if_neg hz,if_neg he];rfl
  rw[Dk.wipe,if_neg hz,if_neg he];exact H5.sw
theorem aAG (hc:LC cs x base) (hp:0<=pos/\pos<=16) {i:Int} (hi:0<=i/\i<=16) (hbd:D.W.length<890000) (H:Hp F0 g0 w0 g w (lbR p cs::dkR x D::L)) :
  ∃ g' w',kG (some ⟨p,0,none⟩) pos i w=some ((D.wipe base pos (16-i).toNat i 0).1,(D.wipe base pos (16-i).toNat i 0).2.1,w')/\Hp F0 g0 w0 g' w' (lbR p cs::dkR x (D.wipe base pos (16-i).toNat i 0).2.2::L)/\Mo g w g' w':=by
 obtain⟨o,g',w',h1,h2,h3,h4⟩:=yX hc hp (16-i).toNat D i 0 g w (by omega) hi.1 (by omega) (aIZ _) (by omega) H;exact⟨g',w',by unfold kG;rw[h1,aLx,h2],h3,h4⟩
end
def lgR (p x:Nat) (l:Lg):Rs where
 h g w F:=∃ (c:Nat) (s:Sl) (dz:List (Sg×Sl)),dz.map Prod.fst=l.used/\Cp g w c x l.base 1/\uV g w dz/\uW g w F [lbR p (lgC x c l.base l.segs l.age l.high l.rel s),seR s dz]
 st:=fun ⟨c,s,dz,h1,h2,h3,h4⟩ m hk=>⟨c,s,dz,h1,h2.mo m,h3.mo m,h4.st m hk⟩
 lt:=fun ⟨c,s,dz,h1,h2,h3,h4⟩ hk=>h4.lt hk
section
variable {F0 : Nat -> Prop} {g g0 : Gh} {w w0 : World} {L : List Rs} {s : Sl} {x c p : Nat} {D : Dk} {base segs t : Int} {dz : List (Sg × Sl)} {l : Lg}
theorem Hp.lgo (H:Hp F0 g0 w0 g w (lgR p x l::L)):∃ (c:Nat) (s:Sl) (dz:List (Sg×Sl)),dz.map Prod.fst=l.used/\Cp g w c x l.base 1/\uV g w dz/\Hp F0 g0 w0 g w (lbR p (lgC x c l.base l.segs l.age l.high l.rel s)::seR s dz::L):=by
 obtain⟨sp,F,⟨c,s,dz,h1,h2,h3,h4⟩,h5,h6⟩:=H;exact⟨c,s,dz,h1,h2,h3,sp,h4.sep h5 h6⟩
theorem Hp.lgi (h1:dz.map Prod.fst=l.used) (h2:Cp g w c x l.base 1) (h3:uV g w dz) (H:Hp F0 g0 w0 g w (lbR p (lgC x c l.base l.segs l.age l.high l.rel s)::seR s dz::L)):Hp F0 g0 w0 g w (lgR p x l::L):=by
 obtain⟨F,k1,k2,k3⟩:=Sep.sepx (l:=[lbR p (lgC x c l.base l.segs l.age l.high l.rel s),seR s dz]) H.sep;exact⟨H.sp,F,⟨c,s,dz,h1,h2,h3,k1⟩,k2,k3⟩
theorem aFH {base i:Int} (h:0<=i):0<=(D.get base 1 i).1/\(D.get base 1 i).1<=1099511627776:=by
 have key:∀ b:List Int,0<=(eG b).2.1/\(eG b).2.1<=1099511627776:=fun b=>by
  unfold eG;split
  .split
   .rename_i h;simp only[sB,aIz,decide_eq_true_eq] at h;exact⟨h.1.1.2,h.1.2⟩
   simp
  simp
 have step:∀ (k:Int) (s:Int×Int×Int) (b:List Int),0<=s.2.2/\s.2.2<=1099511627776->0<=(eF k s (eG b)).2.2/\(eF k s (eG b)).2.2<=1099511627776:=fun k s b hs=>by
  unfold eF;split
  .exact key b
  exact hs
 unfold Dk.get;split
 .simp
 exact step _ _ _ (step _ _ _ ⟨by decide,by decide⟩)
theorem uB {n:Int} (h:mQ n base segs=true):2<=segs/\segs<=16/\0<=base/\base<=n-2-segs*16:=by
 simp only[mQ,aIz,decide_eq_true_eq] at h;exact⟨h.1.1.1,h.1.1.2,h.1.2,h.2⟩
theorem vI {D:Dk} {base:Int}:∀ {us:List Sg} {h:Int} {ds:List Sg},(D.segs base us h ds).2.map (fun s=>s.pos)=ds.map (fun s=>s.pos)++us.map (fun s=>s.pos)
 | [],_,_=>by simp[Dk.segs]
 | u::us,h,ds=>by rw[Dk.segs,vI];simp
theorem uF:(D.readL base segs).used.length<=segs.toNat:=by
 have h1:=qJ (D:=D) (base:=base) (n:=segs.toNat);show(D.segs base ((D.heads base segs.toNat).foldl jM []) 0 []).2.length<=segs.toNat;rw[aAf,nT];simpa using h1
theorem aBH {D:Dk} {base pos:Int}:∀ (m:Nat) (e h:Int) (rs:List (Int×List Int)),1<=e->e<=16->1<=(D.seg base pos m e h rs).1/\(D.seg base pos m e h rs).1<=16
 | 0,e,h,rs,h1,h2=>⟨h1,h2⟩
 | m+1,e,h,rs,h1,h2=>by
  unfold Dk.seg;split
  .rename_i t b nx hr;have:e+1<=nx/\nx<=e+((16-e).toNat:Int):=rR hr;split
   .exact aBH m nx t _ (by omega) (by omega)
   exact⟨h1,h2⟩
  exact⟨h1,h2⟩
theorem zF {D:Dk} {base:Int}:∀ {us:List Sg} {h:Int} {ds:List Sg} {s:Sg},(∀ u∈us,1<=u.fin/\u.fin<=16)->(∀ u∈ds,1<=u.fin/\u.fin<=16)->s∈(D.segs base us h ds).2->1<=s.fin/\s.fin<=16
 | [],_,ds,s,hu,hd,hs=>hd s hs
 | u::us,h,ds,s,hu,hd,hs=>by
  rw[Dk.segs] at hs;refine zF (fun v hv=>hu v (by simp[hv])) (fun v hv=>?_) hs;rcases aIG.1 hv with hv | hv
  .exact hd v hv
  simp at hv;subst hv;exact aBH _ _ _ _ (hu u (by simp)).1 (hu u (by simp)).2
theorem rZ {s:Sg} (hs:s∈(D.readL base segs).used):0<=s.pos/\s.pos<segs.toNat/\1<=s.fin/\s.fin<=16:=by
 have hp:s.pos∈(D.segs base ((D.heads base segs.toNat).foldl jM []) 0 []).2.map (fun s=>s.pos):=aIP.2 ⟨s,hs,rfl⟩;rw[vI] at hp;simp only[List.map_nil,aJL,aIP] at hp;obtain⟨u,hu,hpu⟩:=hp;have hw:∀ u∈(D.heads base segs.toNat).foldl jM [],u∈D.heads base segs.toNat:=fun u hu=>by
  rcases mX hu with h | h
  .exact h
  cases h
 have h1:=pC (hw u hu);have h2:=zF (D:=D) (base:=base) (us:=(D.heads base segs.toNat).foldl jM []) (h:=0) (ds:=[]) (s:=s) (fun u hu=>by have:=pC (hw u hu);omega) (fun u hu=>by cases hu) hs;exact⟨by omega,by omega,h2.1,h2.2⟩
theorem nH {rel:Int}:∀ {us:List Sg} {D:Dk} {s:Sg},s∈(D.free base rel us).2.2->s∈us
 | [],D,s,h=>by cases h
 | u::us,D,s,h=>by
  rw[jG] at h;split at h
  .rcases aJI.1 h with rfl | h
   .simp
   exact aKM _ (nH h)
  split at h
  .exact aKM _ (nH h)
  cases h
theorem tG {rel:Int}:∀ {us:List Sg} {D:Dk},(D.free base rel us).2.2.length<=us.length
 | [],D=>by simp[Dk.free]
 | u::us,D=>by
  rw[jG];split
  .have:=tG (rel:=rel) (us:=us) (D:=D);simp only[aIH];omega
  split
  .have:=tG (rel:=rel) (us:=us) (D:=(D.write (base+2+u.pos*16+0) []).2);simp only[aIH];omega
  simp
theorem vU {us:List Sg} (h:∀ s∈us,1<=s.fin):(wipeLast D base us).2.2.W.length<=D.W.length+16:=by
 unfold wipeLast;split
 .rename_i s hs;have:=uG (base:=base) (pos:=s.pos) (16-s.fin).toNat D s.fin 0;have:=h s (aIL hs);omega
 simp
theorem vX (H:Hp F0 g0 w0 g w (dkR x D::L)) (hbt:D.Bt) (hbd:D.W.length<800000) (hsr : -9223372036854775808<=segs/\segs<=9223372036854775807) {Φ:Option Addr×Int×World->Prop}
  (hΦ:∀ g' w' (o:Option Nat),(match (D.openL base segs).2.2 with | none=>o=none/\Hp F0 g0 w0 g' w' (dkR x (D.openL base segs).2.1::L) | some l=>∃ p,o=some p/\Hp F0 g0 w0 g' w' (lgR p x l::dkR x (D.openL base segs).2.1::L))->Mo g w g' w' ->
   Φ (o.map fun p=>⟨p,0,none⟩,(D.openL base segs).1,w')):(mV (some ⟨x,0,none⟩) base segs w).t Φ:=by
 have hwf:=H.dwf;have hn:=hwf.n;unfold mV;refine Nd.f (by simp) (Nd.b2 H.ddown ?_);by_cases hd:D.down=true
 .have ho:D.openL base segs=(10,D,none):=by unfold Dk.openL;rw[if_pos hd]
  rw[ho] at hΦ;exact Nd.t hd (Nd.ret (hΦ g w none ⟨rfl,H⟩ Mo.r))
 refine Nd.f hd ?_;have htest:∀ {Ψ:Bool×World->Prop},Ψ (!mQ D.S.length base segs,w)->(if (decide (segs<2))=true then aU (true,w) else if (decide (16<segs))=true then aU (true,w) else if (decide (base<0))=true then aU (true,w) else
   lb2 (eL (some ⟨x,0,none⟩) w) fun v13 w14=>aU ((decide ((IntKind.wrap .i64 ((IntKind.wrap .i64 (v13-2))-(IntKind.wrap .i64 (segs*16))))<base)),w14)).t Ψ:=fun h=>by
  by_cases h1:segs<2
  .refine Nd.t (by simpa using h1) (Nd.ret ?_);have:mQ D.S.length base segs=false:=by simp[mQ];omega
   rwa[this] at h
  by_cases h2:16<segs
  .refine Nd.f (by simpa using h1) (Nd.t (by simpa using h2) (Nd.ret ?_));have:mQ D.S.length base segs=false:=by simp[mQ];omega
   rwa[this] at h
  by_cases h3:base<0
  .refine Nd.f (by simpa using h1) (Nd.f (by simpa using h2) (Nd.t (by simpa using h3) (Nd.ret ?_)));have:mQ D.S.length base segs=false:=by simp[mQ];omega
   rwa[this] at h
  refine Nd.f (by simpa using h1) (Nd.f (by simpa using h2) (Nd.f (by simpa using h3) (Nd.b2 H.dsize (Nd.ret ?_))));have e1:decide (IntKind.wrap .i64 (IntKind.wrap .i64 ((D.S.length:Int)-2)-IntKind.wrap .i64 (segs*16))<base)=!mQ D.S.length base segs:=by
   rw[iD (x:=(D.S.length:Int)-2) (by omega) (by omega),iD (x:=segs*16) (by omega) (by omega),iD (by omega) (by omega)];by_cases h4:base<=D.S.length-2-segs*16
   .rw[show mQ D.S.length base segs=true by simp[mQ];omega];simp;omega
   rw[show mQ D.S.length base segs=false by simp[mQ];omega];simp;omega
  rw[e1];exact h
 cases hl:mQ D.S.length base segs with
 | false =>
  have ho:D.openL base segs=(2,D,none):=by unfold Dk.openL;rw[if_neg hd,hl,if_neg (by simp)]
  rw[ho] at hΦ;refine Nd.j2 (Ψ:=fun r=>r=(true,w)) (htest (by rw[hl];rfl)) ?_;rintro _ _ he;cases he;exact Nd.t rfl (Nd.ret (hΦ g w none ⟨rfl,H⟩ Mo.r))
 | true =>
  obtain⟨s2,s16,b0,bn⟩:=uB hl;have ho:D.openL base segs=D.tidy (D.readL base segs):=by unfold Dk.openL;rw[if_neg hd,hl,if_pos rfl]
  refine Nd.j2 (Ψ:=fun r=>r=(false,w)) (htest (by rw[hl];rfl)) ?_;rintro _ _ he;cases he;obtain⟨p,w1,e1,H1,m1⟩:=H.box (T:=119) (cs:=[.pointer (some ⟨x,0,none⟩),.pointer none,.int .i64 base,.int .i64 segs,.int .i64 D.age,.int .i64 0,.int .i64 0,.slice none 0 0]);obtain⟨c,g2,w2,e2,H2,m2,hc2⟩:=H1.sw.mopen (base:=base) (count:=1) (by decide) (by simp[nG];omega);obtain⟨w3,e3,H3,m3⟩:=H2.sw.stV (o:=1) (x:=.pointer (some ⟨c,0,none⟩)) (by simp) rfl;have H3:Hp F0 g0 w0 g2 w3 (lbR p (lgC x c base segs D.age 0 0 Sl.nil)::dkR x D::L):=H3;refine Nd.f (by simp) (Nd.b2 H.dage (Nd.b2 e1 (Nd.b3 e2 (Nd.b1 (by rw[aD];exact e3) (Nd.j1 (Ψ:=fun w'=>∃ g' s' dz,Hp F0 g0 w0 g' w' (lbR p (lgC x c base segs D.age (D.readL base segs).high (D.readL base segs).rel s')::dkR x D::seR s' dz::L)/\Mo g w g' w'/\dz.map Prod.fst=(D.readL base segs).used/\uV g' w' dz/\Cp g' w' c x base 1)
   (aEm b0 (by omega) (by omega) s16 hbt (by omega) (hc2.mo m3) H3 fun g' w' s' dz H' m' h1 h2=>⟨g',s',dz,H',m1.t (m2.t (m3.t m')),h1,h2,hc2.mo (m3.t m')⟩) ?_)))))
  rintro w4 ⟨g4,s4,dz,H4,m4,hd1,hd2,hc4⟩;obtain⟨R,hR⟩:∃ R,D.readL base segs=R:=⟨_,rfl⟩;have hRb:R.base=base:=by rw[<-hR];rfl
  have hRs:R.segs=segs:=by rw[<-hR];rfl
  have hRa:R.age=D.age:=by rw[<-hR];rfl
  have hRm:∀ s∈R.used,0<=s.pos/\s.pos<=16/\1<=s.fin/\s.fin<=16:=fun s hs=>by rw[<-hR] at hs;have:=rZ hs;omega
  have hRl:R.used.length<=16:=by rw[<-hR];have:=uF (D:=D) (base:=base) (segs:=segs);omega
  rw[hR] at H4 hd1;have hdl:dz.length=R.used.length:=by rw[<-hd1];simp
  rw[ho,hR] at hΦ;unfold Dk.tidy at hΦ;rw[hRb] at hΦ;have l4:ldL w4 ⟨p,7,none⟩=some s4:=H4.ldL rfl;have l4r:ldI .i64 w4 ⟨p,6,none⟩=some R.rel:=H4.ldI rfl;have hs4:dz.length=s4.n:=by have:=H4.m2.ow.len;rw[cQ dL] at this;omega
  have hfW:=zA (base:=base) (rel:=R.rel) R.used D;have hdp:∀ q∈dz,0<=q.1.pos/\q.1.pos<=16:=fun q hq=>by
   have h1:q.1∈R.used:=by rw[<-hd1];exact aIP.2 ⟨q,hq,rfl⟩
   have:=hRm _ h1;omega
  obtain⟨z5,w5,dz5,e5,H5,m5,h5⟩:=aCa (t:=R.rel) b0 (by omega) (by omega) hdp (by omega) H4;rw[hd1] at e5 H5 h5;have hfs:∀ s∈(D.free base R.rel R.used).2.2,s∈R.used:=fun s hs=>nH hs;have hfl:=tG (D:=D) (base:=base) (rel:=R.rel) (us:=R.used);obtain⟨f,hf⟩:∃ f,D.free base R.rel R.used=f:=⟨_,rfl⟩;rw[hf] at e5 H5 h5 hΦ hfs hfW hfl;refine Nd.b1 (by rw[aD];exact l4) (Nd.b1 (by rw[aD];exact l4r) (Nd.b3 e5 ?_));by_cases hf0:f.1=0
  .obtain⟨h5a,h5b⟩:=h5 hf0;refine Nd.f (by simp[hf0]) ?_;rw[if_neg (by simp[hf0])] at hΦ;obtain⟨w6,e6,H6,m6⟩:=H5.stV (o:=7) (x:=z5.v) (by simp[lgC]) rfl;have H6:Hp F0 g0 w0 g4 w6 (lbR p (lgC x c base segs D.age R.high R.rel z5)::dkR x f.2.1::seR s4 dz::seR z5 dz5::L):=H6;have H6:=H6.m2.tl;have mm6:=m4.t (m5.t m6);have hz5:dz5.length=z5.n:=by have:=H6.m2.ow.len;rw[cQ dL] at this;omega
   have hz5l:dz5.length=f.2.2.length:=by rw[<-h5a];simp
   have hwl:=vU (D:=f.2.1) (base:=base) (us:=f.2.2) (fun s hs=>(hRm s (hfs s hs)).2.2.1);obtain⟨k,hk⟩:∃ k,wipeLast f.2.1 base f.2.2=k:=⟨_,rfl⟩;rw[hk] at hΦ hwl;refine Nd.jX (Ψ:=fun r=>k.2.1=0/\r.1=(R.used.length:Int)-(f.2.2.length:Int)+k.1/\∃ g',Hp F0 g0 w0 g' r.2 (lbR p (lgC x c base segs D.age R.high R.rel z5)::dkR x k.2.2::seR z5 dz5::L)/\Mo g w g' r.2/\Mo g4 w4 g' r.2) (Nd.b1 (by rw[aD];exact e6) ?_) ?_
   .by_cases h0:0<z5.n
    .obtain⟨q,hq⟩:∃ q,dz5[dz5.length-1]?=some q:=⟨_,aIs (by omega)⟩;have hlast:f.2.2.getLast?=some q.1:=by
      rw[<-h5a,aJJ,aJA,aKP,hq];rfl
     have hqm:q.1∈R.used:=hfs _ (aIL hlast);have hqp:=hRm _ hqm;obtain⟨b,el⟩:=H6.m2.el dL (by decide) hq;have hix:ix z5 (IntKind.wrap .i64 ((z5.n:Int)-1)) 5=some ⟨b,(dz5.length-1)*5,none⟩:=by
      rw[show IntKind.wrap .i64 ((z5.n:Int)-1)=((dz5.length-1:Nat):Int) by rw[iD (by omega) (by omega)];omega];exact el.ix
     obtain⟨pb,w7,e7,H7,m7⟩:=H6.box (T:=125) (cs:=sg0);have e7':mk w6 125 (List.replicate 4 (.int .i64 0)++[.slice none 0 0])=some (⟨pb,0,none⟩,w7):=e7;obtain⟨w8,e8,H8,m8,l8⟩:=H7.stA' (vs:=sgF q) rfl mH;have l8p:ldI .i64 w8 ⟨pb,0,none⟩=some q.1.pos:=H8.ldI rfl;have l8f:ldI .i64 w8 ⟨pb,2,none⟩=some q.1.fin:=H8.ldI rfl;obtain⟨g9,w9,e9,H9,m9⟩:=aAG (pos:=q.1.pos) (i:=q.1.fin) (qR b0 (by omega)) ⟨hqp.1,hqp.2.1⟩ ⟨by omega,hqp.2.2.2⟩ (by omega) H8.b2;have hkk:(f.2.1.wipe base q.1.pos (16-q.1.fin).toNat q.1.fin 0)=k:=by rw[<-hk];unfold wipeLast;rw[hlast]
     rw[hkk] at e9 H9;refine Nd.t (by simpa using h0) (Nd.b1 hix (Nd.b1 el.ldA (Nd.b2 e7' (Nd.b1 e8 (Nd.b1 (by rw[aD];exact l8p) (Nd.b1 (by rw[aD];exact l8f) (Nd.b3 e9 ?_)))))));have mm9:=m7.t (m8.t m9);by_cases hk0:k.2.1=0
     .refine Nd.f (by simp[hk0]) (Nd.ret ⟨hk0,?_,g9,H9.m2.tl,mm6.t mm9,m5.t (m6.t mm9)⟩);simp only;have hkn:0<=k.1/\k.1<=16:=by
       have key:∀ (m:Nat) (D:Dk) (i n:Int),0<=n->n<=(D.wipe base q.1.pos m i n).1/\(D.wipe base q.1.pos m i n).1<=n+m:=by
        intro m
        induction m with
        | zero=>intro D i n hn;simp[Dk.wipe]
        | succ m ih =>
         intro D i n hn;unfold Dk.wipe;split
         .have:=ih D (i+1) n hn;omega
         split
         .have:=ih (D.write (base+2+q.1.pos*16+i) []).2 (i+1) (n+1) (by omega);omega
         simp only;omega
       have:=key (16-q.1.fin).toNat f.2.1 q.1.fin 0 (aIZ _);rw[hkk] at this;omega
      rw[iD (x:=(s4.n:Int)-(z5.n:Int)) (by omega) (by omega),iD (by omega) (by omega)];omega
     rw[if_pos (by simpa using hk0)] at hΦ;exact Nd.t (by simpa using hk0) (Nd.j1 (Ψ:=fun r=>Φ r) (Nd.ret (hΦ g9 w9 none ⟨rfl,H9.m2.tl.tl.sw.tl⟩ (mm6.t mm9))) (fun r hr=>Nd.ret hr))
    have hnil:f.2.2=[]:=by apply aIA;omega
    have hkk:k=(0,0,f.2.1):=by rw[<-hk];unfold wipeLast;rw[hnil];rfl
    refine Nd.f (by simpa using h0) (Nd.ret ⟨by rw[hkk],?_,g4,by rw[hkk];exact H6,mm6,m5.t m6⟩);simp only;rw[hkk,iD (by omega) (by omega)];simp only;omega
   rintro⟨n7,w7⟩ ⟨hk0,hn7,g7,H7,m7,m47⟩;simp only at hn7 H7 m7 m47;rw[if_neg (by simp[hk0]),<-hn7] at hΦ;have fin:∀ (D8:Dk) (w8:World),Hp F0 g0 w0 g7 w8 (lbR p (lgC x c base segs D.age R.high R.rel z5)::dkR x D8::seR z5 dz5::L)->Mo g7 w7 g7 w8->Hp F0 g0 w0 g7 w8 (lgR p x ⟨base,R.segs,R.age,R.high,R.rel,f.2.2⟩::dkR x D8::L):=fun D8 w8 H8 m8=>by
    refine Hp.lgi (c:=c) (s:=z5) (dz:=dz5) h5a (hc4.mo (m47.t m8)) (fun q hq=>(hd2 q (h5b q hq)).mo (m47.t m8)) ?_;simp only;rw[hRs,hRa];exact H8.m2.sw
   refine Nd.jX (Ψ:=fun w'=>Φ (some ⟨p,0,none⟩,0,w')) ?_ ?_
   .by_cases h7:0<n7
    .rw[if_pos h7] at hΦ;obtain⟨w8,e8,H8,m8⟩:=H7.sw.dsync (by omega);refine Nd.t (by simpa using h7) (Nd.b2 e8 ?_);by_cases hs0:k.2.2.sync.1=0
     .rw[if_neg (by simp[hs0])] at hΦ;exact Nd.f (by simp[hs0]) (Nd.ret (hΦ g7 w8 (some p) ⟨p,rfl,fin _ w8 H8.sw m8⟩ (m7.t m8)))
     rw[if_pos (by simpa using hs0)] at hΦ;exact Nd.t (by simpa using hs0) (Nd.j1 (Ψ:=fun r=>Φ r) (Nd.ret (hΦ g7 w8 none ⟨rfl,H8.sw.tl.sw.tl⟩ (m7.t m8))) (fun r hr=>Nd.ret hr))
    rw[if_neg h7] at hΦ;exact Nd.f (by simpa using h7) (Nd.ret (hΦ g7 w7 (some p) ⟨p,rfl,fin _ w7 H7 Mo.r⟩ m7))
   rintro w8 h8;exact Nd.ret h8
  rw[if_pos (by simpa using hf0)] at hΦ;exact Nd.t (by simpa using hf0) (Nd.ret (hΦ g4 w5 none ⟨rfl,H5.tl.sw.tl.sw.tl⟩ (m4.t m5)))
end
def fL (a0:Sl) (a1:Sl) (x2:Int) (w3:World):Option ((Int×World)⊕((World)⊕(Bool×World))) :=
 if (decide (x2<(a0.n:Int)))=true then
 (aN ((dr w3).bind fun w17 =>
 (ix a0 x2 2).bind fun p19 =>
 (ldI .i64 w17 (p19.add 0)).bind fun v21 =>
 (ix a1 x2 2).bind fun p23 =>
 (ldI .i64 w17 (p23.add 0)).bind fun v25 =>
 if (v21 !=v25)=true then
 (some (true,w17))
 else
 ((ix a0 x2 2).bind fun p28 =>
 (ldL w17 (p28.add 1)).bind fun v30 =>
 (b2s v30 w17).bind fun s32 =>
 (ix a1 x2 2).bind fun p34 =>
 (ldL w17 (p34.add 1)).bind fun v36 =>
 (b2s v36 w17).bind fun s38 =>
 some ((!sEq s32 s38),w17))) fun v13 w14 =>
 if v13=true then
 (some (.inr (.inr (false,w14))))
 else
 (some (.inl ((IntKind.wrap .i64 (x2+1)),w14))))
 else
 (some (.inr (.inl w3)))
noncomputable def hU (a0:Sl) (a1:Sl) (w:World):Option (Bool×World) :=
 if ((a0.n:Int) !=(a1.n:Int))=true then
 (some (false,w))
 else
 ((bM (fun s:Int×World=>fL a0 a1 s.1 s.2) (0,w)).bind fun r4=>Sum.elim (fun (i:World)=>u1 i fun w6 =>
 some (true,w6)) (fun (i:Bool×World)=>u2 i fun v7 w8 =>
 some (v7,w8)) r4)
theorem kU {a0 a1 w w' r0} (h:hU a0 a1 w=some (r0,w')):Calls Try.prog 48 #[(Sl.v a0),(Sl.v a1)] w fun e w''=>e=.returned (.bool r0)/\w''=w':=by
 refine aP (n:=43) Try.func48 rfl Try.ntmps48 (by simp) fun a u=>?_;unfold hU at h;refine wp_seq<|aA<|qa u rfl fun a u=>aB<|t_n<|wp_seq<|wp_seq<|aA<|qm u rfl fun a u=>q u (aZ u rfl aGY) fun a u=>qm u rfl fun a u=>q u (aZ u rfl aGY) fun a u=>q u (fJ u rfl rfl) fun a u=>aB<|t_n<|?_;refine aO u rfl h (fun b1 h=>?_) (fun b1 h=>?_)
 .refine wp_seq<|aA<|qa u rfl fun a u=>aB<|t_n<|wp_ret<|t_r<|?_;have y:=u;cases h;exact bI Try.results48 y rfl ⟨rfl,rfl⟩
 refine wp_skip<|t_n<|wp_seq<|wp_seq<|aA<|qa u rfl fun a u=>aB<|t_n<|wp_block<|?_;have⟨r4,e5,h⟩:=bs1 h;refine oR (n:=43) (L1:=fun i=>[]) (w1:=fun i=>i) (L2:=fun i=>[(4,(bV i.1))]) (w2:=fun i=>i.2) (e1:=.exit 0) (e2:=.ret) (I:=fun (s:Int×World) a w=>Has 43 [(5,(iV s.1)),(0,(Sl.v a0)),(1,(Sl.v a1))] a/\w=s.2) ⟨u.sub ⟨rfl,rfl,rfl,aLz⟩,rfl⟩ e5 (fun i hi a u=>?_) (fun i hi a u=>?_) (fun hk9 hk10=>?_)
 .subst hi;obtain⟨w6,rfl⟩:∃ x,x=i:=⟨i,rfl⟩;dsimp only[Sum.elim_inl,Sum.elim_inr,u1,u2,u3,u4,u5,u6] at h;have u:Has 43 [] a:=u;refine eC<|t_n<|wp_seq<|aA<|qa u rfl fun a u=>aB<|t_n<|wp_ret<|?_;have y:=u;cases h;exact bI Try.results48 y rfl ⟨rfl,rfl⟩
 .subst hi;obtain⟨v7,w8⟩:=i;dsimp only[Sum.elim_inl,Sum.elim_inr,u1,u2,u3,u4,u5,u6] at h;have u:Has 43 [(4,(bV v7))] a:=u;refine b_r<|t_r<|?_;have y:=u;cases h;exact bI Try.results48 y rfl ⟨rfl,rfl⟩
 clear h;rintro⟨x2,w3⟩ a wq o ⟨u,hwq⟩ h hr11;obtain rfl:w3=wq:=hwq.symm;have u:Has 43 [(5,(iV x2)),(0,(Sl.v a0)),(1,(Sl.v a1))] a:=u;have h:fL a0 a1 x2 w3=some o:=h;unfold fL at h;refine wp_seq<|wp_seq<|aA<|qm u rfl fun a u=>qm u rfl fun a u=>q u (aZ u rfl aGY) fun a u=>q u (dK u rfl rfl) fun a u=>aB<|t_n<|?_;refine aO u rfl h (fun b12 h=>?_) (fun b12 h=>?_)
 .refine wp_skip<|t_n<|wp_seq<|wp_block<|wp_seq<|?_;have⟨v13,w14,e15,h⟩:=bs2 h;refine bP (n:=43) (L:=[(42,(bV v13)),(0,(Sl.v a0)),(1,(Sl.v a1)),(5,(iV x2))]) (w':=w14) (fun a u=>?_) (fun hk16=>?_)
  .refine t_n<|?_;refine aO u rfl h (fun b40 h=>?_) (fun b40 h=>?_)
   .refine wp_seq<|aA<|qa u rfl fun a u=>aB<|t_n<|wp_ret<|b_r<|t_r<|?_;have y:=u;cases h;cases hr11 _ rfl;refine vV<|?_;exact hk10 _ rfl _ (y.sb rfl)
   refine wp_skip<|b_n<|t_n<|aA<|qm u rfl fun a u=>q u (bJ u rfl rfl) fun a u=>qa u rfl fun a u=>aB<|?_;have y:=u;cases h;exact dS ⟨y.sb rfl,rfl⟩
  clear h;have h:=e15;have⟨w17,e18,h⟩:=bs1 h;have⟨p19,e20,h⟩:=bs1 h;have⟨v21,e22,h⟩:=bs1 h;have⟨p23,e24,h⟩:=bs1 h;have⟨v25,e26,h⟩:=bs1 h;refine bW h (fun b27 h=>?_) (fun b27 h=>?_)
  .have u:Has 43 [(0,(Sl.v a0)),(1,(Sl.v a1)),(5,(iV x2))] a:=u.sb rfl;refine aM (n:=43) (ds:=(aS (Sl.v a0) 0 [] 0::aS (iV x2) 0 [] 5::aT (pV (some p19)) 0 [0,1] [(17,(Sl.v a0)),(18,(iV x2))]::aG (pV (some (p19.add 0))) 0 [0,1,2] 19 (pV (some p19))::aG (iV v21) 0 (rn 0 4) 20 (pV (some (p19.add 0)))::aS (Sl.v a1) 0 [] 1::aS (iV x2) 0 [] 5::aT (pV (some p23)) 0 [5,6] [(22,(Sl.v a1)),(23,(iV x2))]::aG (pV (some (p23.add 0))) 0 [5,6,7] 24 (pV (some p23))::aG (iV v25) 0 (rn 5 4) 25 (pV (some (p23.add 0)))::aT (bV (v21 !=v25)) 0 (rn 0 10) [(21,(iV v21)),(26,(iV v25))]::aS (bV (v21 !=v25)) 0 (rn 0 11) 27::aG (undef) 0 (rn 0 12) 28 (bV (v21 !=v25))::aG (undef) 0 (rn 0 12) 28 (bV (v21 !=v25))::aG (undef) 0 (rn 0 14) 28 (bV (v21 !=v25))::aG (undef) 0 (rn 0 15) 28 (bV (v21 !=v25))::aG (undef) 0 (rn 0 16) 28 (bV (v21 !=v25))::aG (undef) 0 (rn 0 17) 28 (bV (v21 !=v25))::aG (undef) 0 (rn 0 12) 28 (bV (v21 !=v25))::aG (undef) 0 (rn 0 12) 28 (bV (v21 !=v25))::aG (undef) 0 (rn 0 12++[18,19]) 28 (bV (v21 !=v25))::aG (undef) 0 (rn 0 12++[18,19,20]) 28 (bV (v21 !=v25))::aG (undef) 0 (rn 0 12++rn 18 4) 28 (bV (v21 !=v25))::aG (undef) 0 (rn 0 12++rn 18 5) 28 (bV (v21 !=v25))::aG (undef) 0 (rn 0 24) 28 (bV (v21 !=v25))::aT (bV true) 0 (rn 0 25) [(28,(bV (v21 !=v25))),(41,undef)]::[])) (W:=(fun _=>w17)) (by kernel_rfl) u (cY e18) (by kernel_rfl) ?_ (aR (by kernel_rfl)) (by kernel_rfl) (m:=0) (by kernel_rfl) (fun a u=>?_)
   .exact⟨oa (aC · rfl),oa (aC · rfl),oa (bZ · rfl rfl aGY aHe e20),oa (aK · rfl aHa rfl rfl aGL),oc (e:=false) 0 (kd (aJ · rfl aGN (aQ e22))),oa (aC · rfl),oa (aC · rfl),oa (bZ · rfl rfl aGY aHe e24),oa (aK · rfl aHa rfl rfl aGL),oc (e:=false) 0 (kd (aJ · rfl aGN (aQ e26))),oa (fJ · rfl rfl),oa (aC · rfl),on 28 (tn b27),on 28 (tn b27),on 28 (tn b27),on 28 (tn b27),on 28 (tn b27),on 28 (tn b27),on 28 (tn b27),on 28 (tn b27),on 28 (tn b27),on 28 (tn b27),on 28 (tn b27),on 28 (tn b27),on 28 (tn b27),oa (aF · rfl b27 rfl),aLz⟩
   have u:Has 43 [(0,(Sl.v a0)),(1,(Sl.v a1)),(5,(iV x2)),(42,(bV true))] a:=u.sb rfl;have y:=u;cases h;exact hk16 _ (y.sb rfl)
  have⟨p28,e29,h⟩:=bs1 h;have⟨v30,e31,h⟩:=bs1 h;have⟨s32,e33,h⟩:=bs1 h;have⟨p34,e35,h⟩:=bs1 h;have⟨v36,e37,h⟩:=bs1 h;have⟨s38,e39,h⟩:=bs1 h;have u:Has 43 [(0,(Sl.v a0)),(1,(Sl.v a1)),(5,(iV x2))] a:=u.sb rfl;refine aM (n:=43) (ds:=(aS (Sl.v a0) 0 [] 0::aS (iV x2) 0 [] 5::aT (pV (some p19)) 0 [0,1] [(17,(Sl.v a0)),(18,(iV x2))]::aG (pV (some (p19.add 0))) 0 [0,1,2] 19 (pV (some p19))::aG (iV v21) 0 (rn 0 4) 20 (pV (some (p19.add 0)))::aS (Sl.v a1) 0 [] 1::aS (iV x2) 0 [] 5::aT (pV (some p23)) 0 [5,6] [(22,(Sl.v a1)),(23,(iV x2))]::aG (pV (some (p23.add 0))) 0 [5,6,7] 24 (pV (some p23))::aG (iV v25) 0 (rn 5 4) 25 (pV (some (p23.add 0)))::aT (bV (v21 !=v25)) 0 (rn 0 10) [(21,(iV v21)),(26,(iV v25))]::aS (bV (v21 !=v25)) 0 (rn 0 11) 27::aT (Sl.v a0) 0 (rn 0 12) [(0,(Sl.v a0)),(28,(bV (v21 !=v25)))]::aT (iV x2) 0 (rn 0 12) [(5,(iV x2)),(28,(bV (v21 !=v25)))]::aT (pV (some p28)) 0 (rn 0 14) [(29,(Sl.v a0)),(30,(iV x2)),(28,(bV (v21 !=v25)))]::aT (pV (some (p28.add 1))) 0 (rn 0 15) [(31,(pV (some p28))),(28,(bV (v21 !=v25)))]::aT (Sl.v v30) 0 (rn 0 16) [(32,(pV (some (p28.add 1)))),(28,(bV (v21 !=v25)))]::aT (.string s32) 0 (rn 0 17) [(33,(Sl.v v30)),(28,(bV (v21 !=v25)))]::aT (Sl.v a1) 0 (rn 0 12) [(1,(Sl.v a1)),(28,(bV (v21 !=v25)))]::aT (iV x2) 0 (rn 0 12) [(5,(iV x2)),(28,(bV (v21 !=v25)))]::aT (pV (some p34)) 0 (rn 0 12++[18,19]) [(35,(Sl.v a1)),(36,(iV x2)),(28,(bV (v21 !=v25)))]::aT (pV (some (p34.add 1))) 0 (rn 0 12++[18,19,20]) [(37,(pV (some p34))),(28,(bV (v21 !=v25)))]::aT (Sl.v v36) 0 (rn 0 12++rn 18 4) [(38,(pV (some (p34.add 1)))),(28,(bV (v21 !=v25)))]::aT (.string s38) 0 (rn 0 12++rn 18 5) [(39,(Sl.v v36)),(28,(bV (v21 !=v25)))]::aT (bV (!sEq s32 s38)) 0 (rn 0 24) [(34,(.string s32)),(40,(.string s38)),(28,(bV (v21 !=v25)))]::aT (bV (!sEq s32 s38)) 0 (rn 0 25) [(28,(bV (v21 !=v25))),(41,(bV (!sEq s32 s38)))]::[])) (W:=(fun _=>w17)) (by kernel_rfl) u (cY e18) (by kernel_rfl) ?_ (aR (by kernel_rfl)) (by kernel_rfl) (m:=0) (by kernel_rfl) (fun a u=>?_)
  .exact⟨oa (aC · rfl),oa (aC · rfl),oa (bZ · rfl rfl aGY aHe e20),oa (aK · rfl aHa rfl rfl aGL),oc (e:=false) 0 (kd (aJ · rfl aGN (aQ e22))),oa (aC · rfl),oa (aC · rfl),oa (bZ · rfl rfl aGY aHe e24),oa (aK · rfl aHa rfl rfl aGL),oc (e:=false) 0 (kd (aJ · rfl aGN (aQ e26))),oa (fJ · rfl rfl),oa (aC · rfl),oag 28 (nt b27) (aC · rfl),oag 28 (nt b27) (aC · rfl),oag 28 (nt b27) (bZ · rfl rfl aGY aHe e29),oag 28 (nt b27) (aK · rfl aHa rfl rfl aHJ),oc (e:=false) 0 (kg 28 (nt b27) (aJ · rfl aHN (aV e31))),oc (e:=false) 0 (kg 28 (nt b27) (nY · rfl aGK aHo aGZ e33)),oag 28 (nt b27) (aC · rfl),oag 28 (nt b27) (aC · rfl),oag 28 (nt b27) (bZ · rfl rfl aGY aHe e35),oag 28 (nt b27) (aK · rfl aHa rfl rfl aHJ),oc (e:=false) 0 (kg 28 (nt b27) (aJ · rfl aHN (aV e37))),oc (e:=false) 0 (kg 28 (nt b27) (nY · rfl aGK aHo aGZ e39)),
    oag 28 (nt b27) (wX · rfl rfl),oa (aL · rfl b27 rfl),aLz⟩
  have u:Has 43 [(0,(Sl.v a0)),(1,(Sl.v a1)),(5,(iV x2)),(42,(bV (!sEq s32 s38)))] a:=u.sb rfl;have y:=u;cases h;exact hk16 _ (y.sb rfl)
 refine wp_exit<|t_x<|?_;have y:=u;cases h;cases hr11 _ rfl;refine lM<|?_;exact hk9 _ rfl _ (y.sb rfl)
def RRd (w:World) (z:Sl) (es:List (Int×List Int)):Prop:=∃ oz:List (Int×Sl),Rd w z 2 (oz.flatMap rcF)/\oz.length=es.length/\∀ (j:Nat) (r:Int×Sl) (q:Int×List Int),oz[j]?=some r->es[j]?=some q->r.1=q.1/\Rd w r.2 1 (nums .u8 q.2)
def wL (z:Sl) (es:List (Int×List Int)):Rs:=aEe (fun oz:List (Int×Sl)=>owR 87 2 z (oz.flatMap rcF)::List.zipWith (fun r q=>owR 5 1 r.2 (nums .u8 q.2)) oz es) fun oz=>oz.length=es.length/\∀ (j:Nat) (r:Int×Sl) (q:Int×List Int),oz[j]?=some r->es[j]?=some q->r.1=q.1
section
variable {F0 : Nat -> Prop} {g g0 : Gh} {w w' w0 : World} {L : List Rs} {s z y : Sl} {x c p : Nat} {D : Dk} {base segs t : Int} {dz : List (Sg × Sl)} {l : Lg} {rs es : List (Int × List Int)} {b : List Int}
theorem RcL.rrd (h:RcL g w z rs):RRd w z rs:=by
 obtain⟨rz,h1,h2⟩:=h;exact⟨rz,h1.rd,h2.1,fun j r q hr hq=>⟨(h2.2 j r q hr hq).1,(h2.2 j r q hr hq).2.rd⟩⟩
theorem RcL.n (h:RcL g w z rs):rs.length=z.n:=by
 obtain⟨rz,h1,h2⟩:=h;have:=h1.rd.len;rw[cQ jP,h2.1] at this;omega
theorem RRd.n (h:RRd w z rs):rs.length=z.n:=by
 obtain⟨rz,h1,h2,_⟩:=h;have:=h1.len;rw[cQ jP,h2] at this;omega
theorem RRd.at_ (h:RRd w z rs) {j:Nat} {q:Int×List Int} (hq:rs[j]?=some q):∃ a zb,ix z (j:Int) 2=some a/\ldA 2 w a 0=some (rcC q.1 zb)/\ldI .i64 w (a.add 0)=some q.1/\ldL w (a.add 1)=some zb/\Rd w zb 1 (nums .u8 q.2):=by
 have hn:=h.n;obtain⟨rz,h1,h2,h3⟩:=h;have hj:j<rs.length:=(aIt.1 hq).1;obtain⟨a,ea,la,ca,_⟩:=uO (i:=j) h1 (by omega);have hr:rz[j]?=some rz[j]:=aIs (by omega);obtain⟨e1,e2⟩:=h3 j _ q hr hq;have hch:=uT (f:=rcF) (sz:=2) rz j jP (by omega);rw[hch] at la;have hg:∀ k v,k<2->(rcF rz[j])[k]?=some v->w.cell? (a.add k)=some v:=fun k v hk hv=>ca k v hk (by rw[aDV jP hr hk];exact hv);refine⟨a,rz[j].2,ea,by rw[la];unfold rcF;rw[e1],kZ (hg 0 _ (by decide) ?_),rO (hg 1 _ (by decide) rfl),e2⟩;rw[<-e1];rfl
theorem RRd.fr (h:RRd w z rs) (f:∀ a,w'.cell? a=w.cell? a):RRd w' z rs:=by
 have hr:∀ {s:Sl} {sz:Nat} {cs:List Value},Rd w s sz cs->Rd w' s sz cs:=fun h=>⟨h.len,fun hn=>by obtain⟨a,e,hc⟩:=h.at_ hn;exact⟨a,e,fun j v hv=>by rw[f];exact hc j v hv⟩⟩;obtain⟨rz,h1,h2,h3⟩:=h;exact⟨rz,hr h1,h2,fun j r q hr' hq=>⟨(h3 j r q hr' hq).1,hr (h3 j r q hr' hq).2⟩⟩
theorem aBC (h1:RRd w z es) (h2:RRd w y es) (hn:es.length<=100000):∃ w',hU z y w=some (true,w')/\(∀ a,w'.cell? a=w.cell? a)/\∀ S,Fr S w w':=by
 have n1:=h1.n;have n2:=h2.n;have lp:=Ex.loop (step:=fun r:Int×World=>fL z y r.1 r.2) (Φ:=fun o=>∃ w',o = .inl w'/\(∀ a,w'.cell? a=w.cell? a)/\∀ S,Fr S w w')
  (fun m r=>∃ (j:Nat) (w1:World),r=((j:Int),w1)/\m+j=es.length/\(∀ a,w1.cell? a=w.cell? a)/\∀ S,Fr S w w1) (fun m r hI=>by
   obtain⟨j,w1,rfl,hm,hc,hf⟩:=hI;unfold fL;by_cases hj:j<es.length
   .obtain⟨w2,e2,_,g2,_,c2⟩:=tQ (w:=w1);have hc2:∀ a,w2.cell? a=w.cell? a:=fun a=>(c2 a).trans (hc a);have hq:es[j]?=some es[j]:=aIs hj;obtain⟨a,za,a1,-,a3,a4,a5⟩:=(h1.fr hc2).at_ hq;obtain⟨b,zb,b1,-,b3,b4,b5⟩:=(h2.fr hc2).at_ hq;refine Ex.t (by simp;omega) (Ex.b2 (a:=false) (b:=w2) ?_ (Ex.f (by simp) (Ex.ret ⟨m-1,by omega,j+1,w2,by rw[cC (by omega)],by omega,hc2,fun S=>(hf S).trans ((g2 w1.heap.size S).fr)⟩)));rw[e2,aLx,a1,aLx,a3,aLx,b1,aLx,b3,aLx,if_neg (by simp),aLx,a4,aLx,pF a5,aLx,aLx,b4,aLx,pF b5,aLx,aDf];rfl
   exact Ex.f (by simp;omega) (Ex.ret ⟨w1,rfl,hc,hf⟩)) es.length (((0:Nat):Int),w) ⟨0,w,rfl,by omega,fun _=>rfl,fun _=>Fr.refl⟩
 obtain⟨o,e,w',rfl,hc,hf⟩:=lp;have e':bM (fun r:Int×World=>fL z y r.1 r.2) (0,w)=some (.inl w'):=e;refine⟨w',?_,hc,hf⟩;unfold hU;rw[if_neg (by simp;omega),e',aLx];rfl
theorem yP (H:Hp F0 g0 w0 g w (lgR p x l::dkR x D::L)):∃ w',kD (some ⟨p,0,none⟩) w=some (D.badL l,w')/\Hp F0 g0 w0 g w' (lgR p x l::dkR x D::L)/\Mo g w g w':=by
 obtain⟨w1,e1,H1,m1⟩:=H.dr;obtain⟨c,s,dz,-,-,-,H1'⟩:=H1.lgo;have l0:ldP w1 ⟨p,0,none⟩=some (some ⟨x,0,none⟩):=H1'.ldP rfl;have l4:ldI .i64 w1 ⟨p,4,none⟩=some l.age:=H1'.ldI rfl;refine⟨w1,?_,H1,m1⟩;unfold kD Dk.badL;rw[if_neg (by simp),e1,aLx,aLx,aD,aLy,l0,aLx,H1.sw.dage,aE,aD,aLy,l4,aLx,gR rfl];by_cases ha:D.age=l.age
 .rw[if_neg (by simpa using ha),if_neg (by simpa using ha),l0,aLx,H1.sw.ddown,aE];by_cases hd:D.down=true
  .rw[if_pos hd,if_pos hd]
  rw[if_neg hd,if_neg hd]
 rw[if_pos (by simpa using ha),if_pos (by simpa using ha)]
theorem uY (H:Hp F0 g0 w0 g w (lgR p x l::L)):iQ (some ⟨p,0,none⟩) w=some (l.high,w):=by
 obtain⟨c,s,dz,-,-,-,H1⟩:=H.lgo;have l0:ldI .i64 w ⟨p,5,none⟩=some l.high:=H1.ldI rfl;unfold iQ;rw[if_neg (by simp),aLx,aD,aLy,l0,aLx]
theorem aFC (H:Hp F0 g0 w0 g w (lgR p x l::L)):mR (some ⟨p,0,none⟩) w=some (l.rel,w):=by
 obtain⟨c,s,dz,-,-,-,H1⟩:=H.lgo;have l0:ldI .i64 w ⟨p,6,none⟩=some l.rel:=H1.ldI rfl;unfold mR;rw[if_neg (by simp),aLx,aD,aLy,l0,aLx]
theorem aBJ (H:Hp F0 g0 w0 g w (lgR p x l::L)):kI (some ⟨p,0,none⟩) w=some ((l.used.length:Int),w):=by
 obtain⟨c,s,dz,h1,-,-,H1⟩:=H.lgo;have l0:ldL w ⟨p,7,none⟩=some s:=H1.ldL rfl;have hs:dz.length=s.n:=by have:=H1.sw.ow.len;rw[cQ dL] at this;omega
 have hl:l.used.length=s.n:=by rw[<-h1];simpa using hs
 unfold kI;rw[if_neg (by simp),aLx,aD,aLy,l0,aLx,hl]
theorem zT (H:Hp F0 g0 w0 g w (lgR p x l::dkR x D::L)) (hbd:D.W.length<900000):∃ w',kH (some ⟨p,0,none⟩) w=some ((D.syncL l).1,w')/\Hp F0 g0 w0 g w' (lgR p x l::dkR x (D.syncL l).2::L)/\Mo g w g w':=by
 obtain⟨w1,e1,H1,m1⟩:=yP H;unfold kH Dk.syncL;rw[e1,aE];by_cases hb:D.badL l=0
 .obtain⟨c,s,dz,-,-,-,H1'⟩:=H1.lgo;have l0:ldP w1 ⟨p,0,none⟩=some (some ⟨x,0,none⟩):=H1'.ldP rfl;obtain⟨w2,e2,H2,m2⟩:=H1.sw.dsync (by omega);refine⟨w2,?_,?_,m1.t m2⟩
  .rw[if_neg (by simp[hb]),if_neg (by simp[hb]),aLx,aD,aLy,l0,aLx,e2,aE]
  rw[if_neg (by simp[hb])];exact H2.sw
 exact⟨w1,by rw[if_pos (by simpa using hb),if_pos (by simpa using hb)],by rw[if_pos (by simpa using hb)];exact H1,m1⟩
theorem xR (H:Hp F0 g0 w0 g w L) (h:Rd w y 1 (nums .u8 b)) (hn:b.length<=100000):∃ z w',fF y w=some (z,w')/\Hp F0 g0 w0 g w' (owR 5 1 z (nums .u8 b)::L)/\Mo g w g w':=by
 have hl:b.length=y.n:=by have:=h.len;simpa using this
 unfold fF
 cases hp:y.p with
 | none =>
  have:b=[]:=by
   apply aIA;rcases aJq y.n with h0 | h0
   .omega
   obtain⟨a,e,_⟩:=h.at_ h0;rw[hp] at e;cases e
  subst this;exact⟨Sl.nil,w,by simp,H.onil,Mo.r⟩
 | some a =>
  obtain⟨z1,w1,e1,n1,_,H1,m1⟩:=H.bsl (T:=5) (sz:=1) (ps:=[]) (by intro p hp;cases hp) (by simp);have h1:Rd w1 y 1 (nums .u8 b):=by
   obtain⟨g',w',e',-,-,-⟩:∃ g' w',bsl w 5 1 []=some (z1,w')/\True/\True/\True:=⟨g,w1,e1,trivial,trivial,trivial⟩;exact h.fr (S:=fun _=>False) (by obtain⟨w2,e2,n2⟩:=wD (w:=w) (T:=5) (sz:=1) (ps:=[]) (by intro p hp;cases hp);rw[e1] at e2;cases e2;exact(n2.fr _ _ (aIv _)).fr) (fun _ _ _ h=>h)
  obtain⟨z2,w2,e2,n2,H2,m2⟩:=H1.apS mS h1 dU (by rw[n1];simp;omega);refine⟨z2,w2,?_,by simpa using H2,m1.t m2⟩;rw[if_neg (by simp),e1,aE,e2,aE]
theorem aDj (H:Hp F0 g0 w0 g w (owR 87 2 z []::L)):Hp F0 g0 w0 g w (wL z []::L) :=
 Hp.pack (i:=([]:List (Int×Sl))) ⟨rfl,fun j r q hr=>by simp at hr⟩ H
theorem xG {α β γ:Type} {f:α->β->γ} {a:α} {b:β}:∀ {l:List α} {m:List β},l.length=m.length->List.zipWith f (l++[a]) (m++[b])=List.zipWith f l m++[f a b]
 | [],[],_=>rfl
 | x::l,y::m,h=>by simp[xG (l:=l) (m:=m) (by simpa using h)]
 | [],y::m,h=>by cases h
 | x::l,[],h=>by cases h
theorem aCH {zb:Sl} {y:Sl} (H:Hp F0 g0 w0 g w (owR 5 1 zb (nums .u8 b)::wL z es::L)) (hy:Rd w y 2 (rcC t zb)) (hn:es.length<=100000) :
  ∃ z' w',apS Try.prog 74 z y w=some (z',w')/\z'.n=z.n+1/\Hp F0 g0 w0 g w' (wL z' (es++[(t,b)])::L)/\Mo g w g w':=by
 obtain⟨oz,⟨h1,h2⟩,H1⟩:=H.sw.unpack;have hyn:y.n=1:=by have:=hy.len;simp[rcC] at this;omega
 have hzn:oz.length=z.n:=by have:=Hp.ow (L:=List.zipWith (fun r q=>owR 5 1 r.2 (nums .u8 q.2)) oz es++owR 5 1 zb (nums .u8 b)::L) H1;have:=this.len;rw[cQ jP] at this;omega
 obtain⟨z',w',e,n,H2,m⟩:=Hp.apS (L:=List.zipWith (fun r q=>owR 5 1 r.2 (nums .u8 q.2)) oz es++owR 5 1 zb (nums .u8 b)::L) tO H1 hy gX (by omega);refine⟨z',w',e,by omega,?_,m⟩;refine Hp.pack (i:=oz++[(t,zb)]) ⟨by simp[h1],fun j r q hr hq=>?_⟩ ?_
 .by_cases hj:j<oz.length
  .rw[aID hj] at hr;rw[aID (by omega)] at hq;exact h2 j r q hr hq
  rw[aII (by omega)] at hr;rw[aII (by omega)] at hq;have h0:j-oz.length=0:=by have:=(aIt.1 hr).1;simp at this;omega
  rw[h0] at hr;rw[<-h1,h0] at hq;simp at hr hq;subst hr;subst hq;rfl
 rw[show(oz++[(t,zb)]).flatMap rcF=oz.flatMap rcF++rcC t zb by simp[rcF],xG h1,List.cons_append,aIK];exact H2
theorem vC (H:Hp F0 g0 w0 g w (wL z es::L)):RRd w z es:=by
 obtain⟨oz,⟨h1,h2⟩,H1⟩:=H.unpack;refine⟨oz,(Hp.ow (L:=List.zipWith (fun r q=>owR 5 1 r.2 (nums .u8 q.2)) oz es++L) H1).rd,h1,fun j r q hr hq=>⟨h2 j r q hr hq,?_⟩⟩;have H2:Hp F0 g0 w0 g w (List.zipWith (fun r q=>owR 5 1 r.2 (nums .u8 q.2)) oz es++L):=Hp.tl (L:=List.zipWith (fun r q=>owR 5 1 r.2 (nums .u8 q.2)) oz es++L) H1;have hg:(List.zipWith (fun r q=>owR 5 1 r.2 (nums .u8 q.2)) oz es)[j]?=some (owR 5 1 r.2 (nums .u8 q.2)):=by rw[aKn,hr,hq]
 obtain⟨hj,hj'⟩:=aIt.1 hg;have hm:=aJy hj;rw[hj'] at hm;obtain⟨A,C,hAC⟩:=List.append_of_mem hm;rw[hAC,aIK] at H2;have H3:Hp F0 g0 w0 g w (owR 5 1 r.2 (nums .u8 q.2)::(A++(C++L))):=H2.perm aKi;exact H3.ow.rd
end
theorem tL:∀ {l m:List Int},l.Nodup->(∀ x∈l,x∈m)->l.length<=m.length
 | [],_,_,_=>aLe _
 | x::l,m,h,hs=>by
  have hx:=hs x (by simp);have hn:=aLp.1 h;have:=tL (m:=m.erase x) hn.2 (fun y hy=>(List.mem_erase_of_ne (by intro e;subst e;exact hn.1 hy)).2 (hs y (by simp[hy])));rw[aJZ hx] at this;have:=List.length_pos_of_mem hx;simp only[aIH];omega
theorem aBc (n:Nat):((List.range n).map fun k:Nat=>(k:Int)).Nodup:=by
 rw[aKU,List.pairwise_map];exact(aKU.1 List.nodup_range).imp fun h e=>h (by omega)
theorem yN {us:List Sg} {p:Int}:us.any (fun s=>s.pos==p)=true↔p∈us.map (fun s=>s.pos):=by
 simp[aJN]
theorem aBa {us:List Sg}:∀ (m:Nat) (p:Int),p<=iI us m p/\iI us m p<=p+m/\(∀ q,p<=q->q<iI us m p->q∈us.map fun s=>s.pos)/\(iI us m p<p+m->¬ iI us m p∈us.map fun s=>s.pos)
 | 0,p=>⟨aIZ _,by simp[iI],fun q h1 h2=>by simp only[iI] at h2;omega,fun h=>by simp only[iI] at h;omega⟩
 | m+1,p=>by
  unfold iI;by_cases h:us.any (fun s=>s.pos==p)=true
  .rw[if_pos h];obtain⟨h1,h2,h3,h4⟩:=aBa (us:=us) m (p+1);refine⟨by omega,by omega,fun q k1 k2=>?_,fun k=>h4 (by omega)⟩;by_cases e:q=p
   .subst e;exact yN.1 h
   exact h3 q (by omega) k2
  rw[if_neg h];exact⟨aIZ _,by omega,fun q k1 k2=>by omega,fun _ k=>h (yN.2 k)⟩
theorem aBO {n:Nat} {l:List Int} (h:∀ k:Nat,k<n->(k:Int)∈l):n<=l.length:=by
 have:=tL (m:=l) (aBc n) (fun x hx=>by obtain⟨k,hk,rfl⟩:=aIP.1 hx;exact h k (aIO.1 hk));simpa using this
theorem vT {us:List Sg}:¬ iI us us.length 0∈us.map fun s=>s.pos:=by
 obtain⟨h1,h2,h3,h4⟩:=aBa (us:=us) us.length 0;by_cases h:iI us us.length 0<0+us.length
 .exact h4 h
 intro hm;have he:iI us us.length 0=us.length:=by omega
 have:us.length+1<=(us.map fun s=>s.pos).length:=aBO fun k hk=>by
  by_cases e:k=us.length
  .subst e;rwa[he] at hm
  exact h3 k (by omega) (by omega)
 simp at this;omega
theorem nL {us:List Sg} {segs:Int} (hs:0<=segs) (hn:(us.map fun s=>s.pos).Nodup) (hr:∀ s∈us,0<=s.pos/\s.pos<segs):0<=iI us us.length 0/\iI us us.length 0<=segs/\(iI us us.length 0=segs↔segs<=us.length):=by
 obtain⟨h1,h2,h3,h4⟩:=aBa (us:=us) us.length 0;have h5:=vT (us:=us);have hle:iI us us.length 0<=segs:=by
  by_cases h:iI us us.length 0<=segs
  .exact h
  have:=h3 segs hs (by omega);obtain⟨s,hs',e⟩:=aIP.1 this;have:=hr s hs';omega
 refine⟨h1,hle,fun h=>?_,fun h=>?_⟩
 .have:segs.toNat<=(us.map fun s=>s.pos).length:=aBO fun k hk=>h3 k (by omega) (by omega);simp at this;omega
 by_cases e:iI us us.length 0=segs
 .exact e
 have key:=tL (l:=iI us us.length 0::us.map fun s=>s.pos) (m:=(List.range segs.toNat).map fun k:Nat=>(k:Int)) (aLp.2 ⟨h5,hn⟩) (fun x hx=>by
  rcases aJI.1 hx with rfl | hx
  .exact aIP.2 ⟨(iI us us.length 0).toNat,aIO.2 (by omega),by omega⟩
  obtain⟨s,hs',rfl⟩:=aIP.1 hx;have:=hr s hs';exact aIP.2 ⟨s.pos.toNat,aIO.2 (by omega),by omega⟩)
 simp at key;omega
section
variable {F0 : Nat -> Prop} {g g0 : Gh} {w w0 : World} {L : List Rs} {s y : Sl} {x c p : Nat} {D : Dk} {base segs age high rel t : Int} {dz : List (Sg × Sl)} {l : Lg}
theorem Hp.key {n:Int} (H:Hp F0 g0 w0 g w L) (h0 : -9223372036854775808<=n) (h1:n<=9223372036854775807):∃ o w',jU n w=some (o,w')/\o.n=8/\Hp F0 g0 w0 g w' (owR 5 1 o (nums .u8 (fK n))::L)/\Mo g w g w':=by
 obtain⟨o,w',e,r,k,f⟩:=aBg (w:=w) h0 h1;have hn:o.n=8:=by have:=r.len;rw[bG,gU] at this;omega
 exact⟨o,w',e,hn,H.add (vZ H.lt f) (F:=o.blk) ⟨r,fun _=>Iff.rfl⟩ (fun i hi=>⟨fun hg=>by have:=H.lt i hg;have:=k i hi;omega,k i hi⟩),H.mold f⟩
theorem zS {pq:Nat} {v:Int} (hs:s.n<=100) (H:Hp F0 g0 w0 g w (seR s dz::bxR pq [.int .i64 v] 3::L)) :
  ∃ w',bT s ⟨pq,0,none⟩ w=some (dz.any (fun q=>q.1.pos==v),w')/\Hp F0 g0 w0 g w' (seR s dz::bxR pq [.int .i64 v] 3::L)/\Mo g w g w':=by
 have hl:dz.length=s.n:=by have:=H.ow.len;rw[cQ dL] at this;omega
 have lp:=Ex.loop (step:=fun r:Int×World=>bH s ⟨pq,0,none⟩ r.1 r.2)
  (Φ:=fun o=>match o with | .inl w'=>(dz.any fun q=>q.1.pos==v)=false/\Hp F0 g0 w0 g w' (seR s dz::bxR pq [.int .i64 v] 3::L)/\Mo g w g w' | .inr (i,w')=>0<=i/\(dz.any fun q=>q.1.pos==v)=true/\Hp F0 g0 w0 g w' (seR s dz::bxR pq [.int .i64 v] 3::L)/\Mo g w g w')
  (fun m r=>∃ (j:Nat) (w1:World),r=((j:Int),w1)/\m+j=dz.length/\((dz.take j).any fun q=>q.1.pos==v)=false/\Hp F0 g0 w0 g w1 (seR s dz::bxR pq [.int .i64 v] 3::L)/\Mo g w g w1) (fun m r hI=>by
   obtain⟨j,w1,rfl,hm,hz,H1,m1⟩:=hI;unfold bH;by_cases hj:j<dz.length
   .obtain⟨q,hq⟩:∃ q,dz[j]?=some q:=⟨_,aIs hj⟩;obtain⟨b,el⟩:=H1.el dL (by decide) hq;obtain⟨pb,w2,e2,H2,m2⟩:=H1.box (T:=125) (cs:=sgF q);have l2:ldI .i64 w2 ⟨pb,0,none⟩=some q.1.pos:=H2.ldI rfl;have l2v:ldI .i64 w2 ⟨pq,0,none⟩=some v:=H2.m2.ldI rfl;have ef:jW (sgF q) ⟨pq,0,none⟩ w1=some ((q.1.pos==v),w2):=by
     unfold jW;rw[e2,aE,aD,aLy,l2,aLx,l2v,aLx]
    refine Ex.t (by simp;omega) (Ex.b1 el.ix (Ex.b1 el.ldA (Ex.b2 ef ?_)));by_cases h0:q.1.pos=v
    .refine Ex.t (by simpa using h0) (Ex.ret ⟨by omega,?_,H2.tl,m1.t m2⟩);rw[aJN];exact⟨q,aIF hq,by simpa using h0⟩
    refine Ex.f (by simpa using h0) (Ex.ret ⟨m-1,by omega,j+1,w2,by rw[cC (by omega)],by omega,?_,H2.tl,m1.t m2⟩);rw[aKt,hq,List.any_append,hz];simpa using h0
   refine Ex.f (by simp;omega) (Ex.ret ⟨?_,H1,m1⟩);rwa[aIB (by omega)] at hz) dz.length (((0:Nat):Int),w) ⟨0,w,rfl,by omega,by simp,H,Mo.r⟩
 obtain⟨o,e,ho⟩:=lp;have e':bM (fun r:Int×World=>bH s ⟨pq,0,none⟩ r.1 r.2) (0,w)=some o:=e;unfold bT cS;rw[e',aLx]
 cases o with
 | inl w'=>obtain⟨hz,H',m'⟩:=ho;exact⟨w',by rw[hz];rfl,H',m'⟩
 | inr r=>obtain⟨i,w'⟩:=r;obtain⟨h0,hz,H',m'⟩:=ho;exact⟨w',by rw[hz];simp[u2,h0],H',m'⟩
theorem yU {v:Int}:(dz.any fun q=>q.1.pos==v)=(dz.map Prod.fst).any fun s=>s.pos==v:=by rw[List.any_map];rfl
theorem aDb {pq:Nat} (hs:s.n<=100):∀ (m:Nat) (v:Int) (w:World),0<=v->v+m<=1000->(¬ iI (dz.map Prod.fst) m v∈(dz.map Prod.fst).map fun s=>s.pos) ->
  Hp F0 g0 w0 g w (lbR p (lgC x c base segs age high rel s)::seR s dz::bxR pq [.int .i64 v] 3::L) ->
  ∃ w',bM (fun r:World=>gG (some ⟨p,0,none⟩) ⟨pq,0,none⟩ r) w=some w'/\Hp F0 g0 w0 g w' (lbR p (lgC x c base segs age high rel s)::seR s dz::bxR pq [.int .i64 (iI (dz.map Prod.fst) m v)] 3::L)/\Mo g w g w':=by
 intro m
 induction m with
 | zero =>
  intro v w hv hvm hno H;have l0:ldL w ⟨p,7,none⟩=some s:=H.ldL rfl;obtain⟨w1,e1,H1,m1⟩:=zS hs H.b2;have hf:(dz.any fun q=>q.1.pos==v)=false:=by
   rw[yU]
   cases h:(dz.map Prod.fst).any fun s=>s.pos==v with
   | false=>rfl
   | true=>exact(hno (yN.1 h)).elim
  rw[hf] at e1;refine⟨w1,bS ?_,H1.m2,m1⟩;unfold gG;rw[aLx,aD,aLy,l0,aLx,e1,aE,if_neg (by simp)]
 | succ m ih =>
  intro v w hv hvm hno H;have l0:ldL w ⟨p,7,none⟩=some s:=H.ldL rfl;obtain⟨w1,e1,H1,m1⟩:=zS hs H.b2
  cases h:(dz.any fun q=>q.1.pos==v) with
  | false =>
   rw[h] at e1;have hp:iI (dz.map Prod.fst) (m+1) v=v:=by rw[iI,if_neg (by rw[<-yU,h];simp)]
   refine⟨w1,bS ?_,by rw[hp];exact H1.m2,m1⟩;unfold gG;rw[aLx,aD,aLy,l0,aLx,e1,aE,if_neg (by simp)]
  | true =>
   rw[h] at e1;have hp:iI (dz.map Prod.fst) (m+1) v=iI (dz.map Prod.fst) m (v+1):=by rw[iI,if_pos (by rw[<-yU,h])]
   have l1:ldI .i64 w1 ⟨pq,0,none⟩=some v:=H1.sw.ldI rfl;obtain⟨w2,e2,H2,m2⟩:=H1.sw.stV (o:=0) (x:=.int .i64 (v+1)) (by simp) rfl;have H2:Hp F0 g0 w0 g w2 (bxR pq [.int .i64 (v+1)] 3::seR s dz::lbR p (lgC x c base segs age high rel s)::L):=H2;rw[hp] at hno ⊢;obtain⟨w3,e3,H3,m3⟩:=ih (v+1) w2 (by omega) (by omega) hno (H2.b2.sw);refine⟨w3,?_,H3,m1.t (m2.t m3)⟩;rw[<-e3];refine cH ?_;unfold gG;rw[aLx,aD,aLy,l0,aLx,e1,aE,if_pos rfl,l1,aLx,iD (by omega) (by omega),e2,aLx]
theorem aDZ (hb0:0<=base) (hb1:base<=512) (hsg:0<=segs/\segs<=16) (hh : -9223372036854775808<=high/\high<=9223372036854775807) (hn:((dz.map Prod.fst).map fun s=>s.pos).Nodup) (hr:∀ q∈dz,0<=q.1.pos/\q.1.pos<segs/\1<=q.1.seq/\q.1.seq<=4611686018427387904) (hdl:dz.length<=100) (hbd:D.W.length<800000)
  (H:Hp F0 g0 w0 g w (lbR p (lgC x c base segs age high rel s)::dkR x D::seR s dz::L)) :
  ∃ vs g' w',lC (some ⟨p,0,none⟩) w=some (vs,(D.fresh ⟨base,segs,age,high,rel,dz.map Prod.fst⟩).1,w')/\Hp F0 g0 w0 g' w' (lbR p (lgC x c base segs age high rel s)::dkR x (D.fresh ⟨base,segs,age,high,rel,dz.map Prod.fst⟩).2::seR s dz::L)/\Mo g w g' w' /\
   vs.length=5/\(∀ v∈vs,v.oneCell'=true)/\((D.fresh ⟨base,segs,age,high,rel,dz.map Prod.fst⟩).1=0->vs=sgC ⟨iI (dz.map Prod.fst) (dz.map Prod.fst).length 0,nJ (dz.map Prod.fst),1,high,[]⟩ Sl.nil):=by
 have hl:dz.length=s.n:=by have:=H.m2.ow.len;rw[cQ dL] at this;omega
 obtain⟨us,hus⟩:∃ us,dz.map Prod.fst=us:=⟨_,rfl⟩;have hul:us.length=s.n:=by rw[<-hus];simpa using hl
 have hur:∀ s∈us,0<=s.pos/\s.pos<segs:=fun u hu=>by
  rw[<-hus] at hu;obtain⟨q,hq,rfl⟩:=aIP.1 hu;exact⟨(hr q hq).1,(hr q hq).2.1⟩
 have hfull:=nL hsg.1 (by rw[hus] at hn;exact hn) hur;have hout:=vT (us:=us);obtain⟨p1,w1,e1,H1,m1⟩:=H.box (T:=125) (cs:=sg0);have e1':mk w 125 (List.replicate 4 (.int .i64 0)++[.slice none 0 0])=some (⟨p1,0,none⟩,w1):=e1;obtain⟨p4,w2,e2,H2,m2⟩:=H1.box (T:=3) (cs:=[.int .i64 0]);obtain⟨w3,e3,H3,m3⟩:=H2.stV (o:=0) (x:=.int .i64 0) (by simp) rfl;have H3:Hp F0 g0 w0 g w3 (bxR p4 [.int .i64 0] 3::bxR p1 sg0 125::lbR p (lgC x c base segs age high rel s)::dkR x D::seR s dz::L):=H3
 -- order for the loop: log,segments,the place
 obtain⟨w4,e4,H4,m4⟩:=aDb (dz:=dz) (by omega) us.length 0 w3 (aIZ _) (by omega) (by rw[hus];exact hout) ((H3.m4.m3).perm (List.Perm.cons _ (List.Perm.cons _ (List.Perm.refl _))));rw[hus] at H4;obtain⟨pp,hpp⟩:∃ pp,iI us us.length 0=pp:=⟨_,rfl⟩;rw[hpp] at H4 hfull hout;have mm4:=m1.t (m2.t (m3.t m4))
 -- H4: log,segments,place,box,disk
 have l4s:ldL w4 ⟨p,7,none⟩=some s:=H4.ldL rfl;obtain⟨q5,hq5,hq5b⟩:∃ q5,nJ us=q5/\1<=q5/\q5<=4611686018427387905:=by
  refine⟨_,rfl,?_⟩;unfold nJ
  cases h:us.getLast? with
  | none=>simp
  | some u =>
   have hm:=aIL h;rw[<-hus] at hm;obtain⟨q,hq,rfl⟩:=aIP.1 hm;have:=hr q hq;simp only;omega
 have eseq:((some (⟨p,0,none⟩:Addr)).bind fun p31=>(ldL w4 (p31.add 7)).bind fun v33=>if (decide (0<(v33.n:Int)))=true then ((ldL w4 (p31.add 7)).bind fun v36=>(ix v36 (IntKind.wrap .i64 ((v33.n:Int)-1)) 5).bind fun p38=>(ldI .i64 w4 (p38.add 1)).bind fun v40=>some ((IntKind.wrap .i64 (v40+1)),w4)) else (some (1,w4)))=some (q5,w4):=by
  rw[aLx,aD,aLy,l4s,aLx];by_cases h0:0<s.n
  .obtain⟨q,hq⟩:∃ q,dz[dz.length-1]?=some q:=⟨_,aIs (by omega)⟩;have hlast:us.getLast?=some q.1:=by rw[<-hus,aJJ,aJA,aKP,hq];rfl
   obtain⟨b,el⟩:=H4.sw.el dL (by decide) hq;have hix:ix s (IntKind.wrap .i64 ((s.n:Int)-1)) 5=some ⟨b,(dz.length-1)*5,none⟩:=by
    rw[show IntKind.wrap .i64 ((s.n:Int)-1)=((dz.length-1:Nat):Int) by rw[iD (by omega) (by omega)];omega];exact el.ix
   have hs5:nJ us=q.1.seq+1:=by unfold nJ;rw[hlast]
   have ls:ldI .i64 w4 ⟨b,(dz.length-1)*5+1,none⟩=some q.1.seq:=el.i rfl;rw[if_pos (by simpa using h0),aLx,hix,aLx,aD,ls,aLx,iD (by omega) (by omega),<-hs5,hq5]
  have:us=[]:=aIA (by omega);rw[if_neg (by simpa using h0),<-hq5,this];rfl
 obtain⟨w5,e5,H5,m5⟩:=H4.dr;have l5:ldI .i64 w5 ⟨p4,0,none⟩=some pp:=H5.m2.ldI rfl;have l5s:ldI .i64 w5 ⟨p,3,none⟩=some segs:=H5.ldI rfl;have mm5:=mm4.t m5
 -- the box first
 have H5b:=H5.m3;have fin:∀ {w6:World} {g6:Gh} {D6:Dk} (e:Int) (vs:List Value),vs.length=5->(∀ v∈vs,v.oneCell'=true)->Hp F0 g0 w0 g6 w6 (bxR p1 sg0 125::lbR p (lgC x c base segs age high rel s)::seR s dz::bxR p4 [.int .i64 pp] 3::dkR x D6::L)->Mo g w g6 w6 ->
   ∃ w7,(stA w6 ⟨p1,0,none⟩ 0 vs)=some w7/\ldA 5 w7 ⟨p1,0,none⟩ 0=some vs/\Hp F0 g0 w0 g6 w7 (lbR p (lgC x c base segs age high rel s)::dkR x D6::seR s dz::L)/\Mo g w g6 w7:=fun e vs hv h1 H6 m6=>by
  obtain⟨w7,e7,H7,m7,l7⟩:=H6.stA' (vs:=vs) (by rw[hv];rfl) h1;exact⟨w7,e7,l7,(H7.tl.m2.tl.m2.sw),m6.t m7⟩
 have hs1:∀ v∈sg0,v.oneCell'=true:=by intro v hv;simp[sg0] at hv;rcases hv with rfl | rfl<;>rfl
 unfold lC;rw[e1',aE,e2,aE,e3,aLx,e4,aLx,eseq,aE,e5,aLx,l5,aLx,aLx,aD,aLy,l5s,aLx];unfold Dk.fresh;simp only[hus,hpp,hq5];by_cases hfu:segs<=us.length
 .obtain⟨w7,e7,l7,H7,m7⟩:=fin 9 sg0 rfl hs1 H5b mm5;have e7':stA w5 ⟨p1,0,none⟩ 0 (List.replicate 4 (.int .i64 0)++[.slice none 0 0])=some w7:=e7;refine⟨sg0,g,w7,?_,by rw[if_pos hfu];exact H7,m7,rfl,hs1,fun h=>?_⟩
  .rw[if_pos (by simpa using hfull.2.2.2 hfu),e7',aLx,l7,aLx,if_pos hfu]
  rw[if_pos hfu] at h;simp at h
 have hnp:¬ (pp==segs)=true:=by simpa using fun h=>hfu (hfull.2.2.1 h)
 rw[if_neg hnp];simp only[if_neg hfu];by_cases hq:4611686018427387904<q5
 .obtain⟨w7,e7,l7,H7,m7⟩:=fin 6 sg0 rfl hs1 H5b mm5;have e7':stA w5 ⟨p1,0,none⟩ 0 (List.replicate 4 (.int .i64 0)++[.slice none 0 0])=some w7:=e7;refine⟨sg0,g,w7,?_,by rw[if_pos hq];exact H7,m7,rfl,hs1,fun h=>?_⟩
  .rw[if_pos (by simpa using hq),e7',aLx,l7,aLx,if_pos hq]
  rw[if_pos hq] at h;simp at h
 rw[if_neg (by simpa using hq),aLx];simp only[if_neg hq];have hppr:0<=pp/\pp<=16:=⟨hfull.1,by have:=hfull.2.1;omega⟩;have hLC:=qR (x:=x) (c:=c) (segs:=segs) (age:=age) (h:=high) (rel:=rel) (s:=s) hb0 hb1;obtain⟨g6,w6,e6,H6,m6⟩:=aAG (pos:=pp) (i:=0) hLC hppr (by omega) (by omega) (H5.m4.sw);rw[show(16-(0:Int)).toNat=16 from rfl] at e6 H6;have hkW:=uG (base:=base) (pos:=pp) 16 D 0 0;obtain⟨k,hk⟩:∃ k,D.wipe base pp 16 0 0=k:=⟨_,rfl⟩;rw[hk] at e6 H6 hkW;simp only[hk]
 -- H6: log,disk,segments,place,box
 have mm6:=mm5.t m6;rw[e6,lW];by_cases hk0:k.2.1=0
 .rw[if_neg (by simp[hk0])];simp only[hk0,ne_eq,not_true_eq_false,if_false];have l6:ldP w6 ⟨p,0,none⟩=some (some ⟨x,0,none⟩):=H6.ldP rfl;obtain⟨w7,e7,H7,m7⟩:=H6.sw.dsync (by omega);have hsW:k.2.2.sync.2.W.length<=k.2.2.W.length:=by
   unfold Dk.sync;split
   .simp
   split
   .rw[jE];exact aIv _
   simp
  obtain⟨r,hr7⟩:∃ r,k.2.2.sync=r:=⟨_,rfl⟩;rw[hr7] at e7 H7 hsW;simp only[hr7];rw[aD,aLy,l6,aLx,e7,aE];have mm7:=mm6.t m7
  -- H7: disk,log,segments,place,box
  by_cases hr0:r.1=0
  .rw[if_neg (by simp[hr0])];simp only[hr0,ne_eq,not_true_eq_false,if_false];obtain⟨w8,e8,H8,m8⟩:=H7.sw.dr;obtain⟨k9,w9,e9,n9,H9,m9⟩:=H8.key (n:=q5) (by omega) (by omega);have l9:ldI .i64 w9 ⟨p,5,none⟩=some high:=H9.sw.ldI rfl;have l8h:ldI .i64 w8 ⟨p,5,none⟩=some high:=H8.ldI rfl;obtain⟨k10,w10,e10,n10,H10,m10⟩:=H9.key (n:=high) hh.1 hh.2;obtain⟨z11,w11,e11,n11,H11,m11⟩:=H10.tl.apS mS H10.ow.rd dU (by rw[n9,n10];decide);have hks:nums .u8 (fK q5)++nums .u8 (fK high)=nums .u8 (fK q5++fK high):=by simp[nums]
   rw[hks] at H11;obtain⟨g12,p12,H12,m12⟩:=H11.keepO;obtain⟨w13,e13,H13,m13⟩:=H12.dr;have l13:ldI .i64 w13 ⟨p4,0,none⟩=some pp:=H13.m3.ldI rfl;have l13h:ldI .i64 w13 ⟨p,5,none⟩=some high:=H13.ldI rfl;have l13d:ldP w13 ⟨p,0,none⟩=some (some ⟨x,0,none⟩):=H13.ldP rfl;have a13:=aAK (i:=0) hLC hppr ⟨by omega,by omega⟩ H13.bx;obtain⟨z14,w14,e14,H14,m14⟩:=aBT H13 (p12.mo m13) (by simp[gU]) (kind:=1) (by decide) (by decide) true;have l14:ldI .i64 w14 ⟨p4,0,none⟩=some pp:=H14.tl.m3.ldI rfl;have l14h:ldI .i64 w14 ⟨p,5,none⟩=some high:=H14.tl.ldI rfl;have l14d:ldP w14 ⟨p,0,none⟩=some (some ⟨x,0,none⟩):=H14.tl.ldP rfl;obtain⟨w15,e15,H15,m15⟩:=H14.tl.sw.dwrite (i:=base+2+pp*16+0) H14.ow.rd (by omega);have l15:ldI .i64 w15 ⟨p4,0,none⟩=some pp:=H15.m3.ldI rfl;have l15h:ldI .i64 w15 ⟨p,5,none⟩=some high:=H15.sw.ldI rfl;have mm15:=mm7.t (m8.t (m9.t (m10.t (m11.t (m12.t (m13.t (m14.t m15)))))));obtain⟨w16,e16,l16,H16,m16⟩:=fin 0 (sgC ⟨pp,q5,1,high,[]⟩ Sl.nil) rfl mH ((H15.m4).perm (List.Perm.cons _ ((List.Perm.swap _ _ _).trans (List.Perm.cons _ ((List.Perm.swap _ _ _).trans (List.Perm.cons _ (List.Perm.swap _ _ _))))))) mm15;have e16':stA w15 ⟨p1,0,none⟩ 0 [.int .i64 pp,.int .i64 q5,.int .i64 1,.int .i64 high,.slice none 0 0]=some w16:=e16;refine⟨_,g12,w16,?_,H16,m16,rfl,mH,fun _=>rfl⟩;rw[e8,aLx,e9,aE,aD,aLy,l9,aLx,e10,aE,e11,aE,gR l8h,e13,aLx,l13,aLx,l13h,aLx,l13d,aLx,aLx,a13,aE,e14,aE,e15,aE,e16',aLx,
    gR l13,gR l14,gR l15,gR l13h,gR l14h,gR l15h,gR l13d,gR l14d,l16,aLx]
  rw[if_pos (by simpa using hr0)];simp only[ne_eq,hr0,not_false_eq_true,if_true];obtain⟨w8,e8,l8,H8,m8⟩:=fin r.1 sg0 rfl hs1 ((H7.m4).perm (List.Perm.cons _ ((List.Perm.swap _ _ _).trans (List.Perm.cons _ ((List.Perm.swap _ _ _).trans (List.Perm.cons _ (List.Perm.swap _ _ _))))))) mm7;have e8':stA w7 ⟨p1,0,none⟩ 0 (List.replicate 4 (.int .i64 0)++[.slice none 0 0])=some w8:=e8;exact⟨sg0,g6,w8,by rw[e8',aLx,l8,aLx],H8,m8,rfl,hs1,fun h=>by first | exact(hr0 h).elim | exact h.elim⟩
 rw[if_pos (by simpa using hk0)];simp only[ne_eq,hk0,not_false_eq_true,if_true];obtain⟨w7,e7,l7,H7,m7⟩:=fin k.2.1 sg0 rfl hs1 ((H6.m4).perm (List.Perm.cons _ (List.Perm.cons _ ((List.Perm.swap _ _ _).trans (List.Perm.cons _ (List.Perm.swap _ _ _)))))) mm6;have e7':stA w6 ⟨p1,0,none⟩ 0 (List.replicate 4 (.int .i64 0)++[.slice none 0 0])=some w7:=e7;exact⟨sg0,g6,w7,by rw[e7',aLx,l7,aLx],H7,m7,rfl,hs1,fun h=>by first | exact(hk0 h).elim | exact h.elim⟩
end
theorem aEs {α:Type} {l:List α} {x:α} (h:0<l.length):l.set (l.length-1) x=l.dropLast++[x]:=by
 obtain⟨A,a,rfl⟩:∃ A a,l=A++[a]:=⟨l.dropLast,l.getLast (by intro e;subst e;simp at h),(aJP _).symm⟩;rw[aJm _ _ (by simp)];simp
theorem aBR {D:Dk} {l:Lg}:(D.fresh l).2.W.length<=D.W.length+17:=by
 have h1:=uG (base:=l.base) (pos:=iI l.used l.used.length 0) 16 D 0 0;have hs:∀ D:Dk,D.sync.2.W.length<=D.W.length:=fun D=>by
  unfold Dk.sync;split
  .simp
  split
  .rw[jE];exact aIv _
  simp
 have h2:=hs (D.wipe l.base (iI l.used l.used.length 0) 16 0 0).2.2;have h3:=lH (D.wipe l.base (iI l.used l.used.length 0) 16 0 0).2.2.sync.2 (l.base+2+iI l.used l.used.length 0*16+0) (lL 1 (fK (nJ l.used)++fK l.high) true);unfold Dk.fresh;split;· simp
 split;· simp
 split;· simp only;omega
 split;· omega
 omega
section
variable {F0 : Nat -> Prop} {g0 : Gh} {w0 : World} {L : List Rs} {s : Sl} {x c p pb : Nat} {base segs age high rel t : Int} {dz : List (Sg × Sl)} {l : Lg}
theorem aEQ {cs:List Value} (hc:LC cs x base) {q:Sg} {zr:Sl} (hp:0<=q.pos/\q.pos<=16) {Φ:(World⊕(Int×World))->Prop}:∀ (m:Nat) (i kind:Int) (all:List Int) (z:Sl) (D:Dk) (g:Gh) (w:World),0<=i->i+m<=16->all.length<=59*m->59*m<all.length+59->0<=kind->kind<256->D.W.length+m<900000->PR g w z 1 (nums .u8 all)->z.n<=z.c ->
  Hp F0 g0 w0 g w (bxR pb (sgC ⟨q.pos,q.seq,i,q.high,q.recs⟩ zr) 125::lbR p cs::dkR x D::L) ->
  (∀ g' w',(D.puts base q.pos m i kind all).1=0->Hp F0 g0 w0 g' w' (bxR pb (sgC ⟨q.pos,q.seq,i+m,q.high,q.recs⟩ zr) 125::lbR p cs::dkR x (D.puts base q.pos m i kind all).2::L)->Mo g w g' w'->Φ (.inl w')) ->
  (∀ g' w',(D.puts base q.pos m i kind all).1≠0->Hp F0 g0 w0 g' w' (lbR p cs::dkR x (D.puts base q.pos m i kind all).2::L)->Mo g w g' w'->Φ (.inr ((D.puts base q.pos m i kind all).1,w'))) ->
  (fB (fun r:Sl×Int×World=>hY (some ⟨p,0,none⟩) ⟨pb,0,none⟩ r.1 r.2.1 r.2.2) (z,kind,w)).t Φ:=by
 intro m
 induction m with
 | zero =>
  intro i kind all z D g w hi him hal hal2 k0 k1 hbd hr hzc H h1 h2;have hn:all.length=z.n:=by have:=hr.rd.len;simpa using this
  refine Nd.next ?_
  unfold hY;refine Nd.f (by simp;omega) (Nd.ret (h1 g w rfl (by simpa[Dk.puts] using H) Mo.r))
 | succ m ih =>
  intro i kind all z D g w hi him hal hal2 k0 k1 hbd hr hzc H h1 h2;have hn:all.length=z.n:=by have:=hr.rd.len;simpa using this
  have hne:¬ all=[]:=fun e=>by subst e;simp at hal2;omega
  obtain⟨k,hk⟩:∃ k,min 59 all.length=k:=⟨_,rfl⟩;have hkn:mnI 59 (z.n:Int)=(k:Int):=by unfold mnI;split<;>omega
  have hke:((k:Int)==(z.n:Int))=(k==all.length):=by
   rw[<-hn,aJw,beq_iff_eq,beq_iff_eq];omega
  have h1':=h1;have h2':=h2;rw[Dk.puts,if_neg hne,hk] at h1' h2';obtain⟨w1,e1,H1,m1⟩:=H.dr;have l1d:ldP w1 ⟨p,0,none⟩=some (some ⟨x,0,none⟩):=H1.sw.ldP hc.d;have l1p:ldI .i64 w1 ⟨pb,0,none⟩=some q.pos:=H1.ldI rfl;have l1i:ldI .i64 w1 ⟨pb,2,none⟩=some i:=H1.ldI rfl;have a1:=aAK (i:=i) hc hp (by omega) H1.sw.bx;have r1:=hr.mo m1;obtain⟨z2,e2,r2,n2,c2⟩:=r1.slN (lo:=0) (hi:=k) (m:=k) (by omega) (by omega) (aIv _) (by omega);have e2':slS z 0 (k:Int) (k:Int) 1=some z2:=e2;rw[aJj,Nat.sub_zero] at r2;obtain⟨z3,w3,e3,H3,m3⟩:=aBT H1 r2 (by rw[aIN];omega) k0 k1 (k==all.length);have l3d:ldP w3 ⟨p,0,none⟩=some (some ⟨x,0,none⟩):=H3.m2.ldP hc.d;obtain⟨w4,e4,H4,m4⟩:=H3.m3.dwrite (i:=base+2+q.pos*16+i) H3.ow.rd (by omega);have hww:=lH D (base+2+q.pos*16+i) (lL kind (all.take k) (k==all.length));obtain⟨r,hrr⟩:∃ r,D.write (base+2+q.pos*16+i) (lL kind (all.take k) (k==all.length))=r:=⟨_,rfl⟩;rw[hrr] at e4 H4 h1' h2' hww;have mm:=m1.t (m3.t m4);have H4:=H4.sw.tl.b2;refine Nd.next ?_
  unfold hY;rw[hkn,hke];refine Nd.t (by simp;omega) (Nd.b1 e1 (Nd.s1 (Nd.b1 (by rw[aD];exact l1d) (Nd.b1 (by rw[aD];exact l1p) (Nd.b1 (by rw[aD];exact l1i) (Nd.b2 a1 (Nd.b1 e2' (Nd.b2 e3 (Nd.b2 e4 (Nd.ck (by rw[aD];exact l1d) (Nd.ck (by rw[aD];exact l3d) ?_)))))))))));by_cases h0:r.1=0
  .rw[if_pos h0] at h1' h2';have r4:=hr.mo mm;obtain⟨z5,e5,r5,n5,c5⟩:=r4.slN (lo:=k) (hi:=z.n) (m:=z.c) (by omega) (aIv _) hzc (aIv _);rw[aIB (by rw[aIY];omega)] at r5;have l4:ldI .i64 w4 ⟨pb,2,none⟩=some i:=H4.ldI rfl;obtain⟨w6,e6,H6,m6⟩:=H4.stV (o:=2) (x:=.int .i64 (i+1)) (by simp[sgC]) rfl;have H6:Hp F0 g0 w0 g w6 (bxR pb (sgC ⟨q.pos,q.seq,i+1,q.high,q.recs⟩ zr) 125::lbR p cs::dkR x r.2::L):=H6;refine Nd.f (by simp[h0]) (Nd.b1 e5 (Nd.b1 (by rw[aD];exact l4) (Nd.b1 (by rw[aD,iD (by omega) (by omega)];exact e6) (Nd.ret ?_))));refine ih (i+1) 3 (all.drop k) z5 r.2 g w6 (by omega) (by omega) (by rw[aIY];omega) (by rw[aIY];omega) (by decide) (by decide) (by omega) (r5.mo m6) c5 H6 (fun g' w' he H' m'=>?_) (fun g' w' he H' m'=>?_)
   .rw[show i+1+(m:Int)=i+((m+1:Nat):Int) by omega] at H';exact h1' g' w' he H' (mm.t (m6.t m'))
   exact h2' g' w' he H' (mm.t (m6.t m'))
  rw[if_neg h0] at h1' h2';exact Nd.t (by simpa using h0) (Nd.ret (h2' g w4 h0 H4.tl mm))
theorem aGF {n:Nat} (h:n<=1000):dvI .i64 (IntKind.wrap .i64 (IntKind.wrap .i64 ((n:Int)+59)-1)) 59=some (((n+58) / 59:Nat):Int):=by
 rw[iD (x:=(n:Int)+59) (by omega) (by omega),iD (by omega) (by omega)];unfold dvI;rw[if_neg (by decide),aJE (by omega)];rw[show(n:Int)+59-1=((n+58:Nat):Int) by omega,iD (by omega) (by omega)];rfl
theorem wN {g:Gh} {w:World} {v:Sl} {rs:List (Int×List Int)} (h:RcL g w v rs) (H:Hp F0 g0 w0 g w L) (hn:rs.length<=100000):∃ z w',dC v w=some (z,w')/\(∃ rz,Hp F0 g0 w0 g w' (owR 87 2 z (rz.flatMap rcF)::L)/\RZ g w' rz rs)/\Mo g w g w':=by
 have hnn:=h.n;obtain⟨rz,h1,h2⟩:=h;unfold dC
 cases hp:v.p with
 | none =>
  have h0:v.n=0:=by
   rcases aJq v.n with h0 | h0
   .exact h0
   obtain⟨a,e,_⟩:=h1.rd.at_ h0;rw[hp] at e;cases e
  have hrz:rz=[]:=aIA (by rw[h2.1];omega);subst hrz;exact⟨Sl.nil,w,by simp,⟨[],H.onil,h2⟩,Mo.r⟩
 | some a =>
  obtain⟨z1,w1,e1,n1,_,H1,m1⟩:=H.bsl (T:=87) (sz:=2) (ps:=[]) (by intro p hp;cases hp) (by simp);obtain⟨z2,w2,e2,n2,H2,m2⟩:=H1.apS tO (h1.mo m1).rd (by intro v hv;obtain⟨r,_,hr⟩:=aLi.1 hv;exact gX v hr) (by rw[n1];simp;omega);refine⟨z2,w2,?_,⟨rz,by simpa using H2,h2.mo (m1.t m2)⟩,m1.t m2⟩;rw[if_neg (by simp),e1,aE,e2,aE]
theorem uA {g:Gh} {w:World} {D:Dk} {y:Sl} {body:List Int} {t:Int} (hw:l.Wf) (H:Hp F0 g0 w0 g w (lgR p x l::dkR x D::L)) (hy:∀ {g':Gh} {w':World} (L':List Rs),Hp F0 g0 w0 g' w' (L'++L)->Mo g w g' w'->Rd w' y 1 (nums .u8 body)) (hbd:D.W.length<700000) {Φ:Int×World->Prop}
  (hΦ:∀ g' w',Hp F0 g0 w0 g' w' (lgR p x (D.appendL l t body).2.2::dkR x (D.appendL l t body).2.1::L)->Mo g w g' w'->Φ ((D.appendL l t body).1,w')):(iJ (some ⟨p,0,none⟩) t y w).t Φ:=by
 have hyn:body.length=y.n:=by have:=(hy [_,_] H Mo.r).len;simpa using this
 obtain⟨w1,e1,H1,m1⟩:=yP H;unfold Dk.appendL at hΦ;unfold iJ;refine Nd.b2 e1 ?_;by_cases hb:D.badL l=0
 rotate_left
 .rw[if_pos (by simpa using hb)] at hΦ;exact Nd.t (by simpa using hb) (Nd.ret (hΦ g w1 H1 m1))
 rw[if_neg (by simp[hb])] at hΦ;refine Nd.f (by simp[hb]) ?_;by_cases h4:400<body.length
 .rw[if_pos h4] at hΦ;exact Nd.t (by simp;omega) (Nd.ret (hΦ g w1 H1 m1))
 rw[if_neg h4] at hΦ;refine Nd.f (by simp;omega) ?_;obtain⟨c,s,dz,hd1,hd2,hd3,H1'⟩:=H1.lgo;have l1h:ldI .i64 w1 ⟨p,5,none⟩=some l.high:=H1'.ldI rfl;by_cases ht:t<=l.high\/1099511627776<t
 .rw[if_pos ht] at hΦ;refine Nd.j2 (Ψ:=fun r=>r=(true,w1)) (Nd.s1 (Nd.b1 (by rw[aD];exact l1h) ?_)) ?_
  .by_cases h5:t<=l.high
   .exact Nd.t (by simpa using h5) (Nd.ret rfl)
   exact Nd.f (by simpa using h5) (Nd.ret (by rw[decide_eq_true (by omega)]))
  rintro _ _ he;cases he;exact Nd.t rfl (Nd.ret (hΦ g w1 H1 m1))
 rw[if_neg ht] at hΦ;refine Nd.j2 (Ψ:=fun r=>r=(false,w1)) (Nd.s1 (Nd.b1 (by rw[aD];exact l1h) (Nd.f (by simpa using fun h=>ht (.inl h)) (Nd.ret (by rw[decide_eq_false (fun h=>ht (.inr h))]))))) ?_;rintro _ _ he;cases he;refine Nd.f (by simp) ?_;have hth : -9223372036854775808<=t/\t<=9223372036854775807:=by have:=hw.r0;have:=hw.r1;omega
 -- the key,and the body behind it
 obtain⟨k2,w2,e2,n2,H2,m2⟩:=H1'.key hth.1 hth.2;obtain⟨z3,w3,e3,n3,H3,m3⟩:=H2.apS mS (hy [_,_,_,_] H2 (m1.t m2)) dU (by rw[n2];omega);rw[show nums .u8 (fK t)++nums .u8 body=nums .u8 (fK t++body) by simp[nums]] at H3;have hz3c:=H3.ow.cap;obtain⟨g3,r3,H3k,m3k⟩:=H3.keepO;have hz3:z3.n=body.length+8:=by omega
 have hsec:dvI .i64 (IntKind.wrap .i64 (IntKind.wrap .i64 ((z3.n:Int)+59)-1)) 59=some (bN body:Int):=by
  rw[hz3];exact aGF (by omega)
 have hsb:bN body<=7/\1<=bN body:=by unfold bN;omega
 have mm3:=m1.t (m2.t (m3.t m3k));obtain⟨us,hus⟩:∃ us,l.used=us:=⟨_,rfl⟩;rw[hus] at hd1;have hdl:dz.length=us.length:=by rw[<-hd1];simp
 have hds:dz.length=s.n:=by have:=H3k.sw.ow.len;rw[cQ dL] at this;omega
 have hdl16:us.length<=16:=by
  have:=tL (l:=us.map fun s=>s.pos) (m:=(List.range 16).map fun k:Nat=>(k:Int)) (by rw[<-hus];exact hw.nd) (fun x hx=>by
   obtain⟨q,hq,rfl⟩:=aIP.1 hx;rw[<-hus] at hq;have h1:=(hw.seg q hq).p0;have h2:=(hw.seg q hq).p1;have:=hw.s1;exact aIP.2 ⟨q.pos.toNat,aIO.2 (by omega),by omega⟩)
  simpa using this
 have hdw:∀ q∈dz,q.1.Wf l.segs:=fun q hq=>hw.seg q.1 (by rw[hus,<-hd1];exact aIP.2 ⟨q,hq,rfl⟩);have l3:ldL w3 ⟨p,7,none⟩=some s:=H3k.ldL rfl
 -- whether a segment is begun
 obtain⟨bg,hbg⟩:∃ bg,fY us (bN body)=bg:=⟨_,rfl⟩;have lastq:0<dz.length->∃ q,dz[dz.length-1]?=some q/\us.getLast?=some q.1:=fun h0=>by
  obtain⟨q,hq⟩:∃ q,dz[dz.length-1]?=some q:=⟨_,aIs (by omega)⟩;exact⟨q,hq,by rw[<-hd1,aJJ,aJA,aKP,hq];rfl⟩
 have hixl:∀ {w':World} {cs:List Value} {b:Nat},El w' s 5 b (dz.length-1) cs->0<dz.length->ix s (IntKind.wrap .i64 ((s.n:Int)-1)) 5=some ⟨b,(dz.length-1)*5,none⟩:=fun el h0=>by
  rw[show IntKind.wrap .i64 ((s.n:Int)-1)=((dz.length-1:Nat):Int) by rw[iD (by omega) (by omega)];omega];exact el.ix
 refine Nd.b2 e2 (Nd.b2 e3 (Nd.b1 hsec (Nd.s1 (Nd.b1 (by rw[aD];exact l3) (Nd.j2 (Ψ:=fun r=>r=(bg,w3)) ?_ ?_)))))
 .by_cases h0:0<dz.length
  .obtain⟨q,hq,hlast⟩:=lastq h0;obtain⟨b,el⟩:=H3k.sw.el dL (by decide) hq;have lf:ldI .i64 w3 ⟨b,(dz.length-1)*5+2,none⟩=some q.1.fin:=el.i rfl;have hqw:=hdw q (aIF hq);have hf0:=hqw.f0;have hf1:=hqw.f1;refine Nd.f (by rw[iD (by omega) (by omega)];simp;omega) (Nd.b1 (by rw[aD];exact l3) (Nd.b1 (hixl el h0) (Nd.b1 (by rw[aD];exact lf) (Nd.ret ?_))));rw[iD (by omega) (by omega),<-hbg];unfold fY;rw[hlast]
  have:us=[]:=aIA (by omega);refine Nd.t (by rw[iD (by omega) (by omega)];simp;omega) (Nd.ret ?_);rw[<-hbg,this];rfl
 rintro _ _ he;cases he;obtain⟨pb,w4,e4,H4,m4⟩:=H3k.box (T:=125) (cs:=sg0);have e4':mk w3 125 (List.replicate 4 (.int .i64 0)++[.slice none 0 0])=some (⟨pb,0,none⟩,w4):=e4;refine Nd.b2 e4' ?_;have hle:(⟨l.base,l.segs,l.age,l.high,l.rel,dz.map Prod.fst⟩:Lg)=l:=by rw[hd1,<-hus]
 -- the segment to which it is appended
 obtain⟨cu,hcu⟩:∃ cu,iR l (bN body)=cu:=⟨_,rfl⟩;have hcue:cu=if bg=true then ⟨iI us us.length 0,nJ us,1,l.high,[]⟩ else us.getLast?.getD ⟨0,0,0,0,[]⟩:=by rw[<-hcu];unfold iR;rw[hus,hbg]
 obtain⟨D5,hD5⟩:∃ D5,(if bg=true then (D.fresh l).2 else D)=D5:=⟨_,rfl⟩;have hD5W:D5.W.length<=D.W.length+17:=by
  rw[<-hD5];split
  .exact aBR
  omega
 unfold oF at hΦ;rw[hus,hbg,hcu,hD5] at hΦ;refine Nd.jX (Ψ:=fun w'=>(bg=true->(D.fresh l).1=0)/\∃ g' zr,Hp F0 g0 w0 g' w' (bxR pb (sgC cu zr) 125::lbR p (lgC x c l.base l.segs l.age l.high l.rel s)::dkR x D5::seR s dz::L)/\Mo g3 w3 g' w'/\RcL g' w' zr cu.recs) ?_ ?_
 .cases hbv:bg with
  | true =>
   rw[hbv] at hcue hD5 hΦ;rw[if_pos rfl] at hcue hD5;obtain⟨vs,g5,w5,e5,H5,m5,hv5,hv1,hvs⟩:=aDZ (dz:=dz) hw.b0 hw.b1 ⟨by have:=hw.s0;omega,hw.s1⟩ ⟨by have:=hw.r0;have:=hw.r1;omega,by have:=hw.h1;omega⟩ (by rw[hd1,<-hus];exact hw.nd) (fun q hq=>⟨(hdw q hq).p0,(hdw q hq).p1,(hdw q hq).q0,(hdw q hq).q1⟩) (by omega) (by omega) ((H4.b2.m3).perm ((List.Perm.swap _ _ _).trans (List.Perm.cons _ (List.Perm.refl _))));rw[hle] at e5 H5 hvs;obtain⟨p6,w6,e6,H6,m6⟩:=H5.box (T:=125) (cs:=sg0);have e6':mk w5 125 (List.replicate 4 (.int .i64 0)++[.slice none 0 0])=some (⟨p6,0,none⟩,w6):=e6;obtain⟨w7,e7,H7,m7,l7⟩:=H6.stA' (vs:=vs) (by rw[hv5];rfl) hv1;have l7':ldA 5 w7 ⟨p6,0,none⟩ 0=some vs:=l7;refine Nd.t rfl (Nd.b3 e5 (Nd.b2 e6' (Nd.b1 e7 (Nd.ck hv5 ?_))))
   -- H7: box6,log,disk,segments,box
   by_cases hf0:(D.fresh l).1=0
   .have hve:=hvs hf0;rw[hd1] at hve;obtain⟨w8,e8,H8,m8,l8⟩:=(H7.tl.m3).stA' (vs:=vs) (by rw[hv5];rfl) hv1;refine Nd.f (by simp[hf0]) (Nd.b1 l7' (Nd.b1 e8 (Nd.ret ⟨fun _=>hf0,g5,Sl.nil,?_,m4.t (m5.t (m6.t (m7.t m8))),by rw[hcue];exact RcL.nil⟩)));rw[hcue,<-hD5,<-hve];exact H8
   rw[if_pos ⟨rfl,hf0⟩] at hΦ;refine Nd.t (by simpa using hf0) (Nd.j1 (Ψ:=fun r=>Φ r) (Nd.ret (hΦ g5 w7 ?_ (mm3.t (m4.t (m5.t (m6.t m7)))))) (fun r hr=>Nd.ret hr));have hM:=m3k.t (m4.t (m5.t (m6.t m7)));exact Hp.lgi (by rw[hd1,hus]) (hd2.mo ((m2.t m3).t hM)) (hd3.mo ((m2.t m3).t hM)) ((H7.tl.m2).perm ((List.Perm.swap _ _ _).trans (List.Perm.cons _ (List.Perm.cons _ (by exact(List.Perm.cons _ (List.Perm.refl _))))))|>.m3|>.tl)
  | false =>
   rw[hbv] at hcue hD5 hbg;rw[if_neg (by simp)] at hcue hD5;have h0:0<dz.length:=by
    rcases aJq dz.length with h | h
    .have:us=[]:=aIA (by omega);rw[this] at hbg;cases hbg
    exact h
   obtain⟨q,hq,hlast⟩:=lastq h0;have hcq:cu=q.1:=by rw[hcue,hlast];rfl
   have l4:ldL w4 ⟨p,7,none⟩=some s:=H4.sw.ldL rfl;obtain⟨b,el⟩:=H4.m2.el dL (by decide) hq;obtain⟨w5,e5,H5,m5,l5⟩:=H4.stA' (vs:=sgF q) rfl mH;refine Nd.f (by simp) (Nd.b1 (by rw[aD];exact l4) (Nd.b1 (hixl el h0) (Nd.b1 el.ldA (Nd.b1 e5 (Nd.ret ⟨fun h=>(by cases h),g3,q.2,?_,m4.t m5,?_⟩)))))
   .rw[hcq,<-hD5];exact H5.m3.b2
   rw[hcq];exact(hd3 q (aIF hq)).mo ((m2.t (m3.t m3k)).t (m4.t m5))
 rintro w5 ⟨hfr,g5,zr,H5,m5,hrc⟩;have hno:¬ (bg=true/\(D.fresh l).1≠0):=fun h=>h.2 (hfr h.1);rw[if_neg hno] at hΦ;have m05:=mm3.t m5;obtain⟨z6,w6,e6,H6,m6⟩:=xR H5 (hy [_,_,_,_] H5 m05) (by omega);obtain⟨g6,r6,H6,m6k⟩:=H6.keepO;obtain⟨p7,w7,e7,H7,m7⟩:=H6.box (T:=87) (cs:=rcC 0 Sl.nil);have e7':mk w6 87 [.int .i64 0,.slice none 0 0]=some (⟨p7,0,none⟩,w7):=e7;obtain⟨w8,e8,H8,m8,l8⟩:=H7.stA' (vs:=rcC t z6) rfl gX;have m58:=m6.t (m6k.t (m7.t m8));have m08:=m05.t m58;have hcp:0<=cu.pos/\cu.pos<=16/\1<=cu.fin/\cu.fin+bN body<=16/\cu.recs.length<=16:=by
  have:=hw.s1
  cases hbv:bg with
  | true =>
   rw[hbv,if_pos rfl] at hcue;have:=nL (us:=us) (segs:=l.segs) (by have:=hw.s0;omega) (by rw[<-hus];exact hw.nd) (fun s hs=>by rw[<-hus] at hs;exact⟨(hw.seg s hs).p0,(hw.seg s hs).p1⟩);rw[hcue];simp only[aIS];omega
  | false =>
   rw[hbv,if_neg (by simp)] at hcue;rw[hbv] at hbg
   cases h:us.getLast? with
   | none=>unfold fY at hbg;rw[h] at hbg;cases hbg
   | some u =>
    rw[h] at hcue;have hcu':cu=u:=hcue;have hu:u∈l.used:=by rw[hus];exact aIL h
    have hw':=hw.seg u hu;have h1:=hw'.p0;have h2:=hw'.p1;have h3:=hw'.f0;have h5:=hw'.rn;have h6:=hw'.f1
    unfold fY at hbg;rw[h] at hbg;have:¬ (16<u.fin+(bN body:Int)):=by simpa using hbg
    rw[hcu'];omega
 obtain⟨r,hr9⟩:∃ r,D5.puts l.base cu.pos (bN body) cu.fin 2 (fK t++body)=r:=⟨_,rfl⟩;rw[hr9] at hΦ;have hall:(fK t++body).length=body.length+8:=by rw[aIE,gU];omega
 have hLC:=qR (x:=x) (c:=c) (segs:=l.segs) (age:=l.age) (h:=l.high) (rel:=l.rel) (s:=s) hw.b0 hw.b1;refine Nd.b2 e6 (Nd.b2 e7' (Nd.b1 e8 (Nd.j1 (Ψ:=fun o=>match o with
  | .inl w'=>r.1=0/\∃ g',Hp F0 g0 w0 g' w' (bxR pb (sgC ⟨cu.pos,cu.seq,cu.fin+bN body,cu.high,cu.recs⟩ zr) 125::lbR p (lgC x c l.base l.segs l.age l.high l.rel s)::dkR x r.2::bxR p7 (rcC t z6) 87::seR s dz::L)/\Mo g6 w8 g' w'
  | .inr (e,w')=>e=r.1/\r.1≠0/\∃ g',Hp F0 g0 w0 g' w' (lbR p (lgC x c l.base l.segs l.age l.high l.rel s)::dkR x r.2::bxR p7 (rcC t z6) 87::seR s dz::L)/\Mo g6 w8 g' w') ?_ ?_)))
 .refine aEQ hLC (q:=cu) (zr:=zr) ⟨hcp.1,hcp.2.1⟩ (bN body) cu.fin 2 (fK t++body) z3 D5 g6 w8 (by omega) hcp.2.2.2.1 (by rw[hall];unfold bN;omega) (by rw[hall];unfold bN;omega) (by decide) (by decide) (by omega) (r3.mo (m5.t m58)) hz3c (H8.b3) (fun g' w' he H' m'=>?_) (fun g' w' he H' m'=>?_)
  .rw[hr9] at he H';exact⟨he,g',H',m'⟩
  rw[hr9] at he H' ⊢;exact⟨rfl,he,g',H',m'⟩
 rintro(w9 | ⟨e9,w9⟩) h9
 rotate_left
 .obtain⟨rfl,hr0,g9,H9,m9⟩:=h9;rw[if_pos hr0] at hΦ;have hM:=(m2.t (m3.t m3k)).t (m5.t (m58.t m9));exact Nd.ret (hΦ g9 w9 (Hp.lgi (by rw[hd1,hus]) (hd2.mo hM) (hd3.mo hM) (H9.m2.tl.m2.sw)) (m08.t m9))
 obtain⟨hr0,g9,H9,m9⟩:=h9;rw[if_neg (by simp[hr0])] at hΦ;obtain⟨w10,e10,H10,m10⟩:=H9.dr;have mm10:=m5.t (m58.t (m9.t m10));have hrc10:=hrc.mo (m58.t (m9.t m10));have l10:ldL w10 ⟨pb,4,none⟩=some zr:=H10.ldL rfl;have l10a:ldA 2 w10 ⟨p7,0,none⟩ 0=some (rcC t z6):=by rw[nK H10.m3.bx (by exact aIv _)];rfl
 have hrn:cu.recs.length=zr.n:=hrc10.n
 -- records,and the new one
 refine Nd.j1 (Ψ:=fun w'=>∃ g' zn,Hp F0 g0 w0 g' w' (bxR pb (sgC ⟨cu.pos,cu.seq,cu.fin+bN body,cu.high,cu.recs++[(t,body)]⟩ zn) 125::lbR p (lgC x c l.base l.segs l.age l.high l.rel s)::dkR x r.2::seR s dz::L)/\Mo g9 w10 g' w'/\RcL g' w' zn (cu.recs++[(t,body)])) (Nd.b1 e10 (Nd.b1 (by rw[aD];exact l10) (Nd.b1 l10a (Nd.both ?_ ?_)))) ?_
 .obtain⟨za,wa,ea,⟨rz,Ha,hrz⟩,ma⟩:=wN hrc10 H10 (by omega);have lac:ldA 2 wa ⟨p7,0,none⟩ 0=some (rcC t z6):=by rw[nK (Ha.m4).bx (by exact aIv _)];rfl
  have hzn:rz.length=za.n:=by have:=Ha.ow.len;rw[cQ jP] at this;omega
  obtain⟨zb,wb,eb,nb,_,Hb,mb⟩:=Ha.bsl (T:=87) (sz:=2) (ps:=[rcC t z6]) (by intro v hv;simp at hv;subst hv;rfl) (by simp);obtain⟨zc,wc,ec,nc,Hc,mc⟩:=Hb.tl.apS tO Hb.ow.rd (by intro v hv;simp at hv;exact gX v hv) (by rw[nb];simp;have:=hrz.1;omega);rw[show rz.flatMap rcF++[rcC t z6].flatten=(rz++[(t,z6)]).flatMap rcF by simp[rcF]] at Hc;obtain⟨gd,rd,Hd,md⟩:=Hc.keepO;obtain⟨we,ee,He,me⟩:=Hd.stV (o:=4) (x:=zc.v) (by simp[sgC]) rfl;have mz:=mb.t (mc.t (md.t me));exact Nd.b2 ea (Nd.b2 eb (Nd.b2 ec (Nd.b1 (by rw[aD];exact ee) (Nd.ck lac (Nd.ret ⟨gd,zc,He.m3.tl,ma.t mz,⟨_,rd.mo me,(hrz.mo mz).snoc (r6.mo ((m7.t (m8.t (m9.t m10))).t (ma.t mz)))⟩⟩)))))
 .obtain⟨zb,wb,eb,nb,_,Hb,mb⟩:=H10.bsl (T:=87) (sz:=2) (ps:=[rcC t z6]) (by intro v hv;simp at hv;subst hv;rfl) (by simp);have lb:ldL wb ⟨pb,4,none⟩=some zr:=Hb.sw.ldL rfl;obtain⟨za,wa,ea,⟨rz,Ha,hrz⟩,ma⟩:=wN (hrc10.mo mb) Hb (by omega);have hzn:rz.length=za.n:=by have:=Ha.ow.len;rw[cQ jP] at this;omega
  obtain⟨zc,wc,ec,nc,Hc,mc⟩:=Ha.sw.tl.apS tO Ha.sw.ow.rd (by intro v hv;simp at hv;exact gX v hv) (by rw[nb];simp;have:=hrz.1;omega);rw[show rz.flatMap rcF++[rcC t z6].flatten=(rz++[(t,z6)]).flatMap rcF by simp[rcF]] at Hc;obtain⟨gd,rd,Hd,md⟩:=Hc.keepO;obtain⟨we,ee,He,me⟩:=Hd.stV (o:=4) (x:=zc.v) (by simp[sgC]) rfl;have mz:=mc.t (md.t me);exact Nd.b2 eb (Nd.b2 ea (Nd.b2 ec (Nd.b1 (by rw[aD];exact ee) (Nd.ck (by rw[aD];exact lb) (Nd.ret ⟨gd,zc,He.m3.tl,mb.t (ma.t mz),⟨_,rd.mo me,(hrz.mo mz).snoc (r6.mo ((m7.t (m8.t (m9.t m10))).t (mb.t (ma.t mz))))⟩⟩)))))
 rintro w11 ⟨g11,zn,H11,m11,hrn11⟩;obtain⟨w12,e12,H12,m12⟩:=H11.stV (o:=3) (x:=.int .i64 t) (by simp[sgC]) rfl;obtain⟨w13,e13,H13,m13⟩:=H12.sw.stV (o:=5) (x:=.int .i64 t) (by simp[lgC]) rfl;obtain⟨nq,hnq⟩:∃ nq:Sg,nq=⟨cu.pos,cu.seq,cu.fin+bN body,t,cu.recs++[(t,body)]⟩:=⟨_,rfl⟩;have H13:Hp F0 g0 w0 g11 w13 (lbR p (lgC x c l.base l.segs l.age t l.rel s)::bxR pb (sgF (nq,zn)) 125::dkR x r.2::seR s dz::L):=by rw[hnq];exact H13
 refine Nd.b1 (by rw[aD];exact e12) (Nd.b1 (by rw[aD];exact e13) ?_);obtain⟨w14,e14,H14,m14⟩:=H13.dr;have l14:ldL w14 ⟨p,7,none⟩=some s:=H14.ldL rfl;have l14a:ldA 5 w14 ⟨pb,0,none⟩ 0=some (sgF (nq,zn)):=by rw[nK H14.sw.bx (by exact aIv _)];rfl
 have m1114:=m12.t (m13.t m14);have mAll:=(m2.t (m3.t m3k)).t (mm10.t (m11.t m1114));rw[<-hnq] at hΦ;refine Nd.j1 (Ψ:=fun w'=>Φ (0,w')) ?_ (fun w' h'=>Nd.ret h')
 cases hbv:bg with
 | true =>
  rw[hbv] at hΦ;obtain⟨zb,wb,eb,nb,_,Hb,mb⟩:=H14.bsl (T:=125) (sz:=5) (ps:=[sgF (nq,zn)]) (by intro v hv;simp at hv;subst hv;rfl) (by simp);have lb:ldL wb ⟨p,7,none⟩=some s:=Hb.sw.ldL rfl;obtain⟨zc,wc,ec,nc,Hc,mc⟩:=Hb.tl.m3.apS aDP Hb.ow.rd (by intro v hv;simp at hv;exact mH v hv) (by rw[nb];simp;omega);rw[show dz.flatMap sgF++[sgF (nq,zn)].flatten=(dz++[(nq,zn)]).flatMap sgF by simp] at Hc;obtain⟨we,ee,He,me⟩:=Hc.sw.stV (o:=7) (x:=zc.v) (by simp[lgC]) rfl;have He:Hp F0 g0 w0 g11 we (lbR p (lgC x c l.base l.segs l.age t l.rel zc)::seR zc (dz++[(nq,zn)])::bxR pb (sgF (nq,zn)) 125::dkR x r.2::L):=He;have mz:=mb.t (mc.t me);refine Nd.t rfl (Nd.b1 e14 (Nd.b1 (by rw[aD];exact l14) (Nd.b1 l14a (Nd.b2 eb (Nd.b2 ec (Nd.b1 (by rw[aD];exact ee) (Nd.ck (by rw[aD];exact lb) (Nd.ret (hΦ g11 we ?_ (m1.t (mAll.t mz)))))))))));refine Hp.lgi (c:=c) (s:=zc) (dz:=dz++[(nq,zn)]) (by simp[hd1]) (hd2.mo (mAll.t mz)) (fun q hq=>?_) (He.m2.tl);rcases aIG.1 hq with h | h
  .exact(hd3 q h).mo (mAll.t mz)
  simp at h;subst h;simp only;rw[hnq];exact hrn11.mo (m1114.t mz)
 | false =>
  rw[hbv] at hΦ hbg;have h0:0<dz.length:=by
   rcases aJq dz.length with h | h
   .have:us=[]:=aIA (by omega);rw[this] at hbg;cases hbg
   exact h
  obtain⟨q,hq,hlast⟩:=lastq h0;obtain⟨b,el⟩:=H14.m3.el dL (by decide) hq;obtain⟨we,ee,He,me⟩:=H14.m3.elput (q':=(nq,zn)) dL el hq rfl mH;have hset:dz.set (dz.length-1) (nq,zn)=dz.dropLast++[(nq,zn)]:=aEs h0;rw[hset] at He;refine Nd.f (by simp) (Nd.b1 e14 (Nd.b1 (by rw[aD];exact l14) (Nd.b1 l14a (Nd.b1 (hixl el h0) (Nd.b1 ee (Nd.ret (hΦ g11 we ?_ (m1.t (mAll.t me)))))))));refine Hp.lgi (c:=c) (s:=s) (dz:=dz.dropLast++[(nq,zn)]) (by simp[<-hd1,List.map_dropLast]) (hd2.mo (mAll.t me)) (fun q hq=>?_) (He.m2.tl.sw);rcases aIG.1 hq with h | h
  .exact(hd3 q (List.dropLast_subset _ h)).mo (mAll.t me)
  simp at h;subst h;simp only;rw[hnq];exact hrn11.mo (m1114.t me)
end
theorem yI (n:Nat):(Dk.new n).Bt:=by
 refine⟨fun x hx=>?_,fun x hx=>by simp[Dk.new] at hx⟩;simp only[Dk.new,aJk] at hx;rw[hx.2];intro b hb;rw[(aJk.1 hb).2];decide
theorem rS (was:List Int) (n v:Int):bU (oL was n v):=by
 intro b hb;simp only[oL,aJI,aIG,aLg,or_false] at hb;rcases hb with rfl | ((hb | hb) | hb) | rfl
 .omega
 .exact pO _ b hb
 .exact pO _ b hb
 .rw[(aJk.1 hb).2];decide
 omega
theorem rB (D:Dk) (i:Int) (b:List Int):(D.write i b).2.S=D.S:=by
 unfold Dk.write;split;· rfl
 split;· rfl
 split;· rfl
 split
 .exact jY D
 exact jY D
theorem aCt {b:List Int} (h:bU b):bU (pad b):=by
 intro x hx;simp only[pad,aIG] at hx;rcases hx with hx | hx
 .exact h x hx
 rw[(aJk.1 hx).2];decide
theorem Dk.Bt.trips {D:Dk} (h:D.Bt):D.trips.2.Bt:=⟨by rw[jY];exact h.s,by rw[jE];exact h.w⟩
theorem Dk.Bt.write {D:Dk} (h:D.Bt) {i:Int} {b:List Int} (hb:bU b):(D.write i b).2.Bt:=by
 unfold Dk.write;split;· exact h
 split;· exact h
 split;· exact h
 split
 .exact h.trips
 refine⟨h.trips.s,fun x hx=>?_⟩;simp only[aIG,aJr] at hx;rcases hx with hx | rfl
 .exact h.w x hx
 exact aCt hb
theorem sR {S:List (List Int)} {x:Int×List Int} {m:Nat} (hS:∀ s∈S,bU s) (hx:bU x.2):∀ s∈oA S x m,bU s:=by
 intro s hs;unfold oA at hs;rcases aKv hs with h | h
 .exact hS s h
 subst h;intro b hb;rcases aIG.1 hb with h | h
 .exact hx b (aJh h)
 exact vE (i:=x.1.toNat) hS b (aJC h)
theorem uS:∀ (W:List (Int×List Int)) (S:List (List Int)),(∀ s∈S,bU s)->(∀ x∈W,bU x.2)->∀ s∈W.foldl (fun S x=>oA S x 64) S,bU s
 | [],S,h,_=>h
 | x::W,S,h,hw=>by
  rw[aJn];exact uS W _ (sR h (hw x (by simp))) (fun y hy=>hw y (by simp[hy]))
theorem wY:∀ (W:List (Int×List Int)) (S:List (List Int)),(W.foldl (fun S x=>oA S x 64) S).length=S.length
 | [],S=>rfl
 | x::W,S=>by rw[aJn,wY W,iM]
theorem Dk.Bt.sync {D:Dk} (h:D.Bt):D.sync.2.Bt:=by
 unfold Dk.sync;split;· exact h
 split
 .exact h.trips
 exact⟨uS _ _ h.s h.w,fun x hx=>by simp at hx⟩
theorem aBe (D:Dk):D.sync.2.S.length=D.S.length:=by
 unfold Dk.sync;split;· rfl
 split
 .simp[jY]
 simp[wY]
theorem aAR (D:Dk):D.sync.2.W.length<=D.W.length:=by
 unfold Dk.sync;split;· simp
 split
 .simp[jE]
 simp
theorem aDR (D:Dk) (n:Int):(D.trip n).2.S=D.S/\(D.trip n).2.W=D.W:=by
 unfold Dk.trip;split;· exact⟨rfl,rfl⟩
 split<;>exact⟨rfl,rfl⟩
theorem yR {fs:List Int} {k:Nat} {S:List (List Int)} {x:Int×List Int} (hS:∀ s∈S,bU s) (hx:bU x.2):(∀ s∈kA fs k S x,bU s)/\(kA fs k S x).length=S.length:=by
 unfold kA;split
 .exact⟨sR hS hx,iM⟩
 split
 .exact⟨sR hS hx,iM⟩
 exact⟨hS,rfl⟩
theorem rA {fs:List Int}:∀ (W:List (Int×List Int)) (k:Nat) (S:List (List Int)),(∀ s∈S,bU s)->(∀ x∈W,bU x.2)->(∀ s∈pD fs k W S,bU s)/\(pD fs k W S).length=S.length
 | [],k,S,h,_=>⟨h,rfl⟩
 | x::W,k,S,h,hw=>by
  obtain⟨h1,h2⟩:=yR (fs:=fs) (k:=k) h (hw x (by simp));obtain⟨h3,h4⟩:=rA W (k+1) _ h1 (fun y hy=>hw y (by simp[hy]));exact⟨h3,h4.trans h2⟩
theorem Dk.Bt.crash {D:Dk} (h:D.Bt) (fs:List Int):(D.crash fs).Bt:=⟨(rA D.W 0 D.S h.s h.w).1,fun x hx=>by simp[Dk.crash] at hx⟩
theorem tA {D:Dk} (h:D.Bt) (fs:List Int):(D.crash fs).S.length=D.S.length:=(rA D.W 0 D.S h.s h.w).2
theorem Dk.Bt.put {D:Dk} (h:D.Bt) (b c i v:Int):(D.put b c i v).2.Bt:=by
 unfold Dk.put;split;· exact h
 split;· exact h
 split;· exact h
 split
 .exact h.write (rS _ _ _)
 exact(h.write (rS _ _ _)).sync
theorem aGu (D:Dk) (b c i v:Int):(D.put b c i v).2.S.length=D.S.length:=by
 unfold Dk.put;split;· rfl
 split;· rfl
 split;· rfl
 split
 .rw[rB]
 rw[aBe,rB]
theorem aGc (D:Dk) (b c i v:Int):(D.put b c i v).2.W.length<=D.W.length+1:=by
 unfold Dk.put;split;· simp
 split;· simp
 split;· simp
 split
 .exact lH _ _ _
 exact aJe (aAR _) (lH _ _ _)
structure Dk.To (D E:Dk) (k:Nat):Prop where
 s:E.S.length=D.S.length
 b:D.Bt->E.Bt
 w:E.W.length<=D.W.length+k
 age:E.age=D.age
theorem Dk.To.r {D:Dk} {k:Nat}:D.To D k:=⟨rfl,id,aLh _ _,rfl⟩
theorem Dk.To.t {D E G:Dk} {k m n:Nat} (h:D.To E k) (h2:E.To G m) (hn:k+m<=n):D.To G n:=⟨h2.s.trans h.s,fun b=>h2.b (h.b b),by have:=h.w;have:=h2.w;omega,h2.age.trans h.age⟩
theorem xL (D:Dk):D.trips.2.age=D.age:=by unfold Dk.trips;split<;>rfl
theorem mT (D:Dk) (i:Int) {b:List Int} (hb:bU b):D.To (D.write i b).2 1:=⟨by rw[rB],fun h=>h.write hb,lH _ _ _,by
 unfold Dk.write;split;· rfl
 split;· rfl
 split;· rfl
 split<;>exact xL D⟩
theorem rT (D:Dk):D.To D.sync.2 0:=⟨aBe D,fun h=>h.sync,aAR D,by
 unfold Dk.sync;split;· rfl
 split<;>exact xL D⟩
theorem aAV (D:Dk) (b c i v:Int):D.To (D.put b c i v).2 1:=⟨aGu ..,fun h=>h.put ..,aGc ..,by
 unfold Dk.put;split;· rfl
 split;· rfl
 split;· rfl
 split
 .exact(mT D _ (rS _ _ _)).age
 exact(rT _).age.trans (mT D _ (rS _ _ _)).age⟩
theorem yL:bU []:=fun b hb=>by cases hb
theorem rD {base rel:Int}:∀ (us:List Sg) (D:Dk),D.To (D.free base rel us).2.1 us.length
 | [],D=>Dk.To.r
 | s::l,D=>by
  rw[jG];split
  .exact(rD l D).t (Dk.To.r (k:=1)) (by simp)
  split
  .exact(mT D _ yL).t (rD l _) (by simp;omega)
  exact(mT D _ yL).t (Dk.To.r (k:=l.length)) (by simp;omega)
theorem tC {base pos:Int}:∀ (m:Nat) (D:Dk) (i n:Int),D.To (D.wipe base pos m i n).2.2 m
 | 0,D,_,_=>Dk.To.r
 | m+1,D,i,n=>by
  unfold Dk.wipe;split
  .exact(tC m D _ _).t (Dk.To.r (k:=1)) (by omega)
  split
  .exact(mT D _ yL).t (tC m _ _ _) (by omega)
  exact(mT D _ yL).t (Dk.To.r (k:=m)) (by omega)
theorem vS (D:Dk) (l:Lg):D.To (D.fresh l).2 17:=by
 have h1:=tC (base:=l.base) (pos:=iI l.used l.used.length 0) 16 D 0 0;unfold Dk.fresh;split;· exact Dk.To.r
 split;· exact Dk.To.r
 split;· exact h1.t (Dk.To.r (k:=1)) (by omega)
 split;· exact h1.t (rT _) (by omega)
 refine(h1.t (rT _) (aIv _)).t (mT _ _ (yF ⟨by decide,by decide⟩ ?_ (by simp[gU]))) (by omega);intro b hb;rcases aIG.1 hb with h | h
 .exact pO _ b h
 exact pO _ b h
theorem aBG {base pos:Int}:∀ (m:Nat) (D:Dk) (i k:Int) (all:List Int),bU all->0<=k->k<256->D.To (D.puts base pos m i k all).2 m
 | 0,D,_,_,_,_,_,_=>Dk.To.r
 | m+1,D,i,k,all,hb,k0,k1=>by
  have h1:=mT D (base+2+pos*16+i) (yF (kind:=k) (p:=all.take (min 59 all.length)) (l:=min 59 all.length==all.length) ⟨k0,k1⟩ (fun b h=>hb b (aJh h)) (by rw[aIN];omega));unfold Dk.puts;split
  .exact Dk.To.r
  split
  .exact h1.t (aBG m _ _ _ _ (fun b h=>hb b (aJC h)) (by decide) (by decide)) (by omega)
  exact h1.t (Dk.To.r (k:=m)) (by omega)
theorem xE (D:Dk) (l:Lg) (t:Int) {b:List Int} (hb:bU b):D.To (D.appendL l t b).2.1 1000:=by
 unfold Dk.appendL;split;· exact Dk.To.r
 split;· exact Dk.To.r
 rename_i hl;split;· exact Dk.To.r
 split
 .exact(vS D l).t (Dk.To.r (k:=0)) (by omega)
 have hby:bU (fK t++b):=fun x hx=>(aIG.1 hx).elim (pO _ x) (hb x);have h5:∀ E:Dk,D.To E 17->D.To (E.puts l.base (iR l (bN b)).pos (bN b) (iR l (bN b)).fin 2 (fK t++b)).2 1000:=fun E hE=>hE.t (aBG _ E _ _ _ hby (by decide) (by decide)) (by unfold bN;omega);have h6:D.To (if fY l.used (bN b)=true then (D.fresh l).2 else D) 17:=by
  split
  .exact vS D l
  exact Dk.To.r
 revert h6;generalize (if fY l.used (bN b)=true then (D.fresh l).2 else D)=E;intro h6;split<;>exact h5 E h6
theorem vQ (D:Dk) (l:Lg):D.To (D.syncL l).2 0:=by
 unfold Dk.syncL;split
 .exact Dk.To.r
 exact rT D
theorem zB (D:Dk) (l:Lg) (t:Int) (hl:l.used.length<=16):D.To (D.chopL l t).2.1 1000:=by
 have h1:=aAV D l.base 1 0 t;have h2:D.To ((D.put l.base 1 0 t).2.free l.base t l.used).2.1 17:=h1.t (rD _ _) (by omega);unfold Dk.chopL;split;· exact Dk.To.r
 split;· exact Dk.To.r
 split;· exact Dk.To.r
 split;· exact h1.t (Dk.To.r (k:=0)) (by omega)
 split;· exact h2.t (Dk.To.r (k:=0)) (by omega)
 split
 .split<;>exact(h2.t (rT _) (aIv _)).t (Dk.To.r (k:=0)) (by omega)
 exact h2.t (Dk.To.r (k:=0)) (by omega)
theorem Lg.Wf.len {l:Lg} (h:l.Wf):l.used.length<=16:=by
 have:=tL (l:=l.used.map fun s=>s.pos) (m:=(List.range 16).map fun k:Nat=>(k:Int)) h.nd (fun x hx=>by
  obtain⟨q,hq,rfl⟩:=aIP.1 hx;have h1:=(h.seg q hq).p0;have h2:=(h.seg q hq).p1;have:=h.s1;exact aIP.2 ⟨q.pos.toNat,aIO.2 (by omega),by omega⟩)
 simpa using this
section
variable {F0 : Nat -> Prop} {g g0 : Gh} {w w0 : World} {L : List Rs} {x p : Nat} {D : Dk} {l : Lg} {t : Int}
theorem aBw (hw:l.Wf) (H:Hp F0 g0 w0 g w (lgR p x l::dkR x D::L)) (hbt:D.Bt) (hbd:D.W.length<700000) (hsz:l.base+2<=D.S.length) :
  ∃ w',kJ (some ⟨p,0,none⟩) t w=some ((D.chopL l t).1,w')/\Hp F0 g0 w0 g w' (lgR p x (D.chopL l t).2.2::dkR x (D.chopL l t).2.1::L)/\Mo g w g w':=by
 obtain⟨w1,e1,H1,m1⟩:=yP H;unfold kJ Dk.chopL;rw[e1,aE];by_cases hb:D.badL l=0
 rotate_left
 .exact⟨w1,by rw[if_pos (by simpa using hb),if_pos (by simpa using hb)],by rw[if_pos (by simpa using hb)];exact H1,m1⟩
 rw[if_neg (by simp[hb])];simp only[if_neg (show ¬ (D.badL l≠0) by simp[hb])];obtain⟨c,s,dz,hd1,hd2,hd3,H1'⟩:=H1.lgo;have l1h:ldI .i64 w1 ⟨p,5,none⟩=some l.high:=H1'.ldI rfl;have l1r:ldI .i64 w1 ⟨p,6,none⟩=some l.rel:=H1'.ldI rfl;have test:(if (decide (t<0))=true then (some (true,w1)) else ((some (⟨p,0,none⟩:Addr)).bind fun p10=>(ldI .i64 w1 (p10.add 5)).bind fun v12=>some ((decide (v12<t)),w1)))=some (decide (t<0\/l.high<t),w1):=by
  rw[aLx,aD,aLy,l1h,aLx,ifO];congr 2;rw[aJw];simp
 rw[test,aE];by_cases ht:t<0\/l.high<t
 .exact⟨w1,by rw[if_pos (by simpa using ht),if_pos ht],by rw[if_pos ht];exact H1,m1⟩
 rw[if_neg (by simpa using ht),aLx,aD,aLy,l1r,aLx];simp only[if_neg ht];by_cases hr:t<=l.rel
 .exact⟨w1,by rw[if_pos (by simpa using hr),if_pos hr],by rw[if_pos hr];exact H1,m1⟩
 rw[if_neg (by simpa using hr)];simp only[if_neg hr];have l1c:ldP w1 ⟨p,1,none⟩=some (some ⟨c,0,none⟩):=H1'.ldP rfl;obtain⟨w2,e2,H2,m2⟩:=(H1'.m2).mput hd2 hbt (by omega) (by omega) 0 t;have hpt:=aAV D l.base 1 0 t;obtain⟨r,hr2⟩:∃ r,D.put l.base 1 0 t=r:=⟨_,rfl⟩;rw[hr2] at e2 H2 hpt;simp only[hr2];rw[aD,aLy,l1c,aLx,e2,aE];have mm2:=m1.t m2;by_cases hr0:r.1=0
 rotate_left
 .refine⟨w2,by rw[if_pos (by simpa using hr0),if_pos (by simpa using hr0)],by rw[if_pos (by simpa using hr0)];exact Hp.lgi hd1 (hd2.mo m2) (hd3.mo m2) H2.b2,mm2⟩
 rw[if_neg (by simp[hr0])];simp only[if_neg (show ¬ (r.1≠0) by simp[hr0])];have hdl:dz.length=l.used.length:=by rw[<-hd1];simp
 have hlen:=hw.len;have hdw:∀ q∈dz,0<=q.1.pos/\q.1.pos<=16:=fun q hq=>by
  have:=hw.seg q.1 (by rw[<-hd1];exact aIP.2 ⟨q,hq,rfl⟩);have h1:=this.p0;have h2:=this.p1;have:=hw.s1;omega
 have hW2:=hpt.w;obtain⟨z3,w3,dz3,e3,H3,m3,h3⟩:=aCa (t:=t) hw.b0 hw.b1 (by omega) hdw (by omega) (H2.sw);have hft:=rD (base:=l.base) (rel:=t) l.used r.2;rw[hd1] at e3 H3 h3;obtain⟨f,hf⟩:∃ f,r.2.free l.base t l.used=f:=⟨_,rfl⟩;rw[hf] at e3 H3 h3 hft;simp only[hf];rw[e3,lW];have mm3:=mm2.t m3
 -- H3: log,disk,segments,left
 by_cases hf0:f.1=0
 rotate_left
 .have e4:aN (if (f.1==0)=true then ((ldL w3 (⟨p,0+7,none⟩:Addr)).bind fun v39=>some ((decide ((z3.n:Int)<(v39.n:Int))),w3)) else (some (false,w3))) (fun v34 w35=>if v34=true then ((ldP w35 (⟨p,0+0,none⟩:Addr)).bind fun v42=>aN (bY v42 w35) fun v44 w45=>some (v44,w45)) else (some (f.1,w35)))=some (f.1,w3):=by
   rw[if_neg (by simpa using hf0),aE,if_neg (by simp)]
  have e4':=e4;simp only[aLy] at e4';refine⟨w3,?_,by rw[if_pos (by simpa using hf0)];exact Hp.lgi hd1 (hd2.mo (m2.t m3)) (hd3.mo (m2.t m3)) (H3.m3.tl.m2.sw),mm3⟩;simp only[aD,aLy] at e4' ⊢;rw[e4',aE,if_pos (by simpa using hf0),if_pos (by simpa using hf0)]
 obtain⟨h3a,h3b⟩:=h3 hf0;simp only[if_neg (show ¬ (f.1≠0) by simp[hf0])];have l3s:ldL w3 ⟨p,7,none⟩=some s:=H3.ldL rfl;have l3d:ldP w3 ⟨p,0,none⟩=some (some ⟨x,0,none⟩):=H3.ldP rfl;have hsn:dz.length=s.n:=by have:=H3.m2.ow.len;rw[cQ dL] at this;omega
 have hzn:dz3.length=z3.n:=by have:=H3.m3.ow.len;rw[cQ dL] at this;omega
 have hz3l:dz3.length=f.2.2.length:=by rw[<-h3a];simp
 have fin:∀ {w4:World} {D4:Dk},Hp F0 g0 w0 g w4 (lbR p (lgC x c l.base l.segs l.age l.high l.rel s)::dkR x D4::seR s dz::seR z3 dz3::L)->Mo g w3 g w4->∃ w5 w6,stV w4 ⟨p,7,none⟩ (Sl.v z3)=some w5/\stV w5 ⟨p,6,none⟩ (.int .i64 t)=some w6/\Hp F0 g0 w0 g w6 (lgR p x { l with rel:=t,used:=f.2.2 }::dkR x D4::L)/\Mo g w g w6:=fun {w4 D4} H4 m4=>by
  obtain⟨w5,e5,H5,m5⟩:=H4.stV (o:=7) (x:=z3.v) (by simp[lgC]) rfl;obtain⟨w6,e6,H6,m6⟩:=H5.stV (o:=6) (x:=.int .i64 t) (by simp[lgC]) rfl;have H6:Hp F0 g0 w0 g w6 (lbR p (lgC x c l.base l.segs l.age l.high t z3)::dkR x D4::seR s dz::seR z3 dz3::L):=H6;have mm:=m4.t (m5.t m6);refine⟨w5,w6,e5,e6,?_,mm3.t mm⟩;exact Hp.lgi (c:=c) (s:=z3) (dz:=dz3) h3a (hd2.mo ((m2.t m3).t mm)) (fun q hq=>(hd3 q (h3b q hq)).mo ((m2.t m3).t mm)) (H6.m2.tl.m2.sw)
 by_cases hlt:f.2.2.length<l.used.length
 .obtain⟨w4,e4,H4,m4⟩:=H3.sw.dsync (by have:=hft.w;omega);have e5:aN (if (f.1==0)=true then ((ldL w3 (⟨p,7,none⟩:Addr)).bind fun v39=>some ((decide ((z3.n:Int)<(v39.n:Int))),w3)) else (some (false,w3))) (fun v34 w35=>if v34=true then ((ldP w35 (⟨p,0,none⟩:Addr)).bind fun v42=>aN (bY v42 w35) fun v44 w45=>some (v44,w45)) else (some (f.1,w35)))=some (f.2.1.sync.1,w4):=by
   rw[if_pos (by simp[hf0]),l3s,aLx,aE,if_pos (by simp;omega),l3d,aLx,e4,aE]
  simp only[if_pos hlt];simp only[aD,aLy];rw[e5,aE];by_cases hs0:f.2.1.sync.1=0
  .obtain⟨w5,w6,e6,e7,H6,m6⟩:=fin H4.sw m4;refine⟨w6,?_,by rw[if_neg (by simp[hs0])];exact H6,m6⟩;rw[if_neg (by simp[hs0]),e6,aLx,e7,aLx,if_neg (by simp[hs0])]
  refine⟨w4,by rw[if_pos (by simpa using hs0),if_pos (by simpa using hs0)],by rw[if_pos (by simpa using hs0)];exact Hp.lgi hd1 (hd2.mo (m2.t (m3.t m4))) (hd3.mo (m2.t (m3.t m4))) (H4.sw.m3.tl.m2.sw),mm3.t m4⟩
 have e5:aN (if (f.1==0)=true then ((ldL w3 (⟨p,7,none⟩:Addr)).bind fun v39=>some ((decide ((z3.n:Int)<(v39.n:Int))),w3)) else (some (false,w3))) (fun v34 w35=>if v34=true then ((ldP w35 (⟨p,0,none⟩:Addr)).bind fun v42=>aN (bY v42 w35) fun v44 w45=>some (v44,w45)) else (some (f.1,w35)))=some (0,w3):=by
  rw[if_pos (by simp[hf0]),l3s,aLx,aE,if_neg (by simp;omega),hf0]
 simp only[if_neg hlt];simp only[aD,aLy];rw[e5,aE];obtain⟨w5,w6,e6,e7,H6,m6⟩:=fin H3 Mo.r;exact⟨w6,by rw[if_neg (by simp),e6,aLx,e7,aLx],H6,m6⟩
end
end
end Go.Proofs.Ytejkaciimmfgcaa.D
