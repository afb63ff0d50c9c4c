/- CoverChecks -/
import Derived.Test.YtggheaclnklhaaaPCoverChecksA
import Derived.Test.YtggheaclnklhaaaPCoverChecksB
namespace Go.Proofs.Ytggheaclnklhaaa.D
open Go
set_option linter.unusedVariables false
set_option linter.unusedSimpArgs false
set_option maxHeartbeats 1000000
set_option maxRecDepth 100000
noncomputable section
def gH (a0:Sl) (w:World):Option (Bool×World) :=
 aE (bF a0 w) fun v1 w2 =>
 some (v1,w2)
theorem lF {a0 w w' r0} (h:gH a0 w=some (r0,w')):Calls Try.prog 69 #[(Sl.v a0)] w fun e w''=>e=.returned (.bool r0)/\w''=w':=by
 refine aD (n:=5) Try.func69 rfl Try.ntmps69 (by simp) fun a u=>?_;unfold gH at h;refine wp_seq<|aA<|qa u rfl fun a u=>aC<|t_n<|wp_seq<|aA<|qm u rfl fun a u=>?_;have⟨v1,w2,e3,h⟩:=bs2 h;refine q u (eV (xs:=[_,_]) (vs:=[(Sl.v a0),(.func (.func 71) #[] #[])]) u ⟨rfl,rfl,aAO⟩ Try.call70 (eI e3)) fun a u=>qa u rfl fun a u=>aC<|t_n<|wp_ret<|?_;have y:=u;cases h;exact aY Try.results69 y rfl ⟨rfl,rfl⟩
noncomputable def aO (a0:Sl) (x1:Int) (w2:World):Option ((Int×World)⊕((World)⊕(Int×World))) :=
 if (decide (x1<(a0.n:Int)))=true then
 ((ix a0 x1 1).bind fun p12 =>
 (ldL w2 p12).bind fun v14 =>
 aE (gH v14 w2) fun v16 w17 =>
 if v16=true then
 (some (.inr (.inr (x1,w17))))
 else
 (some (.inl ((IntKind.wrap .i64 (x1+1)),w17))))
 else
 (some (.inr (.inl w2)))
noncomputable def bR (a0:Sl) (w:World):Option (Int×World) :=
 (bS (fun s:Int×World=>aO a0 s.1 s.2) (0,w)).bind fun r3=>Sum.elim (fun (i:World)=>u1 i fun w5 =>
 some ((-1),w5)) (fun (i:Int×World)=>u2 i fun v6 w7 =>
 some (v6,w7)) r3
theorem eX {a0 w w' r0} (h:bR a0 w=some (r0,w')):Calls Try.prog 40 #[(Sl.v a0),(.func (.func 69) #[] #[])] w fun e w''=>e=.returned (.int .i64 r0)/\w''=w':=by
 refine aD (n:=19) Try.func40 rfl Try.ntmps40 (by simp) fun a u=>?_;unfold bR at h;refine wp_seq<|aA<|qa u rfl fun a u=>aC<|t_n<|wp_seq<|wp_seq<|aA<|qm u rfl fun a u=>q u (cE u rfl wP) fun a u=>qm u rfl fun a u=>aC<|t_n<|wp_block<|?_;have⟨r3,e4,h⟩:=bs1 h;refine dG (n:=19) (L1:=fun i=>[]) (w1:=fun i=>i) (L2:=fun i=>[(4,(iV i.1))]) (w2:=fun i=>i.2) (e1:=.exit 0) (e2:=.ret) (I:=fun (s:Int×World) a w=>Has 19 [(8,(iV s.1)),(0,(Sl.v a0)),(1,(.func (.func 69) #[] #[])),(7,(iV (a0.n:Int)))] a/\w=s.2) ⟨u.sub ⟨rfl,rfl,rfl,rfl,aAO⟩,rfl⟩ e4 (fun i hi a u=>?_) (fun i hi a u=>?_) (fun hk8 hk9=>?_)
 .subst hi;obtain⟨w5,rfl⟩:∃ x,x=i:=⟨i,rfl⟩;dsimp only[Sum.elim_inl,Sum.elim_inr,u1,u2,u3,u4,u5,u6] at h;have u:Has 19 [] a:=u;refine eL<|t_n<|wp_seq<|aA<|qa u rfl fun a u=>aC<|t_n<|wp_ret<|?_;have y:=u;cases h;exact aY Try.results40 y rfl ⟨rfl,rfl⟩
 .subst hi;obtain⟨v6,w7⟩:=i;dsimp only[Sum.elim_inl,Sum.elim_inr,u1,u2,u3,u4,u5,u6] at h;have u:Has 19 [(4,(iV v6))] a:=u;refine b_r<|t_r<|?_;have y:=u;cases h;exact aY Try.results40 y rfl ⟨rfl,rfl⟩
 clear h;rintro⟨x1,w2⟩ a wq o ⟨u,hwq⟩ h hr10;obtain rfl:w2=wq:=hwq.symm;have u:Has 19 [(8,(iV x1)),(0,(Sl.v a0)),(1,(.func (.func 69) #[] #[])),(7,(iV (a0.n:Int)))] a:=u;have h:aO a0 x1 w2=some o:=h;unfold aO at h;refine wp_seq<|aA<|q u (fZ u rfl rfl) fun a u=>aC<|t_n<|wp_seq<|?_;refine aG u rfl h (fun b11 h=>?_) (fun b11 h=>?_)
 .refine wp_skip<|t_n<|wp_seq<|wp_block<|wp_seq<|aA<|qm u rfl fun a u=>qa u rfl fun a u=>aC<|t_n<|wp_seq<|aA<|qm u rfl fun a u=>qm u rfl fun a u=>qm u rfl fun a u=>?_;have⟨p12,e13,h⟩:=bs1 h;refine q u (dM u rfl rfl wP xI e13) fun a u=>?_;have⟨v14,e15,h⟩:=bs1 h;refine q u (aH u rfl xQ (bT e15)) fun a u=>?_;have⟨v16,w17,e18,h⟩:=bs2 h;refine q u (eG (xs:=[_]) (vs:=[(Sl.v v14)]) (cv:=[]) u rfl ⟨rfl,aAO⟩ Try.call69 (lF e18)) fun a u=>aC<|t_n<|?_;refine aG u rfl h (fun b19 h=>?_) (fun b19 h=>?_)
  .refine wp_seq<|aA<|qm u rfl fun a u=>qa u rfl fun a u=>aC<|t_n<|wp_ret<|b_r<|t_r<|?_;have y:=u;cases h;cases hr10 _ rfl;refine gD<|?_;exact hk9 _ rfl _ (y.sb rfl)
  refine wp_skip<|b_n<|t_n<|aA<|q u (dT u rfl rfl) fun a u=>qm u rfl fun a u=>aC<|?_;have y:=u;cases h;exact cY ⟨y.sb rfl,rfl⟩
 refine wp_exit<|t_x<|?_;have y:=u;cases h;cases hr10 _ rfl;refine iA<|?_;exact hk8 _ rfl _ (y.sb rfl)
noncomputable def bG (a0:Sl) (w:World):Option (Bool×World) :=
 aE (bR a0 w) fun v1 w2 =>
 some ((decide (0<=v1)),w2)
theorem eQ {a0 w w' r0} (h:bG a0 w=some (r0,w')):Calls Try.prog 22 #[(Sl.v a0),(.func (.func 69) #[] #[])] w fun e w''=>e=.returned (.bool r0)/\w''=w':=by
 refine aD (n:=9) Try.func22 rfl Try.ntmps22 (by simp) fun a u=>?_;unfold bG at h;refine wp_seq<|aA<|qa u rfl fun a u=>aC<|t_n<|wp_seq<|aA<|qm u rfl fun a u=>qm u rfl fun a u=>?_;have⟨v1,w2,e3,h⟩:=bs2 h;refine q u (eV (xs:=[_,_]) (vs:=[(Sl.v a0),(.func (.func 69) #[] #[])]) u ⟨rfl,rfl,aAO⟩ Try.call40 (eX e3)) fun a u=>q u (kV u rfl rfl) fun a u=>qa u rfl fun a u=>aC<|t_n<|wp_ret<|?_;have y:=u;cases h;exact aY Try.results22 y rfl ⟨rfl,rfl⟩
noncomputable def gN (a0:Sl) (w:World):Option (Bool×World) :=
 aE (if (decide (16<(a0.n:Int)))=true then
 (some (true,w))
 else
 (aE (bG a0 w) fun v6 w7 =>
 some (v6,w7))) fun v1 w2 =>
 some (v1,w2)
theorem jT {a0 w w' r0} (h:gN a0 w=some (r0,w')):Calls Try.prog 38 #[(Sl.v a0)] w fun e w''=>e=.returned (.bool r0)/\w''=w':=by
 refine aD (n:=10) Try.func38 rfl Try.ntmps38 (by simp) fun a u=>?_;unfold gN at h;refine wp_seq<|aA<|qa u rfl fun a u=>aC<|t_n<|wp_seq<|?_;have⟨v1,w2,e3,h⟩:=bs2 h;refine bC (n:=10) (L:=[(2,(bV v1))]) (w':=w2) (fun a u=>?_) (fun hk4=>?_)
 .refine t_n<|wp_ret<|?_;have y:=u;cases h;exact aY Try.results38 y rfl ⟨rfl,rfl⟩
 clear h;have h:=e3;refine aA<|qm u rfl fun a u=>q u (cE u rfl wP) fun a u=>q u (hG u rfl rfl) fun a u=>qm u rfl fun a u=>?_;refine cQ h (fun b5 h=>?_) (fun b5 h=>?_)
 .refine qn u 6 (tn b5) fun a u=>qn u 6 (tn b5) fun a u=>q u (aM u rfl b5 rfl) fun a u=>qa u rfl fun a u=>aC<|?_;have y:=u;cases h;exact hk4 _ (y.sb rfl)
 refine qg u 6 (nt b5) (aF u rfl) fun a u=>?_;have⟨v6,w7,e8,h⟩:=bs2 h;refine qg u 6 (nt b5) (eV (xs:=[_,_]) (vs:=[(Sl.v a0),(.func (.func 69) #[] #[])]) u ⟨rfl,rfl,aAO⟩ Try.call22 (eQ e8)) fun a u=>q u (aK u rfl b5 rfl) fun a u=>qa u rfl fun a u=>aC<|?_;have y:=u;cases h;exact hk4 _ (y.sb rfl)
noncomputable def bX (a0:Sl) (w:World):Option (Sl×World) :=
 if (a0.p.isNone)=true then
 (some (Sl.nil,w))
 else
 (aE (bsl w 40 12 []) fun s2 w3 =>
 aE (apS Try.prog 22 s2 a0 w3) fun s5 w6 =>
 some (s5,w6))
theorem gM {a0 w w' r0} (h:bX a0 w=some (r0,w')):Calls Try.prog 72 #[(Sl.v a0)] w fun e w''=>e=.returned (Sl.v r0)/\w''=w':=by
 refine aD (n:=8) Try.func72 rfl Try.ntmps72 (by simp) fun a u=>?_;unfold bX at h;refine wp_seq<|aA<|qa u rfl fun a u=>aC<|t_n<|wp_seq<|wp_seq<|aA<|qm u rfl fun a u=>q u (tT u rfl rfl wJ) fun a u=>aC<|t_n<|?_;refine aG u rfl h (fun b1 h=>?_) (fun b1 h=>?_)
 .refine wp_seq<|aA<|qa u rfl fun a u=>aC<|t_n<|wp_ret<|t_r<|?_;have y:=u;cases h;exact aY Try.results72 y rfl ⟨rfl,rfl⟩
 refine wp_skip<|t_n<|wp_seq<|aA<|?_;have⟨s2,w3,e4,h⟩:=bs2 h;refine q u (gU (vs:=[]) (ps:=[]) u trivial trivial rfl wJ wI wW (by decide) e4) fun a u=>qm u rfl fun a u=>?_;have⟨s5,w6,e7,h⟩:=bs2 h;refine q u (jR u rfl rfl e7) fun a u=>qa u rfl fun a u=>aC<|t_n<|wp_ret<|?_;have y:=u;cases h;exact aY Try.results72 y rfl ⟨rfl,rfl⟩
noncomputable def bE (a0:Sl) (w:World):Option (Sl×World) :=
 if (a0.p.isNone)=true then
 (some (Sl.nil,w))
 else
 (aE (bsl w 43 3 []) fun s2 w3 =>
 aE (apS Try.prog 38 s2 a0 w3) fun s5 w6 =>
 some (s5,w6))
theorem dS {a0 w w' r0} (h:bE a0 w=some (r0,w')):Calls Try.prog 73 #[(Sl.v a0)] w fun e w''=>e=.returned (Sl.v r0)/\w''=w':=by
 refine aD (n:=8) Try.func73 rfl Try.ntmps73 (by simp) fun a u=>?_;unfold bE at h;refine wp_seq<|aA<|qa u rfl fun a u=>aC<|t_n<|wp_seq<|wp_seq<|aA<|qm u rfl fun a u=>q u (tT u rfl rfl wN) fun a u=>aC<|t_n<|?_;refine aG u rfl h (fun b1 h=>?_) (fun b1 h=>?_)
 .refine wp_seq<|aA<|qa u rfl fun a u=>aC<|t_n<|wp_ret<|t_r<|?_;have y:=u;cases h;exact aY Try.results73 y rfl ⟨rfl,rfl⟩
 refine wp_skip<|t_n<|wp_seq<|aA<|?_;have⟨s2,w3,e4,h⟩:=bs2 h;refine q u (gU (vs:=[]) (ps:=[]) u trivial trivial rfl wN wR yB (by decide) e4) fun a u=>qm u rfl fun a u=>?_;have⟨s5,w6,e7,h⟩:=bs2 h;refine q u (jR u rfl rfl e7) fun a u=>qa u rfl fun a u=>aC<|t_n<|wp_ret<|?_;have y:=u;cases h;exact aY Try.results73 y rfl ⟨rfl,rfl⟩
noncomputable def dC (v25:Sl) (s1:Sl) (x4:Int) (x27:Int) (w28:World):Option ((Int×World)⊕(World)) :=
 if (decide (x27<(v25.n:Int)))=true then
 ((dr w28).bind fun w35 =>
 (ix s1 x4 1).bind fun p37 =>
 (ldL w35 p37).bind fun v39 =>
 (ix s1 x4 1).bind fun p41 =>
 (ldL w35 p41).bind fun v43 =>
 (ix s1 x4 1).bind fun p45 =>
 (ldL w35 p45).bind fun v47 =>
 (ix v47 x27 12).bind fun p49 =>
 (ldL w35 (p49.add 10)).bind fun v51 =>
 aE (bE v51 w35) fun v53 w54 =>
 (ix s1 x4 1).bind fun p56 =>
 (ldL w54 p56).bind fun v58 =>
 (ix v58 x27 12).bind fun p60 =>
 (ldL w54 (p60.add 11)).bind fun v62 =>
 aE (bE v62 w54) fun v64 w65 =>
 (ix v39 x27 12).bind fun p67 =>
 (stV w65 (p67.add 10) (Sl.v v53)).bind fun w69 =>
 (ix v43 x27 12).bind fun p71 =>
 (stV w69 (p71.add 11) (Sl.v v64)).bind fun w73 =>
 chk (ldL w54 p37=some v39) <|
 chk (ldL w65 p37=some v39) <|
 chk (ldL w54 p41=some v43) <|
 chk (ldL w65 p41=some v43) <|
 chk (ldL w35 p56=some v58) <|
 chk (ldL w35 (p60.add 11)=some v62) <|
 some (.inl ((IntKind.wrap .i64 (x27+1)),w73)))
 else
 (some (.inr w28))
noncomputable def dJ (a0:Sl) (s1:Sl) (x4:Int) (w5:World):Option ((Int×World)⊕(World)) :=
 if (decide (x4<(a0.n:Int)))=true then
 ((ix a0 x4 1).bind fun p12 =>
 (ldL w5 p12).bind fun v14 =>
 aE (bX v14 w5) fun v16 w17 =>
 (ix s1 x4 1).bind fun p19 =>
 (stV w17 p19 (Sl.v v16)).bind fun w21 =>
 (ix s1 x4 1).bind fun p23 =>
 (ldL w21 p23).bind fun v25 =>
 (bS (fun s:Int×World=>dC v25 s1 x4 s.1 s.2) (0,w21)).bind fun w31 =>
 some (.inl ((IntKind.wrap .i64 (x4+1)),w31)))
 else
 (some (.inr w5))
noncomputable def gQ (a0:Sl) (w:World):Option (Sl×World) :=
 aE (mkS Try.prog 47 (a0.n:Int) (a0.n:Int) w) fun s1 w2 =>
 (bS (fun s:Int×World=>dJ a0 s1 s.1 s.2) (0,w2)).bind fun w8 =>
 some (s1,w8)
theorem lS {a0 w w' r0} (h:gQ a0 w=some (r0,w')):Calls Try.prog 39 #[(Sl.v a0)] w fun e w''=>e=.returned (Sl.v r0)/\w''=w':=by
 refine aD (n:=65) Try.func39 rfl Try.ntmps39 (by simp) fun a u=>?_;unfold gQ at h;refine wp_seq<|aA<|qa u rfl fun a u=>aC<|t_n<|wp_seq<|aA<|qm u rfl fun a u=>q u (cE u rfl wP) fun a u=>?_;have⟨s1,w2,e3,h⟩:=bs2 h;refine q u (vS u rfl rfl e3) fun a u=>qa u rfl fun a u=>aC<|t_n<|wp_seq<|wp_seq<|aA<|qm u rfl fun a u=>q u (cE u rfl wP) fun a u=>qm u rfl fun a u=>aC<|t_n<|wp_block<|?_;have⟨w8,e7,h⟩:=bs1 h;refine nQ (n:=65) (L:=[(3,(Sl.v s1))]) (w':=w8) (e:=.exit 0) (I:=fun (s:Int×World) a w=>Has 65 [(12,(iV s.1)),(3,(Sl.v s1)),(10,(Sl.v a0)),(11,(iV (a0.n:Int)))] a/\w=s.2) ⟨u.sub ⟨rfl,rfl,rfl,rfl,aAO⟩,rfl⟩ e7 (fun a u=>?_) (fun hk9=>?_)
 .refine eL<|t_n<|wp_seq<|aA<|qm u rfl fun a u=>qa u rfl fun a u=>aC<|t_n<|wp_ret<|?_;have y:=u;cases h;exact aY Try.results39 y rfl ⟨rfl,rfl⟩
 clear h;rintro⟨x4,w5⟩ a wq o ⟨u,hwq⟩ h hr10;obtain rfl:w5=wq:=hwq.symm;have u:Has 65 [(12,(iV x4)),(3,(Sl.v s1)),(10,(Sl.v a0)),(11,(iV (a0.n:Int)))] a:=u;have h:dJ a0 s1 x4 w5=some o:=h;unfold dJ at h;refine wp_seq<|aA<|q u (fZ u rfl rfl) fun a u=>aC<|t_n<|wp_seq<|?_;refine aG u rfl h (fun b11 h=>?_) (fun b11 h=>?_)
 .refine wp_skip<|t_n<|wp_seq<|wp_block<|wp_seq<|aA<|qm u rfl fun a u=>?_;have⟨p12,e13,h⟩:=bs1 h;refine q u (dM u rfl rfl wP xI e13) fun a u=>?_;have⟨v14,e15,h⟩:=bs1 h;refine q u (aH u rfl xQ (bT e15)) fun a u=>qa u rfl fun a u=>qa u rfl fun a u=>aC<|t_n<|wp_seq<|aA<|qm u rfl fun a u=>qm u rfl fun a u=>qm u rfl fun a u=>?_;have⟨v16,w17,e18,h⟩:=bs2 h;refine q u (dc1 u rfl Try.call72 (gM e18)) fun a u=>?_;have⟨p19,e20,h⟩:=bs1 h;refine q u (dM u rfl rfl wP xI e20) fun a u=>?_;have⟨w21,e22,h⟩:=bs1 h;refine q u (gT u rfl rfl xI e22) fun a u=>aC<|t_n<|wp_seq<|aA<|qm u rfl fun a u=>qm u rfl fun a u=>?_;have⟨p23,e24,h⟩:=bs1 h;refine q u (dM u rfl rfl wP xI e24) fun a u=>?_;have⟨v25,e26,h⟩:=bs1 h;refine q u (aH u rfl xQ (bT e26)) fun a u=>q u (cE u rfl wJ) fun a u=>qm u rfl fun a u=>aC<|t_n<|wp_block<|?_;have⟨w31,e30,h⟩:=bs1 h;refine nQ (n:=65) (L:=[(3,(Sl.v s1)),(10,(Sl.v a0)),(11,(iV (a0.n:Int))),(12,(iV x4))]) (w':=w31) (e:=.exit 2) (I:=fun (s:Int×World) a w=>Has 65 [(27,(iV s.1)),(3,(Sl.v s1)),(4,(iV x4)),(10,(Sl.v a0)),(11,(iV (a0.n:Int))),(12,(iV x4)),(26,(iV (v25.n:Int)))] a/\w=s.2) ⟨u.sub ⟨rfl,rfl,rfl,rfl,rfl,rfl,rfl,aAO⟩,rfl⟩ e30 (fun a u=>?_) (fun hk32=>?_)
  .refine eL<|b_n<|t_n<|aA<|q u (dT u rfl rfl) fun a u=>qm u rfl fun a u=>aC<|?_;have y:=u;cases h;exact cY ⟨y.sb rfl,rfl⟩
  clear h;rintro⟨x27,w28⟩ a wq o ⟨u,hwq⟩ h hr33;obtain rfl:w28=wq:=hwq.symm;have u:Has 65 [(27,(iV x27)),(3,(Sl.v s1)),(4,(iV x4)),(10,(Sl.v a0)),(11,(iV (a0.n:Int))),(12,(iV x4)),(26,(iV (v25.n:Int)))] a:=u;have h:dC v25 s1 x4 x27 w28=some o:=h;unfold dC at h;refine wp_seq<|aA<|q u (fZ u rfl rfl) fun a u=>aC<|t_n<|wp_seq<|?_;refine aG u rfl h (fun b34 h=>?_) (fun b34 h=>?_)
  .refine wp_skip<|t_n<|wp_seq<|wp_block<|wp_seq<|aA<|qm u rfl fun a u=>qa u rfl fun a u=>aC<|t_n<|?_;have⟨w35,e36,h⟩:=bs1 h;have⟨p37,e38,h⟩:=bs1 h;have⟨v39,e40,h⟩:=bs1 h;have⟨p41,e42,h⟩:=bs1 h;have⟨v43,e44,h⟩:=bs1 h;have⟨p45,e46,h⟩:=bs1 h;have⟨v47,e48,h⟩:=bs1 h;have⟨p49,e50,h⟩:=bs1 h;have⟨v51,e52,h⟩:=bs1 h;have⟨v53,w54,e55,h⟩:=bs2 h;have⟨p56,e57,h⟩:=bs1 h;have⟨v58,e59,h⟩:=bs1 h;have⟨p60,e61,h⟩:=bs1 h;have⟨v62,e63,h⟩:=bs1 h;have⟨v64,w65,e66,h⟩:=bs2 h;have⟨p67,e68,h⟩:=bs1 h;have⟨w69,e70,h⟩:=bs1 h;have⟨p71,e72,h⟩:=bs1 h;have⟨w73,e74,h⟩:=bs1 h;obtain⟨e75,h⟩:=cZ h;obtain⟨e76,h⟩:=cZ h;obtain⟨e77,h⟩:=cZ h;obtain⟨e78,h⟩:=cZ h;obtain⟨e79,h⟩:=cZ h;obtain⟨e80,h⟩:=cZ h;have u:Has 65 [(3,(Sl.v s1)),(4,(iV x4)),(6,(iV x27)),(10,(Sl.v a0)),(11,(iV (a0.n:Int))),(12,(iV x4)),(26,(iV (v25.n:Int))),(27,(iV x27))] a:=u.sb rfl;refine cC (n:=65) (ds:=(aL (Sl.v s1) false 0 2 [] [(3,(Sl.v s1))]::aL (iV x4) false 0 2 [] [(4,(iV x4))]::aL (pV (some p37)) false 0 2 [0,1] [(30,(Sl.v s1)),(31,(iV x4))]::aL (Sl.v v39) false 0 2 [0,1,2] [(32,(pV (some p37)))]::aL (iV x27) false 0 2 [] [(6,(iV x27))]::aL (Sl.v s1) false 0 2 [] [(3,(Sl.v s1))]::aL (iV x4) false 0 2 [] [(4,(iV x4))]::aL (pV (some p41)) false 0 2 [5,6] [(35,(Sl.v s1)),(36,(iV x4))]::aL (Sl.v v43) false 0 2 [5,6,7] [(37,(pV (some p41)))]::aL (iV x27) false 0 3 [] [(6,(iV x27))]::eD (Sl.v s1) 0 [] 3::eD (iV x4) 0 [] 4::eF (pV (some p45)) 0 [10,11] [(40,(Sl.v s1)),(41,(iV x4))]::bA (Sl.v v47) 0 [10,11,12] 42 (pV (some p45))::eD (iV x27) 0 [] 6::eF (pV (some p49)) 0 (rn 10 5) [(43,(Sl.v v47)),(44,(iV x27))]::bA (pV (some (p49.add 10))) 0 (rn 10 6) 45 (pV (some p49))::bA (Sl.v v51) 0 (rn 10 7) 46 (pV (some (p49.add 10)))::aL (Sl.v v53) true 0 0 (rn 10 8) [(47,(Sl.v v51))]::aL (Sl.v s1) false 0 1 [] [(3,(Sl.v s1))]::aL (iV x4) false 0 1 [] [(4,(iV x4))]::aL (pV (some p56)) false 0 1 [19,20] [(49,(Sl.v s1)),(50,(iV x4))]::aL (Sl.v v58) false 0 1 [19,20,21] [(51,(pV (some p56)))]::aL (iV x27) false 0 1 [] [(6,(iV x27))]::aL (pV (some p60)) false 0 1 (rn 19 5) [(52,(Sl.v v58)),(53,(iV x27))]::aL (pV (some (p60.add 11))) false 0 1 (rn 19 6) [(54,(pV (some p60)))]::aL (Sl.v v62) false 0 1 (rn 19 7) [(55,(pV (some (p60.add 11))))]::aL (Sl.v v64) true 1 1 (rn 10 17) [(56,(Sl.v v62))]::eF (pV (some p67)) 2 (rn 0 9++rn 10 18) [(33,(Sl.v v39)),(34,(iV x27))]::bA (pV (some (p67.add 10))) 2 (rn 0 9++rn 10 19) 58 (pV (some p67))::aL (undef) true 2 2 (rn 0 9++rn 10 20) [(59,(pV (some (p67.add 10)))),(48,(Sl.v v53))]::eF (pV (some p71)) 3 (rn 0 31) [(38,(Sl.v v43)),(39,(iV x27))]::bA (pV (some (p71.add 11))) 3 (rn 0 32) 60 (pV (some p71))::aL (undef) true 3 3 (rn 0 33) [(61,(pV (some (p71.add 11)))),(57,(Sl.v v64))]::[])) (W:=(fun j=>match j with | 0=>w35 | 1=>w54 | 2=>w65 | 3=>w69 | 4=>w73 | _=>w73)) (by kernel_rfl) u (gV e36) (by kernel_rfl) ?_ (bP (by kernel_rfl)) (by kernel_rfl) (m:=4) (by kernel_rfl) (fun a u=>?_)
   .refine⟨oa (aF · rfl),oa (aF · rfl),oa (dM · rfl rfl wP xI e38),?_,oa (aF · rfl),oa (aF · rfl),oa (aF · rfl),oa (dM · rfl rfl wP xI e42),?_,oa (aF · rfl),oa (aF · rfl),oa (aF · rfl),oa (dM · rfl rfl wP xI e46),oc 0 (kd (aH · rfl xQ (bT e48))),oa (aF · rfl),oa (dM · rfl rfl wJ wI e50),oa (aI · rfl wH rfl rfl xA),oc 0 (kd (aH · rfl xD (bT e52))),oc 0 (kd (dc1 · rfl Try.call73 (dS e55))),oa (aF · rfl),oa (aF · rfl),oa (dM · rfl rfl wP xI e57),?_,oa (aF · rfl),oa (dM · rfl rfl wJ wI e61),oa (aI · rfl wH rfl rfl xA),?_,oc 1 (kd (dc1 · rfl Try.call73 (dS e66))),oa (dM · rfl rfl wJ wI e68),oa (aI · rfl wH rfl rfl xA),oc 2 (kd (gT · rfl rfl xA e70)),oa (dM · rfl rfl wJ wI e72),oa (aI · rfl wH rfl rfl xA),
     oc 3 (kd (gT · rfl rfl xA e74)),aAO⟩
    .intro j h1 h2;have h1:0<=j:=h1;have h2:j<=2:=h2;rcases(by omega:j=0\/j=1\/j=2) with rfl | rfl | rfl
     .exact kd (aH · rfl xQ (bT e40))
     .exact kd (aH · rfl xQ (bT e75))
     exact kd (aH · rfl xQ (bT e76))
    .intro j h1 h2;have h1:0<=j:=h1;have h2:j<=2:=h2;rcases(by omega:j=0\/j=1\/j=2) with rfl | rfl | rfl
     .exact kd (aH · rfl xQ (bT e44))
     .exact kd (aH · rfl xQ (bT e77))
     exact kd (aH · rfl xQ (bT e78))
    .intro j h1 h2;have h1:0<=j:=h1;have h2:j<=1:=h2;rcases(by omega:j=0\/j=1) with rfl | rfl
     .exact kd (aH · rfl xQ (bT e79))
     exact kd (aH · rfl xQ (bT e59))
    intro j h1 h2;have h1:0<=j:=h1;have h2:j<=1:=h2;rcases(by omega:j=0\/j=1) with rfl | rfl
    .exact kd (aH · rfl xD (bT e80))
    exact kd (aH · rfl xD (bT e63))
   have u:Has 65 [(3,(Sl.v s1)),(4,(iV x4)),(10,(Sl.v a0)),(11,(iV (a0.n:Int))),(12,(iV x4)),(26,(iV (v25.n:Int))),(27,(iV x27))] a:=u.sb rfl;refine b_n<|t_n<|aA<|q u (dT u rfl rfl) fun a u=>qm u rfl fun a u=>aC<|?_;have y:=u;cases h;exact cY ⟨y.sb rfl,rfl⟩
  refine wp_exit<|t_x<|?_;have y:=u;cases h;cases hr33 _ rfl;refine iA<|?_;exact hk32 _ (y.sb rfl)
 refine wp_exit<|t_x<|?_;have y:=u;cases h;cases hr10 _ rfl;refine iA<|?_;exact hk9 _ (y.sb rfl)
noncomputable def dQ (a1:Sl) (s13:Sl) (p1:Addr) (x16:Sl) (x17:Int) (w18:World):ND ((Sl×Int×World)⊕((Sl×World)⊕(Sl×Int×World))) :=
 if (decide (x17<(a1.n:Int)))=true then
 (lb1 (ix a1 x17 9) fun p30 =>
 lb1 (ldA 9 w18 p30 0) fun c32 =>
 lb2 (mk w18 57 ([.int .i64 0,.string ByteArray.empty,.int .i64 0,.int .i64 0,.int .i64 0,.string ByteArray.empty,.bool false,.complex .f64 0 0,.int .i64 0])) fun p34 w35 =>
 lb1 (stA w35 p34 0 c32) fun w37 =>
 cb2 (lb1 (ldI .i64 w37 (p34.add 0)) fun v43 =>
 if (v43==1)=true then
 (lb2 (bsl w37 70 2 [([Sl.v s13,Sl.v Sl.nil])]) fun s46 w47 =>
 lb2 (apS Try.prog 68 x16 s46 w47) fun s49 w50 =>
 cB (s49,w50))
 else
 (if (v43==2)=true then
 (lb2 (bsl w37 70 2 [([Sl.v Sl.nil,Sl.v s13])]) fun s53 w54 =>
 lb2 (apS Try.prog 68 x16 s53 w54) fun s56 w57 =>
 cB (s56,w57))
 else
 (if (v43==3)=true then
 (lb1 (dr w37) fun w60 =>
 lb1 (ldA 9 w60 p34 0) fun c62 =>
 lb1 (ldS w60 (p34.add 1)) fun v64 =>
 lb2 (gE v64 p1 w60) fun v66 w67 =>
 nck (ldA 9 w67 p34 0=some c62) <|
 cb2 (iE c62 v66 w67) fun v69 w70 =>
 lb2 (bsl w70 70 2 [v69]) fun s73 w74 =>
 lb2 (apS Try.prog 68 x16 s73 w74) fun s76 w77 =>
 cB (s76,w77))
 else
 (if (v43==4)=true then
 (lb1 (dr w37) fun w80 =>
 lb1 (ix x16 (IntKind.wrap .i64 ((x16.n:Int)-1)) 2) fun p82 =>
 lb1 (ldL w80 (p82.add 1)) fun v84 =>
 lb1 (ix x16 (IntKind.wrap .i64 ((x16.n:Int)-1)) 2) fun p86 =>
 lb1 (ldL w80 (p86.add 0)) fun v88 =>
 lb1 (ix x16 (IntKind.wrap .i64 ((x16.n:Int)-1)) 2) fun p90 =>
 lb1 (stA w80 p90 0 ([Sl.v v84,Sl.v v88])) fun w92 =>
 cB (x16,w92))
 else
 (if (v43==5)=true then
 lZ
 else
 (if (v43==6)=true then
 lZ
 else
 (cB (x16,w37)))))))) fun v39 w40 =>
 lb1 (ix v39 (IntKind.wrap .i64 ((v39.n:Int)-1)) 2) fun p96 =>
 lb1 (ldA 2 w40 p96 0) fun c98 =>
 lb2 (mk w40 70 ([.slice none 0 0,.slice none 0 0])) fun p100 w101 =>
 lb1 (stA w101 p100 0 c98) fun w103 =>
 cb2 (lb1 (ldL w103 (p100.add 0)) fun v109 =>
 lb2 (gN v109 w103) fun v111 w112 =>
 if v111=true then
 (cB (true,w112))
 else
 (lb1 (ldL w112 (p100.add 1)) fun v115 =>
 lb2 (gN v115 w112) fun v117 w118 =>
 cB (v117,w118))) fun v105 w106 =>
 if v105=true then
 (cB (.inr (.inr (Sl.nil,6,w106))))
 else
 (cB (.inl (v39,(IntKind.wrap .i64 (x17+1)),w106))))
 else
 (cB (.inr (.inl (x16,w18))))
noncomputable def gO (a0:Sl) (a1:Sl) (w:World):ND (Sl×Int×World) :=
 lb2 (mk w 34 ([(Sl.v a0)])) fun p1 w2 =>
 lb1 (ldL w2 p1) fun v4 =>
 lb2 (iU v4 a1 w2) fun v6 w7 =>
 if (v6 !=0)=true then
 (cB (Sl.nil,v6,w7))
 else
 (lb2 (bsl w7 40 12 []) fun s10 w11 =>
 lb2 (bsl w11 22 1 [[(Sl.v s10)]]) fun s13 w14 =>
 cb1 (lK (fun s:Sl×Int×World=>dQ a1 s13 p1 s.1 s.2.1 s.2.2) (Sl.nil,0,w14)) fun r19=>Sum.elim (fun (i:Sl×World)=>u2 i fun v21 w22 =>
 lb1 (ix v21 0 2) fun p121 =>
 lb1 (ldL w22 (p121.add 0)) fun v123 =>
 lb2 (gQ v123 w22) fun v125 w126 =>
 cB (v125,0,w126)) (fun (i:Sl×Int×World)=>u3 i fun v23 v24 w25 =>
 cB (v23,v24,w25)) r19)
theorem jN {a0 a1 w Q} (h:(gO a0 a1 w).t Q):Calls Try.prog 21 #[(Sl.v a0),(Sl.v a1)] w fun e w''=>∃ i,e=.returned (.tuple #[(Sl.v i.1),(.int .i64 i.2.1)])/\Q i/\w''=i.2.2:=by
 refine aD (n:=163) Try.func21 rfl Try.ntmps21 (by simp) fun a u=>?_;unfold gO at h;refine wp_seq<|aA<|?_;obtain⟨p1,w2,e3,h⟩:=h;refine q u (dP u rfl rfl e3) fun a u=>qa u rfl fun a u=>qa u rfl fun a u=>aC<|t_n<|wp_seq<|wp_seq<|aA<|?_;obtain⟨v4,e5,h⟩:=h;refine q u (aH u rfl yG (bT e5)) fun a u=>qm u rfl fun a u=>?_;obtain⟨v6,w7,e8,h⟩:=h;refine q u (dc2 u rfl rfl Try.call31 (nS e8)) fun a u=>qa u rfl fun a u=>aC<|t_n<|wp_seq<|aA<|qm u rfl fun a u=>q u (kJ u rfl rfl) fun a u=>aC<|t_n<|?_;refine cA u rfl h (fun b9 h=>?_) (fun b9 h=>?_)
 .refine wp_seq<|aA<|qm u rfl fun a u=>qa u rfl fun a u=>qa u rfl fun a u=>aC<|t_n<|wp_ret<|t_r<|?_;exact pC Try.results21 u rfl rfl ⟨(Sl.nil,v6,w7),rfl,h,rfl⟩
 refine wp_skip<|t_n<|wp_seq<|aA<|q u (jU (vs:=[(pV (some p1))]) u ⟨rfl,aAO⟩) fun a u=>qa u rfl fun a u=>aC<|t_n<|wp_seq<|aA<|?_;obtain⟨s10,w11,e12,h⟩:=h;refine q u (gU (vs:=[]) (ps:=[]) u trivial trivial rfl wJ wI wW (by decide) e12) fun a u=>?_;obtain⟨s13,w14,e15,h⟩:=h;refine q u (gU (vs:=[(0,(Sl.v s10))]) (ps:=[[(Sl.v s10)]]) u ⟨rfl,rfl,aAO⟩ ⟨rfl,rfl,aAO⟩ rfl wP xI xY (by decide) e15) fun a u=>qa u rfl fun a u=>aC<|t_n<|wp_seq<|aA<|qa u rfl fun a u=>aC<|t_n<|wp_seq<|wp_seq<|aA<|qm u rfl fun a u=>q u (cE u rfl xP) fun a u=>qm u rfl fun a u=>aC<|t_n<|wp_block<|?_;refine oQ (n:=163) (L1:=fun i=>[(9,(Sl.v i.1))]) (w1:=fun i=>i.2) (L2:=fun i=>[(4,(Sl.v i.1)),(5,(iV i.2.1))]) (w2:=fun i=>i.2.2) (e1:=.exit 0) (e2:=.ret) (I:=fun (s:Sl×Int×World) a w=>Has 163 [(9,(Sl.v s.1)),(25,(iV s.2.1)),(7,(.func (.func 32) #[] #[(pV (some p1))])),(8,(Sl.v s13)),(23,(Sl.v a1)),(24,(iV (a1.n:Int)))] a/\w=s.2.2) (un1 h) ⟨u.sub ⟨rfl,rfl,rfl,rfl,rfl,rfl,aAO⟩,rfl⟩ (fun i h a u=>?_) (fun i h a u=>?_) (fun hk26 hk27=>?_)
 .obtain⟨v21,w22⟩:=i
  try dsimp only[Sum.elim_inl,Sum.elim_inr,u1,u2,u3,u4,u5,u6] at h
  have u:Has 163 [(9,(Sl.v v21))] a:=u;refine eL<|t_n<|wp_seq<|aA<|qm u rfl fun a u=>?_;obtain⟨p121,e122,h⟩:=h;refine q u (dM u rfl rfl xF xS e122) fun a u=>q u (aI u rfl xM rfl rfl xC) fun a u=>?_;obtain⟨v123,e124,h⟩:=h;refine q u (aH u rfl xJ (bT e124)) fun a u=>?_;obtain⟨v125,w126,e127,h⟩:=h;refine q u (dc1 u rfl Try.call39 (lS e127)) fun a u=>qa u rfl fun a u=>qa u rfl fun a u=>aC<|t_n<|wp_ret<|?_;exact pC Try.results21 u rfl rfl ⟨(v125,0,w126),rfl,h,rfl⟩
 .obtain⟨v23,v24,w25⟩:=i
  try dsimp only[Sum.elim_inl,Sum.elim_inr,u1,u2,u3,u4,u5,u6] at h
  have u:Has 163 [(4,(Sl.v v23)),(5,(iV v24))] a:=u;refine b_r<|t_r<|?_;exact pC Try.results21 u rfl rfl ⟨(v23,v24,w25),rfl,h,rfl⟩
 clear h;intro hX128;rintro⟨x16,x17,w18⟩ a wq ⟨u,hwq⟩ h;obtain rfl:w18=wq:=hwq.symm;have u:Has 163 [(9,(Sl.v x16)),(25,(iV x17)),(7,(.func (.func 32) #[] #[(pV (some p1))])),(8,(Sl.v s13)),(23,(Sl.v a1)),(24,(iV (a1.n:Int)))] a:=u;have h:(dQ a1 s13 p1 x16 x17 w18).t _:=h;unfold dQ at h;refine wp_seq<|aA<|q u (fZ u rfl rfl) fun a u=>aC<|t_n<|wp_seq<|?_;refine cA u rfl h (fun b29 h=>?_) (fun b29 h=>?_)
 .refine wp_skip<|t_n<|wp_seq<|wp_block<|wp_seq<|aA<|?_;obtain⟨p30,e31,h⟩:=h;refine q u (dM u rfl rfl xP xR e31) fun a u=>?_;obtain⟨c32,e33,h⟩:=h;refine q u (bO u rfl yD xR e33) fun a u=>?_;obtain⟨p34,w35,e36,h⟩:=h;refine q u (cV yA (by kernel_rfl) e36) fun a u=>?_;obtain⟨w37,e38,h⟩:=h;refine q u (dY u rfl rfl xR ((iG e33).1) e38) fun a u=>aC<|t_n<|wp_seq<|aA<|qm u rfl fun a u=>q u (cE u rfl xF) fun a u=>q u (jO u rfl rfl) fun a u=>qa u rfl fun a u=>aC<|t_n<|?_;refine lB (n:=163) (ι:=Sl×World) (Lf:=fun i=>[(9,(Sl.v i.1)),(7,(.func (.func 32) #[] #[(pV (some p1))])),(8,(Sl.v s13)),(23,(Sl.v a1)),(24,(iV (a1.n:Int))),(25,(iV x17))]) (wf:=fun i=>i.2) (un2 h) (fun i h a u=>?_) (fun h hk42=>?_)
  .obtain⟨v39,w40⟩:=i;have u:Has 163 [(9,(Sl.v v39)),(7,(.func (.func 32) #[] #[(pV (some p1))])),(8,(Sl.v s13)),(23,(Sl.v a1)),(24,(iV (a1.n:Int))),(25,(iV x17))] a:=u;refine wp_seq<|aA<|qm u rfl fun a u=>qm u rfl fun a u=>q u (cE u rfl xF) fun a u=>q u (jO u rfl rfl) fun a u=>?_;obtain⟨p96,e97,h⟩:=h;refine q u (dM u rfl rfl xF xS e97) fun a u=>?_;obtain⟨c98,e99,h⟩:=h;refine q u (bO u rfl Try.isAgg70 xS e99) fun a u=>?_;obtain⟨p100,w101,e102,h⟩:=h;refine q u (cV xU (by kernel_rfl) e102) fun a u=>?_;obtain⟨w103,e104,h⟩:=h;refine q u (dY u rfl rfl xS ((iG e99).1) e104) fun a u=>aC<|t_n<|wp_seq<|?_;refine fX (n:=163) (ι:=Bool×World) (Lf:=fun i=>[(156,(bV i.1)),(7,(.func (.func 32) #[] #[(pV (some p1))])),(8,(Sl.v s13)),(9,(Sl.v v39)),(23,(Sl.v a1)),(24,(iV (a1.n:Int))),(25,(iV x17))]) (wf:=fun i=>i.2) (un2 h) (fun i h a u=>?_) (fun h hk108=>?_)
   .obtain⟨v105,w106⟩:=i;have u:Has 163 [(156,(bV v105)),(7,(.func (.func 32) #[] #[(pV (some p1))])),(8,(Sl.v s13)),(9,(Sl.v v39)),(23,(Sl.v a1)),(24,(iV (a1.n:Int))),(25,(iV x17))] a:=u;refine t_n<|?_;refine cA u rfl h (fun b120 h=>?_) (fun b120 h=>?_)
    .refine wp_seq<|aA<|qa u rfl fun a u=>qa u rfl fun a u=>aC<|t_n<|wp_ret<|b_r<|t_r<|t_r<|?_;exact hk27 (Sl.nil,6,w106) h _ (u.sb rfl)
    refine wp_skip<|b_n<|t_n<|aA<|q u (dT u rfl rfl) fun a u=>qm u rfl fun a u=>aC<|?_;exact⟨(v39,(IntKind.wrap .i64 (x17+1)),w106),⟨u.sb rfl,rfl⟩,h⟩
   refine aA<|q u (aI u rfl xM rfl rfl xC) fun a u=>?_;obtain⟨v109,e110,h⟩:=h;refine q u (aH u rfl xJ (bT e110)) fun a u=>?_;obtain⟨v111,w112,e113,h⟩:=h;refine q u (dc1 u rfl Try.call38 (jT e113)) fun a u=>qm u rfl fun a u=>?_;refine nB h (fun b114 h=>?_) (fun b114 h=>?_)
   .refine qn u 152 (tn b114) fun a u=>qn u 152 (tn b114) fun a u=>qn u 152 (tn b114) fun a u=>q u (aM u rfl b114 rfl) fun a u=>aC<|?_;exact hk108 (true,w112) h _ (u.sb rfl)
   refine qg u 152 (nt b114) (aI u rfl xM rfl rfl xC) fun a u=>?_;obtain⟨v115,e116,h⟩:=h;refine qg u 152 (nt b114) (aH u rfl xJ (bT e116)) fun a u=>?_;obtain⟨v117,w118,e119,h⟩:=h;refine qg u 152 (nt b114) (dc1 u rfl Try.call38 (jT e119)) fun a u=>q u (aK u rfl b114 rfl) fun a u=>aC<|?_;exact hk108 (v117,w118) h _ (u.sb rfl)
  refine wp_seq<|aA<|q u (aI u rfl wK rfl rfl Try.sizeOf51) fun a u=>?_;obtain⟨v43,e44,h⟩:=h;refine q u (aH u rfl Try.isAgg51 (aN e44)) fun a u=>aC<|t_n<|wp_block<|wp_seq<|aA<|q u (cF u rfl rfl) fun a u=>qa u rfl fun a u=>aC<|t_n<|?_;refine cA u rfl h (fun b45 h=>?_) (fun b45 h=>?_)
  .refine aA<|qm u rfl fun a u=>qm u rfl fun a u=>q u (fU (vs:=[(0,(Sl.v s13)),(1,(Sl.v Sl.nil))]) (pl:=#[(0,1),(1,1)]) (cs:=([Sl.v s13,Sl.v Sl.nil])) u ⟨rfl,rfl,rfl,rfl,aAO⟩ xU xM (by intro w;kernel_rfl) (by kernel_rfl)) fun a u=>?_;obtain⟨s46,w47,e48,h⟩:=h;refine q u (gU (vs:=[(0,(.agg (List.toArray ([Sl.v s13,Sl.v Sl.nil]))))]) (ps:=[([Sl.v s13,Sl.v Sl.nil])]) u ⟨rfl,rfl,aAO⟩ ⟨rfl,rfl,aAO⟩ rfl xF xS xU (by decide) e48) fun a u=>?_;obtain⟨s49,w50,e51,h⟩:=h;refine q u (jR u rfl rfl e51) fun a u=>qa u rfl fun a u=>aC<|b_n<|?_;exact hk42 (s49,w50) h _ (u.sb rfl)
  refine wp_seq<|aA<|q u (cF u rfl rfl) fun a u=>qa u rfl fun a u=>aC<|t_n<|?_;refine cA u rfl h (fun b52 h=>?_) (fun b52 h=>?_)
  .refine aA<|qm u rfl fun a u=>qm u rfl fun a u=>q u (fU (vs:=[(0,(Sl.v Sl.nil)),(1,(Sl.v s13))]) (pl:=#[(0,1),(1,1)]) (cs:=([Sl.v Sl.nil,Sl.v s13])) u ⟨rfl,rfl,rfl,rfl,aAO⟩ xU xM (by intro w;kernel_rfl) (by kernel_rfl)) fun a u=>?_;obtain⟨s53,w54,e55,h⟩:=h;refine q u (gU (vs:=[(0,(.agg (List.toArray ([Sl.v Sl.nil,Sl.v s13]))))]) (ps:=[([Sl.v Sl.nil,Sl.v s13])]) u ⟨rfl,rfl,aAO⟩ ⟨rfl,rfl,aAO⟩ rfl xF xS xU (by decide) e55) fun a u=>?_;obtain⟨s56,w57,e58,h⟩:=h;refine q u (jR u rfl rfl e58) fun a u=>qa u rfl fun a u=>aC<|b_n<|?_;exact hk42 (s56,w57) h _ (u.sb rfl)
  refine wp_seq<|aA<|q u (cF u rfl rfl) fun a u=>qa u rfl fun a u=>aC<|t_n<|?_;refine cA u rfl h (fun b59 h=>?_) (fun b59 h=>?_)
  .obtain⟨w60,e61,h⟩:=h;obtain⟨c62,e63,h⟩:=h;obtain⟨v64,e65,h⟩:=h;obtain⟨v66,w67,e68,h⟩:=h;obtain⟨e72,h⟩:=h;have u:Has 163 [(7,(.func (.func 32) #[] #[(pV (some p1))])),(8,(Sl.v s13)),(9,(Sl.v x16)),(11,(pV (some p34))),(12,(iV (IntKind.wrap .i64 ((x16.n:Int)-1)))),(23,(Sl.v a1)),(24,(iV (a1.n:Int))),(25,(iV x17)),(33,(iV v43)),(48,(bV (v43==3)))] a:=u.sb rfl;refine oL (n:=163) (i:=0) (d:=50) (s:=9) (v:=(Sl.v x16)) (ds:=(aL (Sl.v x16) false 0 1 [] [(9,(Sl.v x16))]::aL (.agg (List.toArray c62)) false 0 1 [] [(11,(pV (some p34)))]::eD (.func (.func 32) #[] #[(pV (some p1))]) 0 [] 7::bA (pV (some (p34.add 1))) 0 [] 11 (pV (some p34))::bA (.string v64) 0 [3] 53 (pV (some (p34.add 1)))::aL (iV v66) true 0 0 [2,3,4] [(52,(.func (.func 32) #[] #[(pV (some p1))])),(54,(.string v64))]::[])) (B:=(_::_::_::_::[])) (W:=(fun j=>match j with | 0=>w60 | 1=>w67 | _=>w67)) (m:=1) (by kernel_rfl) u (gV e61) rfl ?_ rfl (by decide) (by kernel_rfl) (by kernel_rfl) (by kernel_rfl) (by kernel_rfl) ?_ (bP (by kernel_rfl)) (by kernel_rfl) (by kernel_rfl) (fun a u=>?_)
   .exact⟨.inl rfl,.inr (.inl ⟨rfl,by simp,by simp,fun a v=>by simp[execOp,resolve,jS,lW,mN]⟩),.inr (.inl ⟨rfl,by simp,by simp,fun a v=>by simp[execOp,resolve,jS,lW,mN]⟩),.inr (.inl ⟨rfl,by simp,by simp,fun a v=>by simp[execOp,resolve,jS,lW,mN]⟩),.inr (.inl ⟨rfl,by simp,by simp,fun a v=>by simp[execOp,resolve,jS,lW,mN]⟩),.inr (.inl ⟨rfl,by simp,by simp,fun a v=>by simp[execOp,resolve,jS,lW,mN]⟩),.inr (.inl ⟨rfl,by simp,by simp,fun a v=>by simp[execOp,resolve,jS,lW,mN]⟩),.inr (.inl ⟨rfl,by simp,by simp,fun a v=>by simp[execOp,resolve,jS,lW,mN]⟩),.inr (.inr (by kernel_rfl)),.inr (.inr (by kernel_rfl)),aAO⟩
   .refine⟨oa (aF · rfl),?_,oa (aF · rfl),oa (aI · rfl wK rfl rfl wO),oc 0 (kd (aH · rfl wQ (cJ e65))),oc 0 (kd (eG (xs:=[_]) (vs:=[(.string v64)]) (cv:=[(pV (some p1))]) · rfl ⟨rfl,aAO⟩ Try.call32 (lE e68))),aAO⟩;intro j h1 h2;have h1:0<=j:=h1;have h2:j<=1:=h2;rcases(by omega:j=0\/j=1) with rfl | rfl
    .exact kd (bO · rfl yD xR e63)
    exact kd (bO · rfl yD xR e72)
   have u:Has 163 [(55,(iV v66)),(54,(.string v64)),(53,(pV (some (p34.add 1)))),(52,(.func (.func 32) #[] #[(pV (some p1))])),(51,(.agg (List.toArray c62))),(50,(Sl.v x16)),(7,(.func (.func 32) #[] #[(pV (some p1))])),(8,(Sl.v s13)),(9,(Sl.v x16)),(11,(pV (some p34))),(12,(iV (IntKind.wrap .i64 ((x16.n:Int)-1)))),(23,(Sl.v a1)),(24,(iV (a1.n:Int))),(25,(iV x17)),(33,(iV v43)),(48,(bV (v43==3)))] a:=u.sb rfl;refine sV (p:=6) (by kernel_rfl)<|?_;refine sC (ι:=(List Value)×World) (pk:=fun i=>(.agg (List.toArray i.1))) (wf:=fun i=>i.2) (xs:=[_,_]) (vs:=[(.agg (List.toArray c62)),(iV v66)]) rfl (.inl rfl) u ⟨rfl,rfl,aAO⟩ Try.call35 (mT (un2 h)) (fun i h a u=>?_);obtain⟨v69,w70⟩:=i;obtain⟨s73,w74,e75,h⟩:=h;obtain⟨s76,w77,e78,h⟩:=h;refine oM (n:=163) (L0:=[(7,(.func (.func 32) #[] #[(pV (some p1))])),(8,(Sl.v s13)),(9,(Sl.v x16)),(11,(pV (some p34))),(12,(iV (IntKind.wrap .i64 ((x16.n:Int)-1)))),(23,(Sl.v a1)),(24,(iV (a1.n:Int))),(25,(iV x17)),(33,(iV v43)),(48,(bV (v43==3)))]) (ds:=(aL (Sl.v x16) false 0 10 [] [(9,(Sl.v x16))]::aL (.agg (List.toArray c62)) false 0 10 [] [(11,(pV (some p34)))]::aL (.func (.func 32) #[] #[(pV (some p1))]) false 0 10 [] [(7,(.func (.func 32) #[] #[(pV (some p1))]))]::aL (pV (some (p34.add 1))) false 0 10 [] [(11,(pV (some p34)))]::aL (.string v64) false 0 10 [3] [(53,(pV (some (p34.add 1))))]::aL (iV v66) false 0 10 [2,3,4] [(52,(.func (.func 32) #[] #[(pV (some p1))])),(54,(.string v64))]::aL (.agg (List.toArray v69)) false 0 10 (rn 1 5) [(51,(.agg (List.toArray c62))),(55,(iV v66))]::aL (Sl.v s73) true 0 0 (rn 1 6) [(56,(.agg (List.toArray v69)))]::aL (Sl.v s76) true 1 1 (rn 0 8) [(50,(Sl.v x16)),(57,(Sl.v s73))]::eD (Sl.v s76) 2 (rn 0 9) 58::[])) (W:=(fun j=>match j with | 0=>w70 | 1=>w74 | 2=>w77 | _=>w77)) (p:=7) (q:=3) (m:=2) (by kernel_rfl) (by kernel_rfl) (by kernel_rfl) (by kernel_rfl) (by kernel_rfl) ?_ (bP (by kernel_rfl)) (by kernel_rfl) (by kernel_rfl) (u.sub ⟨rfl,rfl,rfl,rfl,rfl,rfl,rfl,rfl,rfl,rfl,rfl,rfl,rfl,rfl,rfl,rfl,rfl,aAO⟩) (fun a u=>?_)
   .refine rQ (p:=7)<|?_;exact⟨oc 0 (kd (gU (vs:=[(0,(.agg (List.toArray v69)))]) (ps:=[v69]) · ⟨rfl,rfl,aAO⟩ ⟨rfl,rfl,aAO⟩ rfl xF xS xU (by decide) e75)),oc 1 (kd (jR · rfl rfl e78)),oa (fN · rfl),aAO⟩
   refine wF<|?_;have u:Has 163 [(7,(.func (.func 32) #[] #[(pV (some p1))])),(8,(Sl.v s13)),(9,(Sl.v s76)),(23,(Sl.v a1)),(24,(iV (a1.n:Int))),(25,(iV x17))] a:=u.sb rfl;refine b_n<|?_;exact hk42 (s76,w77) h _ (u.sb rfl)
  refine wp_seq<|aA<|q u (cF u rfl rfl) fun a u=>qa u rfl fun a u=>aC<|t_n<|?_;refine cA u rfl h (fun b79 h=>?_) (fun b79 h=>?_)
  .obtain⟨w80,e81,h⟩:=h;obtain⟨p82,e83,h⟩:=h;obtain⟨v84,e85,h⟩:=h;obtain⟨p86,e87,h⟩:=h;obtain⟨v88,e89,h⟩:=h;obtain⟨p90,e91,h⟩:=h;obtain⟨w92,e93,h⟩:=h;have u:Has 163 [(7,(.func (.func 32) #[] #[(pV (some p1))])),(8,(Sl.v s13)),(9,(Sl.v x16)),(12,(iV (IntKind.wrap .i64 ((x16.n:Int)-1)))),(23,(Sl.v a1)),(24,(iV (a1.n:Int))),(25,(iV x17)),(33,(iV v43)),(59,(bV (v43==4)))] a:=u.sb rfl;refine cC (n:=163) (ds:=(eD (Sl.v x16) 0 [] 9::eD (iV (IntKind.wrap .i64 ((x16.n:Int)-1))) 0 [] 12::eD (Sl.v x16) 0 [] 9::eD (iV (IntKind.wrap .i64 ((x16.n:Int)-1))) 0 [] 12::eF (pV (some p82)) 0 [2,3] [(63,(Sl.v x16)),(64,(iV (IntKind.wrap .i64 ((x16.n:Int)-1))))]::bA (pV (some (p82.add 1))) 0 [2,3,4] 65 (pV (some p82))::bA (Sl.v v84) 0 (rn 2 4) 66 (pV (some (p82.add 1)))::eD (Sl.v x16) 0 [] 9::eD (iV (IntKind.wrap .i64 ((x16.n:Int)-1))) 0 [] 12::eF (pV (some p86)) 0 [7,8] [(68,(Sl.v x16)),(69,(iV (IntKind.wrap .i64 ((x16.n:Int)-1))))]::bA (pV (some (p86.add 0))) 0 [7,8,9] 70 (pV (some p86))::bA (Sl.v v88) 0 (rn 7 4) 71 (pV (some (p86.add 0)))::eF (.agg (List.toArray ([Sl.v v84,Sl.v v88]))) 0 (rn 2 10) [(67,(Sl.v v84)),(72,(Sl.v v88))]::eF (pV (some p90)) 0 (rn 0 13) [(61,(Sl.v x16)),(62,(iV (IntKind.wrap .i64 ((x16.n:Int)-1))))]::aL (undef) true 0 0 (rn 0 14) [(74,(pV (some p90))),(73,(.agg (List.toArray ([Sl.v v84,Sl.v v88]))))]::[])) (W:=(fun j=>match j with | 0=>w80 | 1=>w92 | _=>w92)) (by kernel_rfl) u (gV e81) (by kernel_rfl) ?_ (bP (by kernel_rfl)) (by kernel_rfl) (m:=1) (by kernel_rfl) (fun a u=>?_)
   .exact⟨oa (aF · rfl),oa (aF · rfl),oa (aF · rfl),oa (aF · rfl),oa (dM · rfl rfl xF xS e83),oa (aI · rfl xM rfl rfl xC),oc 0 (kd (aH · rfl xJ (bT e85))),oa (aF · rfl),oa (aF · rfl),oa (dM · rfl rfl xF xS e87),oa (aI · rfl xM rfl rfl xC),oc 0 (kd (aH · rfl xJ (bT e89))),oa (fU (vs:=[(0,(Sl.v v84)),(1,(Sl.v v88))]) (pl:=#[(0,1),(1,1)]) (cs:=([Sl.v v84,Sl.v v88])) · ⟨rfl,rfl,rfl,rfl,aAO⟩ xU xM (by intro w;kernel_rfl) (by kernel_rfl)),oa (dM · rfl rfl xF xS e91),oc 0 (kd (dY · rfl rfl xS rfl e93)),aAO⟩
   have u:Has 163 [(7,(.func (.func 32) #[] #[(pV (some p1))])),(8,(Sl.v s13)),(9,(Sl.v x16)),(23,(Sl.v a1)),(24,(iV (a1.n:Int))),(25,(iV x17))] a:=u.sb rfl;refine b_n<|?_;exact hk42 (x16,w92) h _ (u.sb rfl)
  refine wp_seq<|aA<|q u (cF u rfl rfl) fun a u=>qa u rfl fun a u=>aC<|t_n<|?_;refine cA u rfl h (fun b94 h=>?_) (fun b94 h=>?_)
  .refine wp_seq<|?_;exact(show False from h).elim
  refine wp_seq<|aA<|q u (cF u rfl rfl) fun a u=>qa u rfl fun a u=>aC<|t_n<|?_;refine cA u rfl h (fun b95 h=>?_) (fun b95 h=>?_)
  .refine wp_seq<|?_;exact(show False from h).elim
  refine wp_skip<|b_n<|?_;exact hk42 (x16,w37) h _ (u.sb rfl)
 refine wp_exit<|t_x<|t_x<|?_;exact hk26 (x16,w18) h _ (u.sb rfl)
noncomputable def gP (a0:Sl) (a1:Addr) (w:World):Option (Bool×World) :=
 (ldL w a1).bind fun v1 =>
 aE (gS v1 a0 w) fun v3 w4 =>
 some (v3,w4)
theorem kY {a0 a1 w w' r0} (h:gP a0 a1 w=some (r0,w')):Calls Try.prog 23 #[(Sl.v a0),(.pointer (some a1))] w fun e w''=>e=.returned (.bool r0)/\w''=w':=by
 refine aD (n:=7) Try.func23 rfl Try.ntmps23 (by simp) fun a u=>?_;unfold gP at h;refine wp_seq<|aA<|qa u rfl fun a u=>aC<|t_n<|wp_seq<|aA<|?_;have⟨v1,e2,h⟩:=bs1 h;refine q u (aH u rfl xQ (bT e2)) fun a u=>qm u rfl fun a u=>?_;have⟨v3,w4,e5,h⟩:=bs2 h;refine q u (dc2 u rfl rfl Try.call19 (lP e5)) fun a u=>qa u rfl fun a u=>aC<|t_n<|wp_ret<|?_;have y:=u;cases h;exact aY Try.results23 y rfl ⟨rfl,rfl⟩
noncomputable def aJ (a0:Sl) (a1_0:Addr) (x1:Int) (w2:World):Option ((Int×World)⊕((World)⊕(Int×World))) :=
 if (decide (x1<(a0.n:Int)))=true then
 ((ix a0 x1 1).bind fun p12 =>
 (ldL w2 p12).bind fun v14 =>
 aE (gP v14 a1_0 w2) fun v16 w17 =>
 if v16=true then
 (some (.inr (.inr (x1,w17))))
 else
 (some (.inl ((IntKind.wrap .i64 (x1+1)),w17))))
 else
 (some (.inr (.inl w2)))
noncomputable def bQ (a0:Sl) (a1_0:Addr) (w:World):Option (Int×World) :=
 (bS (fun s:Int×World=>aJ a0 a1_0 s.1 s.2) (0,w)).bind fun r3=>Sum.elim (fun (i:World)=>u1 i fun w5 =>
 some ((-1),w5)) (fun (i:Int×World)=>u2 i fun v6 w7 =>
 some (v6,w7)) r3
theorem eZ {a0 a1_0 w w' r0} (h:bQ a0 a1_0 w=some (r0,w')):Calls Try.prog 40 #[(Sl.v a0),(.func (.func 23) #[] #[(.pointer (some a1_0))])] w fun e w''=>e=.returned (.int .i64 r0)/\w''=w':=by
 refine aD (n:=19) Try.func40 rfl Try.ntmps40 (by simp) fun a u=>?_;unfold bQ at h;refine wp_seq<|aA<|qa u rfl fun a u=>aC<|t_n<|wp_seq<|wp_seq<|aA<|qm u rfl fun a u=>q u (cE u rfl wP) fun a u=>qm u rfl fun a u=>aC<|t_n<|wp_block<|?_;have⟨r3,e4,h⟩:=bs1 h;refine dG (n:=19) (L1:=fun i=>[]) (w1:=fun i=>i) (L2:=fun i=>[(4,(iV i.1))]) (w2:=fun i=>i.2) (e1:=.exit 0) (e2:=.ret) (I:=fun (s:Int×World) a w=>Has 19 [(8,(iV s.1)),(0,(Sl.v a0)),(1,(.func (.func 23) #[] #[(pV (some a1_0))])),(7,(iV (a0.n:Int)))] a/\w=s.2) ⟨u.sub ⟨rfl,rfl,rfl,rfl,aAO⟩,rfl⟩ e4 (fun i hi a u=>?_) (fun i hi a u=>?_) (fun hk8 hk9=>?_)
 .subst hi;obtain⟨w5,rfl⟩:∃ x,x=i:=⟨i,rfl⟩;dsimp only[Sum.elim_inl,Sum.elim_inr,u1,u2,u3,u4,u5,u6] at h;have u:Has 19 [] a:=u;refine eL<|t_n<|wp_seq<|aA<|qa u rfl fun a u=>aC<|t_n<|wp_ret<|?_;have y:=u;cases h;exact aY Try.results40 y rfl ⟨rfl,rfl⟩
 .subst hi;obtain⟨v6,w7⟩:=i;dsimp only[Sum.elim_inl,Sum.elim_inr,u1,u2,u3,u4,u5,u6] at h;have u:Has 19 [(4,(iV v6))] a:=u;refine b_r<|t_r<|?_;have y:=u;cases h;exact aY Try.results40 y rfl ⟨rfl,rfl⟩
 clear h;rintro⟨x1,w2⟩ a wq o ⟨u,hwq⟩ h hr10;obtain rfl:w2=wq:=hwq.symm;have u:Has 19 [(8,(iV x1)),(0,(Sl.v a0)),(1,(.func (.func 23) #[] #[(pV (some a1_0))])),(7,(iV (a0.n:Int)))] a:=u;have h:aJ a0 a1_0 x1 w2=some o:=h;unfold aJ at h;refine wp_seq<|aA<|q u (fZ u rfl rfl) fun a u=>aC<|t_n<|wp_seq<|?_;refine aG u rfl h (fun b11 h=>?_) (fun b11 h=>?_)
 .refine wp_skip<|t_n<|wp_seq<|wp_block<|wp_seq<|aA<|qm u rfl fun a u=>qa u rfl fun a u=>aC<|t_n<|wp_seq<|aA<|qm u rfl fun a u=>qm u rfl fun a u=>qm u rfl fun a u=>?_;have⟨p12,e13,h⟩:=bs1 h;refine q u (dM u rfl rfl wP xI e13) fun a u=>?_;have⟨v14,e15,h⟩:=bs1 h;refine q u (aH u rfl xQ (bT e15)) fun a u=>?_;have⟨v16,w17,e18,h⟩:=bs2 h;refine q u (eG (xs:=[_]) (vs:=[(Sl.v v14)]) (cv:=[(pV (some a1_0))]) u rfl ⟨rfl,aAO⟩ Try.call23 (kY e18)) fun a u=>aC<|t_n<|?_;refine aG u rfl h (fun b19 h=>?_) (fun b19 h=>?_)
  .refine wp_seq<|aA<|qm u rfl fun a u=>qa u rfl fun a u=>aC<|t_n<|wp_ret<|b_r<|t_r<|?_;have y:=u;cases h;cases hr10 _ rfl;refine gD<|?_;exact hk9 _ rfl _ (y.sb rfl)
  refine wp_skip<|b_n<|t_n<|aA<|q u (dT u rfl rfl) fun a u=>qm u rfl fun a u=>aC<|?_;have y:=u;cases h;exact cY ⟨y.sb rfl,rfl⟩
 refine wp_exit<|t_x<|?_;have y:=u;cases h;cases hr10 _ rfl;refine iA<|?_;exact hk8 _ rfl _ (y.sb rfl)
noncomputable def aW (a0:Sl) (a1_0:Addr) (w:World):Option (Bool×World) :=
 aE (bQ a0 a1_0 w) fun v1 w2 =>
 some ((decide (0<=v1)),w2)
theorem eO {a0 a1_0 w w' r0} (h:aW a0 a1_0 w=some (r0,w')):Calls Try.prog 22 #[(Sl.v a0),(.func (.func 23) #[] #[(.pointer (some a1_0))])] w fun e w''=>e=.returned (.bool r0)/\w''=w':=by
 refine aD (n:=9) Try.func22 rfl Try.ntmps22 (by simp) fun a u=>?_;unfold aW at h;refine wp_seq<|aA<|qa u rfl fun a u=>aC<|t_n<|wp_seq<|aA<|qm u rfl fun a u=>qm u rfl fun a u=>?_;have⟨v1,w2,e3,h⟩:=bs2 h;refine q u (eV (xs:=[_,_]) (vs:=[(Sl.v a0),(.func (.func 23) #[] #[(pV (some a1_0))])]) u ⟨rfl,rfl,aAO⟩ Try.call40 (eZ e3)) fun a u=>q u (kV u rfl rfl) fun a u=>qa u rfl fun a u=>aC<|t_n<|wp_ret<|?_;have y:=u;cases h;exact aY Try.results22 y rfl ⟨rfl,rfl⟩
noncomputable def dI (v6:Sl) (v1:Sl) (x11:Int) (w12:World):ND ((Int×World)⊕((World)⊕(Bool×Int×World))) :=
 if (decide (x11<(v6.n:Int)))=true then
 (lb1 (ix v6 x11 1) fun p23 =>
 lb1 (ldL w12 p23) fun v25 =>
 lb2 (mk w12 22 ([.slice none 0 0])) fun p27 w28 =>
 lb1 (stV w28 p27 (Sl.v v25)) fun w30 =>
 lb2 (aW v1 p27 w30) fun v32 w33 =>
 if (!v32)=true then
 (cB (.inr (.inr (false,0,w33))))
 else
 (cB (.inl ((IntKind.wrap .i64 (x11+1)),w33))))
 else
 (cB (.inr (.inl w12)))
noncomputable def gA (a0:Sl) (a1:Sl) (a2:Sl) (w:World):ND (Bool×Int×World) :=
 cb3 (gO a0 a1 w) fun v1 v2 w3 =>
 if (v2 !=0)=true then
 (cB (false,v2,w3))
 else
 (cb3 (gO a0 a2 w3) fun v6 v7 w8 =>
 if (v7 !=0)=true then
 (cB (false,v7,w8))
 else
 (cb1 (lK (fun s:Int×World=>dI v6 v1 s.1 s.2) (0,w8)) fun r13=>Sum.elim (fun (i:World)=>u1 i fun w15 =>
 cB (true,0,w15)) (fun (i:Bool×Int×World)=>u3 i fun v16 v17 w18 =>
 cB (v16,v17,w18)) r13))
theorem jG {a0 a1 a2 w Q} (h:(gA a0 a1 a2 w).t Q):Calls Try.prog 11 #[(Sl.v a0),(Sl.v a1),(Sl.v a2)] w fun e w''=>∃ i,e=.returned (.tuple #[(.bool i.1),(.int .i64 i.2.1)])/\Q i/\w''=i.2.2:=by
 refine aD (n:=42) Try.func11 rfl Try.ntmps11 (by simp) fun a u=>?_;unfold gA at h;refine wp_seq<|aA<|qa u rfl fun a u=>qa u rfl fun a u=>aC<|t_n<|wp_seq<|aA<|qm u rfl fun a u=>qm u rfl fun a u=>?_;refine dU (ι:=Sl×Int×World) (pk:=fun i=>(.tuple #[(Sl.v i.1),(iV i.2.1)])) (wf:=fun i=>i.2.2) (xs:=[_,_]) (vs:=[(Sl.v a0),(Sl.v a1)]) u ⟨rfl,rfl,aAO⟩ Try.call21 (jN (un3 h)) (fun i h a u=>?_);obtain⟨v1,v2,w3⟩:=i;refine qm u rfl fun a u=>q u (lI u rfl rfl) fun a u=>q u (lI u rfl rfl) fun a u=>qa u rfl fun a u=>qa u rfl fun a u=>aC<|t_n<|wp_seq<|wp_seq<|aA<|qm u rfl fun a u=>q u (kJ u rfl rfl) fun a u=>aC<|t_n<|?_;refine cA u rfl h (fun b5 h=>?_) (fun b5 h=>?_)
 .refine wp_seq<|aA<|qm u rfl fun a u=>qa u rfl fun a u=>qa u rfl fun a u=>aC<|t_n<|wp_ret<|t_r<|?_;exact pC Try.results11 u rfl rfl ⟨(false,v2,w3),rfl,h,rfl⟩
 refine wp_skip<|t_n<|wp_seq<|aA<|qm u rfl fun a u=>qm u rfl fun a u=>?_;refine dU (ι:=Sl×Int×World) (pk:=fun i=>(.tuple #[(Sl.v i.1),(iV i.2.1)])) (wf:=fun i=>i.2.2) (xs:=[_,_]) (vs:=[(Sl.v a0),(Sl.v a2)]) u ⟨rfl,rfl,aAO⟩ Try.call21 (jN (un3 h)) (fun i h a u=>?_);obtain⟨v6,v7,w8⟩:=i;refine qm u rfl fun a u=>q u (lI u rfl rfl) fun a u=>q u (lI u rfl rfl) fun a u=>qa u rfl fun a u=>qa u rfl fun a u=>aC<|t_n<|wp_seq<|wp_seq<|aA<|qm u rfl fun a u=>q u (kJ u rfl rfl) fun a u=>aC<|t_n<|?_;refine cA u rfl h (fun b10 h=>?_) (fun b10 h=>?_)
 .refine wp_seq<|aA<|qm u rfl fun a u=>qa u rfl fun a u=>qa u rfl fun a u=>aC<|t_n<|wp_ret<|t_r<|?_;exact pC Try.results11 u rfl rfl ⟨(false,v7,w8),rfl,h,rfl⟩
 refine wp_skip<|t_n<|wp_seq<|wp_seq<|aA<|qm u rfl fun a u=>q u (cE u rfl wP) fun a u=>qm u rfl fun a u=>aC<|t_n<|wp_block<|?_;refine oQ (n:=42) (L1:=fun i=>[]) (w1:=fun i=>i) (L2:=fun i=>[(6,(bV i.1)),(7,(iV i.2.1))]) (w2:=fun i=>i.2.2) (e1:=.exit 0) (e2:=.ret) (I:=fun (s:Int×World) a w=>Has 42 [(33,(iV s.1)),(8,(Sl.v v1)),(31,(Sl.v v6)),(32,(iV (v6.n:Int)))] a/\w=s.2) (un1 h) ⟨u.sub ⟨rfl,rfl,rfl,rfl,aAO⟩,rfl⟩ (fun i h a u=>?_) (fun i h a u=>?_) (fun hk19 hk20=>?_)
 .obtain⟨w15,rfl⟩:∃ x,x=i:=⟨i,rfl⟩
  try dsimp only[Sum.elim_inl,Sum.elim_inr,u1,u2,u3,u4,u5,u6] at h
  have u:Has 42 [] a:=u;refine eL<|t_n<|wp_seq<|aA<|qa u rfl fun a u=>qa u rfl fun a u=>aC<|t_n<|wp_ret<|?_;exact pC Try.results11 u rfl rfl ⟨(true,0,w15),rfl,h,rfl⟩
 .obtain⟨v16,v17,w18⟩:=i
  try dsimp only[Sum.elim_inl,Sum.elim_inr,u1,u2,u3,u4,u5,u6] at h
  have u:Has 42 [(6,(bV v16)),(7,(iV v17))] a:=u;refine b_r<|t_r<|?_;exact pC Try.results11 u rfl rfl ⟨(v16,v17,w18),rfl,h,rfl⟩
 clear h;intro hX36;rintro⟨x11,w12⟩ a wq ⟨u,hwq⟩ h;obtain rfl:w12=wq:=hwq.symm;have u:Has 42 [(33,(iV x11)),(8,(Sl.v v1)),(31,(Sl.v v6)),(32,(iV (v6.n:Int)))] a:=u;have h:(dI v6 v1 x11 w12).t _:=h;unfold dI at h;refine wp_seq<|aA<|q u (fZ u rfl rfl) fun a u=>aC<|t_n<|wp_seq<|?_;refine cA u rfl h (fun b22 h=>?_) (fun b22 h=>?_)
 .refine wp_skip<|t_n<|wp_seq<|wp_block<|wp_seq<|aA<|?_;obtain⟨p23,e24,h⟩:=h;refine q u (dM u rfl rfl wP xI e24) fun a u=>?_;obtain⟨v25,e26,h⟩:=h;refine q u (aH u rfl xQ (bT e26)) fun a u=>?_;obtain⟨p27,w28,e29,h⟩:=h;refine q u (cV xY (by kernel_rfl) e29) fun a u=>?_;obtain⟨w30,e31,h⟩:=h;refine q u (gT u rfl rfl xI e31) fun a u=>aC<|t_n<|wp_seq<|aA<|qm u rfl fun a u=>q u (jU (vs:=[(pV (some p27))]) u ⟨rfl,aAO⟩) fun a u=>?_;obtain⟨v32,w33,e34,h⟩:=h;refine q u (eV (xs:=[_,_]) (vs:=[(Sl.v v1),(.func (.func 23) #[] #[(pV (some p27))])]) u ⟨rfl,rfl,aAO⟩ Try.call22 (eO e34)) fun a u=>q u (eY u rfl) fun a u=>aC<|t_n<|?_;refine cA u rfl h (fun b35 h=>?_) (fun b35 h=>?_)
  .refine wp_seq<|aA<|qa u rfl fun a u=>qa u rfl fun a u=>aC<|t_n<|wp_ret<|b_r<|t_r<|t_r<|?_;exact hk20 (false,0,w33) h _ (u.sb rfl)
  refine wp_skip<|b_n<|t_n<|aA<|q u (dT u rfl rfl) fun a u=>qm u rfl fun a u=>aC<|?_;exact⟨((IntKind.wrap .i64 (x11+1)),w33),⟨u.sb rfl,rfl⟩,h⟩
 refine wp_exit<|t_x<|t_x<|?_;exact hk19 w12 h _ (u.sb rfl)
def aB:ByteArray:=ByteArray.mk #[97]
def flC:List Value:=[.string aB,.int .i64 1]
def vlC (n:Int):List Value:=[.int .i64 1,.int .i64 n,.string ByteArray.empty,.bool false,.complex .f64 0 0]
def tmC (n:Int):List Value:=[.int .i64 3,.string aB,.int .i64 5,.int .i64 1,.int .i64 n,.string ByteArray.empty,.bool false,.complex .f64 0 0,.int .i64 0]
def cR (_:Gh) (_:World) (cs x:List Value):Prop:=cs=x
theorem hD {g g':Gh} {w w':World} {cs x:List Value} (h:cR g w cs x) (m:Mo g w g' w'):cR g' w' cs x:=h
theorem uI:jM aB=true:=by decide +kernel
theorem nV {n:Int}:∀ v∈tmC n,v.oneCell'=true:=by intro v hv;simp[tmC] at hv;rcases hv with rfl | rfl | rfl | rfl | rfl | rfl | rfl | rfl | rfl<;>rfl
theorem Ex.lnext {S R:Type} {step:S->Option (S⊕R)} {s:S} {Φ:R->Prop} (h:Ex (step s) fun o=>∃ s',o = .inl s'/\Ex (bS step s') Φ):Ex (bS step s) Φ:=by
 obtain⟨o,e,s',rfl,r,e',h⟩:=h;exact⟨r,(eC e).trans e',h⟩
theorem Ex.ldone {S R:Type} {step:S->Option (S⊕R)} {s:S} {Φ:R->Prop} (h:Ex (step s) fun o=>∃ r,o = .inr r/\Φ r):Ex (bS step s) Φ:=by
 obtain⟨o,e,r,rfl,h⟩:=h;exact⟨r,bZ e,h⟩
section
variable {F0 : Nat -> Prop} {g g0 : Gh} {w w0 : World} {L : List Rs} {s v : Sl} {n : Int} {q : Nat}
theorem sB (w:World):iC ByteArray.empty aB w=some (0,w):=by
 unfold iC;rw[mF,cN,uI];have:=nG uI;unfold sLe at this;simp[this]
theorem pT (hs:PL cR 2 g w s [flC]) (H:Hp F0 g0 w0 g w L):Ex (dV s w) fun r=>r.1=0/\Hp F0 g0 w0 g r.2 L/\Mo g w g r.2:=by
 have hln:s.n=1:=hs.len;obtain⟨a,cs,ea,la,rfl,-⟩:=hs.el (R:=cR) hD Mo.r (i:=0) rfl;obtain⟨p,w2,e2,H2,m2⟩:=H.box (T:=33) (cs:=[.string ByteArray.empty,.int .i64 0]);obtain⟨w3,e3,H3,m3⟩:=H2.stF (vs:=flC) rfl (by intro v hv;simp[flC] at hv;rcases hv with rfl | rfl<;>rfl);have l0:ldS w3 ((⟨p,0,none⟩:Addr).add 0)=some aB:=by rw[aS];exact H3.ldS rfl
 have l1:ldI .i64 w3 ((⟨p,0,none⟩:Addr).add 1)=some 1:=by rw[aS];exact H3.ldI rfl
 unfold dV;refine Ex.f (by simp[hln]) (Ex.j1 (Ψ:=fun o=>o = .inl w3) (Ex.lnext ?_) ?_)
 .show Ex (cG s ByteArray.empty 0 w) _;unfold cG;refine Ex.t (by simp[hln]) (Ex.b1 ea (Ex.b1 la (Ex.b2 e2 (Ex.b1 e3 (Ex.b1 l0 (Ex.b2 (sB _) (Ex.f (by decide) (Ex.j2 (Ψ:=fun r=>r=(false,w3)) (Ex.b1 l1 (Ex.f (by decide) (Ex.b1 l1 (Ex.ret rfl)))) ?_))))))));rintro _ _ he;cases he;refine Ex.f (by decide) (Ex.b1 l0 (Ex.ret ⟨_,rfl,Ex.ldone ?_⟩));show Ex (cG s aB 1 w3) _;unfold cG;exact Ex.f (by simp[hln]) (Ex.ret ⟨_,rfl,rfl⟩)
 rintro _ rfl;exact Ex.ret ⟨rfl,H3.tl,m2.t m3⟩
theorem qK (H:Hp F0 g0 w0 g w L):Ex (hE (vlC n) w) fun r=>r.1=0/\Hp F0 g0 w0 g r.2 L/\Mo g w g r.2:=by
 obtain⟨p,w2,e2,H2,m2⟩:=H.box (T:=55) (cs:=vlC n);have l0:ldI .i64 w2 ((⟨p,0,none⟩:Addr).add 0)=some 1:=by rw[aS];exact H2.ldI rfl
 unfold hE;refine Ex.b2 e2 (Ex.xX (Ψ:=fun o=>o = .inr w2) (Ex.b1 l0 (Ex.j2 (Ψ:=fun r=>r=(true,w2)) (Ex.t (by decide) (Ex.ret rfl)) ?_)) (fun r hr=>by cases hr) (fun r hr=>?_))
 .rintro _ _ he;cases he;exact Ex.t rfl (Ex.ret rfl)
 cases hr;exact Ex.ret ⟨rfl,H2.tl,m2⟩
theorem rY (H:Hp F0 g0 w0 g w L):Ex (iR (tmC n) w) fun r=>r.1=0/\Hp F0 g0 w0 g r.2 L/\Mo g w g r.2:=by
 obtain⟨p,w2,e2,H2,m2⟩:=H.box (T:=57) (cs:=tmC n);have l1:ldS w2 ((⟨p,0,none⟩:Addr).add 1)=some aB:=by rw[aS];exact H2.ldS rfl
 have l2:∀ {w'},Hp F0 g0 w0 g w' (bxR p (tmC n) 57::L)->ldI .i64 w' ((⟨p,0,none⟩:Addr).add 2)=some 5:=fun H=>by rw[aS];exact H.ldI rfl
 have l3:ldA 5 w2 ((⟨p,0,none⟩:Addr).add 3) 0=some (vlC n):=by rw[aS];exact qO H2.bx (by simp[tmC])
 obtain⟨⟨x,w3⟩,e3,rfl,H3,m3⟩:=qK (n:=n) H2;have l30:ldI .i64 w3 (((⟨p,0,none⟩:Addr).add 3).add 0)=some 1:=by rw[aS,aS];exact H3.ldI rfl
 unfold iR;refine Ex.b2 e2 (Ex.b1 l1 (Ex.b2 (mF _ _) (Ex.f (by rw[uI];decide) (Ex.j2 (Ψ:=fun r=>r=(false,w2)) (Ex.b1 (l2 H2) (Ex.f (by decide) (Ex.b1 (l2 H2) (Ex.ret rfl)))) ?_))));rintro _ _ he;cases he;have hb:hM 5 w2=some (false,w2):=rfl;have hk:kB 5 1 w3=some (true,w3):=rfl;refine Ex.f (by decide) (Ex.b1 (l2 H2) (Ex.b2 hb (Ex.f (by decide) (Ex.b1 l3 (Ex.b2 e3 (Ex.f (by decide) (Ex.b1 (l2 H3) (Ex.b1 l30 (Ex.b2 hk (Ex.f (by decide) (Ex.j2 (Ψ:=fun r=>r=(false,w3)) (Ex.b1 (l2 H3) (Ex.f (by decide) (Ex.ret rfl))) ?_)))))))))));rintro _ _ he;cases he;exact Ex.f (by decide) (Ex.ret ⟨rfl,H3.tl,m2.t m3⟩)
theorem qA (hs:PL cR 9 g w v [tmC n]) (H:Hp F0 g0 w0 g w L):Ex (iI v w) fun r=>r.1=0/\Hp F0 g0 w0 g r.2 L/\Mo g w g r.2:=by
 have hln:v.n=1:=hs.len;obtain⟨a,cs,ea,la,rfl,-⟩:=hs.el (R:=cR) hD Mo.r (i:=0) rfl;obtain⟨p,w2,e2,H2,m2⟩:=H.box (T:=57) (cs:=[.int .i64 0,.string ByteArray.empty,.int .i64 0,.int .i64 0,.int .i64 0,.string ByteArray.empty,.bool false,.complex .f64 0 0,.int .i64 0]);obtain⟨w3,e3,H3,m3⟩:=H2.stF (vs:=tmC n) rfl nV;have l0:ldI .i64 w3 ((⟨p,0,none⟩:Addr).add 0)=some 3:=by rw[aS];exact H3.ldI rfl
 obtain⟨⟨x,w4⟩,e4,rfl,H4,m4⟩:=rY (n:=n) H3;unfold iI;refine Ex.f (by simp[hln]) (Ex.j1 (Ψ:=fun o=>o = .inl (1,w4)) (Ex.lnext ?_) ?_)
 .show Ex (eB v 0 0 w) _;unfold eB;refine Ex.t (by simp[hln]) (Ex.b1 ea (Ex.b1 la (Ex.b2 e2 (Ex.b1 e3 (Ex.xX (Ψ:=fun o=>o = .inr (0,w4)) (Ex.b1 l0 (Ex.j2 (Ψ:=fun r=>r=(false,w3)) (Ex.f (by decide) (Ex.ret rfl)) ?_)) (fun r hr=>by cases hr) (fun r hr=>?_))))))
  .rintro _ _ he;cases he;exact Ex.f (by decide) (Ex.t (by decide) (Ex.b1 (H3.ldF rfl) (Ex.b2 e4 (Ex.f (by decide) (Ex.ret rfl)))))
  cases hr;simp only[u2];refine Ex.f (by show ¬ (decide ((0:Int)<0)=true);decide) (Ex.f (by show ¬ (decide ((16:Int)<IntKind.i64.wrap (0+IntKind.i64.wrap (1-0)))=true);decide) (Ex.ret ⟨_,rfl,Ex.ldone ?_⟩));show Ex (eB v 1 1 w4) _;unfold eB;exact Ex.f (by simp[hln]) (Ex.ret ⟨_,rfl,rfl⟩)
 rintro _ rfl;simp only[Sum.elim_inl,u2];exact Ex.f (by decide) (Ex.ret ⟨rfl,H4.tl,m2.t (m3.t m4)⟩)
theorem sF (hs:PL cR 2 g w s [flC]) (hv:PL cR 9 g w v [tmC n]) (H:Hp F0 g0 w0 g w L):Ex (iU s v w) fun r=>r.1=0/\Hp F0 g0 w0 g r.2 L/\Mo g w g r.2:=by
 have hl1:s.n=1:=hs.len;have hl2:v.n=1:=hv.len;obtain⟨⟨x,w2⟩,e2,rfl,H2,m2⟩:=pT hs H;obtain⟨⟨x,w3⟩,e3,rfl,H3,m3⟩:=qA (PL.mo (R:=cR) hD hv m2) H2;simp only at H2 m2 H3 m3 e3;obtain⟨r,w4,e4,H4,m4⟩:=H3.mkm (P:=Try.prog) (t:=79);have mA:=m2.t (m3.t m4);obtain⟨a,cs,ea,la,rfl,-⟩:=hs.el (R:=cR) hD mA (i:=0) rfl;obtain⟨p,w5,e5,H5,m5⟩:=H4.box (T:=33) (cs:=[.string ByteArray.empty,.int .i64 0]);obtain⟨w6,e6,H6,m6⟩:=H5.stF (vs:=flC) rfl (by intro v hv;simp[flC] at hv;rcases hv with rfl | rfl<;>rfl);have f0:ldS w6 ((⟨p,0,none⟩:Addr).add 0)=some aB:=by rw[aS];exact H6.ldS rfl
 have f1:ldI .i64 w6 ((⟨p,0,none⟩:Addr).add 1)=some 1:=by rw[aS];exact H6.ldI rfl
 obtain⟨w7,e7,H7,m7⟩:=H6.tl.upm (k:=aB) (v:=.int .i64 1) yF wV;have mB:=mA.t (m5.t (m6.t m7));obtain⟨b,cs,eb,lb,rfl,-⟩:=hv.el (R:=cR) hD mB (i:=0) rfl;obtain⟨u,w8,e8,H8,m8⟩:=H7.box (T:=57) (cs:=[.int .i64 0,.string ByteArray.empty,.int .i64 0,.int .i64 0,.int .i64 0,.string ByteArray.empty,.bool false,.complex .f64 0 0,.int .i64 0]);obtain⟨w9,e9,H9,m9⟩:=H8.stF (vs:=tmC n) rfl nV;have t0:ldI .i64 w9 ((⟨u,0,none⟩:Addr).add 0)=some 3:=by rw[aS];exact H9.ldI rfl
 have t1:ldS w9 ((⟨u,0,none⟩:Addr).add 1)=some aB:=by rw[aS];exact H9.ldS rfl
 have t2:ldI .i64 w9 ((⟨u,0,none⟩:Addr).add 2)=some 5:=by rw[aS];exact H9.ldI rfl
 have t3:ldI .i64 w9 (((⟨u,0,none⟩:Addr).add 3).add 0)=some 1:=by rw[aS,aS];exact H9.ldI rfl
 have lu:=H9.tl.lum (P:=Try.prog) yF wV;have lu':luI .i64 Try.prog 79 (some r) (.string aB) w9=some (1,w9):=H9.sw.lum (P:=Try.prog) yF wV;unfold iU;refine Ex.b2 e2 (Ex.f (by decide) (Ex.b2 e3 (Ex.f (by decide) (Ex.b2 e4 (Ex.j1 (Ψ:=fun o=>o=w7) (Ex.lnext ?_) ?_)))))
 .show Ex (eU s (some r) 0 w4) _;unfold eU;refine Ex.t (by simp[hl1]) (Ex.b1 ea (Ex.b1 la (Ex.b2 e5 (Ex.b1 e6 (Ex.b1 f0 (Ex.b1 f1 (Ex.b1 e7 (Ex.ret ⟨_,rfl,Ex.ldone ?_⟩))))))));show Ex (eU s (some r) 1 w7) _;unfold eU;exact Ex.f (by simp[hl1]) (Ex.ret ⟨_,rfl,rfl⟩)
 rintro _ rfl;refine Ex.j1 (Ψ:=fun o=>o = .inl w9) (Ex.lnext ?_) ?_
 .show Ex (eS v (some r) 0 _) _;unfold eS;refine Ex.t (by simp[hl2]) (Ex.xX (Ψ:=fun o=>o = .inr w9) (Ex.b1 eb (Ex.b1 lb (Ex.b2 e8 (Ex.b1 e9 (Ex.b1 t0 (Ex.f (by decide) (Ex.b1 t1 (Ex.b2 lu' (Ex.f (by decide) (Ex.j2 (Ψ:=fun r=>r=(false,w9)) (Ex.j2 (Ψ:=fun r=>r=(false,w9)) (Ex.b1 t2 (Ex.f (by decide) (Ex.ret rfl))) ?_) ?_)))))))))) (fun r hr=>by cases hr) (fun r hr=>?_))
  .rintro _ _ he;cases he;have hb:hM 5 w9=some (false,w9):=rfl;refine Ex.f (by decide) (Ex.j2 (Ψ:=fun r=>r=(false,w9)) (Ex.b1 t2 (Ex.b2 hb (Ex.t (by decide) (Ex.b1 t3 (Ex.ret rfl))))) (fun x y h=>Ex.ret h))
  .rintro _ _ he;cases he;exact Ex.f (by decide) (Ex.ret rfl)
  cases hr;simp only[u1];refine Ex.ret ⟨_,rfl,Ex.ldone ?_⟩;show Ex (eS v (some r) 1 _) _;unfold eS;exact Ex.f (by simp[hl2]) (Ex.ret ⟨_,rfl,rfl⟩)
 rintro _ rfl;exact Ex.ret ⟨rfl,H9.tl.tl,mB.t (m8.t m9)⟩
end
def sdF (lo hi:Int) (ab:Bool):Sd:=⟨aB,1,ab,lo,hi,ByteArray.empty,ByteArray.empty,false,0,[],[],false⟩
abbrev hY (s:Sd):List Value:=sdC s Sl.nil Sl.nil
def mkC (z:Sl):List Value:=[.string aB,.int .i64 1,z.v]
def loV:Int:=-9223372036854775808
def hiV:Int:=9223372036854775807
def nlR (_:Gh) (_:World) (cs:List Value) (s:Sd):Prop:=cs=hY s/\s.ins=[]/\s.outs=[]/\0<=s.tr/\s.tr<256
theorem oY {g g':Gh} {w w':World} {cs:List Value} {s:Sd} (h:nlR g w cs s) (m:Mo g w g' w'):nlR g' w' cs s:=h
theorem PL.sd {g:Gh} {w:World} {z:Sl} {b:List Sd} (h:PL nlR 12 g w z b):PL sdR 12 g w z b:=⟨h.len,fun i x hx=>by
 obtain⟨a,cs,e,hg,hl,⟨rfl,h1,h2,h3,h4⟩,hc⟩:=h.at_ i x hx;exact⟨a,_,e,hg,hl,⟨Sl.nil,Sl.nil,rfl,by rw[h1];exact PL.nil rfl,by rw[h2];exact PL.nil rfl,h3,h4⟩,hc⟩⟩
def bbR (g:Gh) (w:World) (cs:List Value) (b:List Sd):Prop:=∃ z:Sl,cs=[z.v]/\PL nlR 12 g w z b
theorem gX {g g':Gh} {w w':World} {cs:List Value} {b:List Sd} (h:bbR g w cs b) (m:Mo g w g' w'):bbR g' w' cs b:=by
 obtain⟨z,e,h⟩:=h;exact⟨z,e,PL.mo (R:=nlR) oY h m⟩
theorem wD:ST Try.prog 22 40 12 136 mH:=⟨Try.underlying22,⟨Try.t40,.agg mH.toArray,by kernel_rfl,by kernel_rfl,rfl,rfl,rfl⟩,rfl,by decide,by decide⟩
theorem vK:ST Try.prog 47 22 1 24 [.slice none 0 0]:=⟨Try.underlying47,⟨Try.t22,.slice none 0 0,by kernel_rfl,by kernel_rfl,rfl,rfl,rfl⟩,rfl,by decide,by decide⟩
def sU (cl:Option Addr->World->Option World) (a0:Option Addr) (a1:Bool) (w:World):ND (World) :=
 cb2 (lb1 (dr w) fun w5 =>
 lb1 (a0) fun p7 =>
 lb1 (ldS w5 (p7.add 0)) fun v9 =>
 lb1 (ldI .i64 w5 (p7.add 1)) fun v11 =>
 pB (lb2 (dB v9 v11 w5) fun v13 w14 =>
 lb2 (mk w14 40 ([.string ByteArray.empty,.int .i64 0,.bool false,.int .i64 0,.int .i64 0,.string ByteArray.empty,.string ByteArray.empty,.bool false,.int .u8 0,.bool false,.slice none 0 0,.slice none 0 0])) fun p16 w17 =>
 lb1 (stA w17 p16 0 v13) fun w20 =>
 nck ((v13).length=12) <|
 cB (p16,w20)) (lb2 (mk w5 40 ([.string ByteArray.empty,.int .i64 0,.bool false,.int .i64 0,.int .i64 0,.string ByteArray.empty,.string ByteArray.empty,.bool false,.int .u8 0,.bool false,.slice none 0 0,.slice none 0 0])) fun p22 w23 =>
 lb2 (dB v9 v11 w23) fun v25 w26 =>
 lb1 (stA w26 p22 0 v25) fun w29 =>
 nck ((v25).length=12) <|
 nck (ldS w23 (p7.add 0)=some v9) <|
 nck (ldI .i64 w23 (p7.add 1)=some v11) <|
 cB (p22,w29))) fun v1 w2 =>
 lb1 (stV w2 (v1.add 2) (.bool a1)) fun w33 =>
 lb1 (cl (some v1) w33) fun w35 =>
 cbX (lb1 (ldA 12 w35 v1 0) fun c43 =>
 lb2 (cX c43 w35) fun v45 w46 =>
 if v45=true then
 (lb1 (ldA 12 w46 v1 0) fun c49 =>
 lb2 (fR c49 w46) fun v51 w52 =>
 lb1 (stA w52 v1 0 v51) fun w55 =>
 nck ((v51).length=12) <|
 if (!a1)=true then
 (cb1 (cB w55) fun g42=>cB (.inl g42))
 else
 (cB (.inr w55)))
 else
 (cB (.inr w46))) fun (i:World)=>u1 i fun w37 =>
 lb1 (dr w37) fun w59 =>
 lb1 (a0) fun p61 =>
 lb1 (ldL w59 (p61.add 2)) fun v63 =>
 lb1 (ldA 12 w59 v1 0) fun c65 =>
 lb2 (bsl w59 40 12 [c65]) fun s67 w68 =>
 lb2 (bsl w68 22 1 [[(Sl.v s67)]]) fun s70 w71 =>
 lb2 (apS Try.prog 47 v63 s70 w71) fun s73 w74 =>
 lb1 (stV w74 (p61.add 2) (Sl.v s73)) fun w76 =>
 nck (ldL w68 (p61.add 2)=some v63) <|
 nck (ldL w71 (p61.add 2)=some v63) <|
 cB w76
theorem qI (a0:Option Addr) (a1:Bool) (x y:Addr) (w:World):cI a0 a1 x y w=sU (fun p w=>fB p x y w) a0 a1 w:=rfl
theorem qC (a0:Option Addr) (a1:Bool) (x y:Addr) (w:World):cH a0 a1 x y w=sU (fun p w=>fC p x y w) a0 a1 w:=rfl
section
variable {F0 : Nat -> Prop} {g g0 : Gh} {w w0 : World} {L : List Rs} {s v : Sl} {n : Int} {q o : Nat}
theorem rG {z:Sl} {cs:List Value} {sz:Nat} (h:PR g w z sz cs) (hz:z.n=1):∃ a,D.ix z (((0:Nat):Int)) sz=some a/\g a.block/\cs.length=sz/\∀ j v,cs[j]?=some v->w.cell? (a.add j)=some v:=by
 obtain⟨a,e,hc⟩:=h.rd.at_ (by omega);have hl:=h.rd.len;rw[hz,Nat.one_mul] at hl;refine⟨a,?_,h.per a e (by omega),hl,hc⟩;unfold D.ix;rw[e,aAM,if_pos ⟨by omega,by omega⟩];simp[Addr.add]
theorem mI {α:Type} {R:Gh->World->List Value->α->Prop} {z:Sl} {cs:List Value} {sz:Nat} {x:α} (h:PR g w z sz cs) (hz:z.n=1) (hR:R g w cs x):PL R sz g w z [x] :=
 ⟨hz,fun i y hy=>by
  cases i with
  | zero =>
   cases hy;obtain⟨a,e,hg,hl,hc⟩:=rG h hz;exact⟨a,cs,e,hg,hl,hR,hc⟩
  | succ i=>simp at hy⟩
theorem pF (H:Hp F0 g0 w0 g w L):Ex (dB aB 1 w) fun r=>r.1=hY (sdF loV hiV false)/\Hp F0 g0 w0 g r.2 L/\Mo g w g r.2:=by
 obtain⟨p,w2,e2,H2,m2⟩:=H.box (T:=40) (cs:=mH);obtain⟨w3,e3,H3,m3⟩:=H2.stF (vs:=hY (sdF loV hiV false)) rfl kC;unfold dB;exact Ex.b2 e2 (Ex.b2 (a:=1) (b:=w2) rfl (Ex.b2 (a:=1) (b:=w2) rfl (Ex.b2 (a:=0) (b:=w2) rfl (Ex.b1 e3 (Ex.b1 (H3.ldF rfl) (Ex.ret ⟨rfl,H3.tl,m2.t m3⟩))))))
theorem rD {c:Bool} {p1 p4:Nat} (hn:0<n/\n<100) (H:Hp F0 g0 w0 g w (bxR q (hY (sdF loV hiV c)) 40::bxR p4 [.int .i64 0] 2::bxR p1 (vlC n) 55::L)) :
  Ex (fB (some ⟨q,0,none⟩) ⟨p1,0,none⟩ ⟨p4,0,none⟩ w) fun w'=>Hp F0 g0 w0 g w' (bxR q (hY (sdF loV (n-1) c)) 40::bxR p4 [.int .i64 0] 2::bxR p1 (vlC n) 55::L)/\Mo g w g w':=by
 obtain⟨w1,e1,H1,m1⟩:=H.stV (o:=7) (x:=.bool false) (by show 7<12;decide) rfl;obtain⟨w2,e2,H2,m2⟩:=H1.stV (o:=6) (x:=.string ByteArray.empty) (by show 6<12;decide) rfl;obtain⟨w3,e3,H3,m3⟩:=H2.stV (o:=6) (x:=.string (ByteArray.mk #[])) (by show 6<12;decide) rfl;obtain⟨w4,e4,H4,m4⟩:=H3.stV (o:=4) (x:=.int .i64 n) (by show 4<12;decide) rfl;obtain⟨w5,e5,H5,m5⟩:=H4.stV (o:=4) (x:=.int .i64 (IntKind.wrap .i64 (n-1))) (by show 4<12;decide) rfl;have hw:IntKind.wrap .i64 (n-1)=n-1:=wri (by omega) (by omega);have a2:ldS w1 ((⟨p1,0,none⟩:Addr).add 2)=some ByteArray.empty:=by rw[aS];exact H1.m2.ldS rfl
 have b0:ldI .i64 w2 ⟨p4,0,none⟩=some 0:=H2.sw.ldI rfl;have q1:ldI .i64 w2 ((⟨q,0,none⟩:Addr).add 1)=some 1:=by rw[aS];exact H2.ldI rfl
 have a1:ldI .i64 w3 ((⟨p1,0,none⟩:Addr).add 1)=some n:=by rw[aS];exact H3.m2.ldI rfl
 have b4:ldI .i64 w4 ⟨p4,0,none⟩=some 0:=H4.sw.ldI rfl;have q4:ldI .i64 w4 ((⟨q,0,none⟩:Addr).add 4)=some n:=by rw[aS];exact H4.ldI rfl
 have a5:ldI .i64 w5 ((⟨p1,0,none⟩:Addr).add 1)=some n:=by rw[aS];exact H5.m2.ldI rfl
 unfold fB;refine Ex.s1 (Ex.b1 (by rw[aS];exact e1) (Ex.b1 a2 (Ex.b1 (by rw[aS];exact e2) (Ex.j1 (Ψ:=fun o=>o=w2) (Ex.b1 b0 (Ex.f (by decide) (Ex.ret rfl))) ?_))));rintro _ rfl;refine Ex.b1 q1 (Ex.f (by decide) (Ex.b1 (by rw[aS];exact e3) (Ex.b1 a1 (Ex.b1 (by rw[aS];exact e4) (Ex.b1 b4 (Ex.t (by decide) (Ex.b1 q4 (Ex.b1 (by rw[aS];exact e5) (Ex.b1 a5 (Ex.f (by simp;omega) (Ex.ret ⟨?_,m1.t (m2.t (m3.t (m4.t m5)))⟩)))))))))));rw[hw] at H5;exact H5
theorem qJ {c:Bool} {p1 p4:Nat} (hn:0<n/\n<100) (H:Hp F0 g0 w0 g w (bxR q (hY (sdF loV hiV c)) 40::bxR p4 [.int .i64 1] 2::bxR p1 (vlC n) 55::L)) :
  Ex (fC (some ⟨q,0,none⟩) ⟨p1,0,none⟩ ⟨p4,0,none⟩ w) fun w'=>Hp F0 g0 w0 g w' (bxR q (hY (sdF n hiV c)) 40::bxR p4 [.int .i64 1] 2::bxR p1 (vlC n) 55::L)/\Mo g w g w':=by
 obtain⟨w1,e1,H1,m1⟩:=H.stV (o:=3) (x:=.int .i64 n) (by show 3<12;decide) rfl;have q1:ldI .i64 w ((⟨q,0,none⟩:Addr).add 1)=some 1:=by rw[aS];exact H.ldI rfl
 have a1:ldI .i64 w ((⟨p1,0,none⟩:Addr).add 1)=some n:=by rw[aS];exact H.m2.ldI rfl
 have b1:ldI .i64 w1 ⟨p4,0,none⟩=some 1:=H1.sw.ldI rfl;unfold fC;exact Ex.s1 (Ex.b1 q1 (Ex.t (by decide) (Ex.b1 a1 (Ex.b1 (by rw[aS];exact e1) (Ex.b1 b1 (Ex.f (by decide) (Ex.ret ⟨H1,m1⟩)))))))
theorem rM {cl:Option Addr->World->Option World} {c:Bool} {lo hi:Int} (hlo:lo<=hi) (H:Hp F0 g0 w0 g w (bxR o (mkC Sl.nil) 83::L))
  (hcl:∀ {q:Nat} {w1:World},Hp F0 g0 w0 g w1 (bxR q (hY (sdF loV hiV c)) 40::bxR o (mkC Sl.nil) 83::L)->Ex (cl (some ⟨q,0,none⟩) w1) fun w'=>Hp F0 g0 w0 g w' (bxR q (hY (sdF lo hi c)) 40::bxR o (mkC Sl.nil) 83::L)/\Mo g w1 g w')
  {Φ:World->Prop} (hΦ:∀ g' w' z,Hp F0 g0 w0 g' w' (bxR o (mkC z) 83::L)->PL bbR 1 g' w' z [[sdF lo hi c]]->Mo g w g' w'->Φ w'):(sU cl (some ⟨o,0,none⟩) c w).t Φ:=by
 obtain⟨w1,e1,H1,m1⟩:=H.dr;have o0:∀ {w'},Hp F0 g0 w0 g w' (bxR o (mkC Sl.nil) 83::L)->ldS w' ((⟨o,0,none⟩:Addr).add 0)=some aB:=fun H=>by rw[aS];exact H.ldS rfl
 have o1:∀ {w'},Hp F0 g0 w0 g w' (bxR o (mkC Sl.nil) 83::L)->ldI .i64 w' ((⟨o,0,none⟩:Addr).add 1)=some 1:=fun H=>by rw[aS];exact H.ldI rfl
 unfold sU;refine Nd.j2 (Ψ:=fun r=>∃ q,r.1=⟨q,0,none⟩/\Hp F0 g0 w0 g r.2 (bxR q (hY (sdF loV hiV false)) 40::bxR o (mkC Sl.nil) 83::L)/\Mo g w g r.2) (Nd.b1 e1 (Nd.s1 (Nd.b1 (o0 H1) (Nd.b1 (o1 H1) (Nd.both ?_ ?_))))) ?_
 .obtain⟨⟨x,w2⟩,e2,rfl,H2,m2⟩:=pF H1;simp only at H2 m2;obtain⟨p,w3,e3,H3,m3⟩:=H2.box (T:=40) (cs:=mH);obtain⟨w4,e4,H4,m4⟩:=H3.stF (vs:=hY (sdF loV hiV false)) rfl kC;exact Nd.b2 e2 (Nd.b2 e3 (Nd.b1 e4 (Nd.ck rfl (Nd.ret ⟨p,rfl,H4,m1.t (m2.t (m3.t m4))⟩))))
 .obtain⟨p,w3,e3,H3,m3⟩:=H1.box (T:=40) (cs:=mH);obtain⟨⟨x,w2⟩,e2,rfl,H2,m2⟩:=pF H3;simp only at H2 m2;obtain⟨w4,e4,H4,m4⟩:=H2.stF (vs:=hY (sdF loV hiV false)) rfl kC;exact Nd.b2 e3 (Nd.b2 e2 (Nd.b1 e4 (Nd.ck rfl (Nd.ck (o0 H3.tl) (Nd.ck (o1 H3.tl) (Nd.ret ⟨p,rfl,H4,m1.t (m3.t (m2.t m4))⟩))))))
 rintro _ w2 ⟨q,rfl,H2,m2⟩;simp only at H2 m2;obtain⟨w3,e3,H3,m3⟩:=H2.stV (o:=2) (x:=.bool c) (by show 2<12;decide) rfl;obtain⟨w4,e4,H4,m4⟩:=hcl (q:=q) H3;have hno:nH (sdF lo hi c)=false:=by unfold nH sdF;simp;omega
 obtain⟨⟨x,w5⟩,e5,hx,H5,m5⟩:=oP (s:=sdF lo hi c) (za:=Sl.nil) (ya:=Sl.nil) (by show(0:Int)<=0;decide) (by show(0:Int)<256;decide) H4;simp only at hx H5 m5;rw[hno] at hx;subst hx;refine Nd.b1 (by rw[aS];exact e3) (Nd.b1 e4 (Nd.jX (Ψ:=fun w'=>w'=w5) (Nd.b1 (H4.ldF rfl) (Nd.b2 e5 (Nd.f (by decide) (Nd.ret rfl)))) ?_));rintro _ rfl;obtain⟨w6,e6,H6,m6⟩:=H5.dr;have l2:∀ {w'},Hp F0 g0 w0 g w' (bxR o (mkC Sl.nil) 83::L)->ldL w' ((⟨o,0,none⟩:Addr).add 2)=some Sl.nil:=fun H=>by rw[aS];exact H.ldL rfl
 obtain⟨s7,w7,e7,n7,-,H7,m7⟩:=H6.bsl (T:=40) (sz:=12) (ps:=[hY (sdF lo hi c)]) (by intro p hp;simp at hp;subst hp;rfl) (by simp);obtain⟨s8,w8,e8,n8,-,H8,m8⟩:=H7.bsl (T:=22) (sz:=1) (ps:=[[s7.v]]) (by intro p hp;simp at hp;subst hp;rfl) (by simp);obtain⟨s9,w9,e9,n9,H9,m9⟩:=H8.onil.apS vK H8.ow.rd (by intro v hv;simp at hv;subst hv;rfl) (by rw[n8];simp[Sl.nil]);have H9:Hp F0 g0 w0 g w9 (owR 22 1 s9 [s7.v]::owR 22 1 s8 [s7.v]::owR 40 12 s7 (hY (sdF lo hi c))::bxR q (hY (sdF lo hi c)) 40::bxR o (mkC Sl.nil) 83::L):=by simpa using H9
 have HA:=H9.sw.tl.m2.tl.m2;obtain⟨wa,ea,HB,mb⟩:=HA.stV (o:=2) (x:=s9.v) (by show 2<3;decide) rfl;obtain⟨ga,pa,HC,mc⟩:=HB.m2.keepO;obtain⟨gb,pb,HD,md⟩:=HC.sw.keepO;have h7:PL nlR 12 gb wa s7 [sdF lo hi c]:=mI (pa.mo md) n7 ⟨rfl,rfl,rfl,by show(0:Int)<=0;decide,by show(0:Int)<256;decide⟩;have h9:PL bbR 1 gb wa s9 [[sdF lo hi c]]:=mI pb (by rw[n9,n8];rfl) ⟨s7,rfl,h7⟩;refine Nd.b1 e6 (Nd.s1 (Nd.b1 (by rw[aS];exact H6.sw.ldL rfl) (Nd.b1 (H6.ldF rfl) (Nd.b2 e7 (Nd.b2 e8 (Nd.b2 e9 (Nd.b1 (by rw[aS];exact ea) (Nd.ck (by rw[aS];exact H7.m2.ldL rfl) (Nd.ck (by rw[aS];exact H8.m3.ldL rfl) (Nd.ret ?_))))))))));exact hΦ gb wa s9 HD h9 (m2.t (m3.t (m4.t (m5.t (m6.t (m7.t (m8.t (m9.t (mb.t (mc.t md))))))))))
end
abbrev lsC (z y:Sl):List Value:=[z.v,y.v]
theorem wG:ST Try.prog 68 70 2 48 [.slice none 0 0,.slice none 0 0]:=⟨Try.underlying68,⟨Try.t70,.agg #[.slice none 0 0,.slice none 0 0],by kernel_rfl,by kernel_rfl,rfl,rfl,rfl⟩,rfl,by decide,by decide⟩
section
variable {F0 : Nat -> Prop} {g g0 : Gh} {w w0 : World} {L : List Rs} {s v z : Sl} {n : Int} {q o : Nat} {e1 e2 e3 e4 : Rs} {S : Sd}
theorem Hp.r3 (H:Hp F0 g0 w0 g w (e1::e2::e3::e4::L)):Hp F0 g0 w0 g w (e1::e3::e4::e2::L):=⟨H.sp,H.sep.cons fun _ h=>h.sw.cons fun _ h=>h.sw⟩
theorem Hp.r3' (H:Hp F0 g0 w0 g w (e1::e3::e4::e2::L)):Hp F0 g0 w0 g w (e1::e2::e3::e4::L):=⟨H.sp,H.sep.cons fun _ h=>(h.cons fun _ h=>h.sw).sw⟩
theorem tE (hn:0<n/\n<100) (H:Hp F0 g0 w0 g w L) {Φ:List Value×World->Prop}
  (hΦ:∀ g' w' z y,Hp F0 g0 w0 g' w' L->PL bbR 1 g' w' z [[sdF loV (n-1) false]]->PL bbR 1 g' w' y [[sdF n hiV true]]->Mo g w g' w'->Φ (lsC z y,w')):(iE (tmC n) 1 w).t Φ:=by
 obtain⟨p1,w1,e1,H1,m1⟩:=H.box (T:=57) (cs:=tmC n);obtain⟨p4,w2,e2,H2,m2⟩:=H1.box (T:=70) (cs:=[.slice none 0 0,.slice none 0 0]);obtain⟨w3,e3,H3,m3⟩:=H2.dr;have t1:ldS w3 ((⟨p1,0,none⟩:Addr).add 1)=some aB:=by rw[aS];exact H3.sw.ldS rfl
 unfold iE;refine Nd.b2 e1 (Nd.b2 e2 (Nd.j3 (Ψ:=fun r=>∃ a b,r.1=⟨a,0,none⟩/\r.2.1=⟨b,0,none⟩/\Hp F0 g0 w0 g r.2.2 (bxR a (mkC Sl.nil) 83::bxR b (mkC Sl.nil) 83::bxR p4 [.slice none 0 0,.slice none 0 0] 70::bxR p1 (tmC n) 57::L)/\Mo g w g r.2.2) (Nd.b1 e3 (Nd.b1 t1 (Nd.b1 t1 (Nd.both ?_ ?_)))) ?_))
 .obtain⟨a,w4,e4,H4,m4⟩:=H3.box (T:=83) (cs:=mkC Sl.nil);obtain⟨b,w5,e5,H5,m5⟩:=H4.box (T:=83) (cs:=mkC Sl.nil);exact Nd.b2 e4 (Nd.b2 e5 (Nd.ck (by rw[aS];exact H4.m2.ldS rfl) (Nd.ret ⟨a,b,rfl,rfl,H5.sw,m1.t (m2.t (m3.t (m4.t m5)))⟩)))
 .obtain⟨b,w4,e4,H4,m4⟩:=H3.box (T:=83) (cs:=mkC Sl.nil);obtain⟨a,w5,e5,H5,m5⟩:=H4.box (T:=83) (cs:=mkC Sl.nil);exact Nd.b2 e4 (Nd.b2 e5 (Nd.ck (by rw[aS];exact H4.m2.ldS rfl) (Nd.ret ⟨a,b,rfl,rfl,H5,m1.t (m2.t (m3.t (m4.t m5)))⟩)))
 rintro _ _ w4 ⟨a,b,rfl,rfl,H4,m4⟩;simp only at H4 m4;obtain⟨p5,w5,e5,H5,m5⟩:=H4.box (T:=55) (cs:=[.int .i64 0,.int .i64 0,.string ByteArray.empty,.bool false,.complex .f64 0 0]);obtain⟨w6,e6,H6,m6⟩:=H5.stF (vs:=vlC n) rfl (by intro v hv;simp[vlC] at hv;rcases hv with rfl | rfl | rfl | rfl | rfl<;>rfl)
 -- H6: value,own,other,lists,term
 have t3:ldA 5 w4 ((⟨p1,0,none⟩:Addr).add 3) 0=some (vlC n):=by rw[aS];exact qO H4.m3.bx (by simp[tmC])
 have t2:ldI .i64 w6 ((⟨p1,0,none⟩:Addr).add 2)=some 5:=by rw[aS];exact H6.m4.ldI rfl
 obtain⟨x1,w7,e7,H7,m7⟩:=H6.box (T:=55) (cs:=vlC n);obtain⟨x2,w8,e8,H8,m8⟩:=H7.box (T:=2) (cs:=[.int .i64 0]);have eb:dW (vlC n) 0 w6=some (⟨x1,0,none⟩,⟨x2,0,none⟩,w8):=by unfold dW;rw[e7,cN,e8,cN]
 -- H8: x2,x1,value,own,other,lists,term
 refine Nd.b1 t3 (Nd.b2 e5 (Nd.b1 e6 (Nd.j1 (Ψ:=fun w'=>∃ g' z y,Hp F0 g0 w0 g' w' (bxR b (mkC y) 83::bxR a (mkC z) 83::bxR p4 [.slice none 0 0,.slice none 0 0] 70::L)/\PL bbR 1 g' w' z [[sdF loV (n-1) false]]/\PL bbR 1 g' w' y [[sdF n hiV true]]/\Mo g w g' w') (Nd.b1 t2 (Nd.f (by decide) (Nd.f (by decide) (Nd.f (by decide) (Nd.b1 t2 (Nd.f (by decide) (Nd.b1 t2 (Nd.f (by decide) (Nd.b1 t2 (Nd.t (by decide) (Nd.b1 (H6.ldF rfl) (Nd.b3 eb ?_)))))))))))) ?_)))
 .refine Nd.j1 (Ψ:=fun w'=>∃ g' z,Hp F0 g0 w0 g' w' (bxR a (mkC z) 83::bxR x2 [.int .i64 0] 2::bxR x1 (vlC n) 55::bxR p5 (vlC n) 55::bxR b (mkC Sl.nil) 83::bxR p4 [.slice none 0 0,.slice none 0 0] 70::bxR p1 (tmC n) 57::L)/\PL bbR 1 g' w' z [[sdF loV (n-1) false]]/\Mo g w g' w') ?_ ?_
  .rw[qI];refine rM (c:=false) (lo:=loV) (hi:=n-1) (by unfold loV;omega) H8.m3 (fun {q w1} H=>?_) (fun g' w' z H hz m=>⟨g',z,H,hz,m4.t (m5.t (m6.t (m7.t (m8.t m))))⟩);obtain⟨w2,e,H',m⟩:=rD hn H.r3;exact⟨w2,e,H'.r3',m⟩
  rintro w9 ⟨g9,z,H9,hz,m9⟩;obtain⟨y1,wa,ea,HA,ma⟩:=H9.box (T:=55) (cs:=vlC n);obtain⟨y2,wb,eb,HB,mb⟩:=HA.box (T:=2) (cs:=[.int .i64 1]);have ec:dX (vlC n) 1 w9=some (⟨y1,0,none⟩,⟨y2,0,none⟩,wb):=by unfold dX;rw[ea,cN,eb,cN]
  -- HB: y2,y1,own,x2,x1,value,other,lists,term
  have HC:Hp F0 g0 w0 g9 wb (bxR b (mkC Sl.nil) 83::bxR y2 [.int .i64 1] 2::bxR y1 (vlC n) 55::bxR a (mkC z) 83::bxR x2 [.int .i64 0] 2::bxR x1 (vlC n) 55::bxR p5 (vlC n) 55::bxR p4 [.slice none 0 0,.slice none 0 0] 70::bxR p1 (tmC n) 57::L) :=
   Hp.app_cons (L:=[bxR y2 [.int .i64 1] 2,bxR y1 (vlC n) 55,bxR a (mkC z) 83,bxR x2 [.int .i64 0] 2,bxR x1 (vlC n) 55,bxR p5 (vlC n) 55]) HB
  refine Nd.b1 (H9.m3.ldF rfl) (Nd.b3 ec (Nd.j1 (Ψ:=fun w'=>∃ g' z y,Hp F0 g0 w0 g' w' (bxR b (mkC y) 83::bxR a (mkC z) 83::bxR p4 [.slice none 0 0,.slice none 0 0] 70::L)/\PL bbR 1 g' w' z [[sdF loV (n-1) false]]/\PL bbR 1 g' w' y [[sdF n hiV true]]/\Mo g w g' w') ?_ (fun w' h=>Nd.ret h)));rw[qC];refine rM (c:=true) (lo:=n) (hi:=hiV) (by unfold hiV;omega) HC (fun {q w1} H=>?_) (fun g' w' y H hy m=>⟨g',z,y,?_,PL.mo (R:=bbR) gX hz (ma.t (mb.t m)),hy,m9.t (ma.t (mb.t m))⟩)
  .obtain⟨w2,e,H',m⟩:=qJ hn H.r3;exact⟨w2,e,H'.r3',m⟩
  -- H: other,y2,y1,own,x2,x1,value,lists,term
  have h1:=H.sw.tl.sw.tl
  -- other,own,x2,x1,value,lists,term
  have h2:=h1.m2.tl.m2.tl.m2.tl
  -- other,own,lists,term? order kept by m2: third to front
  exact h2.m3.tl
 rintro w7 ⟨g7,z,y,H7,hz,hy,m7⟩;obtain⟨w8,e8,H8,m8⟩:=H7.dr;obtain⟨w9,e9,H9,m9⟩:=H8.m2.stF (vs:=lsC z y) rfl (by intro v hv;simp at hv;rcases hv with rfl | rfl<;>rfl);refine Nd.b1 e8 (Nd.b1 (by rw[aS];exact H8.sw.ldL rfl) (Nd.b1 (by rw[aS];exact H8.ldL rfl) (Nd.b1 e9 (Nd.b1 (H9.ldF rfl) (Nd.ret ?_)))));exact hΦ g7 w9 z y H9.tl.tl.tl (PL.mo (R:=bbR) gX hz (m8.t m9)) (PL.mo (R:=bbR) gX hy (m8.t m9)) (m7.t (m8.t m9))
end
def cD (a0:Int) (w:World):Option (Sl×World) :=
 aE (bsl w 57 9 [([.int .i64 3,.string (ByteArray.mk #[97]),.int .i64 5,.int .i64 1,.int .i64 a0,.string ByteArray.empty,.bool false,.complex .f64 0 0,.int .i64 0])]) fun s1 w2 =>
 some (s1,w2)
theorem dN {a0 w w' r0} (h:cD a0 w=some (r0,w')):Calls Try.prog 12 #[(.int .i64 a0)] w fun e w''=>e=.returned (Sl.v r0)/\w''=w':=by
 refine aD (n:=7) Try.func12 rfl Try.ntmps12 (by simp) fun a u=>?_;unfold cD at h;refine wp_seq<|aA<|qa u rfl fun a u=>aC<|t_n<|wp_seq<|aA<|qm u rfl fun a u=>q u (fU (vs:=[(0,(iV 1)),(1,(iV a0))]) (pl:=#[(0,1),(1,1),(2,1),(3,1),(4,1)]) (cs:=([.int .i64 1,.int .i64 a0,.string ByteArray.empty,.bool false,.complex .f64 0 0])) u ⟨rfl,rfl,rfl,rfl,aAO⟩ Try.zeroValue55 wZ (by intro w;kernel_rfl) (by kernel_rfl)) fun a u=>q u (fU (vs:=[(0,(iV 3)),(1,(.string (ByteArray.mk #[97]))),(2,(iV 5)),(3,(.agg (List.toArray ([.int .i64 1,.int .i64 a0,.string ByteArray.empty,.bool false,.complex .f64 0 0]))))]) (pl:=#[(0,1),(1,1),(2,1),(3,5),(8,1)]) (cs:=([.int .i64 3,.string (ByteArray.mk #[97]),.int .i64 5,.int .i64 1,.int .i64 a0,.string ByteArray.empty,.bool false,.complex .f64 0 0,.int .i64 0])) u ⟨rfl,rfl,rfl,rfl,rfl,rfl,rfl,rfl,aAO⟩ yA wK (by intro w;kernel_rfl) (by kernel_rfl)) fun a u=>?_;have⟨s1,w2,e3,h⟩:=bs2 h;refine q u (gU (vs:=[(0,(.agg (List.toArray ([.int .i64 3,.string (ByteArray.mk #[97]),.int .i64 5,.int .i64 1,.int .i64 a0,.string ByteArray.empty,.bool false,.complex .f64 0 0,.int .i64 0]))))]) (ps:=[([.int .i64 3,.string (ByteArray.mk #[97]),.int .i64 5,.int .i64 1,.int .i64 a0,.string ByteArray.empty,.bool false,.complex .f64 0 0,.int .i64 0])]) u ⟨rfl,rfl,aAO⟩ ⟨rfl,rfl,aAO⟩ rfl xP xR yA (by decide) e3) fun a u=>qa u rfl fun a u=>aC<|t_n<|wp_ret<|?_;have y:=u;cases h;exact aY Try.results12 y rfl ⟨rfl,rfl⟩
noncomputable def dL (w:World):ND (Bool×World) :=
 lb2 (bsl w 33 2 [([.string (ByteArray.mk #[97]),.int .i64 1])]) fun s1 w2 =>
 lb2 (cD 5 w2) fun v4 w5 =>
 lb2 (cD 4 w5) fun v7 w8 =>
 cb3 (gA s1 v4 v7 w8) fun v10 v11 w12 =>
 lb2 (cD 4 w12) fun v14 w15 =>
 lb2 (cD 5 w15) fun v17 w18 =>
 cb3 (gA s1 v14 v17 w18) fun v20 v21 w22 =>
 cb2 (if (v11==0)=true then
 (if (v21==0)=true then
 (if v10=true then
 (cB ((!v20),w22))
 else
 (cB (false,w22)))
 else
 (cB (false,w22)))
 else
 (cB (false,w22))) fun v24 w25 =>
 cB (v24,w25)
theorem jC {w Q} (h:(dL w).t Q):Calls Try.prog 6 #[] w fun e w''=>∃ i,e=.returned (.bool i.1)/\Q i/\w''=i.2:=by
 refine aD (n:=35) Try.func6 rfl Try.ntmps6 (by simp) fun a u=>?_;unfold dL at h;refine wp_seq<|aA<|qa u rfl fun a u=>aC<|t_n<|wp_seq<|aA<|q u (fU (vs:=[(0,(.string (ByteArray.mk #[97]))),(1,(iV 1))]) (pl:=#[(0,1),(1,1)]) (cs:=([.string (ByteArray.mk #[97]),.int .i64 1])) u ⟨rfl,rfl,rfl,rfl,aAO⟩ yC xL (by intro w;kernel_rfl) (by kernel_rfl)) fun a u=>?_;obtain⟨s1,w2,e3,h⟩:=h;refine q u (gU (vs:=[(0,(.agg (List.toArray ([.string (ByteArray.mk #[97]),.int .i64 1]))))]) (ps:=[([.string (ByteArray.mk #[97]),.int .i64 1])]) u ⟨rfl,rfl,aAO⟩ ⟨rfl,rfl,aAO⟩ rfl xK xW yC (by decide) e3) fun a u=>qa u rfl fun a u=>aC<|t_n<|wp_seq<|aA<|qm u rfl fun a u=>?_;obtain⟨v4,w5,e6,h⟩:=h;refine q u (dc1 u rfl Try.call12 (dN e6)) fun a u=>?_;obtain⟨v7,w8,e9,h⟩:=h;refine q u (dc1 u rfl Try.call12 (dN e9)) fun a u=>?_;refine dU (ι:=Bool×Int×World) (pk:=fun i=>(.tuple #[(bV i.1),(iV i.2.1)])) (wf:=fun i=>i.2.2) (xs:=[_,_,_]) (vs:=[(Sl.v s1),(Sl.v v4),(Sl.v v7)]) u ⟨rfl,rfl,rfl,aAO⟩ Try.call11 (jG (un3 h)) (fun i h a u=>?_);obtain⟨v10,v11,w12⟩:=i;refine qm u rfl fun a u=>q u (lI u rfl rfl) fun a u=>q u (lI u rfl rfl) fun a u=>qa u rfl fun a u=>qa u rfl fun a u=>aC<|t_n<|wp_seq<|aA<|qm u rfl fun a u=>?_;obtain⟨v14,w15,e16,h⟩:=h;refine q u (dc1 u rfl Try.call12 (dN e16)) fun a u=>?_;obtain⟨v17,w18,e19,h⟩:=h;refine q u (dc1 u rfl Try.call12 (dN e19)) fun a u=>?_;refine dU (ι:=Bool×Int×World) (pk:=fun i=>(.tuple #[(bV i.1),(iV i.2.1)])) (wf:=fun i=>i.2.2) (xs:=[_,_,_]) (vs:=[(Sl.v s1),(Sl.v v14),(Sl.v v17)]) u ⟨rfl,rfl,rfl,aAO⟩ Try.call11 (jG (un3 h)) (fun i h a u=>?_);obtain⟨v20,v21,w22⟩:=i;refine qm u rfl fun a u=>q u (lI u rfl rfl) fun a u=>q u (lI u rfl rfl) fun a u=>qa u rfl fun a u=>qa u rfl fun a u=>aC<|t_n<|wp_seq<|?_;refine fX (n:=35) (ι:=Bool×World) (Lf:=fun i=>[(0,(bV i.1))]) (wf:=fun i=>i.2) (un2 h) (fun i h a u=>?_) (fun h hk27=>?_)
 .obtain⟨v24,w25⟩:=i;have u:Has 35 [(0,(bV v24))] a:=u;refine t_n<|wp_ret<|?_;exact aY Try.results6 u rfl ⟨(v24,w25),rfl,h,rfl⟩
 refine aA<|qm u rfl fun a u=>q u (cF u rfl rfl) fun a u=>qm u rfl fun a u=>?_;refine nB h (fun b28 h=>?_) (fun b28 h=>?_)
 .refine qg u 24 b28 (aF u rfl) fun a u=>qg u 24 b28 (cF u rfl rfl) fun a u=>q u (aM u rfl b28 rfl) fun a u=>qm u rfl fun a u=>?_;refine nB h (fun b29 h=>?_) (fun b29 h=>?_)
  .refine qg u 28 b29 (aF u rfl) fun a u=>q u (aM u rfl b29 rfl) fun a u=>qm u rfl fun a u=>?_;refine nB h (fun b30 h=>?_) (fun b30 h=>?_)
   .refine qg u 31 b30 (aF u rfl) fun a u=>qg u 31 b30 (eY u rfl) fun a u=>q u (aM u rfl b30 rfl) fun a u=>qa u rfl fun a u=>aC<|?_;exact hk27 ((!v20),w22) h _ (u.sb rfl)
   refine qn u 31 (nm b30) fun a u=>qn u 31 (nm b30) fun a u=>q u (aK u rfl b30 rfl) fun a u=>qa u rfl fun a u=>aC<|?_;exact hk27 (false,w22) h _ (u.sb rfl)
  refine qn u 28 (nm b29) fun a u=>q u (aK u rfl b29 rfl) fun a u=>qm u rfl fun a u=>qn u 31 (nm yM) fun a u=>qn u 31 (nm yM) fun a u=>q u (aK u rfl yM rfl) fun a u=>qa u rfl fun a u=>aC<|?_;exact hk27 (false,w22) h _ (u.sb rfl)
 refine qn u 24 (nm b28) fun a u=>qn u 24 (nm b28) fun a u=>q u (aK u rfl b28 rfl) fun a u=>qm u rfl fun a u=>qn u 28 (nm yM) fun a u=>q u (aK u rfl yM rfl) fun a u=>qm u rfl fun a u=>qn u 31 (nm yM) fun a u=>qn u 31 (nm yM) fun a u=>q u (aK u rfl yM rfl) fun a u=>qa u rfl fun a u=>aC<|?_;exact hk27 (false,w22) h _ (u.sb rfl)
section
variable {F0 : Nat -> Prop} {g g0 : Gh} {w w0 : World} {L : List Rs} {s v z y : Sl} {n : Int} {q o : Nat} {S T : Sd} {us : List Sd}
theorem uC (H:Hp F0 g0 w0 g w (bxR q [.string aB] 9::L)):Ex (eW flC ⟨q,0,none⟩ w) fun r=>r.1=true/\Hp F0 g0 w0 g r.2 (bxR q [.string aB] 9::L)/\Mo g w g r.2:=by
 obtain⟨p,w2,e1,H1,m1⟩:=H.box (T:=33) (cs:=flC);unfold eW;refine Ex.b2 e1 (Ex.b1 (by rw[aS];exact H1.ldS rfl) (Ex.b1 (H1.sw.ldS rfl) (Ex.ret ⟨?_,H1.tl,m1⟩)));show sEq aB aB=true;simp[sEq]
theorem sP (hs:PL cR 2 g w s [flC]) (H:Hp F0 g0 w0 g w (bxR q [s.v] 34::L)):Ex (gE aB ⟨q,0,none⟩ w) fun r=>r.1=1/\Hp F0 g0 w0 g r.2 (bxR q [s.v] 34::L)/\Mo g w g r.2:=by
 have hln:s.n=1:=hs.len;obtain⟨p,w2,e2,H2,m2⟩:=H.box (T:=9) (cs:=[.string aB]);obtain⟨w3,e3,H3,m3⟩:=H2.dr;obtain⟨⟨x,w4⟩,e4,hx,H4,m4⟩:=uC H3;simp only at hx H4 m4;subst hx;have m23:=m2.t m3;obtain⟨a,cs,ea,la,rfl,hc⟩:=hs.el (R:=cR) hD (m23.t m4) (i:=0) rfl;obtain⟨a',cs,ea',la',rfl,-⟩:=hs.el (R:=cR) hD m23 (i:=0) rfl;have hidx:aX s ⟨p,0,none⟩ w3=some (0,w4):=by
  have h1:bS (fun r:Int×World=>aT s ⟨p,0,none⟩ r.1 r.2) (0,w3)=some (.inr (0,w4)):=by
   refine bZ ?_;show aT s ⟨p,0,none⟩ 0 w3=_;unfold aT;have ea0:D.ix s 0 2=some a':=ea';rw[if_pos (by simp[hln]),ea0,aAM,la',aAM,e4,cN,if_pos rfl]
  unfold aX;rw[h1];rfl
 unfold gE;exact Ex.b2 e2 (Ex.b1 e3 (Ex.b1 (H3.sw.ldL rfl) (Ex.b1 (H3.sw.ldL rfl) (Ex.b2 hidx (Ex.b1 ea (Ex.b1 (iT (hc 1 _ rfl)) (Ex.ck (H4.sw.ldL rfl) (Ex.ret ⟨rfl,H4.tl,m23.t m4⟩))))))))
theorem sZ (h1:S.ins=[]) (h2:S.outs=[]) (H:Hp F0 g0 w0 g w L):Ex (fA (hY S) w) fun r=>r.1=false/\Hp F0 g0 w0 g r.2 L/\Mo g w g r.2:=by
 obtain⟨p,w2,e1,H1,m1⟩:=H.box (T:=40) (cs:=hY S);have k:=H1.sb;unfold fA;refine Ex.b2 e1 (Ex.j2 (Ψ:=fun r=>r=(false,w2)) (Ex.b1 k.l10 (Ex.f (by decide) (Ex.b1 k.l11 (Ex.ret rfl)))) ?_);rintro _ _ he;cases he;exact Ex.ret ⟨rfl,H1.tl,m1⟩
theorem tV (hs:PL nlR 12 g w z us) (hn:us.length<=100) (H:Hp F0 g0 w0 g w L):Ex (gH z w) fun r=>r.1=false/\Hp F0 g0 w0 g r.2 L/\Mo g w g r.2:=by
 have hln:=hs.len;obtain⟨o,e,w2,rfl,H2,m2⟩:=iQ (xs:=us) (Pd:=fun _=>false) (step:=aP z) (by omega) (fun i x w1 hx H1 m1=>by
  obtain⟨a,cs,ea,la,⟨rfl,h1,h2,-⟩,-⟩:=hs.el (R:=nlR) oY m1 hx;have hi:=(yJ.1 hx).1;obtain⟨⟨v,w3⟩,e3,hv,H3,m3⟩:=sZ h1 h2 H1;simp only at hv H3 m3;unfold aP;refine Ex.t (by simp;omega) (Ex.b1 ea (Ex.b1 la (Ex.b2 e3 ?_)));subst hv;rw[gR (by omega)];exact Ex.f (by decide) (Ex.ret ⟨w3,rfl,H3,m3⟩)) (fun w1=>by
  unfold aP;rw[if_neg (by simp;omega)]) us.length 0 w (by omega) H Mo.r
 have e':bS (fun s:Int×World=>aP z s.1 s.2) (0,w)=_:=e;have hf:∀ l:List Sd,l.findIdx? (fun _=>false)=none:=fun l=>by induction l with
  | nil=>rfl
  | cons a l ih=>rw[aAc,ih];rfl
 unfold gH bF bU;rw[e',aAM,yY,hf];exact⟨(false,w2),rfl,rfl,H2,m2⟩
theorem oT {bs:List (List Sd)} (hs:PL bbR 1 g w z bs) (hn:bs.length<=16) (hb:∀ b∈bs,b.length<=100) (H:Hp F0 g0 w0 g w L):Ex (gN z w) fun r=>r.1=false/\Hp F0 g0 w0 g r.2 L/\Mo g w g r.2:=by
 have hln:=hs.len;obtain⟨o,e,w2,rfl,H2,m2⟩:=iQ (xs:=bs) (Pd:=fun _=>false) (step:=aO z) (by omega) (fun i x w1 hx H1 m1=>by
  obtain⟨a,cs,ea,la,⟨b,rfl,pb⟩,hc⟩:=hs.el (R:=bbR) gX m1 hx;have hi:=(yJ.1 hx).1;obtain⟨⟨v,w3⟩,e3,hv,H3,m3⟩:=tV pb (hb x (yW hx)) H1;simp only at hv H3 m3;have l0:ldL w1 a=some b:=by have:=hc 0 _ rfl;simp[Addr.add] at this;exact fQ this
  unfold aO;refine Ex.t (by simp;omega) (Ex.b1 ea (Ex.b1 l0 (Ex.b2 e3 ?_)));subst hv;rw[gR (by omega)];exact Ex.f (by decide) (Ex.ret ⟨w3,rfl,H3,m3⟩)) (fun w1=>by
  unfold aO;rw[if_neg (by simp;omega)]) bs.length 0 w (by omega) H Mo.r
 have e':bS (fun s:Int×World=>aO z s.1 s.2) (0,w)=_:=e;have hf:∀ l:List (List Sd),l.findIdx? (fun _=>false)=none:=fun l=>by induction l with
  | nil=>rfl
  | cons a l ih=>rw[aAc,ih];rfl
 unfold gN;refine Ex.j2 (Ψ:=fun r=>r=(false,w2)) (Ex.f (by simp;omega) (Ex.b2 (a:=false) (b:=w2) ?_ (Ex.ret rfl))) (fun x y h=>by cases h;exact Ex.ret ⟨rfl,H2,m2⟩);unfold bG bR;rw[e',aAM,yY,hf];rfl
theorem PL.rd1 {α:Type} {R:Gh->World->List Value->α->Prop} {sz:Nat} {x:α} (h:PL R sz g w z [x]):∃ cs,R g w cs x/\Rd w z sz cs/\cs.length=sz:=by
 have hn:z.n=1:=h.len;obtain⟨a,cs,e,hg,hl,hR,hc⟩:=h.at_ 0 x rfl;unfold D.ix at e
 cases hp:z.p with
 | none=>rw[hp] at e;cases e
 | some A =>
  rw[hp,aAM,if_pos ⟨by omega,by omega⟩] at e;cases e;refine⟨cs,hR,⟨by rw[hl,hn,Nat.one_mul],fun _=>⟨A,hp,fun j v hv=>?_⟩⟩,hl⟩;have:=hc j v hv;simpa[jP] using this
theorem pU (hs:PL bbR 1 g w z [[S]]) (H:Hp F0 g0 w0 g w L):Ex (gQ z w) fun r=>∃ g',PL bbR 1 g' r.2 r.1 [[S]]/\Hp F0 g0 w0 g' r.2 L/\Mo g w g' r.2:=by
 have hln:z.n=1:=hs.len;obtain⟨s1,w1,e1,n1,-,H1,m1⟩:=H.mkS vK (m:=(z.n:Int)) (by omega) (by omega);have hn1:s1.n=1:=by rw[n1,hln];rfl
 have H1:Hp F0 g0 w0 g w1 (owR 22 1 s1 [.slice none 0 0]::L):=by rw[hln] at H1;exact H1
 obtain⟨a,cs,ea,la,⟨b,rfl,pb⟩,hc⟩:=hs.el (R:=bbR) gX m1 (i:=0) rfl;have lb:ldL w1 a=some b:=by have:=hc 0 _ rfl;simp[Addr.add] at this;exact fQ this
 have hbn:b.n=1:=pb.len;obtain⟨cs,⟨rfl,hi,ho,t0,t1⟩,rb,-⟩:=pb.rd1;have hbp:b.p.isNone=false:=by obtain⟨A,e,-⟩:=rb.at_ (by omega);rw[e];rfl
 obtain⟨s2,w2,e2,n2,-,H2,m2⟩:=H1.bsl (T:=40) (sz:=12) (ps:=[]) (by intro p hp;cases hp) (by simp);have rb2:Rd w2 b 12 (hY S):=by
  obtain⟨cs,⟨rfl,-⟩,r,-⟩:=(PL.mo (R:=nlR) oY pb m2).rd1;exact r
 obtain⟨s3,w3,e3,n3,H3,m3⟩:=H2.apS wD rb2 kC (by rw[n2,hbn];simp);have hn3:s3.n=1:=by rw[n3,n2,hbn];rfl
 have H3:Hp F0 g0 w0 g w3 (owR 40 12 s3 (hY S)::owR 22 1 s1 [.slice none 0 0]::L):=by simpa using H3
 obtain⟨b1,rest1,hp1,-,-⟩:=H3.sw.ow.at_ (by omega);obtain⟨b3,rest3,hp3,hB3,-⟩:=H3.ow.at_ (by omega);have x1:D.ix s1 0 1=some ⟨b1,0,none⟩:=by unfold D.ix;rw[hp1,aAM,if_pos ⟨by omega,by omega⟩];simp[Addr.add]
 have x3:D.ix s3 0 12=some ⟨b3,0,none⟩:=by unfold D.ix;rw[hp3,aAM,if_pos ⟨by omega,by omega⟩];simp[Addr.add]
 obtain⟨w4,e4,H4,m4⟩:=H3.sw.oset (o:=0) (x:=s3.v) hp1 (by omega) (by simp) rfl;have H4:Hp F0 g0 w0 g w4 (owR 22 1 s1 [s3.v]::owR 40 12 s3 (hY S)::L):=H4;obtain⟨w5,e5,H5,m5⟩:=H4.dr;have ldo:∀ {w'},Hp F0 g0 w0 g w' (owR 22 1 s1 [s3.v]::owR 40 12 s3 (hY S)::L)->ldL w' ⟨b1,0,none⟩=some s3/\ldL w' ((⟨b3,0,none⟩:Addr).add 10)=some Sl.nil/\ldL w' ((⟨b3,0,none⟩:Addr).add 11)=some Sl.nil:=fun H=>by
  obtain⟨c1,r1,q1,B1,-⟩:=H.ow.at_ (by omega);obtain⟨c3,r3,q3,B3,-⟩:=H.sw.ow.at_ (by omega);rw[hp1] at q1;cases q1;rw[hp3] at q3;cases q3;rw[aS,aS];exact⟨fQ (by rw[hT B1];rfl),fQ (by rw[hT B3];rfl),fQ (by rw[hT B3];rfl)⟩
 obtain⟨w6,e6,H6,m6⟩:=H5.sw.oset (o:=10) (x:=Sl.nil.v) hp3 (by omega) (by simp[sdC]) rfl;have H6:Hp F0 g0 w0 g w6 (owR 40 12 s3 (hY S)::owR 22 1 s1 [s3.v]::L):=H6;obtain⟨w7,e7,H7,m7⟩:=H6.oset (o:=11) (x:=Sl.nil.v) hp3 (by omega) (by simp[sdC]) rfl;have H7:Hp F0 g0 w0 g w7 (owR 40 12 s3 (hY S)::owR 22 1 s1 [s3.v]::L):=H7;obtain⟨ga,pa,H8,m8⟩:=H7.keepO;obtain⟨gb,pc,H9,m9⟩:=H8.keepO;have k5:=ldo H5;have k4:=ldo H4;have fin:PL bbR 1 gb w7 s1 [[S]]:=mI pc hn1 ⟨s3,rfl,mI (pa.mo m9) hn3 ⟨rfl,hi,ho,t0,t1⟩⟩;have hcl:bX b w1=some (s3,w3):=by
  unfold bX;rw[hbp,if_neg (by decide),e2,cN,e3,cN]
 have hcn:∀ w',bE Sl.nil w'=some (Sl.nil,w'):=fun w'=>by unfold bE;exact if_pos rfl
 have in1:Ex (bS (fun r:Int×World=>dC s3 s1 0 r.1 r.2) (0,w4)) fun o=>o=w7:=by
  refine Ex.lnext ?_;show Ex (dC s3 s1 0 0 w4) _;unfold dC;refine Ex.t (by simp[hn3]) (Ex.b1 e5 (Ex.b1 x1 (Ex.b1 k5.1 (Ex.b1 x1 (Ex.b1 k5.1 (Ex.b1 x1 (Ex.b1 k5.1 (Ex.b1 x3 (Ex.b1 k5.2.1 (Ex.b2 (hcn _) (Ex.b1 x1 (Ex.b1 k5.1 (Ex.b1 x3 (Ex.b1 k5.2.2 (Ex.b2 (hcn _) (Ex.b1 x3 (Ex.b1 (by rw[aS];exact e6) (Ex.b1 x3 (Ex.b1 (by rw[aS];exact e7) (Ex.ck k5.1 (Ex.ck k5.1 (Ex.ck k5.1 (Ex.ck k5.1 (Ex.ck k5.1 (Ex.ck k5.2.2 (Ex.ret ⟨_,rfl,Ex.ldone ?_⟩))))))))))))))))))))))))));show Ex (dC s3 s1 0 1 w7) _;unfold dC;exact Ex.f (by simp[hn3]) (Ex.ret ⟨_,rfl,rfl⟩)
 unfold gQ;refine Ex.b2 e1 (Ex.j1 (Ψ:=fun o=>o=w7) (Ex.lnext ?_) ?_)
 .show Ex (dJ z s1 0 w1) _;unfold dJ;refine Ex.t (by simp[hln]) (Ex.b1 ea (Ex.b1 lb (Ex.b2 hcl (Ex.b1 x1 (Ex.b1 e4 (Ex.b1 x1 (Ex.b1 k4.1 (Ex.j1 in1 ?_))))))));rintro _ rfl;refine Ex.ret ⟨_,rfl,Ex.ldone ?_⟩;show Ex (dJ z s1 1 _) _;unfold dJ;exact Ex.f (by simp[hln]) (Ex.ret ⟨_,rfl,rfl⟩)
 rintro _ rfl;exact Ex.ret ⟨gb,fin,H9,m1.t (m2.t (m3.t (m4.t (m5.t (m6.t (m7.t (m8.t m9)))))))⟩
end
section
variable {F0 : Nat -> Prop} {g g0 : Gh} {w w0 : World} {L : List Rs} {s v z y : Sl} {n m : Int} {q o : Nat} {S T : Sd} {us : List Sd}
theorem oI (hs:PL cR 2 g w s [flC]) (hv:PL cR 9 g w v [tmC n]) (hn:0<n/\n<100) (H:Hp F0 g0 w0 g w L) {Φ:Sl×Int×World->Prop}
  (hΦ:∀ g' w' z,Hp F0 g0 w0 g' w' L->PL bbR 1 g' w' z [[sdF loV (n-1) false]]->Mo g w g' w'->Φ (z,0,w')):(gO s v w).t Φ:=by
 have hvn:v.n=1:=hv.len;obtain⟨p1,w1,e1,H1,m1⟩:=H.box (T:=34) (cs:=[s.v]);obtain⟨⟨x,w2⟩,e2,hx,H2,m2⟩:=sF (PL.mo (R:=cR) hD hs m1) (PL.mo (R:=cR) hD hv m1) H1;simp only at hx H2 m2;subst hx;obtain⟨s3,w3,e3,-,-,H3,m3⟩:=H2.bsl (T:=40) (sz:=12) (ps:=[]) (by intro p hp;cases hp) (by simp);obtain⟨s4,w4,e4,-,-,H4,m4⟩:=H3.bsl (T:=22) (sz:=1) (ps:=[[s3.v]]) (by intro p hp;simp at hp;subst hp;rfl) (by simp);have H4:=H4.tl.tl;have mA:=m1.t (m2.t (m3.t m4));unfold gO;refine Nd.b2 e1 (Nd.b1 (H1.ldL rfl) (Nd.b2 e2 (Nd.f (by decide) (Nd.b2 e3 (Nd.b2 e4 (Nd.j1 (Ψ:=fun o=>∃ st w' g' z,o = .inl (st,w')/\Hp F0 g0 w0 g' w' (bxR p1 [s.v] 34::L)/\PL bbR 1 g' w' z [[sdF loV (n-1) false]]/\(∃ a,D.ix st 0 2=some a/\ldL w' (a.add 0)=some z)/\Mo g w g' w') (Nd.next ?_) ?_))))))
 .show(dQ v s4 ⟨p1,0,none⟩ Sl.nil 0 w4).t _;obtain⟨a,cs,ea,la,rfl,-⟩:=hv.el (R:=cR) hD mA (i:=0) rfl;obtain⟨p5,w5,e5,H5,m5⟩:=H4.box (T:=57) (cs:=[.int .i64 0,.string ByteArray.empty,.int .i64 0,.int .i64 0,.int .i64 0,.string ByteArray.empty,.bool false,.complex .f64 0 0,.int .i64 0]);obtain⟨w6,e6,H6,m6⟩:=H5.stF (vs:=tmC n) rfl nV;obtain⟨w7,e7,H7,m7⟩:=H6.dr;have mB:=mA.t (m5.t (m6.t m7));obtain⟨⟨x,w8⟩,e8,hx,H8,m8⟩:=sP (PL.mo (R:=cR) hD hs mB) H7.sw;simp only at hx H8 m8;subst hx;unfold dQ;refine Nd.t (by simp[hvn]) (Nd.b1 ea (Nd.b1 la (Nd.b2 e5 (Nd.b1 e6 (Nd.j2 (Ψ:=fun r=>∃ g' z y,Hp F0 g0 w0 g' r.2 (bxR p1 [s.v] 34::L)/\PR g' r.2 r.1 2 (lsC z y)/\r.1.n=1/\PL bbR 1 g' r.2 z [[sdF loV (n-1) false]]/\PL bbR 1 g' r.2 y [[sdF n hiV true]]/\Mo g w g' r.2) (Nd.b1 (by rw[aS];exact H6.ldI rfl) (Nd.f (by decide) (Nd.f (by decide) (Nd.t (by decide) (Nd.b1 e7 (Nd.b1 (H7.ldF rfl) (Nd.b1 (by rw[aS];exact H7.ldS rfl) (Nd.b2 e8 (Nd.ck (H8.sw.ldF rfl) (Nd.j2 (Ψ:=fun r=>∃ g' z y,r.1=lsC z y/\Hp F0 g0 w0 g' r.2 (bxR p1 [s.v] 34::L)/\PL bbR 1 g' r.2 z [[sdF loV (n-1) false]]/\PL bbR 1 g' r.2 y [[sdF n hiV true]]/\Mo g w g' r.2) (tE hn H8 fun g' w' z y H' hz hy m'=>⟨g',z,y,rfl,H'.sw.tl,hz,hy,mB.t (m8.t m')⟩) ?_)))))))))) ?_)))))
  .rintro _ w9 ⟨g9,z,y,rfl,H9,hz,hy,m9⟩;simp only at H9 hz hy m9;obtain⟨sa,wa,ea,na,-,HA,ma⟩:=H9.bsl (T:=70) (sz:=2) (ps:=[lsC z y]) (by intro p hp;simp at hp;subst hp;rfl) (by simp);obtain⟨sb,wb,eb,nb,HB,mb⟩:=HA.onil.apS wG HA.ow.rd (by intro v hv;simp at hv;rcases hv with rfl | rfl<;>rfl) (by rw[na];simp[Sl.nil]);have HB:Hp F0 g0 w0 g9 wb (owR 70 2 sb (lsC z y)::owR 70 2 sa (lsC z y)::bxR p1 [s.v] 34::L):=by simpa using HB
   obtain⟨gc,pc,HC,mc⟩:=HB.keepO;have mm:=ma.t (mb.t mc);exact Nd.b2 ea (Nd.b2 eb (Nd.ret ⟨gc,z,y,HC.tl,pc,by show sb.n=1;rw[nb,na];rfl,PL.mo (R:=bbR) gX hz mm,PL.mo (R:=bbR) gX hy mm,m9.t mm⟩))
  rintro st w9 ⟨g9,z,y,H9,ps,hsn,hz,hy,m9⟩;simp only at H9 ps hsn hz hy m9;obtain⟨a,ea,-,-,hc⟩:=rG ps hsn;have la2:ldA 2 w9 a 0=some (lsC z y):=jY 2 w9 a 0 _ rfl fun j v hv=>by rw[aAN];exact hc j v hv
  have hwr:IntKind.wrap .i64 ((st.n:Int)-1)=((0:Nat):Int):=by rw[hsn];rfl
  obtain⟨pa,wa,e10,HA,ma⟩:=H9.box (T:=70) (cs:=[.slice none 0 0,.slice none 0 0]);obtain⟨wb,e11,HB,mb⟩:=HA.stF (vs:=lsC z y) rfl (by intro v hv;simp at hv;rcases hv with rfl | rfl<;>rfl);have mm:=ma.t mb;obtain⟨⟨x,wc⟩,e12,hx,HC,mc⟩:=oT (PL.mo (R:=bbR) gX hz mm) (by simp) (by simp) HB;simp only at hx HC mc;subst hx;obtain⟨⟨x,wd⟩,e13,hx,HD,md⟩:=oT (PL.mo (R:=bbR) gX hy (mm.t mc)) (by simp) (by simp) HC;simp only at hx HD md;subst hx;have mz:=mm.t (mc.t md);refine Nd.b1 (by rw[hwr];exact ea) (Nd.b1 la2 (Nd.b2 e10 (Nd.b1 e11 (Nd.j2 (Ψ:=fun r=>r=(false,wd)) (Nd.b1 (by rw[aS];exact HB.ldL rfl) (Nd.b2 e12 (Nd.f (by decide) (Nd.b1 (by rw[aS];exact HC.ldL rfl) (Nd.b2 e13 (Nd.ret rfl)))))) ?_))));rintro _ _ he;cases he;refine Nd.f (by decide) (Nd.ret ?_);show(lK _ (st,1,wd)).t _;refine Nd.next ?_
  show(dQ v s4 ⟨p1,0,none⟩ st 1 wd).t _;unfold dQ;refine Nd.f (by simp[hvn]) (Nd.ret ⟨st,wd,g9,z,rfl,HD.tl,PL.mo (R:=bbR) gX hz mz,?_,m9.t mz⟩);obtain⟨a',ea',-,-,hc'⟩:=rG (ps.mo mz) hsn;exact⟨a',ea',fQ (hc' 0 _ rfl)⟩
 rintro _ ⟨st,w5,g5,z,rfl,H5,hz,⟨a,ea,la⟩,m5⟩;obtain⟨⟨r,w6⟩,e6,g6,hr,H6,m6⟩:=pU hz H5;simp only at hr H6 m6;simp only[Sum.elim_inl,u2];exact Nd.b1 ea (Nd.b1 la (Nd.b2 e6 (Nd.ret (hΦ g6 w6 r H6.tl hr (m5.t m6)))))
theorem okF {lo hi:Int} {c:Bool}:∀ s∈[sdF lo hi c],okS s:=fun s hs=>by simp at hs;subst hs;exact fun h=>(h rfl).elim
theorem nJ (hs:PL cR 2 g w s [flC]) (hv:PL cR 9 g w v [tmC n]) (hy:PL cR 9 g w y [tmC m]) (hn:0<n/\n<100) (hm:0<m/\m<100) (H:Hp F0 g0 w0 g w L) {Φ:Bool×Int×World->Prop}
  (hΦ:∀ g' w',Hp F0 g0 w0 g' w' L->Mo g w g' w'->Φ (kQ [sdF loV (m-1) false] [sdF loV (n-1) false],0,w')):(gA s v y w).t Φ:=by
 unfold gA;refine Nd.j3 (Ψ:=fun r=>∃ g' ,r.2.1=0/\Hp F0 g0 w0 g' r.2.2 L/\PL bbR 1 g' r.2.2 r.1 [[sdF loV (n-1) false]]/\Mo g w g' r.2.2) (oI hs hv hn H fun g' w' z H' hz m'=>⟨g',rfl,H',hz,m'⟩) ?_;rintro x _ w1 ⟨g1,rfl,H1,hx,m1⟩;simp only at H1 hx m1;refine Nd.f (by decide) (Nd.j3 (Ψ:=fun r=>∃ g' ,r.2.1=0/\Hp F0 g0 w0 g' r.2.2 L/\PL bbR 1 g' r.2.2 r.1 [[sdF loV (m-1) false]]/\Mo g1 w1 g' r.2.2) (oI (PL.mo (R:=cR) hD hs m1) (PL.mo (R:=cR) hD hy m1) hm H1 fun g' w' z H' hz m'=>⟨g',rfl,H',hz,m'⟩) ?_);rintro u _ w2 ⟨g2,rfl,H2,hu,m2⟩;simp only at H2 hu m2;have hx:=PL.mo (R:=bbR) gX hx m2;have hxn:x.n=1:=hx.len;have hun:u.n=1:=hu.len;obtain⟨a,cs,ea,la,⟨b,rfl,pb⟩,hc⟩:=hu.el (R:=bbR) gX Mo.r (i:=0) rfl;have lb:ldL w2 a=some b:=by have:=hc 0 _ rfl;simp[Addr.add] at this;exact fQ this
 obtain⟨p,w3,e3,H3,m3⟩:=H2.box (T:=22) (cs:=[.slice none 0 0]);obtain⟨w4,e4,H4,m4⟩:=H3.stV (o:=0) (x:=b.v) (by show 0<1;decide) rfl;have H4:Hp F0 g0 w0 g2 w4 (bxR p [b.v] 22::L):=H4;have m34:=m3.t m4;obtain⟨a',cs,ea',la',⟨c,rfl,pc⟩,hc'⟩:=hx.el (R:=bbR) gX m34 (i:=0) rfl;have lc:ldL w4 a'=some c:=by have:=hc' 0 _ rfl;simp[Addr.add] at this;exact fQ this
 obtain⟨⟨r,w5⟩,e5,hr,H5,m5⟩:=uF (PL.mo (R:=sdR) jB pb.sd m34) pc.sd (by simp) (by simp) okF okF H4;simp only at hr H5 m5;have hcont:aW x ⟨p,0,none⟩ w4=some (r,w5):=by
  have hstep:aJ x ⟨p,0,none⟩ 0 w4=some (if r=true then .inr (.inr (0,w5)) else .inl (1,w5)):=by
   unfold aJ gP;have ea0:D.ix x 0 1=some a':=ea';rw[if_pos (by simp[hxn]),ea0,aAM,lc,aAM,H4.ldL rfl,aAM,e5,cN,cN];cases r<;>rfl
  have hend:aJ x ⟨p,0,none⟩ 1 w5=some (.inr (.inl w5)):=by
   unfold aJ;rw[if_neg (by simp[hxn])]
  unfold aW bQ
  cases r with
  | true =>
   have:bS (fun s:Int×World=>aJ x ⟨p,0,none⟩ s.1 s.2) (0,w4)=some (.inr (0,w5)):=bZ hstep;rw[this];rfl
  | false =>
   have:bS (fun s:Int×World=>aJ x ⟨p,0,none⟩ s.1 s.2) (0,w4)=some (.inl w5):=(eC (s':=(1,w5)) hstep).trans (bZ hend);rw[this];rfl
 refine Nd.f (by decide) (Nd.j1 (Ψ:=fun o=>o=(if r=true then .inl w5 else .inr (false,0,w5))) (Nd.next ?_) ?_)
 .show(dI u x 0 w2).t _;unfold dI;refine Nd.t (by simp[hun]) (Nd.b1 ea (Nd.b1 lb (Nd.b2 e3 (Nd.b1 e4 (Nd.b2 hcont ?_)))))
  cases r with
  | false=>exact Nd.t rfl (Nd.ret rfl)
  | true =>
   refine Nd.f (by decide) (Nd.ret ?_);show(lK _ (1,w5)).t _;refine Nd.next ?_
   show(dI u x 1 w5).t _;unfold dI;exact Nd.f (by simp[hun]) (Nd.ret rfl)
 rintro _ rfl;have fin:=hΦ g2 w5 H5.tl (m1.t (m2.t (m34.t m5)));rw[<-hr] at fin
 cases r with
 | true=>exact Nd.ret fin
 | false=>exact Nd.ret fin
theorem rK (H:Hp F0 g0 w0 g w L) {Φ:Bool×World->Prop} (hΦ:∀ g' w',Hp F0 g0 w0 g' w' L->Mo g w g' w'->Φ (true,w')):(dL w).t Φ:=by
 have lit:∀ {g:Gh} {w:World} {T:TypeId} {sz:Nat} {cs:List Value},Hp F0 g0 w0 g w L->cs.length=sz->∃ z w' g',bsl w T sz [cs]=some (z,w')/\Hp F0 g0 w0 g' w' L/\PL cR sz g' w' z [cs]/\Mo g w g' w':=fun {g w T sz cs} H hl=>by
  obtain⟨z,w',e,n,-,H1,m1⟩:=H.bsl (T:=T) (sz:=sz) (ps:=[cs]) (by intro p hp;simp at hp;subst hp;exact hl) (by simp);obtain⟨g',p,H2,m2⟩:=H1.keepO;exact⟨z,w',g',e,H2,mI (by simpa using p) n rfl,m1.t m2⟩
 have less:∀ {g:Gh} {w:World} (n:Int),Hp F0 g0 w0 g w L->∃ z w' g',cD n w=some (z,w')/\Hp F0 g0 w0 g' w' L/\PL cR 9 g' w' z [tmC n]/\Mo g w g' w':=fun {g w} n H=>by
  obtain⟨z,w',g',e,H1,p,m⟩:=lit (T:=57) (sz:=9) (cs:=tmC n) H rfl;exact⟨z,w',g',by unfold cD;exact(congrArg (fun o=>aE o fun s1 w2=>some (s1,w2)) e),H1,p,m⟩
 obtain⟨s,w1,g1,e1,H1,p1,m1⟩:=lit (T:=33) (sz:=2) (cs:=flC) H rfl;obtain⟨a,w2,g2,e2,H2,p2,m2⟩:=less 5 H1;obtain⟨b,w3,g3,e3,H3,p3,m3⟩:=less 4 H2;unfold dL;refine Nd.b2 e1 (Nd.b2 e2 (Nd.b2 e3 (Nd.j3 (Ψ:=fun r=>r.1=true/\r.2.1=0/\∃ g',Hp F0 g0 w0 g' r.2.2 L/\Mo g3 w3 g' r.2.2) (nJ (PL.mo (R:=cR) hD p1 (m2.t m3)) (PL.mo (R:=cR) hD p2 m3) p3 (by decide) (by decide) H3 fun g' w' H' m'=>⟨(by show kQ [sdF loV (4-1) false] [sdF loV (5-1) false]=true;decide +kernel),rfl,g',H',m'⟩) ?_)));rintro _ _ w4 ⟨rfl,rfl,g4,H4,m4⟩;simp only at H4 m4;obtain⟨c,w5,g5,e5,H5,p5,m5⟩:=less 4 H4;obtain⟨d,w6,g6,e6,H6,p6,m6⟩:=less 5 H5;refine Nd.b2 e5 (Nd.b2 e6 (Nd.j3 (Ψ:=fun r=>r.1=false/\r.2.1=0/\∃ g',Hp F0 g0 w0 g' r.2.2 L/\Mo g6 w6 g' r.2.2) (nJ (PL.mo (R:=cR) hD p1 (m2.t (m3.t (m4.t (m5.t m6))))) (PL.mo (R:=cR) hD p5 m6) p6 (by decide) (by decide) H6 fun g' w' H' m'=>⟨(by show kQ [sdF loV (5-1) false] [sdF loV (4-1) false]=false;decide +kernel),rfl,g',H',m'⟩) ?_));rintro _ _ w7 ⟨rfl,rfl,g7,H7,m7⟩;simp only at H7 m7;refine Nd.j2 (Ψ:=fun r=>r=(true,w7)) (Nd.t (by decide) (Nd.t (by decide) (Nd.t rfl (Nd.ret rfl)))) ?_;rintro _ _ he;cases he;exact Nd.ret (hΦ g7 w7 H7 (m1.t (m2.t (m3.t (m4.t (m5.t (m6.t m7)))))))
end
def dA (a0:Sl) (w:World):ND (Bool×World) :=
 cb2 (cb2 (dL w) fun v5 w6 =>
 if v5=true then
 (lb2 (fK a0 w6) fun v9 w10 =>
 lb2 (cU a0 w10) fun v12 w13 =>
 cB ((v9==v12),w13))
 else
 (cB (false,w6))) fun v1 w2 =>
 cB (v1,w2)
theorem grapevinelaw06_CoverChecks_ok {a0 w Q} (h:(dA a0 w).t Q):Calls Try.prog 3 #[(Sl.v a0)] w fun e w''=>∃ i,e=.returned (.bool i.1)/\Q i/\w''=i.2:=by
 refine aD (n:=11) Try.func3 rfl Try.ntmps3 (by simp) fun a u=>?_;unfold dA at h;refine wp_seq<|aA<|qa u rfl fun a u=>aC<|t_n<|wp_seq<|?_;refine fX (n:=11) (ι:=Bool×World) (Lf:=fun i=>[(2,(bV i.1))]) (wf:=fun i=>i.2) (un2 h) (fun i h a u=>?_) (fun h hk4=>?_)
 .obtain⟨v1,w2⟩:=i;have u:Has 11 [(2,(bV v1))] a:=u;refine t_n<|wp_ret<|?_;exact aY Try.results3 u rfl ⟨(v1,w2),rfl,h,rfl⟩
 refine aA<|?_;refine dU (ι:=Bool×World) (pk:=fun i=>(bV i.1)) (wf:=fun i=>i.2) (xs:=[]) (vs:=[]) u trivial Try.call6 (jC (un2 h)) (fun i h a u=>?_);obtain⟨v5,w6⟩:=i;refine qm u rfl fun a u=>?_;refine nB h (fun b8 h=>?_) (fun b8 h=>?_)
 .refine qg u 4 b8 (aF u rfl) fun a u=>?_;obtain⟨v9,w10,e11,h⟩:=h;refine qg u 4 b8 (dc1 u rfl Try.call7 (kU e11)) fun a u=>qg u 4 b8 (aF u rfl) fun a u=>?_;obtain⟨v12,w13,e14,h⟩:=h;refine qg u 4 b8 (dc1 u rfl Try.call8 (hU e14)) fun a u=>qg u 4 b8 (cF u rfl rfl) fun a u=>q u (aM u rfl b8 rfl) fun a u=>qa u rfl fun a u=>aC<|?_;exact hk4 ((v9==v12),w13) h _ (u.sb rfl)
 refine qn u 4 (nm b8) fun a u=>qn u 4 (nm b8) fun a u=>qn u 4 (nm b8) fun a u=>qn u 4 (nm b8) fun a u=>qn u 4 (nm b8) fun a u=>q u (aK u rfl b8 rfl) fun a u=>qa u rfl fun a u=>aC<|?_;exact hk4 (false,w6) h _ (u.sb rfl)
theorem CoverChecks_law {w:World} (s1:Sl) (b1:List Sd) (hs1:PL sdR 12 (old w) w s1 b1):(dA s1 w).t fun r=>r.1=true/\Fr (fun k=>w.heap.size<=k) w r.2:=by
 have H:Hp (fun _=>False) (old w) w (old w) w []:=Hp.beg (uV w);unfold dA;refine Nd.j2 (Ψ:=fun r=>r.1=true/\Fr (fun k=>w.heap.size<=k) w r.2) (Nd.j2 (Ψ:=fun r=>r.1=true/\∃ g,Hp (fun _=>False) (old w) w g r.2 []/\Mo (old w) w g r.2) (rK H fun g' w' H' m'=>⟨rfl,g',H',m'⟩) ?_) fun a b h=>Nd.ret h;rintro _ w1 ⟨rfl,g1,H1,m1⟩;simp only at H1 m1;obtain⟨⟨v,w2⟩,e2,hv,H2,m2⟩:=pZ (PL.mo (R:=sdR) jB hs1 m1) H1;simp only at hv H2 m2;obtain⟨⟨u,w3⟩,e3,hu,H3,m3⟩:=qE (PL.mo (R:=sdR) jB hs1 (m1.t m2)) H2;simp only at hu H3 m3;subst hv;subst hu;exact Nd.t rfl (Nd.b2 e2 (Nd.b2 e3 (Nd.ret ⟨by simp,H3.fin⟩)))
end
end Go.Proofs.Ytggheaclnklhaaa.D
