/- EvlogGrows -/
import Derived.Test.YtejkaciimmfgcaaPEvlogGrowsA
import Derived.Test.YtejkaciimmfgcaaPEvlogGrowsB
import Derived.Test.YtejkaciimmfgcaaPEvlogGrowsC
import Derived.Test.YtejkaciimmfgcaaPEvlogGrowsD
import Derived.Test.YtejkaciimmfgcaaPEvlogGrowsE
namespace Go.Proofs.Ytejkaciimmfgcaa.D
open Go
set_option linter.unusedVariables false
set_option linter.unusedSimpArgs false
set_option maxHeartbeats 1000000
set_option maxRecDepth 100000
noncomputable section
def eM (a0:Option Addr) (w:World):ND (Bool×World) :=
 lb1 (a0) fun p1 =>
 lb1 (ldP w (p1.add 0)) fun v3 =>
 cb3 (mV v3 1 3 w) fun v5 v6 w7 =>
 lb1 (ldP w7 (p1.add 2)) fun v9 =>
 cb3 (jD v9 1 3 w7) fun v11 v12 w13 =>
 cb2 (if (v6 !=v12)=true then
 (aU (true,w13))
 else
 (aU (((v5.isNone) !=(v12 !=0)),w13))) fun v15 w16 =>
 if v15=true then
 (aU (false,w16))
 else
 (cb1 (if (v12==0)=true then
 (lb1 (stV w16 (p1.add 1) (.pointer v5)) fun w25 =>
 lb1 (stV w25 (p1.add 3) (.pointer v11)) fun w27 =>
 aU w27)
 else
 (aU w16)) fun w21 =>
 aU (true,w21))
theorem lH {a0 w Q} (h:(eM a0 w).t Q):Calls Try.prog 90 #[(.pointer a0)] w fun e w''=>∃ i,e=.returned (.bool i.1)/\Q i/\w''=i.2:=by
 refine aR (n:=43) Try.func90 rfl Try.ntmps90 (by simp) fun a u=>?_;unfold eM at h;refine wp_seq<|aA<|qa u rfl fun a u=>aB<|t_n<|wp_seq<|aA<|qm u rfl fun a u=>?_;obtain⟨p1,e2,h⟩:=h;refine q u (aH u rfl e2) fun a u=>q u (aK u rfl aGB rfl rfl aHd) fun a u=>?_;obtain⟨v3,e4,h⟩:=h;refine q u (aJ u rfl aHa (bB e4)) fun a u=>?_;refine lI (ι:=(Option Addr)×Int×World) (pk:=fun i=>(.tuple #[(pV i.1),(iV i.2.1)])) (wf:=fun i=>i.2.2) (xs:=[_,_,_]) (vs:=[(pV v3),(iV 1),(iV 3)]) u ⟨rfl,rfl,rfl,aLj⟩ Try.call32 (pY (un3 h)) (fun i h a u=>?_);obtain⟨v5,v6,w7⟩:=i;refine qm u rfl fun a u=>q u (aW u rfl rfl) fun a u=>q u (aW u rfl rfl) fun a u=>qa u rfl fun a u=>qa u rfl fun a u=>aB<|t_n<|wp_seq<|aA<|qm u rfl fun a u=>q u (aH u rfl e2) fun a u=>q u (aK u rfl aGB rfl rfl aGZ) fun a u=>?_;obtain⟨v9,e10,h⟩:=h;refine q u (aJ u rfl aGT (bB e10)) fun a u=>?_;refine lI (ι:=(Option Addr)×Int×World) (pk:=fun i=>(.tuple #[(pV i.1),(iV i.2.1)])) (wf:=fun i=>i.2.2) (xs:=[_,_,_]) (vs:=[(pV v9),(iV 1),(iV 3)]) u ⟨rfl,rfl,rfl,aLj⟩ Try.call33 (qU (un3 h)) (fun i h a u=>?_);obtain⟨v11,v12,w13⟩:=i;refine qm u rfl fun a u=>q u (aW u rfl rfl) fun a u=>q u (aW u rfl rfl) fun a u=>qa u rfl fun a u=>qa u rfl fun a u=>aB<|t_n<|wp_seq<|wp_seq<|?_;refine dE (n:=43) (ι:=Bool×World) (Lf:=fun i=>[(32,(bV i.1)),(0,(pV a0)),(3,(pV v5)),(5,(pV v11)),(6,(iV v12))]) (wf:=fun i=>i.2) (un2 h) (fun i h a u=>?_) (fun h hk18=>?_)
 .obtain⟨v15,w16⟩:=i;have u:Has 43 [(32,(bV v15)),(0,(pV a0)),(3,(pV v5)),(5,(pV v11)),(6,(iV v12))] a:=u;refine t_n<|?_;refine aX u rfl h (fun b20 h=>?_) (fun b20 h=>?_)
  .refine wp_seq<|aA<|qa u rfl fun a u=>aB<|t_n<|wp_ret<|t_r<|?_;exact bI Try.results90 u rfl ⟨(false,w16),rfl,h,rfl⟩
  refine wp_skip<|t_n<|?_;refine iB (n:=43) (ι:=World) (Lf:=fun i=>[]) (wf:=fun i=>i) (un1 h) (fun i h a u=>?_) (fun h hk23=>?_)
  .obtain⟨w21,rfl⟩:∃ x,x=i:=⟨i,rfl⟩;have u:Has 43 [] a:=u;refine wp_seq<|aA<|qa u rfl fun a u=>aB<|t_n<|wp_ret<|?_;exact bI Try.results90 u rfl ⟨(true,w21),rfl,h,rfl⟩
  refine wp_seq<|aA<|qm u rfl fun a u=>q u (gL u rfl rfl) fun a u=>aB<|t_n<|?_;refine aX u rfl h (fun b24 h=>?_) (fun b24 h=>?_)
  .refine aA<|qm u rfl fun a u=>qm u rfl fun a u=>qm u rfl fun a u=>qm u rfl fun a u=>q u (aH u rfl e2) fun a u=>q u (aK u rfl aGB rfl rfl aGW) fun a u=>?_;obtain⟨w25,e26,h⟩:=h;refine q u (fN u rfl rfl aGW e26) fun a u=>q u (aH u rfl e2) fun a u=>q u (aK u rfl aGB rfl rfl aHU) fun a u=>?_;obtain⟨w27,e28,h⟩:=h;refine q u (fN u rfl rfl aHU e28) fun a u=>aB<|?_;exact hk23 w27 h _ (u.sb rfl)
  refine wp_skip<|?_;exact hk23 w16 h _ (u.sb rfl)
 refine aA<|qm u rfl fun a u=>qm u rfl fun a u=>q u (fY u rfl rfl) fun a u=>qm u rfl fun a u=>?_;refine iP h (fun b19 h=>?_) (fun b19 h=>?_)
 .refine qn u 26 (tn b19) fun a u=>qn u 26 (tn b19) fun a u=>qn u 26 (tn b19) fun a u=>qn u 26 (tn b19) fun a u=>qn u 26 (tn b19) fun a u=>q u (aG u rfl b19 rfl) fun a u=>aB<|?_;exact hk18 (true,w13) h _ (u.sb rfl)
 refine qg u 26 (nt b19) (aC u rfl) fun a u=>qg u 26 (nt b19) (jM u rfl rfl aHx) fun a u=>qg u 26 (nt b19) (aC u rfl) fun a u=>qg u 26 (nt b19) (fY u rfl rfl) fun a u=>qg u 26 (nt b19) (aFP u rfl rfl Try.runUnderlying4) fun a u=>q u (aL u rfl b19 rfl) fun a u=>aB<|?_;exact hk18 (((v5.isNone) !=(v12 !=0)),w13) h _ (u.sb rfl)
noncomputable def gB (a0:Option Addr) (w:World):Option (Bool×World) :=
 (a0).bind fun p1 =>
 (ldP w (p1.add 3)).bind fun v3 =>
 (v3).bind fun p5 =>
 (ldA 4 w (p5.add 4) 0).bind fun c7 =>
 aN (mk w 130 ([.int .i64 0,.int .i64 0,.slice none 0 0,.slice none 0 0])) fun p9 w10 =>
 (stA w10 p9 0 c7).bind fun w12 =>
 aN ((dr w12).bind fun w18 =>
 (ldP w18 (p1.add 1)).bind fun v20 =>
 aN (gU v20 w18) fun v22 w23 =>
 (ldI .i64 w23 (p9.add 0)).bind fun v25 =>
 if (v22==v25)=true then
 ((ldP w23 (p1.add 1)).bind fun v28 =>
 aN (jI v28 w23) fun v30 w31 =>
 (ldI .i64 w31 (p9.add 1)).bind fun v33 =>
 if (v30==v33)=true then
 ((ldP w31 (p1.add 1)).bind fun v36 =>
 aN (lO v36 w31) fun v38 w39 =>
 (ldL w39 (p9.add 2)).bind fun v41 =>
 if (v38==(v41.n:Int))=true then
 ((ldP w39 (p1.add 1)).bind fun v44 =>
 aN (gI v44 0 1099511627776 w39) fun v46 w47 =>
 (ldL w47 (p9.add 3)).bind fun v49 =>
 aN (hJ v46 v49 w47) fun v51 w52 =>
 if v51=true then
 ((ldP w52 (p1.add 0)).bind fun v55 =>
 aN (dO v55 w52) fun v57 w58 =>
 (ldP w58 (p1.add 2)).bind fun v60 =>
 (v60).bind fun p62 =>
 (ldB w58 (p62.add 3)).bind fun v64 =>
 chk (ldI .i64 w18 (p9.add 0)=some v25) <|
 chk (ldI .i64 w23 (p9.add 1)=some v33) <|
 chk (ldL w31 (p9.add 2)=some v41) <|
 chk (ldL w39 (p9.add 3)=some v49) <|
 chk (ldP w52 (p1.add 2)=some v60) <|
 chk (ldB w52 (p62.add 3)=some v64) <|
 some ((v57==v64),w58))
 else
 (chk (ldI .i64 w18 (p9.add 0)=some v25) <|
 chk (ldI .i64 w23 (p9.add 1)=some v33) <|
 chk (ldL w31 (p9.add 2)=some v41) <|
 chk (ldL w39 (p9.add 3)=some v49) <|
 some (false,w52)))
 else
 (chk (ldI .i64 w18 (p9.add 0)=some v25) <|
 chk (ldI .i64 w23 (p9.add 1)=some v33) <|
 chk (ldL w31 (p9.add 2)=some v41) <|
 some (false,w39)))
 else
 (chk (ldI .i64 w18 (p9.add 0)=some v25) <|
 chk (ldI .i64 w23 (p9.add 1)=some v33) <|
 some (false,w31)))
 else
 (chk (ldI .i64 w18 (p9.add 0)=some v25) <|
 some (false,w23))) fun v14 w15 =>
 some (v14,w15)
theorem oS {a0 w w' r0} (h:gB a0 w=some (r0,w')):Calls Try.prog 51 #[(.pointer a0)] w fun e w''=>e=.returned (.bool r0)/\w''=w':=by
 refine aR (n:=65) Try.func51 rfl Try.ntmps51 (by simp) fun a u=>?_;unfold gB at h;refine wp_seq<|aA<|qa u rfl fun a u=>aB<|t_n<|wp_seq<|aA<|qm u rfl fun a u=>?_;have⟨p1,e2,h⟩:=bs1 h;refine q u (aH u rfl e2) fun a u=>q u (aK u rfl aGB rfl rfl aHU) fun a u=>?_;have⟨v3,e4,h⟩:=bs1 h;refine q u (aJ u rfl aHW (bB e4)) fun a u=>?_;have⟨p5,e6,h⟩:=bs1 h;refine q u (aH u rfl e6) fun a u=>q u (aK u rfl aGA rfl rfl aGP) fun a u=>?_;have⟨c7,e8,h⟩:=bs1 h;refine q u (gC u rfl aIa aGP e8) fun a u=>?_;have⟨p9,w10,e11,h⟩:=bs2 h;refine q u (fA aHL (by kernel_rfl) e11) fun a u=>?_;have⟨w12,e13,h⟩:=bs1 h;refine q u (eX u rfl rfl aGP ((kS e8).1) e13) fun a u=>aB<|t_n<|wp_seq<|?_;have⟨v14,w15,e16,h⟩:=bs2 h;refine bN (n:=65) (L:=[(2,(bV v14))]) (w':=w15) (fun a u=>?_) (fun hk17=>?_)
 .refine t_n<|wp_ret<|?_;have y:=u;cases h;exact bI Try.results51 y rfl ⟨rfl,rfl⟩
 clear h;have h:=e16;have⟨w18,e19,h⟩:=bs1 h;have⟨v20,e21,h⟩:=bs1 h;have⟨v22,w23,e24,h⟩:=bs2 h;have⟨v25,e26,h⟩:=bs1 h;refine bT h (fun b27 h=>?_) (fun b27 h=>?_)
 .have⟨v28,e29,h⟩:=bs1 h;have⟨v30,w31,e32,h⟩:=bs2 h;have⟨v33,e34,h⟩:=bs1 h;refine bT h (fun b35 h=>?_) (fun b35 h=>?_)
  .have⟨v36,e37,h⟩:=bs1 h;have⟨v38,w39,e40,h⟩:=bs2 h;have⟨v41,e42,h⟩:=bs1 h;refine bT h (fun b43 h=>?_) (fun b43 h=>?_)
   .have⟨v44,e45,h⟩:=bs1 h;have⟨v46,w47,e48,h⟩:=bs2 h;have⟨v49,e50,h⟩:=bs1 h;have⟨v51,w52,e53,h⟩:=bs2 h;refine bT h (fun b54 h=>?_) (fun b54 h=>?_)
    .have⟨v55,e56,h⟩:=bs1 h;have⟨v57,w58,e59,h⟩:=bs2 h;have⟨v60,e61,h⟩:=bs1 h;have⟨p62,e63,h⟩:=bs1 h;have⟨v64,e65,h⟩:=bs1 h;obtain⟨e66,h⟩:=bP h;obtain⟨e67,h⟩:=bP h;obtain⟨e68,h⟩:=bP h;obtain⟨e69,h⟩:=bP h;obtain⟨e70,h⟩:=bP h;obtain⟨e71,h⟩:=bP h;have u:Has 65 [(0,(pV a0)),(3,(pV (some p9)))] a:=u.sb rfl;refine aM (n:=65) (ds:=(aQ (pV a0) 0 [] 0::aF (pV (some p1)) 0 [0] 11 (pV a0)::aF (pV (some (p1.add 1))) 0 [0,1] 12 (pV (some p1))::aF (pV v20) 0 [0,1,2] 13 (pV (some (p1.add 1)))::aI (iV v22) true 0 0 (rn 0 4) [(14,(pV v20))]::aI (pV (some (p9.add 0))) false 0 1 [] [(3,(pV (some p9)))]::aI (iV v25) false 0 1 [5] [(16,(pV (some (p9.add 0))))]::aP (bV (v22==v25)) 1 (rn 0 7) [(15,(iV v22)),(17,(iV v25))]::aQ (bV (v22==v25)) 1 (rn 0 8) 18::aP (pV a0) 1 (rn 0 9) [(0,(pV a0)),(19,(bV (v22==v25)))]::aP (pV (some p1)) 1 (rn 0 10) [(20,(pV a0)),(19,(bV (v22==v25)))]::aP (pV (some (p1.add 1))) 1 (rn 0 11) [(21,(pV (some p1))),(19,(bV (v22==v25)))]::aP (pV v28) 1 (rn 0 12) [(22,(pV (some (p1.add 1)))),(19,(bV (v22==v25)))]::aI (iV v30) true 1 1 (rn 0 13) [(23,(pV v28)),(19,(bV (v22==v25)))]::aI (pV (some (p9.add 1))) false 1 2 (rn 0 9) [(3,(pV (some p9))),(19,(bV (v22==v25)))]::aI (iV v33) false 1 2 (rn 0 9++[14]) [(25,(pV (some (p9.add 1)))),(19,(bV (v22==v25)))]::aP (bV (v30==v33)) 2 (rn 0 16) [(24,(iV v30)),(26,(iV v33)),(19,(bV (v22==v25)))]::aP (bV (v30==v33)) 2 (rn 0 17) [(19,(bV (v22==v25))),(27,(bV (v30==v33)))]::aQ (bV (v30==v33)) 2 (rn 0 18) 28::aP (pV a0) 2 (rn 0 19) [(0,(pV a0)),(29,(bV (v30==v33)))]::aP (pV (some p1)) 2 (rn 0 20) [(30,(pV a0)),(29,(bV (v30==v33)))]::aP (pV (some (p1.add 1))) 2 (rn 0 21) [(31,(pV (some p1))),(29,(bV (v30==v33)))]::aP (pV v36) 2 (rn 0 22) [(32,(pV (some (p1.add 1)))),(29,(bV (v30==v33)))]::aI (iV v38) true 2 2 (rn 0 23) [(33,(pV v36)),(29,(bV (v30==v33)))]::aI (pV (some (p9.add 2))) false 2 3 (rn 0 19) [(3,(pV (some p9))),(29,(bV (v30==v33)))]::aI (Sl.v v41) false 2 3 (rn 0 19++[24]) [(35,(pV (some (p9.add 2)))),(29,(bV (v30==v33)))]::aI (iV (v41.n:Int)) false 2 3 (rn 0 19++[24,25]) [(36,(Sl.v v41)),(29,(bV (v30==v33)))]::aP (bV (v38==(v41.n:Int))) 3 (rn 0 27) [(34,(iV v38)),(37,(iV (v41.n:Int))),(29,(bV (v30==v33)))]::aP (bV (v38==(v41.n:Int))) 3 (rn 0 28) [(29,(bV (v30==v33))),(38,(bV (v38==(v41.n:Int))))]::aQ (bV (v38==(v41.n:Int))) 3 (rn 0 29) 39::aP (pV a0) 3 (rn 0 30) [(0,(pV a0)),(40,(bV (v38==(v41.n:Int))))]::aP (pV (some p1)) 3 (rn 0 31) [(41,(pV a0)),(40,(bV (v38==(v41.n:Int))))]::aP (pV (some (p1.add 1))) 3 (rn 0 32) [(42,(pV (some p1))),(40,(bV (v38==(v41.n:Int))))]::aP (pV v44) 3 (rn 0 33) [(43,(pV (some (p1.add 1)))),(40,(bV (v38==(v41.n:Int))))]::aI (Sl.v v46) true 3 3 (rn 0 34) [(44,(pV v44)),(40,(bV (v38==(v41.n:Int))))]::aI (pV (some (p9.add 3))) false 3 4 (rn 0 30) [(3,(pV (some p9))),(40,(bV (v38==(v41.n:Int))))]::aI (Sl.v v49) false 3 4 (rn 0 30++[35]) [(46,(pV (some (p9.add 3)))),(40,(bV (v38==(v41.n:Int))))]::aI (bV v51) true 4 4 (rn 0 37) [(45,(Sl.v v46)),(47,(Sl.v v49)),(40,(bV (v38==(v41.n:Int))))]::aP (bV v51) 5 (rn 0 38) [(40,(bV (v38==(v41.n:Int)))),(48,(bV v51))]::aQ (bV v51) 5 (rn 0 39) 49::aP (pV a0) 5 (rn 0 40) [(0,(pV a0)),(50,(bV v51))]::aP (pV (some p1)) 5 (rn 0 41) [(51,(pV a0)),(50,(bV v51))]::aP (pV (some (p1.add 0))) 5 (rn 0 42) [(52,(pV (some p1))),(50,(bV v51))]::aP (pV v55) 5 (rn 0 43) [(53,(pV (some (p1.add 0)))),(50,(bV v51))]::aI (bV v57) true 5 5 (rn 0 44) [(54,(pV v55)),(50,(bV v51))]::aI (pV a0) false 5 6 (rn 0 40) [(0,(pV a0)),(50,(bV v51))]::aI (pV (some p1)) false 5 6 (rn 0 40++[45]) [(56,(pV a0)),(50,(bV v51))]::aI (pV (some (p1.add 2))) false 5 6 (rn 0 40++[45,46]) [(57,(pV (some p1))),(50,(bV v51))]::aI (pV v60) false 5 6 (rn 0 40++[45,46,47]) [(58,(pV (some (p1.add 2)))),(50,(bV v51))]::aI (pV (some p62)) false 5 6 (rn 0 40++rn 45 4) [(59,(pV v60)),(50,(bV v51))]::aI (pV (some (p62.add 3))) false 5 6 (rn 0 40++rn 45 5) [(60,(pV (some p62))),(50,(bV v51))]::aI (bV v64) false 5 6 (rn 0 40++rn 45 6) [(61,(pV (some (p62.add 3)))),(50,(bV v51))]::aP (bV (v57==v64)) 6 (rn 0 52) [(55,(bV v57)),(62,(bV v64)),(50,(bV v51))]::aP (bV (v57==v64)) 6 (rn 0 53) [(50,(bV v51)),(63,(bV (v57==v64)))]::aQ (bV (v57==v64)) 6 (rn 0 54) 64::[])) (W:=(fun j=>match j with | 0=>w18 | 1=>w23 | 2=>w31 | 3=>w39 | 4=>w47 | 5=>w52 | 6=>w58 | _=>w58)) (by kernel_rfl) u (cR e19) (by kernel_rfl) ?_ (aT (by kernel_rfl)) (by kernel_rfl) (m:=6) (by kernel_rfl) (fun a u=>?_)
     .refine⟨oa (aC · rfl),oa (aH · rfl e2),oa (aK · rfl aGB rfl rfl aGW),oc 0 (kd (aJ · rfl aHc (bB e21))),oc 0 (kd (dc1 · rfl Try.call38 (dG e24))),oa (aK · rfl aGx rfl rfl aGw),?_,oa (gL · rfl rfl),oa (aC · rfl),oag 19 b27 (aC · rfl),oag 19 b27 (aH · rfl e2),oag 19 b27 (aK · rfl aGB rfl rfl aGW),oc 1 (kg 19 b27 (aJ · rfl aHc (bB e29))),oc 1 (kg 19 b27 (dc1 · rfl Try.call39 (gK e32))),oag 19 b27 (aK · rfl aGx rfl rfl aGw),?_,oag 19 b27 (gL · rfl rfl),oa (aG · rfl b27 rfl),oa (aC · rfl),oag 29 b35 (aC · rfl),oag 29 b35 (aH · rfl e2),oag 29 b35 (aK · rfl aGB rfl rfl aGW),oc 2 (kg 29 b35 (aJ · rfl aHc (bB e37))),oc 2 (kg 29 b35 (dc1 · rfl Try.call40 (nH e40))),oag 29 b35 (aK · rfl aGx rfl rfl aGN),?_,oag 29 b35 (aZ · rfl aGC),oag 29 b35 (gL · rfl rfl),oa (aG · rfl b35 rfl),oa (aC · rfl),oag 40 b43 (aC · rfl),oag 40 b43 (aH · rfl e2),
       oag 40 b43 (aK · rfl aGB rfl rfl aGW),oc 3 (kg 40 b43 (aJ · rfl aHc (bB e45))),oc 3 (kg 40 b43 (dc3 · rfl rfl rfl Try.call44 (kH e48))),oag 40 b43 (aK · rfl aGx rfl rfl aHj),?_,oc 4 (kg 40 b43 (dc2 · rfl rfl Try.call48 (kT e53))),oa (aG · rfl b43 rfl),oa (aC · rfl),oag 50 b54 (aC · rfl),oag 50 b54 (aH · rfl e2),oag 50 b54 (aK · rfl aGB rfl rfl aHd),oc 5 (kg 50 b54 (aJ · rfl aHa (bB e56))),oc 5 (kg 50 b54 (dc1 · rfl Try.call47 (kG e59))),oag 50 b54 (aC · rfl),oag 50 b54 (aH · rfl e2),oag 50 b54 (aK · rfl aGB rfl rfl aGZ),?_,oag 50 b54 (aH · rfl e63),oag 50 b54 (aK · rfl aGD rfl rfl aHk),?_,oag 50 b54 (aFO · rfl rfl Try.runUnderlying4),oa (aG · rfl b54 rfl),oa (bA · rfl),aLj⟩
      .intro j h1 h2;have h1:0<=j:=h1;have h2:j<=1:=h2;rcases(by omega:j=0\/j=1) with rfl | rfl
       .exact kd (aJ · rfl aGy (aS e66))
       exact kd (aJ · rfl aGy (aS e26))
      .intro j h1 h2;have h1:1<=j:=h1;have h2:j<=2:=h2;rcases(by omega:j=1\/j=2) with rfl | rfl
       .exact kg 19 b27 (aJ · rfl aGy (aS e67))
       exact kg 19 b27 (aJ · rfl aGy (aS e34))
      .intro j h1 h2;have h1:2<=j:=h1;have h2:j<=3:=h2;rcases(by omega:j=2\/j=3) with rfl | rfl
       .exact kg 29 b35 (aJ · rfl aGO (aV e68))
       exact kg 29 b35 (aJ · rfl aGO (aV e42))
      .intro j h1 h2;have h1:3<=j:=h1;have h2:j<=4:=h2;rcases(by omega:j=3\/j=4) with rfl | rfl
       .exact kg 40 b43 (aJ · rfl aHt (aV e69))
       exact kg 40 b43 (aJ · rfl aHt (aV e50))
      .intro j h1 h2;have h1:5<=j:=h1;have h2:j<=6:=h2;rcases(by omega:j=5\/j=6) with rfl | rfl
       .exact kg 50 b54 (aJ · rfl aGT (bB e70))
       exact kg 50 b54 (aJ · rfl aGT (bB e61))
      intro j h1 h2;have h1:5<=j:=h1;have h2:j<=6:=h2;rcases(by omega:j=5\/j=6) with rfl | rfl
      .exact kg 50 b54 (aJ · rfl aHC (oJ e71))
      exact kg 50 b54 (aJ · rfl aHC (oJ e65))
     have u:Has 65 [(2,(bV (v57==v64)))] a:=u.sb rfl;have y:=u;cases h;exact hk17 _ (y.sb rfl)
    obtain⟨e72,h⟩:=bP h;obtain⟨e73,h⟩:=bP h;obtain⟨e74,h⟩:=bP h;obtain⟨e75,h⟩:=bP h;have u:Has 65 [(0,(pV a0)),(3,(pV (some p9)))] a:=u.sb rfl;refine aM (n:=65) (ds:=(aQ (pV a0) 0 [] 0::aF (pV (some p1)) 0 [0] 11 (pV a0)::aF (pV (some (p1.add 1))) 0 [0,1] 12 (pV (some p1))::aF (pV v20) 0 [0,1,2] 13 (pV (some (p1.add 1)))::aI (iV v22) true 0 0 (rn 0 4) [(14,(pV v20))]::aI (pV (some (p9.add 0))) false 0 1 [] [(3,(pV (some p9)))]::aI (iV v25) false 0 1 [5] [(16,(pV (some (p9.add 0))))]::aP (bV (v22==v25)) 1 (rn 0 7) [(15,(iV v22)),(17,(iV v25))]::aQ (bV (v22==v25)) 1 (rn 0 8) 18::aP (pV a0) 1 (rn 0 9) [(0,(pV a0)),(19,(bV (v22==v25)))]::aP (pV (some p1)) 1 (rn 0 10) [(20,(pV a0)),(19,(bV (v22==v25)))]::aP (pV (some (p1.add 1))) 1 (rn 0 11) [(21,(pV (some p1))),(19,(bV (v22==v25)))]::aP (pV v28) 1 (rn 0 12) [(22,(pV (some (p1.add 1)))),(19,(bV (v22==v25)))]::aI (iV v30) true 1 1 (rn 0 13) [(23,(pV v28)),(19,(bV (v22==v25)))]::aI (pV (some (p9.add 1))) false 1 2 (rn 0 9) [(3,(pV (some p9))),(19,(bV (v22==v25)))]::aI (iV v33) false 1 2 (rn 0 9++[14]) [(25,(pV (some (p9.add 1)))),(19,(bV (v22==v25)))]::aP (bV (v30==v33)) 2 (rn 0 16) [(24,(iV v30)),(26,(iV v33)),(19,(bV (v22==v25)))]::aP (bV (v30==v33)) 2 (rn 0 17) [(19,(bV (v22==v25))),(27,(bV (v30==v33)))]::aQ (bV (v30==v33)) 2 (rn 0 18) 28::aP (pV a0) 2 (rn 0 19) [(0,(pV a0)),(29,(bV (v30==v33)))]::aP (pV (some p1)) 2 (rn 0 20) [(30,(pV a0)),(29,(bV (v30==v33)))]::aP (pV (some (p1.add 1))) 2 (rn 0 21) [(31,(pV (some p1))),(29,(bV (v30==v33)))]::aP (pV v36) 2 (rn 0 22) [(32,(pV (some (p1.add 1)))),(29,(bV (v30==v33)))]::aI (iV v38) true 2 2 (rn 0 23) [(33,(pV v36)),(29,(bV (v30==v33)))]::aI (pV (some (p9.add 2))) false 2 3 (rn 0 19) [(3,(pV (some p9))),(29,(bV (v30==v33)))]::aI (Sl.v v41) false 2 3 (rn 0 19++[24]) [(35,(pV (some (p9.add 2)))),(29,(bV (v30==v33)))]::aI (iV (v41.n:Int)) false 2 3 (rn 0 19++[24,25]) [(36,(Sl.v v41)),(29,(bV (v30==v33)))]::aP (bV (v38==(v41.n:Int))) 3 (rn 0 27) [(34,(iV v38)),(37,(iV (v41.n:Int))),(29,(bV (v30==v33)))]::aP (bV (v38==(v41.n:Int))) 3 (rn 0 28) [(29,(bV (v30==v33))),(38,(bV (v38==(v41.n:Int))))]::aQ (bV (v38==(v41.n:Int))) 3 (rn 0 29) 39::aP (pV a0) 3 (rn 0 30) [(0,(pV a0)),(40,(bV (v38==(v41.n:Int))))]::aP (pV (some p1)) 3 (rn 0 31) [(41,(pV a0)),(40,(bV (v38==(v41.n:Int))))]::aP (pV (some (p1.add 1))) 3 (rn 0 32) [(42,(pV (some p1))),(40,(bV (v38==(v41.n:Int))))]::aP (pV v44) 3 (rn 0 33) [(43,(pV (some (p1.add 1)))),(40,(bV (v38==(v41.n:Int))))]::aI (Sl.v v46) true 3 3 (rn 0 34) [(44,(pV v44)),(40,(bV (v38==(v41.n:Int))))]::aI (pV (some (p9.add 3))) false 3 4 (rn 0 30) [(3,(pV (some p9))),(40,(bV (v38==(v41.n:Int))))]::aI (Sl.v v49) false 3 4 (rn 0 30++[35]) [(46,(pV (some (p9.add 3)))),(40,(bV (v38==(v41.n:Int))))]::aI (bV v51) true 4 4 (rn 0 37) [(45,(Sl.v v46)),(47,(Sl.v v49)),(40,(bV (v38==(v41.n:Int))))]::aP (bV v51) 5 (rn 0 38) [(40,(bV (v38==(v41.n:Int)))),(48,(bV v51))]::aQ (bV v51) 5 (rn 0 39) 49::aF (undef) 5 (rn 0 40) 50 (bV v51)::aF (undef) 5 (rn 0 41) 50 (bV v51)::aF (undef) 5 (rn 0 42) 50 (bV v51)::aF (undef) 5 (rn 0 43) 50 (bV v51)::aF (undef) 5 (rn 0 44) 50 (bV v51)::aF (undef) 5 (rn 0 40) 50 (bV v51)::aF (undef) 5 (rn 0 40++[45]) 50 (bV v51)::aF (undef) 5 (rn 0 40++[45,46]) 50 (bV v51)::aF (undef) 5 (rn 0 40++[45,46,47]) 50 (bV v51)::aF (undef) 5 (rn 0 40++rn 45 4) 50 (bV v51)::aF (undef) 5 (rn 0 40++rn 45 5) 50 (bV v51)::aF (undef) 5 (rn 0 40++rn 45 6) 50 (bV v51)::aF (undef) 5 (rn 0 52) 50 (bV v51)::aP (bV false) 5 (rn 0 53) [(50,(bV v51)),(63,undef)]::aQ (bV false) 5 (rn 0 54) 64::[])) (W:=(fun j=>match j with | 0=>w18 | 1=>w23 | 2=>w31 | 3=>w39 | 4=>w47 | 5=>w52 | _=>w52)) (by kernel_rfl) u (cR e19) (by kernel_rfl) ?_ (aT (by kernel_rfl)) (by kernel_rfl) (m:=5) (by kernel_rfl) (fun a u=>?_)
    .refine⟨oa (aC · rfl),oa (aH · rfl e2),oa (aK · rfl aGB rfl rfl aGW),oc 0 (kd (aJ · rfl aHc (bB e21))),oc 0 (kd (dc1 · rfl Try.call38 (dG e24))),oa (aK · rfl aGx rfl rfl aGw),?_,oa (gL · rfl rfl),oa (aC · rfl),oag 19 b27 (aC · rfl),oag 19 b27 (aH · rfl e2),oag 19 b27 (aK · rfl aGB rfl rfl aGW),oc 1 (kg 19 b27 (aJ · rfl aHc (bB e29))),oc 1 (kg 19 b27 (dc1 · rfl Try.call39 (gK e32))),oag 19 b27 (aK · rfl aGx rfl rfl aGw),?_,oag 19 b27 (gL · rfl rfl),oa (aG · rfl b27 rfl),oa (aC · rfl),oag 29 b35 (aC · rfl),oag 29 b35 (aH · rfl e2),oag 29 b35 (aK · rfl aGB rfl rfl aGW),oc 2 (kg 29 b35 (aJ · rfl aHc (bB e37))),oc 2 (kg 29 b35 (dc1 · rfl Try.call40 (nH e40))),oag 29 b35 (aK · rfl aGx rfl rfl aGN),?_,oag 29 b35 (aZ · rfl aGC),oag 29 b35 (gL · rfl rfl),oa (aG · rfl b35 rfl),oa (aC · rfl),oag 40 b43 (aC · rfl),oag 40 b43 (aH · rfl e2),
      oag 40 b43 (aK · rfl aGB rfl rfl aGW),oc 3 (kg 40 b43 (aJ · rfl aHc (bB e45))),oc 3 (kg 40 b43 (dc3 · rfl rfl rfl Try.call44 (kH e48))),oag 40 b43 (aK · rfl aGx rfl rfl aHj),?_,oc 4 (kg 40 b43 (dc2 · rfl rfl Try.call48 (kT e53))),oa (aG · rfl b43 rfl),oa (aC · rfl),on 50 (nm b54),on 50 (nm b54),on 50 (nm b54),on 50 (nm b54),on 50 (nm b54),on 50 (nm b54),on 50 (nm b54),on 50 (nm b54),on 50 (nm b54),on 50 (nm b54),on 50 (nm b54),on 50 (nm b54),on 50 (nm b54),oa (aL · rfl b54 rfl),oa (bA · rfl),aLj⟩
     .intro j h1 h2;have h1:0<=j:=h1;have h2:j<=1:=h2;rcases(by omega:j=0\/j=1) with rfl | rfl
      .exact kd (aJ · rfl aGy (aS e72))
      exact kd (aJ · rfl aGy (aS e26))
     .intro j h1 h2;have h1:1<=j:=h1;have h2:j<=2:=h2;rcases(by omega:j=1\/j=2) with rfl | rfl
      .exact kg 19 b27 (aJ · rfl aGy (aS e73))
      exact kg 19 b27 (aJ · rfl aGy (aS e34))
     .intro j h1 h2;have h1:2<=j:=h1;have h2:j<=3:=h2;rcases(by omega:j=2\/j=3) with rfl | rfl
      .exact kg 29 b35 (aJ · rfl aGO (aV e74))
      exact kg 29 b35 (aJ · rfl aGO (aV e42))
     intro j h1 h2;have h1:3<=j:=h1;have h2:j<=4:=h2;rcases(by omega:j=3\/j=4) with rfl | rfl
     .exact kg 40 b43 (aJ · rfl aHt (aV e75))
     exact kg 40 b43 (aJ · rfl aHt (aV e50))
    have u:Has 65 [(2,(bV false))] a:=u.sb rfl;have y:=u;cases h;exact hk17 _ (y.sb rfl)
   obtain⟨e76,h⟩:=bP h;obtain⟨e77,h⟩:=bP h;obtain⟨e78,h⟩:=bP h;have u:Has 65 [(0,(pV a0)),(3,(pV (some p9)))] a:=u.sb rfl;refine aM (n:=65) (ds:=(aQ (pV a0) 0 [] 0::aF (pV (some p1)) 0 [0] 11 (pV a0)::aF (pV (some (p1.add 1))) 0 [0,1] 12 (pV (some p1))::aF (pV v20) 0 [0,1,2] 13 (pV (some (p1.add 1)))::aI (iV v22) true 0 0 (rn 0 4) [(14,(pV v20))]::aI (pV (some (p9.add 0))) false 0 1 [] [(3,(pV (some p9)))]::aI (iV v25) false 0 1 [5] [(16,(pV (some (p9.add 0))))]::aP (bV (v22==v25)) 1 (rn 0 7) [(15,(iV v22)),(17,(iV v25))]::aQ (bV (v22==v25)) 1 (rn 0 8) 18::aP (pV a0) 1 (rn 0 9) [(0,(pV a0)),(19,(bV (v22==v25)))]::aP (pV (some p1)) 1 (rn 0 10) [(20,(pV a0)),(19,(bV (v22==v25)))]::aP (pV (some (p1.add 1))) 1 (rn 0 11) [(21,(pV (some p1))),(19,(bV (v22==v25)))]::aP (pV v28) 1 (rn 0 12) [(22,(pV (some (p1.add 1)))),(19,(bV (v22==v25)))]::aI (iV v30) true 1 1 (rn 0 13) [(23,(pV v28)),(19,(bV (v22==v25)))]::aI (pV (some (p9.add 1))) false 1 2 (rn 0 9) [(3,(pV (some p9))),(19,(bV (v22==v25)))]::aI (iV v33) false 1 2 (rn 0 9++[14]) [(25,(pV (some (p9.add 1)))),(19,(bV (v22==v25)))]::aP (bV (v30==v33)) 2 (rn 0 16) [(24,(iV v30)),(26,(iV v33)),(19,(bV (v22==v25)))]::aP (bV (v30==v33)) 2 (rn 0 17) [(19,(bV (v22==v25))),(27,(bV (v30==v33)))]::aQ (bV (v30==v33)) 2 (rn 0 18) 28::aP (pV a0) 2 (rn 0 19) [(0,(pV a0)),(29,(bV (v30==v33)))]::aP (pV (some p1)) 2 (rn 0 20) [(30,(pV a0)),(29,(bV (v30==v33)))]::aP (pV (some (p1.add 1))) 2 (rn 0 21) [(31,(pV (some p1))),(29,(bV (v30==v33)))]::aP (pV v36) 2 (rn 0 22) [(32,(pV (some (p1.add 1)))),(29,(bV (v30==v33)))]::aI (iV v38) true 2 2 (rn 0 23) [(33,(pV v36)),(29,(bV (v30==v33)))]::aI (pV (some (p9.add 2))) false 2 3 (rn 0 19) [(3,(pV (some p9))),(29,(bV (v30==v33)))]::aI (Sl.v v41) false 2 3 (rn 0 19++[24]) [(35,(pV (some (p9.add 2)))),(29,(bV (v30==v33)))]::aI (iV (v41.n:Int)) false 2 3 (rn 0 19++[24,25]) [(36,(Sl.v v41)),(29,(bV (v30==v33)))]::aP (bV (v38==(v41.n:Int))) 3 (rn 0 27) [(34,(iV v38)),(37,(iV (v41.n:Int))),(29,(bV (v30==v33)))]::aP (bV (v38==(v41.n:Int))) 3 (rn 0 28) [(29,(bV (v30==v33))),(38,(bV (v38==(v41.n:Int))))]::aQ (bV (v38==(v41.n:Int))) 3 (rn 0 29) 39::aF (undef) 3 (rn 0 30) 40 (bV (v38==(v41.n:Int)))::aF (undef) 3 (rn 0 31) 40 (bV (v38==(v41.n:Int)))::aF (undef) 3 (rn 0 32) 40 (bV (v38==(v41.n:Int)))::aF (undef) 3 (rn 0 33) 40 (bV (v38==(v41.n:Int)))::aF (undef) 3 (rn 0 34) 40 (bV (v38==(v41.n:Int)))::aF (undef) 3 (rn 0 30) 40 (bV (v38==(v41.n:Int)))::aF (undef) 3 (rn 0 30++[35]) 40 (bV (v38==(v41.n:Int)))::aF (undef) 3 (rn 0 37) 40 (bV (v38==(v41.n:Int)))::aP (bV false) 3 (rn 0 38) [(40,(bV (v38==(v41.n:Int)))),(48,undef)]::aQ (bV false) 3 (rn 0 39) 49::aF (undef) 3 (rn 0 40) 50 (bV false)::aF (undef) 3 (rn 0 41) 50 (bV false)::aF (undef) 3 (rn 0 42) 50 (bV false)::aF (undef) 3 (rn 0 43) 50 (bV false)::aF (undef) 3 (rn 0 44) 50 (bV false)::aF (undef) 3 (rn 0 40) 50 (bV false)::aF (undef) 3 (rn 0 40++[45]) 50 (bV false)::aF (undef) 3 (rn 0 40++[45,46]) 50 (bV false)::aF (undef) 3 (rn 0 40++[45,46,47]) 50 (bV false)::aF (undef) 3 (rn 0 40++rn 45 4) 50 (bV false)::aF (undef) 3 (rn 0 40++rn 45 5) 50 (bV false)::aF (undef) 3 (rn 0 40++rn 45 6) 50 (bV false)::aF (undef) 3 (rn 0 52) 50 (bV false)::aP (bV false) 3 (rn 0 53) [(50,(bV false)),(63,undef)]::aQ (bV false) 3 (rn 0 54) 64::[])) (W:=(fun j=>match j with | 0=>w18 | 1=>w23 | 2=>w31 | 3=>w39 | _=>w39)) (by kernel_rfl) u (cR e19) (by kernel_rfl) ?_ (aT (by kernel_rfl)) (by kernel_rfl) (m:=3) (by kernel_rfl) (fun a u=>?_)
   .refine⟨oa (aC · rfl),oa (aH · rfl e2),oa (aK · rfl aGB rfl rfl aGW),oc 0 (kd (aJ · rfl aHc (bB e21))),oc 0 (kd (dc1 · rfl Try.call38 (dG e24))),oa (aK · rfl aGx rfl rfl aGw),?_,oa (gL · rfl rfl),oa (aC · rfl),oag 19 b27 (aC · rfl),oag 19 b27 (aH · rfl e2),oag 19 b27 (aK · rfl aGB rfl rfl aGW),oc 1 (kg 19 b27 (aJ · rfl aHc (bB e29))),oc 1 (kg 19 b27 (dc1 · rfl Try.call39 (gK e32))),oag 19 b27 (aK · rfl aGx rfl rfl aGw),?_,oag 19 b27 (gL · rfl rfl),oa (aG · rfl b27 rfl),oa (aC · rfl),oag 29 b35 (aC · rfl),oag 29 b35 (aH · rfl e2),oag 29 b35 (aK · rfl aGB rfl rfl aGW),oc 2 (kg 29 b35 (aJ · rfl aHc (bB e37))),oc 2 (kg 29 b35 (dc1 · rfl Try.call40 (nH e40))),oag 29 b35 (aK · rfl aGx rfl rfl aGN),?_,oag 29 b35 (aZ · rfl aGC),oag 29 b35 (gL · rfl rfl),oa (aG · rfl b35 rfl),oa (aC · rfl),on 40 (nm b43),on 40 (nm b43),on 40 (nm b43),
     on 40 (nm b43),on 40 (nm b43),on 40 (nm b43),on 40 (nm b43),on 40 (nm b43),oa (aL · rfl b43 rfl),oa (aC · rfl),on 50 (nm aIc),on 50 (nm aIc),on 50 (nm aIc),on 50 (nm aIc),on 50 (nm aIc),on 50 (nm aIc),on 50 (nm aIc),on 50 (nm aIc),on 50 (nm aIc),on 50 (nm aIc),on 50 (nm aIc),on 50 (nm aIc),on 50 (nm aIc),oa (aL · rfl aIc rfl),oa (bA · rfl),aLj⟩
    .intro j h1 h2;have h1:0<=j:=h1;have h2:j<=1:=h2;rcases(by omega:j=0\/j=1) with rfl | rfl
     .exact kd (aJ · rfl aGy (aS e76))
     exact kd (aJ · rfl aGy (aS e26))
    .intro j h1 h2;have h1:1<=j:=h1;have h2:j<=2:=h2;rcases(by omega:j=1\/j=2) with rfl | rfl
     .exact kg 19 b27 (aJ · rfl aGy (aS e77))
     exact kg 19 b27 (aJ · rfl aGy (aS e34))
    intro j h1 h2;have h1:2<=j:=h1;have h2:j<=3:=h2;rcases(by omega:j=2\/j=3) with rfl | rfl
    .exact kg 29 b35 (aJ · rfl aGO (aV e78))
    exact kg 29 b35 (aJ · rfl aGO (aV e42))
   have u:Has 65 [(2,(bV false))] a:=u.sb rfl;have y:=u;cases h;exact hk17 _ (y.sb rfl)
  obtain⟨e79,h⟩:=bP h;obtain⟨e80,h⟩:=bP h;have u:Has 65 [(0,(pV a0)),(3,(pV (some p9)))] a:=u.sb rfl;refine aM (n:=65) (ds:=(aQ (pV a0) 0 [] 0::aF (pV (some p1)) 0 [0] 11 (pV a0)::aF (pV (some (p1.add 1))) 0 [0,1] 12 (pV (some p1))::aF (pV v20) 0 [0,1,2] 13 (pV (some (p1.add 1)))::aI (iV v22) true 0 0 (rn 0 4) [(14,(pV v20))]::aI (pV (some (p9.add 0))) false 0 1 [] [(3,(pV (some p9)))]::aI (iV v25) false 0 1 [5] [(16,(pV (some (p9.add 0))))]::aP (bV (v22==v25)) 1 (rn 0 7) [(15,(iV v22)),(17,(iV v25))]::aQ (bV (v22==v25)) 1 (rn 0 8) 18::aP (pV a0) 1 (rn 0 9) [(0,(pV a0)),(19,(bV (v22==v25)))]::aP (pV (some p1)) 1 (rn 0 10) [(20,(pV a0)),(19,(bV (v22==v25)))]::aP (pV (some (p1.add 1))) 1 (rn 0 11) [(21,(pV (some p1))),(19,(bV (v22==v25)))]::aP (pV v28) 1 (rn 0 12) [(22,(pV (some (p1.add 1)))),(19,(bV (v22==v25)))]::aI (iV v30) true 1 1 (rn 0 13) [(23,(pV v28)),(19,(bV (v22==v25)))]::aI (pV (some (p9.add 1))) false 1 2 (rn 0 9) [(3,(pV (some p9))),(19,(bV (v22==v25)))]::aI (iV v33) false 1 2 (rn 0 9++[14]) [(25,(pV (some (p9.add 1)))),(19,(bV (v22==v25)))]::aP (bV (v30==v33)) 2 (rn 0 16) [(24,(iV v30)),(26,(iV v33)),(19,(bV (v22==v25)))]::aP (bV (v30==v33)) 2 (rn 0 17) [(19,(bV (v22==v25))),(27,(bV (v30==v33)))]::aQ (bV (v30==v33)) 2 (rn 0 18) 28::aF (undef) 2 (rn 0 19) 29 (bV (v30==v33))::aF (undef) 2 (rn 0 20) 29 (bV (v30==v33))::aF (undef) 2 (rn 0 21) 29 (bV (v30==v33))::aF (undef) 2 (rn 0 22) 29 (bV (v30==v33))::aF (undef) 2 (rn 0 23) 29 (bV (v30==v33))::aF (undef) 2 (rn 0 19) 29 (bV (v30==v33))::aF (undef) 2 (rn 0 19++[24]) 29 (bV (v30==v33))::aF (undef) 2 (rn 0 19++[24,25]) 29 (bV (v30==v33))::aF (undef) 2 (rn 0 27) 29 (bV (v30==v33))::aP (bV false) 2 (rn 0 28) [(29,(bV (v30==v33))),(38,undef)]::aQ (bV false) 2 (rn 0 29) 39::aF (undef) 2 (rn 0 30) 40 (bV false)::aF (undef) 2 (rn 0 31) 40 (bV false)::aF (undef) 2 (rn 0 32) 40 (bV false)::aF (undef) 2 (rn 0 33) 40 (bV false)::aF (undef) 2 (rn 0 34) 40 (bV false)::aF (undef) 2 (rn 0 30) 40 (bV false)::aF (undef) 2 (rn 0 30++[35]) 40 (bV false)::aF (undef) 2 (rn 0 37) 40 (bV false)::aP (bV false) 2 (rn 0 38) [(40,(bV false)),(48,undef)]::aQ (bV false) 2 (rn 0 39) 49::aF (undef) 2 (rn 0 40) 50 (bV false)::aF (undef) 2 (rn 0 41) 50 (bV false)::aF (undef) 2 (rn 0 42) 50 (bV false)::aF (undef) 2 (rn 0 43) 50 (bV false)::aF (undef) 2 (rn 0 44) 50 (bV false)::aF (undef) 2 (rn 0 40) 50 (bV false)::aF (undef) 2 (rn 0 40++[45]) 50 (bV false)::aF (undef) 2 (rn 0 40++[45,46]) 50 (bV false)::aF (undef) 2 (rn 0 40++[45,46,47]) 50 (bV false)::aF (undef) 2 (rn 0 40++rn 45 4) 50 (bV false)::aF (undef) 2 (rn 0 40++rn 45 5) 50 (bV false)::aF (undef) 2 (rn 0 40++rn 45 6) 50 (bV false)::aF (undef) 2 (rn 0 52) 50 (bV false)::aP (bV false) 2 (rn 0 53) [(50,(bV false)),(63,undef)]::aQ (bV false) 2 (rn 0 54) 64::[])) (W:=(fun j=>match j with | 0=>w18 | 1=>w23 | 2=>w31 | _=>w31)) (by kernel_rfl) u (cR e19) (by kernel_rfl) ?_ (aT (by kernel_rfl)) (by kernel_rfl) (m:=2) (by kernel_rfl) (fun a u=>?_)
  .refine⟨oa (aC · rfl),oa (aH · rfl e2),oa (aK · rfl aGB rfl rfl aGW),oc 0 (kd (aJ · rfl aHc (bB e21))),oc 0 (kd (dc1 · rfl Try.call38 (dG e24))),oa (aK · rfl aGx rfl rfl aGw),?_,oa (gL · rfl rfl),oa (aC · rfl),oag 19 b27 (aC · rfl),oag 19 b27 (aH · rfl e2),oag 19 b27 (aK · rfl aGB rfl rfl aGW),oc 1 (kg 19 b27 (aJ · rfl aHc (bB e29))),oc 1 (kg 19 b27 (dc1 · rfl Try.call39 (gK e32))),oag 19 b27 (aK · rfl aGx rfl rfl aGw),?_,oag 19 b27 (gL · rfl rfl),oa (aG · rfl b27 rfl),oa (aC · rfl),on 29 (nm b35),on 29 (nm b35),on 29 (nm b35),on 29 (nm b35),on 29 (nm b35),on 29 (nm b35),on 29 (nm b35),on 29 (nm b35),on 29 (nm b35),oa (aL · rfl b35 rfl),oa (aC · rfl),on 40 (nm aIc),on 40 (nm aIc),on 40 (nm aIc),on 40 (nm aIc),on 40 (nm aIc),on 40 (nm aIc),on 40 (nm aIc),on 40 (nm aIc),oa (aL · rfl aIc rfl),oa (aC · rfl),
    on 50 (nm aIc),on 50 (nm aIc),on 50 (nm aIc),on 50 (nm aIc),on 50 (nm aIc),on 50 (nm aIc),on 50 (nm aIc),on 50 (nm aIc),on 50 (nm aIc),on 50 (nm aIc),on 50 (nm aIc),on 50 (nm aIc),on 50 (nm aIc),oa (aL · rfl aIc rfl),oa (bA · rfl),aLj⟩
   .intro j h1 h2;have h1:0<=j:=h1;have h2:j<=1:=h2;rcases(by omega:j=0\/j=1) with rfl | rfl
    .exact kd (aJ · rfl aGy (aS e79))
    exact kd (aJ · rfl aGy (aS e26))
   intro j h1 h2;have h1:1<=j:=h1;have h2:j<=2:=h2;rcases(by omega:j=1\/j=2) with rfl | rfl
   .exact kg 19 b27 (aJ · rfl aGy (aS e80))
   exact kg 19 b27 (aJ · rfl aGy (aS e34))
  have u:Has 65 [(2,(bV false))] a:=u.sb rfl;have y:=u;cases h;exact hk17 _ (y.sb rfl)
 obtain⟨e81,h⟩:=bP h;have u:Has 65 [(0,(pV a0)),(3,(pV (some p9)))] a:=u.sb rfl;refine aM (n:=65) (ds:=(aQ (pV a0) 0 [] 0::aF (pV (some p1)) 0 [0] 11 (pV a0)::aF (pV (some (p1.add 1))) 0 [0,1] 12 (pV (some p1))::aF (pV v20) 0 [0,1,2] 13 (pV (some (p1.add 1)))::aI (iV v22) true 0 0 (rn 0 4) [(14,(pV v20))]::aI (pV (some (p9.add 0))) false 0 1 [] [(3,(pV (some p9)))]::aI (iV v25) false 0 1 [5] [(16,(pV (some (p9.add 0))))]::aP (bV (v22==v25)) 1 (rn 0 7) [(15,(iV v22)),(17,(iV v25))]::aQ (bV (v22==v25)) 1 (rn 0 8) 18::aF (undef) 1 (rn 0 9) 19 (bV (v22==v25))::aF (undef) 1 (rn 0 10) 19 (bV (v22==v25))::aF (undef) 1 (rn 0 11) 19 (bV (v22==v25))::aF (undef) 1 (rn 0 12) 19 (bV (v22==v25))::aF (undef) 1 (rn 0 13) 19 (bV (v22==v25))::aF (undef) 1 (rn 0 9) 19 (bV (v22==v25))::aF (undef) 1 (rn 0 9++[14]) 19 (bV (v22==v25))::aF (undef) 1 (rn 0 16) 19 (bV (v22==v25))::aP (bV false) 1 (rn 0 17) [(19,(bV (v22==v25))),(27,undef)]::aQ (bV false) 1 (rn 0 18) 28::aF (undef) 1 (rn 0 19) 29 (bV false)::aF (undef) 1 (rn 0 20) 29 (bV false)::aF (undef) 1 (rn 0 21) 29 (bV false)::aF (undef) 1 (rn 0 22) 29 (bV false)::aF (undef) 1 (rn 0 23) 29 (bV false)::aF (undef) 1 (rn 0 19) 29 (bV false)::aF (undef) 1 (rn 0 19++[24]) 29 (bV false)::aF (undef) 1 (rn 0 19++[24,25]) 29 (bV false)::aF (undef) 1 (rn 0 27) 29 (bV false)::aP (bV false) 1 (rn 0 28) [(29,(bV false)),(38,undef)]::aQ (bV false) 1 (rn 0 29) 39::aF (undef) 1 (rn 0 30) 40 (bV false)::aF (undef) 1 (rn 0 31) 40 (bV false)::aF (undef) 1 (rn 0 32) 40 (bV false)::aF (undef) 1 (rn 0 33) 40 (bV false)::aF (undef) 1 (rn 0 34) 40 (bV false)::aF (undef) 1 (rn 0 30) 40 (bV false)::aF (undef) 1 (rn 0 30++[35]) 40 (bV false)::aF (undef) 1 (rn 0 37) 40 (bV false)::aP (bV false) 1 (rn 0 38) [(40,(bV false)),(48,undef)]::aQ (bV false) 1 (rn 0 39) 49::aF (undef) 1 (rn 0 40) 50 (bV false)::aF (undef) 1 (rn 0 41) 50 (bV false)::aF (undef) 1 (rn 0 42) 50 (bV false)::aF (undef) 1 (rn 0 43) 50 (bV false)::aF (undef) 1 (rn 0 44) 50 (bV false)::aF (undef) 1 (rn 0 40) 50 (bV false)::aF (undef) 1 (rn 0 40++[45]) 50 (bV false)::aF (undef) 1 (rn 0 40++[45,46]) 50 (bV false)::aF (undef) 1 (rn 0 40++[45,46,47]) 50 (bV false)::aF (undef) 1 (rn 0 40++rn 45 4) 50 (bV false)::aF (undef) 1 (rn 0 40++rn 45 5) 50 (bV false)::aF (undef) 1 (rn 0 40++rn 45 6) 50 (bV false)::aF (undef) 1 (rn 0 52) 50 (bV false)::aP (bV false) 1 (rn 0 53) [(50,(bV false)),(63,undef)]::aQ (bV false) 1 (rn 0 54) 64::[])) (W:=(fun j=>match j with | 0=>w18 | 1=>w23 | _=>w23)) (by kernel_rfl) u (cR e19) (by kernel_rfl) ?_ (aT (by kernel_rfl)) (by kernel_rfl) (m:=1) (by kernel_rfl) (fun a u=>?_)
 .refine⟨oa (aC · rfl),oa (aH · rfl e2),oa (aK · rfl aGB rfl rfl aGW),oc 0 (kd (aJ · rfl aHc (bB e21))),oc 0 (kd (dc1 · rfl Try.call38 (dG e24))),oa (aK · rfl aGx rfl rfl aGw),?_,oa (gL · rfl rfl),oa (aC · rfl),on 19 (nm b27),on 19 (nm b27),on 19 (nm b27),on 19 (nm b27),on 19 (nm b27),on 19 (nm b27),on 19 (nm b27),on 19 (nm b27),oa (aL · rfl b27 rfl),oa (aC · rfl),on 29 (nm aIc),on 29 (nm aIc),on 29 (nm aIc),on 29 (nm aIc),on 29 (nm aIc),on 29 (nm aIc),on 29 (nm aIc),on 29 (nm aIc),on 29 (nm aIc),oa (aL · rfl aIc rfl),oa (aC · rfl),on 40 (nm aIc),on 40 (nm aIc),on 40 (nm aIc),on 40 (nm aIc),on 40 (nm aIc),on 40 (nm aIc),on 40 (nm aIc),on 40 (nm aIc),oa (aL · rfl aIc rfl),oa (aC · rfl),on 50 (nm aIc),on 50 (nm aIc),
   on 50 (nm aIc),on 50 (nm aIc),on 50 (nm aIc),on 50 (nm aIc),on 50 (nm aIc),on 50 (nm aIc),on 50 (nm aIc),on 50 (nm aIc),on 50 (nm aIc),on 50 (nm aIc),on 50 (nm aIc),oa (aL · rfl aIc rfl),oa (bA · rfl),aLj⟩
  intro j h1 h2;have h1:0<=j:=h1;have h2:j<=1:=h2;rcases(by omega:j=0\/j=1) with rfl | rfl
  .exact kd (aJ · rfl aGy (aS e81))
  exact kd (aJ · rfl aGy (aS e26))
 have u:Has 65 [(2,(bV false))] a:=u.sb rfl;have y:=u;cases h;exact hk17 _ (y.sb rfl)
noncomputable def eY (a0:Sl) (p1:Addr) (x25:Int) (w26:World):ND ((Int×World)⊕((World)⊕(Addr×Bool×World))) :=
 cb2 (if (decide (x25<(a0.n:Int)))=true then
 (aU ((decide (x25<200)),w26))
 else
 (aU (false,w26))) fun v36 w37 =>
 if v36=true then
 (lb1 (dr w37) fun w42 =>
 lb1 (ldP w42 (p1.add 0)) fun v44 =>
 lb1 (ix a0 x25 4) fun p46 =>
 lb1 (ldI .i64 w42 (p46.add 1)) fun v48 =>
 lb1 (ix a0 x25 4) fun p50 =>
 lb1 (ldL w42 (p50.add 2)) fun v52 =>
 lb2 (cC v44 v48 v52 w42) fun v54 w55 =>
 lb1 (ldP w55 (p1.add 2)) fun v57 =>
 lb1 (ix a0 x25 4) fun p59 =>
 lb1 (ldI .i64 w55 (p59.add 1)) fun v61 =>
 lb1 (ix a0 x25 4) fun p63 =>
 lb1 (ldL w55 (p63.add 2)) fun v65 =>
 lb2 (bE v57 v61 v65 w55) fun v67 w68 =>
 nck (ldP w42 (p1.add 2)=some v57) <|
 nck (ldI .i64 w42 (p59.add 1)=some v61) <|
 nck (ldL w42 (p63.add 2)=some v65) <|
 if (v54 !=v67)=true then
 (aU (.inr (.inr (p1,false,w68))))
 else
 (aU (.inl ((IntKind.wrap .i64 (x25+1)),w68))))
 else
 (aU (.inr (.inl w37)))
noncomputable def iQ (a0:Sl) (w:World):ND ((Option Addr)×Bool×World) :=
 lb2 (mk w 85 (List.replicate 4 (.pointer none))) fun p1 w2 =>
 lb3 (lU 52 w2) fun v4 v5 w6 =>
 lb1 (stV w6 (p1.add 0) (.pointer v4)) fun w8 =>
 lb3 (gF 52 w8) fun v10 v11 w12 =>
 lb1 (stV w12 (p1.add 2) (.pointer v10)) fun w14 =>
 cb2 (if (v5 !=0)=true then
 (aU (true,w14))
 else
 (if (v11 !=0)=true then
 (aU (true,w14))
 else
 (lb1 (ldP w14 (p1.add 0)) fun v22 =>
 aU ((v22.isNone),w14)))) fun v16 w17 =>
 if v16=true then
 (aU ((some p1),false,w17))
 else
 (cb1 (eQ (fun s:Int×World=>eY a0 p1 s.1 s.2) (0,w17)) fun r27=>Sum.elim (fun (i:World)=>u1 i fun w29 =>
 cb3 (cb2 (eM (some p1) w29) fun v79 w80 =>
 if v79=true then
 (lb1 (ldP w80 (p1.add 1)) fun v83 =>
 if (!(v83.isNone))=true then
 (lb2 (gB (some p1) w80) fun v86 w87 =>
 aU (p1,v86,w87))
 else
 (aU (p1,false,w80)))
 else
 (aU (p1,false,w80))) fun v74 v75 w76 =>
 aU ((some v74),v75,w76)) (fun (i:Addr×Bool×World)=>u3 i fun v30 v31 w32 =>
 aU ((some v30),v31,w32)) r27)
theorem qE {a0 w Q} (h:(iQ a0 w).t Q):Calls Try.prog 45 #[(Sl.v a0)] w fun e w''=>∃ i,e=.returned (.tuple #[(.pointer i.1),(.bool i.2.1)])/\Q i/\w''=i.2.2:=by
 refine aR (n:=94) Try.func45 rfl Try.ntmps45 (by simp) fun a u=>?_;unfold iQ at h;refine wp_seq<|aA<|qa u rfl fun a u=>qa u rfl fun a u=>aB<|t_n<|wp_seq<|aA<|q u (eE (vs:=[]) (pl:=#[(0,1),(1,1),(2,1),(3,1)]) (cs:=(List.replicate 4 (pV none))) u trivial Try.zeroValue85 aGB (by intro w;kernel_rfl) (by kernel_rfl)) fun a u=>?_;obtain⟨p1,w2,e3,h⟩:=h;refine q u (rF u rfl rfl e3) fun a u=>qa u rfl fun a u=>aB<|t_n<|wp_seq<|aA<|qa u rfl fun a u=>qa u rfl fun a u=>aB<|t_n<|wp_seq<|aA<|qm u rfl fun a u=>?_;obtain⟨v4,v5,w6,e7,h⟩:=h;refine q u (dc1 u rfl Try.call30 (sH e7)) fun a u=>qm u rfl fun a u=>q u (aW u rfl rfl) fun a u=>q u (aW u rfl rfl) fun a u=>q u (lP u rfl) fun a u=>q u (aK u rfl aGB rfl rfl aHd) fun a u=>?_;obtain⟨w8,e9,h⟩:=h;refine q u (fN u rfl rfl aHd e9) fun a u=>qa u rfl fun a u=>aB<|t_n<|wp_seq<|aA<|qm u rfl fun a u=>?_;obtain⟨v10,v11,w12,e13,h⟩:=h;refine q u (dc1 u rfl Try.call31 (rH e13)) fun a u=>qm u rfl fun a u=>q u (aW u rfl rfl) fun a u=>q u (aW u rfl rfl) fun a u=>q u (lP u rfl) fun a u=>q u (aK u rfl aGB rfl rfl aGZ) fun a u=>?_;obtain⟨w14,e15,h⟩:=h;refine q u (fN u rfl rfl aGZ e15) fun a u=>qa u rfl fun a u=>aB<|t_n<|wp_seq<|wp_seq<|?_;refine dE (n:=94) (ι:=Bool×World) (Lf:=fun i=>[(36,(bV i.1)),(0,(Sl.v a0)),(4,(pV (some p1)))]) (wf:=fun i=>i.2) (un2 h) (fun i h a u=>?_) (fun h hk19=>?_)
 .obtain⟨v16,w17⟩:=i;have u:Has 94 [(36,(bV v16)),(0,(Sl.v a0)),(4,(pV (some p1)))] a:=u;refine t_n<|?_;refine aX u rfl h (fun b24 h=>?_) (fun b24 h=>?_)
  .refine wp_seq<|aA<|qm u rfl fun a u=>qa u rfl fun a u=>qa u rfl fun a u=>aB<|t_n<|wp_ret<|t_r<|?_;exact jC Try.results45 u rfl rfl ⟨((some p1),false,w17),rfl,h,rfl⟩
  refine wp_skip<|t_n<|wp_seq<|wp_seq<|aA<|qa u rfl fun a u=>aB<|t_n<|wp_block<|?_;refine qF (n:=94) (L1:=fun i=>[(4,(pV (some p1)))]) (w1:=fun i=>i) (L2:=fun i=>[(2,(pV (some i.1))),(3,(bV i.2.1))]) (w2:=fun i=>i.2.2) (e1:=.exit 0) (e2:=.ret) (I:=fun (s:Int×World) a w=>Has 94 [(7,(iV s.1)),(0,(Sl.v a0)),(4,(pV (some p1)))] a/\w=s.2) (un1 h) ⟨u.sub ⟨rfl,rfl,rfl,aLj⟩,rfl⟩ (fun i h a u=>?_) (fun i h a u=>?_) (fun hk33 hk34=>?_)
  .obtain⟨w29,rfl⟩:∃ x,x=i:=⟨i,rfl⟩
   try dsimp only[Sum.elim_inl,Sum.elim_inr,u1,u2,u3,u4,u5,u6] at h
   have u:Has 94 [(4,(pV (some p1)))] a:=u;refine dV<|t_n<|wp_seq<|?_;refine dE (n:=94) (ι:=Addr×Bool×World) (Lf:=fun i=>[(2,(pV (some i.1))),(3,(bV i.2.1))]) (wf:=fun i=>i.2.2) (un3 h) (fun i h a u=>?_) (fun h hk78=>?_)
   .obtain⟨v74,v75,w76⟩:=i;have u:Has 94 [(2,(pV (some v74))),(3,(bV v75))] a:=u;refine t_n<|wp_ret<|?_;exact jC Try.results45 u rfl rfl ⟨((some v74),v75,w76),rfl,h,rfl⟩
   refine aA<|qm u rfl fun a u=>qm u rfl fun a u=>?_;refine lI (ι:=Bool×World) (pk:=fun i=>(bV i.1)) (wf:=fun i=>i.2) (xs:=[_]) (vs:=[(pV (some p1))]) u ⟨rfl,aLj⟩ Try.call90 (lH (un2 h)) (fun i h a u=>?_);obtain⟨v79,w80⟩:=i;refine qm u rfl fun a u=>?_;refine iP h (fun b82 h=>?_) (fun b82 h=>?_)
   .refine qg u 83 b82 (aC u rfl) fun a u=>qg u 83 b82 (lP u rfl) fun a u=>qg u 83 b82 (aK u rfl aGB rfl rfl aGW) fun a u=>?_;obtain⟨v83,e84,h⟩:=h;refine qg u 83 b82 (aJ u rfl aHc (bB e84)) fun a u=>qg u 83 b82 (aEY u rfl rfl aHx) fun a u=>q u (aG u rfl b82 rfl) fun a u=>qm u rfl fun a u=>?_;refine iP h (fun b85 h=>?_) (fun b85 h=>?_)
    .refine qg u 90 b85 (aC u rfl) fun a u=>?_;obtain⟨v86,w87,e88,h⟩:=h;refine qg u 90 b85 (dc1 u rfl Try.call51 (oS e88)) fun a u=>q u (aG u rfl b85 rfl) fun a u=>qa u rfl fun a u=>qa u rfl fun a u=>aB<|?_;exact hk78 (p1,v86,w87) h _ (u.sb rfl)
    refine qn u 90 (nm b85) fun a u=>qn u 90 (nm b85) fun a u=>q u (aL u rfl b85 rfl) fun a u=>qa u rfl fun a u=>qa u rfl fun a u=>aB<|?_;exact hk78 (p1,false,w80) h _ (u.sb rfl)
   refine qn u 83 (nm b82) fun a u=>qn u 83 (nm b82) fun a u=>qn u 83 (nm b82) fun a u=>qn u 83 (nm b82) fun a u=>qn u 83 (nm b82) fun a u=>q u (aL u rfl b82 rfl) fun a u=>qm u rfl fun a u=>qn u 90 (nm aIc) fun a u=>qn u 90 (nm aIc) fun a u=>q u (aL u rfl aIc rfl) fun a u=>qa u rfl fun a u=>qa u rfl fun a u=>aB<|?_;exact hk78 (p1,false,w80) h _ (u.sb rfl)
  .obtain⟨v30,v31,w32⟩:=i
   try dsimp only[Sum.elim_inl,Sum.elim_inr,u1,u2,u3,u4,u5,u6] at h
   have u:Has 94 [(2,(pV (some v30))),(3,(bV v31))] a:=u;refine b_r<|t_r<|?_;exact jC Try.results45 u rfl rfl ⟨((some v30),v31,w32),rfl,h,rfl⟩
  clear h;intro hX89;rintro⟨x25,w26⟩ a wq ⟨u,hwq⟩ h;obtain rfl:w26=wq:=hwq.symm;have u:Has 94 [(7,(iV x25)),(0,(Sl.v a0)),(4,(pV (some p1)))] a:=u;have h:(eY a0 p1 x25 w26).t _:=h;unfold eY at h;refine wp_seq<|wp_seq<|?_;refine dE (n:=94) (ι:=Bool×World) (Lf:=fun i=>[(45,(bV i.1)),(0,(Sl.v a0)),(4,(pV (some p1))),(7,(iV x25))]) (wf:=fun i=>i.2) (un2 h) (fun i h a u=>?_) (fun h hk39=>?_)
  .obtain⟨v36,w37⟩:=i;have u:Has 94 [(45,(bV v36)),(0,(Sl.v a0)),(4,(pV (some p1))),(7,(iV x25))] a:=u;refine t_n<|?_;refine aX u rfl h (fun b41 h=>?_) (fun b41 h=>?_)
   .refine wp_skip<|t_n<|wp_seq<|wp_block<|wp_seq<|?_;obtain⟨w42,e43,h⟩:=h;obtain⟨v44,e45,h⟩:=h;obtain⟨p46,e47,h⟩:=h;obtain⟨v48,e49,h⟩:=h;obtain⟨p50,e51,h⟩:=h;obtain⟨v52,e53,h⟩:=h;obtain⟨v54,w55,e56,h⟩:=h;obtain⟨v57,e58,h⟩:=h;obtain⟨p59,e60,h⟩:=h;obtain⟨v61,e62,h⟩:=h;obtain⟨p63,e64,h⟩:=h;obtain⟨v65,e66,h⟩:=h;obtain⟨v67,w68,e69,h⟩:=h;obtain⟨e70,h⟩:=h;obtain⟨e71,h⟩:=h;obtain⟨e72,h⟩:=h;have u:Has 94 [(0,(Sl.v a0)),(4,(pV (some p1))),(7,(iV x25))] a:=u.sb rfl;refine aM (n:=94) (ds:=(aQ (pV (some p1)) 0 [] 4::aQ (pV (some p1)) 0 [0] 48::aF (pV (some (p1.add 0))) 0 [0,1] 49 (pV (some p1))::aF (pV v44) 0 [0,1,2] 50 (pV (some (p1.add 0)))::aQ (Sl.v a0) 0 [] 0::aQ (iV x25) 0 [] 7::aP (pV (some p46)) 0 [4,5] [(52,(Sl.v a0)),(53,(iV x25))]::aF (pV (some (p46.add 1))) 0 [4,5,6] 54 (pV (some p46))::aF (iV v48) 0 (rn 4 4) 55 (pV (some (p46.add 1)))::aQ (Sl.v a0) 0 [] 0::aQ (iV x25) 0 [] 7::aP (pV (some p50)) 0 [9,10] [(57,(Sl.v a0)),(58,(iV x25))]::aF (pV (some (p50.add 2))) 0 [9,10,11] 59 (pV (some p50))::aF (Sl.v v52) 0 (rn 9 4) 60 (pV (some (p50.add 2)))::aI (iV v54) true 0 0 (rn 0 14) [(51,(pV v44)),(56,(iV v48)),(61,(Sl.v v52))]::aI (pV (some p1)) false 0 1 [] [(4,(pV (some p1)))]::aI (pV (some p1)) false 0 1 [15] [(63,(pV (some p1)))]::aI (pV (some (p1.add 2))) false 0 1 [15,16] [(64,(pV (some p1)))]::aI (pV v57) false 0 1 [15,16,17] [(65,(pV (some (p1.add 2))))]::aI (Sl.v a0) false 0 1 [] [(0,(Sl.v a0))]::aI (iV x25) false 0 1 [] [(7,(iV x25))]::aI (pV (some p59)) false 0 1 [19,20] [(67,(Sl.v a0)),(68,(iV x25))]::aI (pV (some (p59.add 1))) false 0 1 [19,20,21] [(69,(pV (some p59)))]::aI (iV v61) false 0 1 (rn 19 4) [(70,(pV (some (p59.add 1))))]::aI (Sl.v a0) false 0 1 [] [(0,(Sl.v a0))]::aI (iV x25) false 0 1 [] [(7,(iV x25))]::aI (pV (some p63)) false 0 1 [24,25] [(72,(Sl.v a0)),(73,(iV x25))]::aI (pV (some (p63.add 2))) false 0 1 [24,25,26] [(74,(pV (some p63)))]::aI (Sl.v v65) false 0 1 (rn 24 4) [(75,(pV (some (p63.add 2))))]::aI (iV v67) true 1 1 (rn 0 29) [(66,(pV v57)),(71,(iV v61)),(76,(Sl.v v65))]::aP (bV (v54 !=v67)) 2 (rn 0 30) [(62,(iV v54)),(77,(iV v67))]::[])) (W:=(fun j=>match j with | 0=>w42 | 1=>w55 | 2=>w68 | _=>w68)) (by kernel_rfl) u (cR e43) (by kernel_rfl) ?_ (aT (by kernel_rfl)) (by kernel_rfl) (m:=2) (by kernel_rfl) (fun a u=>?_)
    .refine⟨oa (aC · rfl),oa (lP · rfl),oa (aK · rfl aGB rfl rfl aHd),oc 0 (kd (aJ · rfl aHa (bB e45))),oa (aC · rfl),oa (aC · rfl),oa (bQ · rfl rfl aHv aHN e47),oa (aK · rfl aGU rfl rfl aGw),oc 0 (kd (aJ · rfl aGy (aS e49))),oa (aC · rfl),oa (aC · rfl),oa (bQ · rfl rfl aHv aHN e51),oa (aK · rfl aGU rfl rfl aHu),oc 0 (kd (aJ · rfl aHy (aV e53))),oc 0 (kd (dc3 · rfl rfl rfl Try.call84 (fF e56))),oa (aC · rfl),oa (lP · rfl),oa (aK · rfl aGB rfl rfl aGZ),?_,oa (aC · rfl),oa (aC · rfl),oa (bQ · rfl rfl aHv aHN e60),oa (aK · rfl aGU rfl rfl aGw),?_,oa (aC · rfl),oa (aC · rfl),oa (bQ · rfl rfl aHv aHN e64),oa (aK · rfl aGU rfl rfl aHu),?_,oc 1 (kd (dc3 · rfl rfl rfl Try.call89 (cK e69))),oa (fY · rfl rfl),aLj⟩
     .intro j h1 h2;have h1:0<=j:=h1;have h2:j<=1:=h2;rcases(by omega:j=0\/j=1) with rfl | rfl
      .exact kd (aJ · rfl aGT (bB e70))
      exact kd (aJ · rfl aGT (bB e58))
     .intro j h1 h2;have h1:0<=j:=h1;have h2:j<=1:=h2;rcases(by omega:j=0\/j=1) with rfl | rfl
      .exact kd (aJ · rfl aGy (aS e71))
      exact kd (aJ · rfl aGy (aS e62))
     intro j h1 h2;have h1:0<=j:=h1;have h2:j<=1:=h2;rcases(by omega:j=0\/j=1) with rfl | rfl
     .exact kd (aJ · rfl aHy (aV e72))
     exact kd (aJ · rfl aHy (aV e66))
    have u:Has 94 [(0,(Sl.v a0)),(4,(pV (some p1))),(7,(iV x25)),(78,(bV (v54 !=v67)))] a:=u.sb rfl;refine t_n<|?_;refine aX u rfl h (fun b73 h=>?_) (fun b73 h=>?_)
    .refine wp_seq<|aA<|qm u rfl fun a u=>qa u rfl fun a u=>qa u rfl fun a u=>aB<|t_n<|wp_ret<|b_r<|t_r<|t_r<|?_;exact hk34 (p1,false,w68) h _ (u.sb rfl)
    refine wp_skip<|b_n<|t_n<|aA<|qm u rfl fun a u=>q u (bJ u rfl rfl) fun a u=>qa u rfl fun a u=>aB<|?_;exact⟨((IntKind.wrap .i64 (x25+1)),w68),⟨u.sb rfl,rfl⟩,h⟩
   refine wp_exit<|t_x<|t_x<|?_;exact hk33 w37 h _ (u.sb rfl)
  refine aA<|qm u rfl fun a u=>qm u rfl fun a u=>q u (aZ u rfl aHv) fun a u=>q u (cY u rfl rfl) fun a u=>qm u rfl fun a u=>?_;refine iP h (fun b40 h=>?_) (fun b40 h=>?_)
  .refine qg u 42 b40 (aC u rfl) fun a u=>qg u 42 b40 (cY u rfl rfl) fun a u=>q u (aG u rfl b40 rfl) fun a u=>aB<|?_;exact hk39 ((decide (x25<200)),w26) h _ (u.sb rfl)
  refine qn u 42 (nm b40) fun a u=>qn u 42 (nm b40) fun a u=>q u (aL u rfl b40 rfl) fun a u=>aB<|?_;exact hk39 (false,w26) h _ (u.sb rfl)
 refine aA<|qm u rfl fun a u=>q u (fY u rfl rfl) fun a u=>qm u rfl fun a u=>?_;refine iP h (fun b20 h=>?_) (fun b20 h=>?_)
 .refine qn u 26 (tn b20) fun a u=>qn u 26 (tn b20) fun a u=>q u (aG u rfl b20 rfl) fun a u=>qm u rfl fun a u=>qn u 30 (tn rfl) fun a u=>qn u 30 (tn rfl) fun a u=>qn u 30 (tn rfl) fun a u=>qn u 30 (tn rfl) fun a u=>qn u 30 (tn rfl) fun a u=>q u (aG u rfl rfl rfl) fun a u=>aB<|?_;exact hk19 (true,w14) h _ (u.sb rfl)
 refine qg u 26 (nt b20) (aC u rfl) fun a u=>qg u 26 (nt b20) (fY u rfl rfl) fun a u=>q u (aL u rfl b20 rfl) fun a u=>qm u rfl fun a u=>?_;refine iP h (fun b21 h=>?_) (fun b21 h=>?_)
 .refine qn u 30 (tn b21) fun a u=>qn u 30 (tn b21) fun a u=>qn u 30 (tn b21) fun a u=>qn u 30 (tn b21) fun a u=>qn u 30 (tn b21) fun a u=>q u (aG u rfl b21 rfl) fun a u=>aB<|?_;exact hk19 (true,w14) h _ (u.sb rfl)
 refine qg u 30 (nt b21) (aC u rfl) fun a u=>qg u 30 (nt b21) (lP u rfl) fun a u=>qg u 30 (nt b21) (aK u rfl aGB rfl rfl aHd) fun a u=>?_;obtain⟨v22,e23,h⟩:=h;refine qg u 30 (nt b21) (aJ u rfl aHa (bB e23)) fun a u=>qg u 30 (nt b21) (jM u rfl rfl aHf) fun a u=>q u (aL u rfl b21 rfl) fun a u=>aB<|?_;exact hk19 ((v22.isNone),w14) h _ (u.sb rfl)
noncomputable def iN (a0:Int) (a1:Int) (w:World):Option (Int×World) :=
 (rmI (IntKind.wrap .u64 a1) 1000).bind fun v1 =>
 some ((IntKind.wrap .i64 ((IntKind.wrap .i64 (a0+1))+(IntKind.wrap .i64 v1))),w)
theorem qJ {a0 a1 w w' r0} (h:iN a0 a1 w=some (r0,w')):Calls Try.prog 91 #[(.int .i64 a0),(.int .i64 a1)] w fun e w''=>e=.returned (.int .i64 r0)/\w''=w':=by
 refine aR (n:=12) Try.func91 rfl Try.ntmps91 (by simp) fun a u=>?_;unfold iN at h;refine wp_seq<|aA<|qa u rfl fun a u=>aB<|t_n<|wp_seq<|aA<|qm u rfl fun a u=>q u (bJ u rfl rfl) fun a u=>qm u rfl fun a u=>q u (iR u rfl aGV aHg) fun a u=>?_;have⟨v1,e2,h⟩:=bs1 h;refine q u (sJ u rfl rfl e2) fun a u=>q u (iR u rfl aHg aGV) fun a u=>q u (bJ u rfl rfl) fun a u=>qa u rfl fun a u=>aB<|t_n<|wp_ret<|?_;have y:=u;cases h;exact bI Try.results91 y rfl ⟨rfl,rfl⟩
noncomputable def dZ (s41:Sl) (x60:Int) (w61:World):ND ((Int×World)⊕(World)) :=
 if (decide (x60<(s41.n:Int)))=true then
 (lb1 (ix s41 x60 1) fun p68 =>
 lb1 (ldI .u8 w61 p68) fun v70 =>
 lb1 (ix s41 x60 1) fun p72 =>
 lb1 (stV w61 p72 (.int .u8 (tX .u8 v70 65))) fun w74 =>
 aU (.inl ((IntKind.wrap .i64 (x60+1)),w74)))
 else
 (aU (.inr w61))
noncomputable def gZ (a0:Option Addr) (a1:List Value) (w:World):ND (Bool×World) :=
 lb2 (mk w 82 a1) fun p1 w2 =>
 lb1 (ldI .i64 w2 (p1.add 1)) fun v4 =>
 lb1 (ldI .i64 w2 (p1.add 0)) fun v6 =>
 cb2 (if (v6==0)=true then
 (aU ((v6==0),w2))
 else
 (aU ((v6==6),w2))) fun v8 w9 =>
 if v8=true then
 (cb2 (lb1 (ldI .i64 w9 (p1.add 0)) fun v18 =>
 if (v18==6)=true then
 (lb1 (dr w9) fun w21 =>
 lb1 (a0) fun p23 =>
 lb1 (ldP w21 (p23.add 3)) fun v25 =>
 lb1 (v25) fun p27 =>
 lb1 (ldI .i64 w21 ((p27.add 4).add 0)) fun v29 =>
 lb1 (ldI .i64 w21 (p1.add 1)) fun v31 =>
 lb2 (iN v29 v31 w21) fun v33 w34 =>
 aU (v33,w34))
 else
 (aU (v4,w9))) fun v14 w15 =>
 lb2 (bsl w15 5 1 []) fun s36 w37 =>
 lb1 (ldL w37 (p1.add 2)) fun v39 =>
 lb2 (apS Try.prog 72 s36 v39 w37) fun s41 w42 =>
 lb1 (a0) fun p44 =>
 lb1 (ldP w42 (p44.add 1)) fun v46 =>
 cb2 (jK v46 v14 s41 w42) fun v48 w49 =>
 lb1 (dr w49) fun w51 =>
 lb1 (ldP w51 (p44.add 3)) fun v53 =>
 lb1 (ldL w51 (p1.add 2)) fun v55 =>
 cb2 (fM v53 v14 v55 w51) fun v57 w58 =>
 cb1 (eQ (fun s:Int×World=>dZ s41 s.1 s.2) (0,w58)) fun w64 =>
 aU ((v48==v57),w64))
 else
 (if (v6==1)=true then
 (lb1 (dr w9) fun w78 =>
 lb1 (a0) fun p80 =>
 lb1 (ldP w78 (p80.add 1)) fun v82 =>
 lb2 (kO v82 w78) fun v84 w85 =>
 lb1 (ldP w85 (p80.add 3)) fun v87 =>
 lb2 (gM v87 w85) fun v89 w90 =>
 nck (ldP w78 (p80.add 3)=some v87) <|
 aU ((v84==v89),w90))
 else
 (if (v6==2)=true then
 (lb1 (dr w9) fun w94 =>
 lb1 (a0) fun p96 =>
 lb1 (ldP w94 (p96.add 1)) fun v98 =>
 lb2 (lM v98 v4 w94) fun v100 w101 =>
 lb1 (ldP w101 (p96.add 3)) fun v103 =>
 lb2 (gN v103 v4 w101) fun v105 w106 =>
 nck (ldP w94 (p96.add 3)=some v103) <|
 aU ((v100==v105),w106))
 else
 (if (v6==3)=true then
 (lb1 (dr w9) fun w110 =>
 lb1 (a0) fun p112 =>
 lb1 (ldP w110 (p112.add 0)) fun v114 =>
 lb2 (iK v114 v4 w110) fun v116 w117 =>
 lb1 (ldP w117 (p112.add 2)) fun v119 =>
 lb2 (dH v119 v4 w117) fun v121 w122 =>
 nck (ldP w110 (p112.add 2)=some v119) <|
 aU ((v116==v121),w122))
 else
 (if (v6==4)=true then
 (cb2 (lb1 (dr w9) fun w130 =>
 lb1 (a0) fun p132 =>
 lb1 (ldP w130 (p132.add 0)) fun v134 =>
 lb1 (ldL w130 (p1.add 3)) fun v136 =>
 lb2 (fV v134 v136 w130) fun v138 w139 =>
 lb1 (ldP w139 (p132.add 2)) fun v141 =>
 lb1 (ldL w139 (p1.add 3)) fun v143 =>
 lb2 (cZ v141 v143 w139) fun v145 w146 =>
 if (v138==v145)=true then
 (nck (ldP w130 (p132.add 2)=some v141) <|
 nck (ldL w130 (p1.add 3)=some v143) <|
 cb2 (eM a0 w146) fun v149 w150 =>
 aU (v149,w150))
 else
 (nck (ldP w130 (p132.add 2)=some v141) <|
 nck (ldL w130 (p1.add 3)=some v143) <|
 aU (false,w146))) fun v126 w127 =>
 aU (v126,w127))
 else
 (if (v6==5)=true then
 (lb1 (dr w9) fun w157 =>
 lb1 (a0) fun p159 =>
 lb1 (ldP w157 (p159.add 0)) fun v161 =>
 lb1 (ldL w157 (p1.add 2)) fun v163 =>
 lb2 (cC v161 v4 v163 w157) fun v165 w166 =>
 lb1 (ldP w166 (p159.add 2)) fun v168 =>
 lb1 (ldL w166 (p1.add 2)) fun v170 =>
 lb2 (bE v168 v4 v170 w166) fun v172 w173 =>
 nck (ldP w157 (p159.add 2)=some v168) <|
 nck (ldL w157 (p1.add 2)=some v170) <|
 aU ((v165==v172),w173))
 else
 (lb1 (dr w9) fun w177 =>
 lb1 (a0) fun p179 =>
 lb1 (ldP w177 (p179.add 0)) fun v181 =>
 lb2 (gX v181 w177) fun v183 w184 =>
 lb1 (ldP w184 (p179.add 2)) fun v186 =>
 lb1 (v186) fun p188 =>
 lb1 (ldL w184 (p188.add 1)) fun v190 =>
 nck (ldP w177 (p179.add 2)=some v186) <|
 nck (ldL w177 (p188.add 1)=some v190) <|
 aU ((v183==(v190.n:Int)),w184)))))))
theorem pO {a0 a1 w Q} (h:(gZ a0 a1 w).t Q):Calls Try.prog 46 #[(.pointer a0),(.agg (List.toArray a1))] w fun e w''=>∃ i,e=.returned (.bool i.1)/\Q i/\w''=i.2:=by
 refine aR (n:=162) Try.func46 rfl Try.ntmps46 (by simp) fun a u=>?_;unfold gZ at h;refine wp_seq<|aA<|?_;obtain⟨p1,w2,e3,h⟩:=h;refine q u (rF u rfl rfl e3) fun a u=>qa u rfl fun a u=>aB<|t_n<|wp_seq<|aA<|q u (aK u rfl aGU rfl rfl aGw) fun a u=>?_;obtain⟨v4,e5,h⟩:=h;refine q u (aJ u rfl aGy (aS e5)) fun a u=>qa u rfl fun a u=>aB<|t_n<|wp_seq<|wp_seq<|aA<|q u (aK u rfl aGU rfl rfl aGw) fun a u=>?_;obtain⟨v6,e7,h⟩:=h;refine q u (aJ u rfl aGy (aS e7)) fun a u=>aB<|t_n<|wp_block<|?_;refine iB (n:=162) (ι:=Bool×World) (Lf:=fun i=>[(14,(bV i.1)),(0,(pV a0)),(3,(pV (some p1))),(5,(iV v4)),(13,(iV v6))]) (wf:=fun i=>i.2) (un2 h) (fun i h a u=>?_) (fun h hk11=>?_)
 .obtain⟨v8,w9⟩:=i;have u:Has 162 [(14,(bV v8)),(0,(pV a0)),(3,(pV (some p1))),(5,(iV v4)),(13,(iV v6))] a:=u;refine aX u rfl h (fun b13 h=>?_) (fun b13 h=>?_)
  .refine iB (n:=162) (ι:=Int×World) (Lf:=fun i=>[(5,(iV i.1)),(0,(pV a0)),(3,(pV (some p1)))]) (wf:=fun i=>i.2) (un2 h) (fun i h a u=>?_) (fun h hk17=>?_)
   .obtain⟨v14,w15⟩:=i;have u:Has 162 [(5,(iV v14)),(0,(pV a0)),(3,(pV (some p1)))] a:=u;refine wp_seq<|aA<|?_;obtain⟨s36,w37,e38,h⟩:=h;refine q u (iL (vs:=[]) (ps:=[]) u trivial trivial rfl aGv aGE aHr (by decide) e38) fun a u=>q u (aK u rfl aGU rfl rfl aHu) fun a u=>?_;obtain⟨v39,e40,h⟩:=h;refine q u (aJ u rfl aHy (aV e40)) fun a u=>?_;obtain⟨s41,w42,e43,h⟩:=h;refine q u (iH u rfl rfl e43) fun a u=>qa u rfl fun a u=>aB<|t_n<|wp_seq<|aA<|qm u rfl fun a u=>?_;obtain⟨p44,e45,h⟩:=h;refine q u (aH u rfl e45) fun a u=>q u (aK u rfl aGB rfl rfl aGW) fun a u=>?_;obtain⟨v46,e47,h⟩:=h;refine q u (aJ u rfl aHc (bB e47)) fun a u=>qm u rfl fun a u=>qm u rfl fun a u=>?_;refine lI (ι:=Int×World) (pk:=fun i=>(iV i.1)) (wf:=fun i=>i.2) (xs:=[_,_,_]) (vs:=[(pV v46),(iV v14),(Sl.v s41)]) u ⟨rfl,rfl,rfl,aLj⟩ Try.call42 (oG (un2 h)) (fun i h a u=>?_);obtain⟨v48,w49⟩:=i;refine qa u rfl fun a u=>aB<|t_n<|wp_seq<|?_;obtain⟨w51,e52,h⟩:=h;obtain⟨v53,e54,h⟩:=h;obtain⟨v55,e56,h⟩:=h;have u:Has 162 [(0,(pV a0)),(3,(pV (some p1))),(5,(iV v14)),(6,(Sl.v s41)),(7,(iV v48))] a:=u.sb rfl;refine wH (n:=162) (ds:=(aQ (pV a0) 0 [] 0::aF (pV (some p44)) 0 [0] 42 (pV a0)::aF (pV (some (p44.add 3))) 0 [0,1] 43 (pV (some p44))::aF (pV v53) 0 [0,1,2] 44 (pV (some (p44.add 3)))::aQ (iV v14) 0 [] 5::aF (pV (some (p1.add 2))) 0 [] 3 (pV (some p1))::aF (Sl.v v55) 0 [5] 47 (pV (some (p1.add 2)))::[])) (B:=(_::_::[])) (W:=(fun _=>w51)) (m:=0) (by kernel_rfl) u (cR e52) (by kernel_rfl) (by kernel_rfl) ?_ (aT (by kernel_rfl)) (by kernel_rfl) (by kernel_rfl) (fun a u=>?_)
    .exact⟨oa (aC · rfl),oa (aH · rfl e45),oa (aK · rfl aGB rfl rfl aHU),oc (e:=false) 0 (kd (aJ · rfl aHW (bB e54))),oa (aC · rfl),oa (aK · rfl aGU rfl rfl aHu),oc (e:=false) 0 (kd (aJ · rfl aHy (aV e56))),aLj⟩
    have u:Has 162 [(48,(Sl.v v55)),(47,(pV (some (p1.add 2)))),(46,(iV v14)),(45,(pV v53)),(44,(pV (some (p44.add 3)))),(43,(pV (some p44))),(42,(pV a0)),(0,(pV a0)),(3,(pV (some p1))),(5,(iV v14)),(6,(Sl.v s41)),(7,(iV v48))] a:=u.sb rfl;refine aBl (p:=7) (by kernel_rfl)<|?_;refine aAl (ι:=Int×World) (pk:=fun i=>(iV i.1)) (wf:=fun i=>i.2) (xs:=[_,_,_]) (vs:=[(pV v53),(iV v14),(Sl.v v55)]) rfl (.inl rfl) u ⟨rfl,rfl,rfl,aLj⟩ Try.call92 (oB (un2 h)) (fun i h a u=>?_);obtain⟨v57,w58⟩:=i;refine uS (n:=162) (L0:=[(0,(pV a0)),(3,(pV (some p1))),(5,(iV v14)),(6,(Sl.v s41)),(7,(iV v48))]) (ds:=(aI (pV a0) false 0 9 [] [(0,(pV a0))]::aI (pV (some p44)) false 0 9 [0] [(42,(pV a0))]::aI (pV (some (p44.add 3))) false 0 9 [0,1] [(43,(pV (some p44)))]::aI (pV v53) false 0 9 [0,1,2] [(44,(pV (some (p44.add 3))))]::aI (iV v14) false 0 9 [] [(5,(iV v14))]::aI (pV (some (p1.add 2))) false 0 9 [] [(3,(pV (some p1)))]::aI (Sl.v v55) false 0 9 [5] [(47,(pV (some (p1.add 2))))]::aI (iV v57) false 0 9 (rn 0 7) [(45,(pV v53)),(46,(iV v14)),(48,(Sl.v v55))]::aQ (iV v57) 0 (rn 0 8) 49::[])) (W:=(fun _=>w58)) (p:=8) (q:=1) (m:=0) (by kernel_rfl) (by kernel_rfl) (by kernel_rfl) (by kernel_rfl) (by kernel_rfl) ?_ (aT (by kernel_rfl)) (by kernel_rfl) (by kernel_rfl) (u.sub ⟨rfl,rfl,rfl,rfl,rfl,rfl,rfl,rfl,rfl,rfl,rfl,rfl,rfl,aLj⟩) (fun a u=>?_)
    .refine zU (p:=8)<|?_;exact⟨oa (bA · rfl),aLj⟩
    have u:Has 162 [(6,(Sl.v s41)),(7,(iV v48)),(8,(iV v57))] a:=u.sb rfl;refine t_n<|wp_seq<|wp_seq<|aA<|qa u rfl fun a u=>aB<|t_n<|wp_block<|?_;refine lV (n:=162) (Lr:=fun i=>[(7,(iV v48)),(8,(iV v57))]) (wr:=fun i=>i) (e:=.exit 1) (I:=fun (s:Int×World) a w=>Has 162 [(9,(iV s.1)),(6,(Sl.v s41)),(7,(iV v48)),(8,(iV v57))] a/\w=s.2) (un1 h) ⟨u.sub ⟨rfl,rfl,rfl,rfl,aLj⟩,rfl⟩ (fun i h a u=>?_) (fun hk65=>?_)
    .obtain⟨w64,rfl⟩:∃ x,x=i:=⟨i,rfl⟩;have u:Has 162 [(7,(iV v48)),(8,(iV v57))] a:=u;refine dV<|t_n<|wp_seq<|aA<|qm u rfl fun a u=>qm u rfl fun a u=>q u (gL u rfl rfl) fun a u=>qa u rfl fun a u=>aB<|t_n<|wp_ret<|b_r<|t_r<|?_;exact bI Try.results46 u rfl ⟨((v48==v57),w64),rfl,h,rfl⟩
    clear h;intro hX76;rintro⟨x60,w61⟩ a wq ⟨u,hwq⟩ h;obtain rfl:w61=wq:=hwq.symm;have u:Has 162 [(9,(iV x60)),(6,(Sl.v s41)),(7,(iV v48)),(8,(iV v57))] a:=u;have h:(dZ s41 x60 w61).t _:=h;unfold dZ at h;refine wp_seq<|wp_seq<|aA<|qm u rfl fun a u=>qm u rfl fun a u=>q u (aZ u rfl aGv) fun a u=>q u (cY u rfl rfl) fun a u=>aB<|t_n<|?_;refine aX u rfl h (fun b67 h=>?_) (fun b67 h=>?_)
    .refine wp_skip<|t_n<|wp_seq<|wp_block<|aA<|qm u rfl fun a u=>qm u rfl fun a u=>?_;obtain⟨p68,e69,h⟩:=h;refine q u (bQ u rfl rfl aGv aGE e69) fun a u=>?_;obtain⟨v70,e71,h⟩:=h;refine q u (aJ u rfl aHe (aS e71)) fun a u=>q u (aDY u rfl rfl) fun a u=>?_;obtain⟨p72,e73,h⟩:=h;refine q u (bQ u rfl rfl aGv aGE e73) fun a u=>?_;obtain⟨w74,e75,h⟩:=h;refine q u (fN u rfl rfl aGE e75) fun a u=>aB<|b_n<|t_n<|aA<|qm u rfl fun a u=>q u (bJ u rfl rfl) fun a u=>qa u rfl fun a u=>aB<|?_;exact⟨((IntKind.wrap .i64 (x60+1)),w74),⟨u.sb rfl,rfl⟩,h⟩
    refine wp_exit<|t_x<|t_x<|?_;exact hk65 w61 h _ (u.sb rfl)
   refine wp_seq<|aA<|q u (aK u rfl aGU rfl rfl aGw) fun a u=>?_;obtain⟨v18,e19,h⟩:=h;refine q u (aJ u rfl aGy (aS e19)) fun a u=>q u (gL u rfl rfl) fun a u=>aB<|t_n<|?_;refine aX u rfl h (fun b20 h=>?_) (fun b20 h=>?_)
   .obtain⟨w21,e22,h⟩:=h;obtain⟨p23,e24,h⟩:=h;obtain⟨v25,e26,h⟩:=h;obtain⟨p27,e28,h⟩:=h;obtain⟨v29,e30,h⟩:=h;obtain⟨v31,e32,h⟩:=h;obtain⟨v33,w34,e35,h⟩:=h;have u:Has 162 [(0,(pV a0)),(3,(pV (some p1))),(5,(iV v4)),(19,(bV (v18==6)))] a:=u.sb rfl;refine aM (n:=162) (ds:=(aQ (pV a0) 0 [] 0::aF (pV (some p23)) 0 [0] 20 (pV a0)::aF (pV (some (p23.add 3))) 0 [0,1] 21 (pV (some p23))::aF (pV v25) 0 [0,1,2] 22 (pV (some (p23.add 3)))::aF (pV (some p27)) 0 (rn 0 4) 23 (pV v25)::aF (pV (some (p27.add 4))) 0 (rn 0 5) 24 (pV (some p27))::aF (pV (some ((p27.add 4).add 0))) 0 (rn 0 6) 25 (pV (some (p27.add 4)))::aF (iV v29) 0 (rn 0 7) 26 (pV (some ((p27.add 4).add 0)))::aF (pV (some (p1.add 1))) 0 [] 3 (pV (some p1))::aF (iV v31) 0 [8] 28 (pV (some (p1.add 1)))::aI (iV v33) true 0 0 (rn 0 10) [(27,(iV v29)),(29,(iV v31))]::aQ (iV v33) 1 (rn 0 11) 30::[])) (W:=(fun j=>match j with | 0=>w21 | 1=>w34 | _=>w34)) (by kernel_rfl) u (cR e22) (by kernel_rfl) ?_ (aT (by kernel_rfl)) (by kernel_rfl) (m:=1) (by kernel_rfl) (fun a u=>?_)
    .exact⟨oa (aC · rfl),oa (aH · rfl e24),oa (aK · rfl aGB rfl rfl aHU),oc 0 (kd (aJ · rfl aHW (bB e26))),oa (aH · rfl e28),oa (aK · rfl aGA rfl rfl aGP),oa (aK · rfl aGx rfl rfl aGw),oc 0 (kd (aJ · rfl aGy (aS e30))),oa (aK · rfl aGU rfl rfl aGw),oc 0 (kd (aJ · rfl aGy (aS e32))),oc 0 (kd (dc2 · rfl rfl Try.call91 (qJ e35))),oa (bA · rfl),aLj⟩
    have u:Has 162 [(0,(pV a0)),(3,(pV (some p1))),(5,(iV v33))] a:=u.sb rfl;exact hk17 (v33,w34) h _ (u.sb rfl)
   refine wp_skip<|?_;exact hk17 (v4,w9) h _ (u.sb rfl)
  refine wp_seq<|aA<|q u (gL u rfl rfl) fun a u=>qa u rfl fun a u=>aB<|t_n<|?_;refine aX u rfl h (fun b77 h=>?_) (fun b77 h=>?_)
  .refine wp_seq<|?_;obtain⟨w78,e79,h⟩:=h;obtain⟨p80,e81,h⟩:=h;obtain⟨v82,e83,h⟩:=h;obtain⟨v84,w85,e86,h⟩:=h;obtain⟨v87,e88,h⟩:=h;obtain⟨v89,w90,e91,h⟩:=h;obtain⟨e92,h⟩:=h;have u:Has 162 [(0,(pV a0)),(3,(pV (some p1))),(5,(iV v4)),(13,(iV v6)),(65,(bV (v6==1)))] a:=u.sb rfl;refine aM (n:=162) (ds:=(aQ (pV a0) 0 [] 0::aF (pV (some p80)) 0 [0] 67 (pV a0)::aF (pV (some (p80.add 1))) 0 [0,1] 68 (pV (some p80))::aF (pV v82) 0 [0,1,2] 69 (pV (some (p80.add 1)))::aI (iV v84) true 0 0 (rn 0 4) [(70,(pV v82))]::aI (pV a0) false 0 1 [] [(0,(pV a0))]::aI (pV (some p80)) false 0 1 [5] [(72,(pV a0))]::aI (pV (some (p80.add 3))) false 0 1 [5,6] [(73,(pV (some p80)))]::aI (pV v87) false 0 1 [5,6,7] [(74,(pV (some (p80.add 3))))]::aI (iV v89) true 1 1 (rn 0 9) [(75,(pV v87))]::aP (bV (v84==v89)) 2 (rn 0 10) [(71,(iV v84)),(76,(iV v89))]::aQ (bV (v84==v89)) 2 (rn 0 11) 77::[])) (W:=(fun j=>match j with | 0=>w78 | 1=>w85 | 2=>w90 | _=>w90)) (by kernel_rfl) u (cR e79) (by kernel_rfl) ?_ (aT (by kernel_rfl)) (by kernel_rfl) (m:=2) (by kernel_rfl) (fun a u=>?_)
   .refine⟨oa (aC · rfl),oa (aH · rfl e81),oa (aK · rfl aGB rfl rfl aGW),oc 0 (kd (aJ · rfl aHc (bB e83))),oc 0 (kd (dc1 · rfl Try.call41 (pT e86))),oa (aC · rfl),oa (aH · rfl e81),oa (aK · rfl aGB rfl rfl aHU),?_,oc 1 (kd (dc1 · rfl Try.call93 (pC e91))),oa (gL · rfl rfl),oa (bA · rfl),aLj⟩;intro j h1 h2;have h1:0<=j:=h1;have h2:j<=1:=h2;rcases(by omega:j=0\/j=1) with rfl | rfl
    .exact kd (aJ · rfl aHW (bB e92))
    exact kd (aJ · rfl aHW (bB e88))
   have u:Has 162 [(4,(bV (v84==v89)))] a:=u.sb rfl;refine t_n<|wp_ret<|b_r<|t_r<|?_;exact bI Try.results46 u rfl ⟨((v84==v89),w90),rfl,h,rfl⟩
  refine wp_seq<|aA<|q u (gL u rfl rfl) fun a u=>qa u rfl fun a u=>aB<|t_n<|?_;refine aX u rfl h (fun b93 h=>?_) (fun b93 h=>?_)
  .refine wp_seq<|?_;obtain⟨w94,e95,h⟩:=h;obtain⟨p96,e97,h⟩:=h;obtain⟨v98,e99,h⟩:=h;obtain⟨v100,w101,e102,h⟩:=h;obtain⟨v103,e104,h⟩:=h;obtain⟨v105,w106,e107,h⟩:=h;obtain⟨e108,h⟩:=h;have u:Has 162 [(0,(pV a0)),(3,(pV (some p1))),(5,(iV v4)),(13,(iV v6)),(78,(bV (v6==2)))] a:=u.sb rfl;refine aM (n:=162) (ds:=(aQ (pV a0) 0 [] 0::aF (pV (some p96)) 0 [0] 80 (pV a0)::aF (pV (some (p96.add 1))) 0 [0,1] 81 (pV (some p96))::aF (pV v98) 0 [0,1,2] 82 (pV (some (p96.add 1)))::aQ (iV v4) 0 [] 5::aI (iV v100) true 0 0 (rn 0 5) [(83,(pV v98)),(84,(iV v4))]::aI (pV a0) false 0 1 [] [(0,(pV a0))]::aI (pV (some p96)) false 0 1 [6] [(86,(pV a0))]::aI (pV (some (p96.add 3))) false 0 1 [6,7] [(87,(pV (some p96)))]::aI (pV v103) false 0 1 [6,7,8] [(88,(pV (some (p96.add 3))))]::aI (iV v4) false 0 1 [] [(5,(iV v4))]::aI (iV v105) true 1 1 (rn 0 11) [(89,(pV v103)),(90,(iV v4))]::aP (bV (v100==v105)) 2 (rn 0 12) [(85,(iV v100)),(91,(iV v105))]::aQ (bV (v100==v105)) 2 (rn 0 13) 92::[])) (W:=(fun j=>match j with | 0=>w94 | 1=>w101 | 2=>w106 | _=>w106)) (by kernel_rfl) u (cR e95) (by kernel_rfl) ?_ (aT (by kernel_rfl)) (by kernel_rfl) (m:=2) (by kernel_rfl) (fun a u=>?_)
   .refine⟨oa (aC · rfl),oa (aH · rfl e97),oa (aK · rfl aGB rfl rfl aGW),oc 0 (kd (aJ · rfl aHc (bB e99))),oa (aC · rfl),oc 0 (kd (dc2 · rfl rfl Try.call43 (tI e102))),oa (aC · rfl),oa (aH · rfl e97),oa (aK · rfl aGB rfl rfl aHU),?_,oa (aC · rfl),oc 1 (kd (dc2 · rfl rfl Try.call94 (pG e107))),oa (gL · rfl rfl),oa (bA · rfl),aLj⟩;intro j h1 h2;have h1:0<=j:=h1;have h2:j<=1:=h2;rcases(by omega:j=0\/j=1) with rfl | rfl
    .exact kd (aJ · rfl aHW (bB e108))
    exact kd (aJ · rfl aHW (bB e104))
   have u:Has 162 [(4,(bV (v100==v105)))] a:=u.sb rfl;refine t_n<|wp_ret<|b_r<|t_r<|?_;exact bI Try.results46 u rfl ⟨((v100==v105),w106),rfl,h,rfl⟩
  refine wp_seq<|aA<|q u (gL u rfl rfl) fun a u=>qa u rfl fun a u=>aB<|t_n<|?_;refine aX u rfl h (fun b109 h=>?_) (fun b109 h=>?_)
  .refine wp_seq<|?_;obtain⟨w110,e111,h⟩:=h;obtain⟨p112,e113,h⟩:=h;obtain⟨v114,e115,h⟩:=h;obtain⟨v116,w117,e118,h⟩:=h;obtain⟨v119,e120,h⟩:=h;obtain⟨v121,w122,e123,h⟩:=h;obtain⟨e124,h⟩:=h;have u:Has 162 [(0,(pV a0)),(3,(pV (some p1))),(5,(iV v4)),(13,(iV v6)),(93,(bV (v6==3)))] a:=u.sb rfl;refine aM (n:=162) (ds:=(aQ (pV a0) 0 [] 0::aF (pV (some p112)) 0 [0] 95 (pV a0)::aF (pV (some (p112.add 0))) 0 [0,1] 96 (pV (some p112))::aF (pV v114) 0 [0,1,2] 97 (pV (some (p112.add 0)))::aQ (iV v4) 0 [] 5::aI (iV v116) true 0 0 (rn 0 5) [(98,(pV v114)),(99,(iV v4))]::aI (pV a0) false 0 1 [] [(0,(pV a0))]::aI (pV (some p112)) false 0 1 [6] [(101,(pV a0))]::aI (pV (some (p112.add 2))) false 0 1 [6,7] [(102,(pV (some p112)))]::aI (pV v119) false 0 1 [6,7,8] [(103,(pV (some (p112.add 2))))]::aI (iV v4) false 0 1 [] [(5,(iV v4))]::aI (iV v121) true 1 1 (rn 0 11) [(104,(pV v119)),(105,(iV v4))]::aP (bV (v116==v121)) 2 (rn 0 12) [(100,(iV v116)),(106,(iV v121))]::aQ (bV (v116==v121)) 2 (rn 0 13) 107::[])) (W:=(fun j=>match j with | 0=>w110 | 1=>w117 | 2=>w122 | _=>w122)) (by kernel_rfl) u (cR e111) (by kernel_rfl) ?_ (aT (by kernel_rfl)) (by kernel_rfl) (m:=2) (by kernel_rfl) (fun a u=>?_)
   .refine⟨oa (aC · rfl),oa (aH · rfl e113),oa (aK · rfl aGB rfl rfl aHd),oc 0 (kd (aJ · rfl aHa (bB e115))),oa (aC · rfl),oc 0 (kd (dc2 · rfl rfl Try.call35 (sD e118))),oa (aC · rfl),oa (aH · rfl e113),oa (aK · rfl aGB rfl rfl aGZ),?_,oa (aC · rfl),oc 1 (kd (dc2 · rfl rfl Try.call95 (oN e123))),oa (gL · rfl rfl),oa (bA · rfl),aLj⟩;intro j h1 h2;have h1:0<=j:=h1;have h2:j<=1:=h2;rcases(by omega:j=0\/j=1) with rfl | rfl
    .exact kd (aJ · rfl aGT (bB e124))
    exact kd (aJ · rfl aGT (bB e120))
   have u:Has 162 [(4,(bV (v116==v121)))] a:=u.sb rfl;refine t_n<|wp_ret<|b_r<|t_r<|?_;exact bI Try.results46 u rfl ⟨((v116==v121),w122),rfl,h,rfl⟩
  refine wp_seq<|aA<|q u (gL u rfl rfl) fun a u=>qa u rfl fun a u=>aB<|t_n<|?_;refine aX u rfl h (fun b125 h=>?_) (fun b125 h=>?_)
  .refine wp_seq<|?_;refine dE (n:=162) (ι:=Bool×World) (Lf:=fun i=>[(4,(bV i.1))]) (wf:=fun i=>i.2) (un2 h) (fun i h a u=>?_) (fun h hk129=>?_)
   .obtain⟨v126,w127⟩:=i;have u:Has 162 [(4,(bV v126))] a:=u;refine t_n<|wp_ret<|b_r<|t_r<|?_;exact bI Try.results46 u rfl ⟨(v126,w127),rfl,h,rfl⟩
   obtain⟨w130,e131,h⟩:=h;obtain⟨p132,e133,h⟩:=h;obtain⟨v134,e135,h⟩:=h;obtain⟨v136,e137,h⟩:=h;obtain⟨v138,w139,e140,h⟩:=h;obtain⟨v141,e142,h⟩:=h;obtain⟨v143,e144,h⟩:=h;obtain⟨v145,w146,e147,h⟩:=h;refine iP h (fun b148 h=>?_) (fun b148 h=>?_)
   .obtain⟨e152,h⟩:=h;obtain⟨e153,h⟩:=h;have u:Has 162 [(0,(pV a0)),(3,(pV (some p1))),(5,(iV v4)),(13,(iV v6)),(108,(bV (v6==4)))] a:=u.sb rfl;refine wH (n:=162) (ds:=(aQ (pV a0) 0 [] 0::aF (pV (some p132)) 0 [0] 110 (pV a0)::aF (pV (some (p132.add 0))) 0 [0,1] 111 (pV (some p132))::aF (pV v134) 0 [0,1,2] 112 (pV (some (p132.add 0)))::aF (pV (some (p1.add 3))) 0 [] 3 (pV (some p1))::aF (Sl.v v136) 0 [4] 114 (pV (some (p1.add 3)))::aI (iV v138) true 0 0 (rn 0 6) [(113,(pV v134)),(115,(Sl.v v136))]::aI (pV a0) false 0 1 [] [(0,(pV a0))]::aI (pV (some p132)) false 0 1 [7] [(117,(pV a0))]::aI (pV (some (p132.add 2))) false 0 1 [7,8] [(118,(pV (some p132)))]::aI (pV v141) false 0 1 [7,8,9] [(119,(pV (some (p132.add 2))))]::aI (pV (some (p1.add 3))) false 0 1 [] [(3,(pV (some p1)))]::aI (Sl.v v143) false 0 1 [11] [(121,(pV (some (p1.add 3))))]::aI (iV v145) true 1 1 (rn 0 13) [(120,(pV v141)),(122,(Sl.v v143))]::aP (bV (v138==v145)) 2 (rn 0 14) [(116,(iV v138)),(123,(iV v145))]::aQ (bV (v138==v145)) 2 (rn 0 15) 124::aP (pV a0) 2 (rn 0 16) [(0,(pV a0)),(125,(bV (v138==v145)))]::[])) (B:=(_::_::_::[])) (W:=(fun j=>match j with | 0=>w130 | 1=>w139 | 2=>w146 | _=>w146)) (m:=2) (by kernel_rfl) u (cR e131) (by kernel_rfl) (by kernel_rfl) ?_ (aT (by kernel_rfl)) (by kernel_rfl) (by kernel_rfl) (fun a u=>?_)
    .refine⟨oa (aC · rfl),oa (aH · rfl e133),oa (aK · rfl aGB rfl rfl aHd),oc 0 (kd (aJ · rfl aHa (bB e135))),oa (aK · rfl aGU rfl rfl aIb),oc 0 (kd (aJ · rfl aHX (aV e137))),oc 0 (kd (dc2 · rfl rfl Try.call79 (lZ e140))),oa (aC · rfl),oa (aH · rfl e133),oa (aK · rfl aGB rfl rfl aGZ),?_,oa (aK · rfl aGU rfl rfl aIb),?_,oc 1 (kd (dc2 · rfl rfl Try.call96 (kY e147))),oa (gL · rfl rfl),oa (aC · rfl),oag 125 b148 (aC · rfl),aLj⟩
     .intro j h1 h2;have h1:0<=j:=h1;have h2:j<=1:=h2;rcases(by omega:j=0\/j=1) with rfl | rfl
      .exact kd (aJ · rfl aGT (bB e152))
      exact kd (aJ · rfl aGT (bB e142))
     intro j h1 h2;have h1:0<=j:=h1;have h2:j<=1:=h2;rcases(by omega:j=0\/j=1) with rfl | rfl
     .exact kd (aJ · rfl aHX (aV e153))
     exact kd (aJ · rfl aHX (aV e144))
    have u:Has 162 [(126,(pV a0)),(125,(bV (v138==v145))),(124,(bV (v138==v145))),(123,(iV v145)),(122,(Sl.v v143)),(121,(pV (some (p1.add 3)))),(120,(pV v141)),(119,(pV (some (p132.add 2)))),(118,(pV (some p132))),(117,(pV a0)),(116,(iV v138)),(115,(Sl.v v136)),(114,(pV (some (p1.add 3)))),(113,(pV v134)),(112,(pV (some (p132.add 0)))),(111,(pV (some p132))),(110,(pV a0)),(0,(pV a0)),(3,(pV (some p1))),(5,(iV v4)),(13,(iV v6)),(108,(bV (v6==4)))] a:=u.sb rfl;refine aBl (p:=17) (by kernel_rfl)<|?_;refine aAl (ι:=Bool×World) (pk:=fun i=>(bV i.1)) (wf:=fun i=>i.2) (xs:=[_]) (vs:=[(pV a0)]) rfl (.inr ⟨_,_,125,_,rfl,rfl,rfl,b148⟩) u ⟨rfl,aLj⟩ Try.call90 (lH (un2 h)) (fun i h a u=>?_);obtain⟨v149,w150⟩:=i;refine uS (n:=162) (L0:=[(0,(pV a0)),(3,(pV (some p1))),(5,(iV v4)),(13,(iV v6)),(108,(bV (v6==4)))]) (ds:=(aI (pV a0) false 0 20 [] [(0,(pV a0))]::aI (pV (some p132)) false 0 20 [0] [(110,(pV a0))]::aI (pV (some (p132.add 0))) false 0 20 [0,1] [(111,(pV (some p132)))]::aI (pV v134) false 0 20 [0,1,2] [(112,(pV (some (p132.add 0))))]::aI (pV (some (p1.add 3))) false 0 20 [] [(3,(pV (some p1)))]::aI (Sl.v v136) false 0 20 [4] [(114,(pV (some (p1.add 3))))]::aI (iV v138) false 0 20 (rn 0 6) [(113,(pV v134)),(115,(Sl.v v136))]::aI (pV a0) false 0 20 [] [(0,(pV a0))]::aI (pV (some p132)) false 0 20 [7] [(117,(pV a0))]::aI (pV (some (p132.add 2))) false 0 20 [7,8] [(118,(pV (some p132)))]::aI (pV v141) false 0 20 [7,8,9] [(119,(pV (some (p132.add 2))))]::aI (pV (some (p1.add 3))) false 0 20 [] [(3,(pV (some p1)))]::aI (Sl.v v143) false 0 20 [11] [(121,(pV (some (p1.add 3))))]::aI (iV v145) false 0 20 (rn 0 13) [(120,(pV v141)),(122,(Sl.v v143))]::aI (bV (v138==v145)) false 0 20 (rn 0 14) [(116,(iV v138)),(123,(iV v145))]::aI (bV (v138==v145)) false 0 20 (rn 0 15) [(124,(bV (v138==v145)))]::aI (pV a0) false 0 20 (rn 0 16) [(0,(pV a0)),(125,(bV (v138==v145)))]::aI (bV v149) false 0 20 (rn 0 17) [(126,(pV a0)),(125,(bV (v138==v145)))]::aP (bV v149) 0 (rn 0 18) [(125,(bV (v138==v145))),(127,(bV v149))]::aQ (bV v149) 0 (rn 0 19) 128::[])) (W:=(fun _=>w150)) (p:=18) (q:=2) (m:=0) (by kernel_rfl) (by kernel_rfl) (by kernel_rfl) (by kernel_rfl) (by kernel_rfl) ?_ (aT (by kernel_rfl)) (by kernel_rfl) (by kernel_rfl) (u.sub ⟨rfl,rfl,rfl,rfl,rfl,rfl,rfl,rfl,rfl,rfl,rfl,rfl,rfl,rfl,rfl,rfl,rfl,rfl,rfl,rfl,rfl,rfl,rfl,aLj⟩) (fun a u=>?_)
    .refine zU (p:=18)<|?_;exact⟨oa (aG · rfl b148 rfl),oa (bA · rfl),aLj⟩
    have u:Has 162 [(4,(bV v149))] a:=u.sb rfl;exact hk129 (v149,w150) h _ (u.sb rfl)
   obtain⟨e154,h⟩:=h;obtain⟨e155,h⟩:=h;have u:Has 162 [(0,(pV a0)),(3,(pV (some p1))),(5,(iV v4)),(13,(iV v6)),(108,(bV (v6==4)))] a:=u.sb rfl;refine aM (n:=162) (ds:=(aQ (pV a0) 0 [] 0::aF (pV (some p132)) 0 [0] 110 (pV a0)::aF (pV (some (p132.add 0))) 0 [0,1] 111 (pV (some p132))::aF (pV v134) 0 [0,1,2] 112 (pV (some (p132.add 0)))::aF (pV (some (p1.add 3))) 0 [] 3 (pV (some p1))::aF (Sl.v v136) 0 [4] 114 (pV (some (p1.add 3)))::aI (iV v138) true 0 0 (rn 0 6) [(113,(pV v134)),(115,(Sl.v v136))]::aI (pV a0) false 0 1 [] [(0,(pV a0))]::aI (pV (some p132)) false 0 1 [7] [(117,(pV a0))]::aI (pV (some (p132.add 2))) false 0 1 [7,8] [(118,(pV (some p132)))]::aI (pV v141) false 0 1 [7,8,9] [(119,(pV (some (p132.add 2))))]::aI (pV (some (p1.add 3))) false 0 1 [] [(3,(pV (some p1)))]::aI (Sl.v v143) false 0 1 [11] [(121,(pV (some (p1.add 3))))]::aI (iV v145) true 1 1 (rn 0 13) [(120,(pV v141)),(122,(Sl.v v143))]::aP (bV (v138==v145)) 2 (rn 0 14) [(116,(iV v138)),(123,(iV v145))]::aQ (bV (v138==v145)) 2 (rn 0 15) 124::aF (undef) 2 (rn 0 16) 125 (bV (v138==v145))::aF (undef) 2 (rn 0 17) 125 (bV (v138==v145))::aP (bV false) 2 (rn 0 18) [(125,(bV (v138==v145))),(127,undef)]::aQ (bV false) 2 (rn 0 19) 128::[])) (W:=(fun j=>match j with | 0=>w130 | 1=>w139 | 2=>w146 | _=>w146)) (by kernel_rfl) u (cR e131) (by kernel_rfl) ?_ (aT (by kernel_rfl)) (by kernel_rfl) (m:=2) (by kernel_rfl) (fun a u=>?_)
   .refine⟨oa (aC · rfl),oa (aH · rfl e133),oa (aK · rfl aGB rfl rfl aHd),oc 0 (kd (aJ · rfl aHa (bB e135))),oa (aK · rfl aGU rfl rfl aIb),oc 0 (kd (aJ · rfl aHX (aV e137))),oc 0 (kd (dc2 · rfl rfl Try.call79 (lZ e140))),oa (aC · rfl),oa (aH · rfl e133),oa (aK · rfl aGB rfl rfl aGZ),?_,oa (aK · rfl aGU rfl rfl aIb),?_,oc 1 (kd (dc2 · rfl rfl Try.call96 (kY e147))),oa (gL · rfl rfl),oa (aC · rfl),on 125 (nm b148),on 125 (nm b148),oa (aL · rfl b148 rfl),oa (bA · rfl),aLj⟩
    .intro j h1 h2;have h1:0<=j:=h1;have h2:j<=1:=h2;rcases(by omega:j=0\/j=1) with rfl | rfl
     .exact kd (aJ · rfl aGT (bB e154))
     exact kd (aJ · rfl aGT (bB e142))
    intro j h1 h2;have h1:0<=j:=h1;have h2:j<=1:=h2;rcases(by omega:j=0\/j=1) with rfl | rfl
    .exact kd (aJ · rfl aHX (aV e155))
    exact kd (aJ · rfl aHX (aV e144))
   have u:Has 162 [(4,(bV false))] a:=u.sb rfl;exact hk129 (false,w146) h _ (u.sb rfl)
  refine wp_seq<|aA<|q u (gL u rfl rfl) fun a u=>qa u rfl fun a u=>aB<|t_n<|?_;refine aX u rfl h (fun b156 h=>?_) (fun b156 h=>?_)
  .refine wp_seq<|?_;obtain⟨w157,e158,h⟩:=h;obtain⟨p159,e160,h⟩:=h;obtain⟨v161,e162,h⟩:=h;obtain⟨v163,e164,h⟩:=h;obtain⟨v165,w166,e167,h⟩:=h;obtain⟨v168,e169,h⟩:=h;obtain⟨v170,e171,h⟩:=h;obtain⟨v172,w173,e174,h⟩:=h;obtain⟨e175,h⟩:=h;obtain⟨e176,h⟩:=h;have u:Has 162 [(0,(pV a0)),(3,(pV (some p1))),(5,(iV v4)),(129,(bV (v6==5)))] a:=u.sb rfl;refine aM (n:=162) (ds:=(aQ (pV a0) 0 [] 0::aF (pV (some p159)) 0 [0] 131 (pV a0)::aF (pV (some (p159.add 0))) 0 [0,1] 132 (pV (some p159))::aF (pV v161) 0 [0,1,2] 133 (pV (some (p159.add 0)))::aQ (iV v4) 0 [] 5::aF (pV (some (p1.add 2))) 0 [] 3 (pV (some p1))::aF (Sl.v v163) 0 [5] 136 (pV (some (p1.add 2)))::aI (iV v165) true 0 0 (rn 0 7) [(134,(pV v161)),(135,(iV v4)),(137,(Sl.v v163))]::aI (pV a0) false 0 1 [] [(0,(pV a0))]::aI (pV (some p159)) false 0 1 [8] [(139,(pV a0))]::aI (pV (some (p159.add 2))) false 0 1 [8,9] [(140,(pV (some p159)))]::aI (pV v168) false 0 1 [8,9,10] [(141,(pV (some (p159.add 2))))]::aI (iV v4) false 0 1 [] [(5,(iV v4))]::aI (pV (some (p1.add 2))) false 0 1 [] [(3,(pV (some p1)))]::aI (Sl.v v170) false 0 1 [13] [(144,(pV (some (p1.add 2))))]::aI (iV v172) true 1 1 (rn 0 15) [(142,(pV v168)),(143,(iV v4)),(145,(Sl.v v170))]::aP (bV (v165==v172)) 2 (rn 0 16) [(138,(iV v165)),(146,(iV v172))]::aQ (bV (v165==v172)) 2 (rn 0 17) 147::[])) (W:=(fun j=>match j with | 0=>w157 | 1=>w166 | 2=>w173 | _=>w173)) (by kernel_rfl) u (cR e158) (by kernel_rfl) ?_ (aT (by kernel_rfl)) (by kernel_rfl) (m:=2) (by kernel_rfl) (fun a u=>?_)
   .refine⟨oa (aC · rfl),oa (aH · rfl e160),oa (aK · rfl aGB rfl rfl aHd),oc 0 (kd (aJ · rfl aHa (bB e162))),oa (aC · rfl),oa (aK · rfl aGU rfl rfl aHu),oc 0 (kd (aJ · rfl aHy (aV e164))),oc 0 (kd (dc3 · rfl rfl rfl Try.call84 (fF e167))),oa (aC · rfl),oa (aH · rfl e160),oa (aK · rfl aGB rfl rfl aGZ),?_,oa (aC · rfl),oa (aK · rfl aGU rfl rfl aHu),?_,oc 1 (kd (dc3 · rfl rfl rfl Try.call89 (cK e174))),oa (gL · rfl rfl),oa (bA · rfl),aLj⟩
    .intro j h1 h2;have h1:0<=j:=h1;have h2:j<=1:=h2;rcases(by omega:j=0\/j=1) with rfl | rfl
     .exact kd (aJ · rfl aGT (bB e175))
     exact kd (aJ · rfl aGT (bB e169))
    intro j h1 h2;have h1:0<=j:=h1;have h2:j<=1:=h2;rcases(by omega:j=0\/j=1) with rfl | rfl
    .exact kd (aJ · rfl aHy (aV e176))
    exact kd (aJ · rfl aHy (aV e171))
   have u:Has 162 [(4,(bV (v165==v172)))] a:=u.sb rfl;refine t_n<|wp_ret<|b_r<|t_r<|?_;exact bI Try.results46 u rfl ⟨((v165==v172),w173),rfl,h,rfl⟩
  refine wp_skip<|b_n<|t_n<|wp_seq<|?_;obtain⟨w177,e178,h⟩:=h;obtain⟨p179,e180,h⟩:=h;obtain⟨v181,e182,h⟩:=h;obtain⟨v183,w184,e185,h⟩:=h;obtain⟨v186,e187,h⟩:=h;obtain⟨p188,e189,h⟩:=h;obtain⟨v190,e191,h⟩:=h;obtain⟨e192,h⟩:=h;obtain⟨e193,h⟩:=h;have u:Has 162 [(0,(pV a0))] a:=u.sb rfl;refine aM (n:=162) (ds:=(aQ (pV a0) 0 [] 0::aF (pV (some p179)) 0 [0] 148 (pV a0)::aF (pV (some (p179.add 0))) 0 [0,1] 149 (pV (some p179))::aF (pV v181) 0 [0,1,2] 150 (pV (some (p179.add 0)))::aI (iV v183) true 0 0 (rn 0 4) [(151,(pV v181))]::aI (pV a0) false 0 1 [] [(0,(pV a0))]::aI (pV (some p179)) false 0 1 [5] [(153,(pV a0))]::aI (pV (some (p179.add 2))) false 0 1 [5,6] [(154,(pV (some p179)))]::aI (pV v186) false 0 1 [5,6,7] [(155,(pV (some (p179.add 2))))]::aI (pV (some p188)) false 0 1 (rn 5 4) [(156,(pV v186))]::aI (pV (some (p188.add 1))) false 0 1 (rn 5 5) [(157,(pV (some p188)))]::aI (Sl.v v190) false 0 1 (rn 5 6) [(158,(pV (some (p188.add 1))))]::aI (iV (v190.n:Int)) false 0 1 (rn 5 7) [(159,(Sl.v v190))]::aP (bV (v183==(v190.n:Int))) 1 (rn 0 13) [(152,(iV v183)),(160,(iV (v190.n:Int)))]::aQ (bV (v183==(v190.n:Int))) 1 (rn 0 14) 161::[])) (W:=(fun j=>match j with | 0=>w177 | 1=>w184 | _=>w184)) (by kernel_rfl) u (cR e178) (by kernel_rfl) ?_ (aT (by kernel_rfl)) (by kernel_rfl) (m:=1) (by kernel_rfl) (fun a u=>?_)
  .refine⟨oa (aC · rfl),oa (aH · rfl e180),oa (aK · rfl aGB rfl rfl aHd),oc 0 (kd (aJ · rfl aHa (bB e182))),oc 0 (kd (dc1 · rfl Try.call34 (rR e185))),oa (aC · rfl),oa (aH · rfl e180),oa (aK · rfl aGB rfl rfl aGZ),?_,oa (aH · rfl e189),oa (aK · rfl aGD rfl rfl aHq),?_,oa (aZ · rfl aHp),oa (gL · rfl rfl),oa (bA · rfl),aLj⟩
   .intro j h1 h2;have h1:0<=j:=h1;have h2:j<=1:=h2;rcases(by omega:j=0\/j=1) with rfl | rfl
    .exact kd (aJ · rfl aGT (bB e192))
    exact kd (aJ · rfl aGT (bB e187))
   intro j h1 h2;have h1:0<=j:=h1;have h2:j<=1:=h2;rcases(by omega:j=0\/j=1) with rfl | rfl
   .exact kd (aJ · rfl aHG (aV e193))
   exact kd (aJ · rfl aHG (aV e191))
  have u:Has 162 [(4,(bV (v183==(v190.n:Int))))] a:=u.sb rfl;refine t_n<|wp_ret<|?_;exact bI Try.results46 u rfl ⟨((v183==(v190.n:Int)),w184),rfl,h,rfl⟩
 refine wp_seq<|aA<|q u (gL u rfl rfl) fun a u=>qa u rfl fun a u=>aB<|t_n<|?_;refine aX u rfl h (fun b12 h=>?_) (fun b12 h=>?_)
 .refine wp_skip<|?_;exact hk11 ((v6==0),w2) h _ (u.sb rfl)
 refine aA<|q u (gL u rfl rfl) fun a u=>qa u rfl fun a u=>aB<|?_;exact hk11 ((v6==6),w2) h _ (u.sb rfl)
structure Dg where
 k:Int
 n:Int
 bs:List Int
 fs:List Int
def dgR (g:Gh) (w:World) (cs:List Value) (d:Dg):Prop:=∃ b f:Sl,cs=[.int .i64 d.k,.int .i64 d.n,b.v,f.v]/\PR g w b 1 (nums .u8 d.bs)/\PR g w f 1 (nums .i64 d.fs)/\bW d.bs/\-9223372036854775808<=d.n/\d.n<=9223372036854775807/\b.n<=140737488351232
theorem aDq {g g':Gh} {w w':World} {cs:List Value} {d:Dg} (h:dgR g w cs d) (m:Mo g w g' w'):dgR g' w' cs d:=by
 obtain⟨b,f,e,h1,h2,h3⟩:=h;exact⟨b,f,e,h1.mo m,h2.mo m,h3⟩
def aAF (a n:Int):Int:=IntKind.wrap .i64 (IntKind.wrap .i64 (a+1)+IntKind.wrap .i64 ((IntKind.wrap .u64 n).tmod 1000))
def vU (l:Lg) (d:Dg):Int:=if d.k=6 then aAF l.high d.n else d.n
def jF (s:Dk×Lg) (d:Dg):Dk×Lg :=
 if d.k=0\/d.k=6 then (s.1.appendL s.2 (vU s.2 d) d.bs).2 else if d.k=1 then ((s.1.syncL s.2).2,s.2) else if d.k=2 then (s.1.chopL s.2 d.n).2 else if d.k=3 then ((s.1.trip d.n).2,s.2) else
 if d.k=4 then (((s.1.crash d.fs).openL 1 3).2.1,((s.1.crash d.fs).openL 1 3).2.2.getD s.2) else if d.k=5 then ((s.1.write d.n d.bs).2,s.2) else s
structure aER (D:Dk) (l:Lg):Prop where
 bt:D.Bt
 n:D.S.length=52
 wf:l.Wf
 b:l.base=1
 s:l.segs=3
theorem aGb {D:Dk} (h:D.S.length=52):mT D.S.length 1 3=true:=by rw[h];rfl
theorem sR {D:Dk} {fs:List Int}:(D.crash fs).Calm:=⟨rfl,rfl⟩
theorem yA {D:Dk} (hb:D.Bt) (hn:D.S.length=52) (hc:D.Calm):∃ l,(D.openL 1 3).2.2=some l/\(D.openL 1 3).1=0/\aER (D.openL 1 3).2.1 l/\(D.openL 1 3).2.1.Calm/\(D.openL 1 3).2.1.W.length<=D.W.length+1000/\l.age=D.age:=by
 obtain⟨e,c,l,hl⟩:=aCb hc (aGb hn);obtain⟨h1,h2,h3,h4,h5⟩:=aEz hb (by omega) hl;have ht:=aEm (D:=D) (base:=1) (segs:=3);exact⟨l,hl,e,⟨ht.b hb,by rw[ht.s,hn],h1,h2,h3⟩,c,ht.w,h4⟩
theorem xI {D:Dk} {l:Lg} (h:aER D l) {d:Dg} (hb:bW d.bs):aER (jF (D,l) d).1 (jF (D,l) d).2/\(jF (D,l) d).1.W.length<=D.W.length+1000:=by
 unfold jF;simp only;split
 .have h1:=xK D l (vU l d) hb;have h2:=aBW (D:=D) (t:=vU l d) h.wf hb;exact⟨⟨h1.b h.bt,by rw[h1.s,h.n],h2.1,by rw[h2.2.1,h.b],by rw[h2.2.2.1,h.s]⟩,h1.w⟩
 split
 .have h1:=wG D l;exact⟨⟨h1.b h.bt,by rw[h1.s,h.n],h.wf,h.b,h.s⟩,by have:=h1.w;simp only;omega⟩
 split
 .have h1:=aEG D l d.n h.wf.len;have h2:=aEe (D:=D) (t:=d.n) h.wf;exact⟨⟨h1.b h.bt,by rw[h1.s,h.n],h2.1,by rw[h2.2.1,h.b],by rw[h2.2.2.1,h.s]⟩,h1.w⟩
 split
 .obtain⟨h1,h2⟩:=aFJ D d.n;exact⟨⟨⟨by rw[h1];exact h.bt.s,by rw[h2];exact h.bt.w⟩,by rw[h1,h.n],h.wf,h.b,h.s⟩,by simp only;rw[h2];omega⟩
 split
 .obtain⟨k,hk,-,ho,-,hw,-⟩:=yA (h.bt.crash d.fs) (by rw[yH h.bt,h.n]) (sR (D:=D) (fs:=d.fs));rw[hk];have:(D.crash d.fs).W.length=0:=rfl;exact⟨ho,by simp only;omega⟩
 split
 .have h1:=mS D d.n hb;exact⟨⟨h1.b h.bt,by rw[h1.s,h.n],h.wf,h.b,h.s⟩,by have:=h1.w;simp only;omega⟩
 exact⟨h,by simp only;omega⟩
def pgC (x c y e:Nat):List Value:=[.pointer (some ⟨x,0,none⟩),.pointer (some ⟨c,0,none⟩),.pointer (some ⟨y,0,none⟩),.pointer (some ⟨e,0,none⟩)]
abbrev pgR (p x c y e:Nat):Rs:=bxR p (pgC x c y e) 85
structure Pg (F0:Nat->Prop) (g0:Gh) (w0:World) (g:Gh) (w:World) (p x c y e:Nat) (s:Dk×Lg) (L:List Rs):Prop where
 H:Hp F0 g0 w0 g w (pgR p x c y e::dkR x s.1::rdR y s.1::lgR c x s.2::rlR e y s.2::L)
 ok:aER s.1 s.2
section
variable {F0 : Nat -> Prop} {g g' g0 : Gh} {w w' w0 : World} {L : List Rs} {p x y c e : Nat} {D : Dk} {l : Lg} {a b r s t : Rs}
theorem Hp.s2 (H:Hp F0 g0 w0 g w (a::b::r::L)):Hp F0 g0 w0 g w (a::r::b::L):=⟨H.sp,H.sep.cons fun _ h=>h.sw⟩
theorem Hp.t2 (H:Hp F0 g0 w0 g w (a::b::r::s::t::L)):Hp F0 g0 w0 g w (a::b::s::t::r::L):=⟨H.sp,H.sep.cons fun _ h=>h.cons fun _ h=>h.sw.cons fun _ h=>h.sw⟩
theorem Hp.mem (H:Hp F0 g0 w0 g w L) (h:r∈L):∃ F,r.h g w F:=by
 obtain⟨A,B,rfl⟩:=List.append_of_mem h;exact H.app_cons.hd
theorem aBv {q1 q2:Option Addr} (H:Hp F0 g0 w0 g w (bxR p [.pointer (some ⟨x,0,none⟩),.pointer q1,.pointer (some ⟨y,0,none⟩),.pointer q2] 85::dkR x D::rdR y D::L)) (hb:D.Bt) (hn:D.S.length=52) (hc:D.Calm) (hW:D.W.length<700000) {Φ:Bool×World->Prop}
  (hΦ:∀ g' w' c e l,(D.openL 1 3).2.2=some l->Pg F0 g0 w0 g' w' p x c y e ((D.openL 1 3).2.1,l) L->Mo g w g' w'->Φ (true,w')):(eM (some ⟨p,0,none⟩) w).t Φ:=by
 obtain⟨l,hl,h0,hok,-,hWo,-⟩:=yA hb hn hc;unfold eM;refine Nd.s1 (Nd.b1 (qD H.bx rfl) (Nd.j3 (Ψ:=fun r=>∃ c g',r.1=some ⟨c,0,none⟩/\r.2.1=0/\Hp F0 g0 w0 g' r.2.2 (lgR c x l::dkR x (D.openL 1 3).2.1::bxR p [.pointer (some ⟨x,0,none⟩),.pointer q1,.pointer (some ⟨y,0,none⟩),.pointer q2] 85::rdR y D::L)/\Mo g w g' r.2.2) (vH H.sw hb (by omega) (by decide) fun g' w' o ho m'=>?_) ?_))
 .rw[hl] at ho;obtain⟨c,rfl,H'⟩:=ho;exact⟨c,g',rfl,h0,H',m'⟩
 rintro _ _ w1 ⟨c,g1,rfl,rfl,H1,m1⟩;simp only at H1 m1;refine Nd.b1 (qD H1.m2.bx rfl) (Nd.j3 (Ψ:=fun r=>∃ e g',r.1=some ⟨e,0,none⟩/\r.2.1=0/\Hp F0 g0 w0 g' r.2.2 (rlR e y l::rdR y (D.openL 1 3).2.1::lgR c x l::dkR x (D.openL 1 3).2.1::bxR p [.pointer (some ⟨x,0,none⟩),.pointer q1,.pointer (some ⟨y,0,none⟩),.pointer q2] 85::L)/\Mo g w g' r.2.2) (aCe H1.m3 hb (by omega) (by decide) fun g' w' o ho m'=>?_) ?_)
 .rw[hl] at ho;obtain⟨c,rfl,H'⟩:=ho;exact⟨c,g',rfl,h0,H',m1.t m'⟩
 rintro _ _ w2 ⟨e,g2,rfl,rfl,H2,m2⟩;simp only at H2 m2;obtain⟨w3,e3,H3,m3⟩:=H2.m4.stV (o:=1) (x:=.pointer (some ⟨c,0,none⟩)) (by simp) rfl;obtain⟨w4,e4,H4,m4⟩:=H3.stV (o:=3) (x:=.pointer (some ⟨e,0,none⟩)) (by simp) rfl;have H4:Hp F0 g0 w0 g2 w4 (pgR p x c y e::rlR e y l::rdR y (D.openL 1 3).2.1::lgR c x l::dkR x (D.openL 1 3).2.1::L):=H4;refine Nd.j2 (Ψ:=fun r=>r=(false,w2)) (Nd.f (by simp) (Nd.ret rfl)) ?_;rintro _ _ he;cases he;refine Nd.f (by simp) (Nd.j1 (Ψ:=fun r=>r=w4) (Nd.t (by simp) (Nd.b1 (by rw[aD];exact e3) (Nd.b1 (by rw[aD];exact e4) (Nd.ret rfl)))) ?_);rintro _ rfl;exact Nd.ret (hΦ g2 _ c e l hl ⟨H4.m4.sw.t2,hok⟩ (m2.t (m3.t m4)))
end
def Lg.Up (l:Lg):Prop:=l.all.Pairwise fun a b=>a.1<b.1
theorem aCO {l:Lg} (h:l.Wf) {r:Int×List Int} (hr:r∈l.all):r.1<=l.high:=by
 obtain⟨u,hu,hr'⟩:=aKR.1 (show r∈l.used.flatMap fun s=>s.recs from hr);have h1:=((h.seg u hu).rb r hr').2.2;have h2:=h.hh u hu;omega
theorem aBG:∀ {us vs:List Sg},us.Sublist vs->(us.flatMap fun s=>s.recs).Sublist (vs.flatMap fun s=>s.recs)
 | _,_,.slnil=>List.Sublist.refl _
 | _,_,.cons a h=>(aBG h).trans (List.sublist_append_right _ _)
 | _,_,.cons_cons a h=>(List.Sublist.refl _).append (aBG h)
theorem aCk {D:Dk} {l:Lg} {t:Int} {b:List Int} (hw:l.Wf) (hu:l.Up):(D.appendL l t b).2.2.Up/\l.high<=(D.appendL l t b).2.2.high/\l.rel<=(D.appendL l t b).2.2.rel:=by
 have k:l.Up/\l.high<=l.high/\l.rel<=l.rel:=⟨hu,aIv _,aIv _⟩;unfold Dk.appendL;split;· exact k
 split;· exact k
 split;· exact k
 rename_i h1 h2 h3;by_cases h4:iS l.used (cL b)=true/\(D.fresh l).1≠0
 .rw[if_pos h4];exact k
 rw[if_neg h4];obtain⟨r,hr⟩:∃ r,(if iS l.used (cL b)=true then (D.fresh l).2 else D).puts l.base (mK l (cL b)).pos (cL b) (mK l (cL b)).fin 2 (gE t++b)=r:=⟨_,rfl⟩;rw[hr];by_cases h5:r.1≠0
 .rw[if_pos h5];exact k
 rw[if_neg h5];refine⟨?_,?_,aIv _⟩
 .unfold Lg.Up;rw[xF,List.pairwise_append];exact⟨hu,List.pairwise_singleton _ _,fun a ha b hb=>by simp at hb;subst hb;have:=aCO hw ha;simp only;omega⟩
 show l.high<=t;omega
theorem aEO {D:Dk} {l:Lg} {t:Int} (hw:l.Wf) (hu:l.Up):(D.chopL l t).2.2.Up/\l.high<=(D.chopL l t).2.2.high/\l.rel<=(D.chopL l t).2.2.rel:=by
 have k:l.Up/\l.high<=l.high/\l.rel<=l.rel:=⟨hu,aIv _,aIv _⟩;unfold Dk.chopL;split;· exact k
 split;· exact k
 split;· exact k
 rename_i h1 h2 h3;split;· exact k
 split;· exact k
 split
 .split
  .exact k
  exact⟨List.Pairwise.sublist (aBG sA) hu,aIv _,by show l.rel<=t;omega⟩
 exact⟨List.Pairwise.sublist (aBG sA) hu,aIv _,by show l.rel<=t;omega⟩
theorem aEn {D:Dk} {l:Lg} {d:Dg} (hw:l.Wf) (hu:l.Up) (h4:d.k≠4) (h5:d.k≠5):(jF (D,l) d).2.Up/\l.high<=(jF (D,l) d).2.high/\l.rel<=(jF (D,l) d).2.rel:=by
 have k:l.Up/\l.high<=l.high/\l.rel<=l.rel:=⟨hu,aIv _,aIv _⟩;unfold jF;split;· exact aCk hw hu
 split;· exact k
 split;· exact aEO hw hu
 split;· exact k
 exact k
section
variable {F0 : Nat -> Prop} {g g' g0 : Gh} {w w' w0 : World} {L : List Rs} {p x y c e : Nat} {D : Dk} {l : Lg} {z : Sl} {T : TypeId}
theorem aDe (hz:z.n<=140737488351232) {Φ:World->Prop}:∀ (m j:Nat) (xs:List Int) (w:World),m+j=xs.length->Hp F0 g0 w0 g w (owR T 1 z (nums .u8 xs)::L)->(∀ w' xs',Hp F0 g0 w0 g w' (owR T 1 z (nums .u8 xs')::L)->Mo g w g w'->Φ w') ->
  (eQ (fun s:Int×World=>dZ z s.1 s.2) ((j:Int),w)).t Φ:=by
 intro m
 induction m with
 | zero =>
  intro j xs w hm H hΦ;have hn:xs.length=z.n:=by have:=H.ow.len;simpa using this
  refine Nd.next ?_
  unfold dZ;exact Nd.f (by simp;omega) (Nd.ret (hΦ w xs H Mo.r))
 | succ m ih =>
  intro j xs w hm H hΦ;have hn:xs.length=z.n:=by have:=H.ow.len;simpa using this
  have hj:j<xs.length:=by omega
  obtain⟨b,rest,hp,-,-⟩:=H.ow.at_ (by omega);obtain⟨a,ea,la⟩:=H.ow.ixI (i:=j) (k:=.u8) (x:=xs[j]) (by rw[lS,aId hj];rfl);have ei:ix z (j:Int) 1=some ⟨b,j,none⟩:=by unfold D.ix;rw[hp,aLh,if_pos ⟨by omega,by omega⟩,aD];simp
  rw[ei] at ea;cases ea;obtain⟨w2,e2,H2,m2⟩:=H.oset (o:=j) (x:=.int .u8 (tX .u8 xs[j] 65)) hp (by omega) (by simpa using hj) rfl;rw[show(nums .u8 xs).set j (.int .u8 (tX .u8 xs[j] 65))=nums .u8 (xs.set j (tX .u8 xs[j] 65)) by simp[nums,aKX]] at H2;refine Nd.next ?_
  unfold dZ;refine Nd.t (by simp;omega) (Nd.b1 ei (Nd.b1 la (Nd.b1 ei (Nd.b1 e2 (Nd.ret ?_)))));show(eQ _ (IntKind.wrap .i64 ((j:Int)+1),w2)).t Φ;rw[cB (by omega)];exact ih (j+1) _ w2 (by simp;omega) H2 (fun w' xs' H' m'=>hΦ w' xs' H' (m2.t m'))
theorem aDs (a n:Int) (w:World):iN a n w=some (aAF a n,w):=by
 unfold iN rmI aAF;rw[if_neg (by decide),aLh]
theorem uY (h:l.Wf):l.vis.length<=10000:=by
 have h1:=h.len;have key:∀ us:List Sg,(∀ s∈us,s.recs.length<=16)->(us.flatMap fun s=>s.recs).length<=16*us.length:=by
  intro us
  induction us with
  | nil=>intro _;simp
  | cons u us ih =>
   intro hu;have a1:=hu u (by simp);have a2:=ih fun s hs=>hu s (by simp[hs]);rw[aIx,aIq,aIs];omega
 have h2:=key l.used fun s hs=>by have:=(h.seg s hs).rn;have:=(h.seg s hs).f1;omega
 have h3:l.vis.length<=l.all.length:=aJE _ _;have h4:l.all.length=(l.used.flatMap fun s=>s.recs).length:=rfl;omega
theorem Pg.p0 (h:Hp F0 g0 w0 g w (pgR p x c y e::L)):ldP w ⟨p,0,none⟩=some (some ⟨x,0,none⟩):=qD h.bx rfl
theorem Pg.p1 (h:Hp F0 g0 w0 g w (pgR p x c y e::L)):ldP w ⟨p,1,none⟩=some (some ⟨c,0,none⟩):=qD h.bx rfl
theorem Pg.p2 (h:Hp F0 g0 w0 g w (pgR p x c y e::L)):ldP w ⟨p,2,none⟩=some (some ⟨y,0,none⟩):=qD h.bx rfl
theorem Pg.p3 (h:Hp F0 g0 w0 g w (pgR p x c y e::L)):ldP w ⟨p,3,none⟩=some (some ⟨e,0,none⟩):=qD h.bx rfl
theorem Pg.lg (H:Hp F0 g0 w0 g w (pgR p x c y e::dkR x D::rdR y D::lgR c x l::rlR e y l::L)):Hp F0 g0 w0 g w (lgR c x l::dkR x D::pgR p x c y e::rdR y D::rlR e y l::L):=H.m3.s2
theorem Pg.rl {l':Lg} {D':Dk} (H:Hp F0 g0 w0 g w (lgR c x l'::dkR x D'::pgR p x c y e::rdR y D::rlR e y l::L)):Hp F0 g0 w0 g w (rlR e y l::rdR y D::lgR c x l'::dkR x D'::pgR p x c y e::L):=H.m4.m4.sw
theorem Pg.back (H:Hp F0 g0 w0 g w (rlR e y l::rdR y D::lgR c x l::dkR x D::pgR p x c y e::L)):Hp F0 g0 w0 g w (pgR p x c y e::dkR x D::rdR y D::lgR c x l::rlR e y l::L):=H.m4.m4.sw.t2
theorem aGi {cs:List Value} {d:Dg} (h:Pg F0 g0 w0 g w p x c y e (D,l) L) (hd:dgR g w cs d) (hW:D.W.length<600000) {Φ:Bool×World->Prop}
  (hΦ:∀ g' w' c' e',Pg F0 g0 w0 g' w' p x c' y e' (jF (D,l) d) L->Mo g w g' w'->Φ (true,w')):(gZ (some ⟨p,0,none⟩) cs w).t Φ:=by
 obtain⟨b,f,rfl,hb,hf,hby,hn0,hn1,hbz⟩:=hd;obtain⟨hok',-⟩:=xI h.ok hby;have hok:=h.ok;simp only at hok;have hbn:=hok.b;have hsn:=hok.s;have hSn:=hok.n;obtain⟨q,g1,w1,e1,H1,m1,b1⟩:=h.H.boxK 82 [.int .i64 d.k,.int .i64 d.n,b.v,f.v];simp only at H1;have rk:∀ {g' w'},Mo g1 w1 g' w'->ldI .i64 w' ⟨q,0,none⟩=some d.k/\ldI .i64 w' ⟨q,1,none⟩=some d.n/\ldL w' ⟨q,2,none⟩=some b/\ldL w' ⟨q,3,none⟩=some f :=
  fun m=>⟨mD (b1.mo m).at_ rfl,mD (b1.mo m).at_ rfl,pI (b1.mo m).at_ rfl,pI (b1.mo m).at_ rfl⟩
 have r1:=rk Mo.r;unfold gZ;refine Nd.b2 e1 (Nd.b1 (by rw[aD];exact r1.2.1) (Nd.b1 (by rw[aD];exact r1.1) (Nd.j2 (Ψ:=fun r=>r=(decide (d.k=0\/d.k=6),w1)) ?_ ?_)))
 .by_cases h0:d.k=0
  .exact Nd.t (by simpa using h0) (Nd.ret (by simp[h0]))
  exact Nd.f (by simpa using h0) (Nd.ret (by simp[h0];rfl))
 rintro _ _ he;cases he;by_cases t0:d.k=0\/d.k=6
 .have hD:jF (D,l) d=(D.appendL l (vU l d) d.bs).2:=by unfold jF;rw[if_pos t0]
  rw[hD] at hΦ hok';refine Nd.t (by simpa using t0) (Nd.j2 (Ψ:=fun r=>r.1=vU l d/\Hp F0 g0 w0 g1 r.2 (pgR p x c y e::dkR x D::rdR y D::lgR c x l::rlR e y l::L)/\Mo g1 w1 g1 r.2) (Nd.b1 (by rw[aD];exact r1.1) ?_) ?_)
  .unfold vU;by_cases h6:d.k=6
   .obtain⟨w2,e2,H2,m2⟩:=H1.dr;obtain⟨su,sr,rz,hz,H3⟩:=(H2.m4).rlo;have lh:ldI .i64 w2 ⟨e,4,none⟩=some l.high:=H3.ldI rfl;exact Nd.t (by simpa using h6) (Nd.b1 e2 (Nd.s1 (Nd.b1 (by rw[aD];exact Pg.p3 H2) (Nd.s1 (Nd.b1 (by rw[aD,aD];exact lh) (Nd.b1 (by rw[aD];exact(rk m2).2.1) (Nd.b2 (aDs _ _ _) (Nd.ret ⟨by rw[if_pos h6],H2,m2⟩))))))))
   exact Nd.f (by simpa using h6) (Nd.ret ⟨by rw[if_neg h6],H1,Mo.r⟩)
  rintro _ w2 ⟨rfl,H2,m2⟩;simp only at H2 m2 ⊢;obtain⟨s3,w3,e3,n3,_,H3,m3⟩:=H2.bsl (T:=5) (sz:=1) (ps:=[]) (by intro p hp;cases hp) (by simp);have hbr:=hb.mo (m1.t (m2.t m3));have hbl:d.bs.length=b.n:=by have:=hbr.rd.len;simpa using this
  obtain⟨s4,w4,e4,n4,H4,m4⟩:=H3.apS mU hbr.rd dX (by rw[n3];simp;omega);have H4:Hp F0 g0 w0 g1 w4 (owR 5 1 s4 (nums .u8 d.bs)::pgR p x c y e::dkR x D::rdR y D::lgR c x l::rlR e y l::L):=by simpa using H4
  have hs4:s4.n<=140737488351232:=by rw[n4,n3];simp;omega
  have H5:Hp F0 g0 w0 g1 w4 (pgR p x c y e::dkR x D::rdR y D::lgR c x l::rlR e y l::owR 5 1 s4 (nums .u8 d.bs)::L):=Hp.cons_app (L:=[pgR p x c y e,dkR x D,rdR y D,lgR c x l,rlR e y l]) H4;have mA:=m2.t (m3.t m4);obtain⟨A,hA⟩:∃ A,D.appendL l (vU l d) d.bs=A:=⟨_,rfl⟩;rw[hA] at hΦ hok';refine Nd.b2 e3 (Nd.b1 (by rw[aD];exact(rk (m2.t m3)).2.2.1) (Nd.b2 e4 (Nd.s1 (Nd.b1 (by rw[aD];exact Pg.p1 H5) (Nd.j2 (Ψ:=fun r=>r.1=A.1/\∃ g',Hp F0 g0 w0 g' r.2 (lgR c x A.2.2::dkR x A.2.1::pgR p x c y e::rdR y D::rlR e y l::owR 5 1 s4 (nums .u8 d.bs)::L)/\Mo g1 w4 g' r.2) ?_ ?_)))))
  .refine wP hok.wf (Pg.lg H5) (fun L' H m=>by obtain⟨F,hF⟩:=H.mem (r:=owR 5 1 s4 (nums .u8 d.bs)) (by simp);exact hF.1.rd) (by omega) fun g' w' H' m'=>?_;rw[hA] at H' ⊢;exact⟨rfl,g',H',m'⟩
  rintro _ w6 ⟨rfl,g6,H6,m6⟩;simp only at H6 m6 ⊢;obtain⟨w7,e7,H7,m7⟩:=H6.dr;have mB:=mA.t (m6.t m7);refine Nd.b1 e7 (Nd.b1 (by rw[aD];exact Pg.p3 H7.m2) (Nd.b1 (by rw[aD];exact(rk mB).2.2.1) (Nd.j2 (Ψ:=fun r=>r.1=A.1/\∃ g',Hp F0 g0 w0 g' r.2 (rlR e y A.2.2::rdR y A.2.1::lgR c x A.2.2::dkR x A.2.1::pgR p x c y e::owR 5 1 s4 (nums .u8 d.bs)::L)/\Mo g6 w7 g' r.2) ?_ ?_)))
  .refine aAC hok.wf (Pg.rl H7) (hb.mo (m1.t mB)) hok.bt (by omega) (by omega) (uY hok.wf) fun g' w' H' m'=>?_;rw[hA] at H' ⊢;exact⟨rfl,g',H',m'⟩
  rintro _ w8 ⟨rfl,g8,H8,m8⟩;simp only at H8 m8 ⊢;have H9:Hp F0 g0 w0 g8 w8 (owR 5 1 s4 (nums .u8 d.bs)::rlR e y A.2.2::rdR y A.2.1::lgR c x A.2.2::dkR x A.2.1::pgR p x c y e::L):=Hp.app_cons (L:=[rlR e y A.2.2,rdR y A.2.1,lgR c x A.2.2,dkR x A.2.1,pgR p x c y e]) H8;refine Nd.j1 (Ψ:=fun w'=>Φ (true,w')) (aDe hs4 d.bs.length 0 d.bs w8 (by omega) H9 fun w' xs' H' m'=>hΦ g8 w' c e ⟨Pg.back H'.tl,hok'⟩ (m1.t (mB.t (m8.t m')))) (fun w' hw'=>Nd.ret ?_);rw[show(A.1==A.1)=true by simp];exact hw'
 refine Nd.f (by simpa using t0) ?_;obtain⟨w2,e2,H2,m2⟩:=H1.dr;have r2:=rk m2;by_cases t1:d.k=1
 .have hD:jF (D,l) d=((D.syncL l).2,l):=by unfold jF;rw[if_neg t0,if_pos t1]
  rw[hD] at hΦ hok';obtain⟨w3,e3,H3,m3⟩:=aAj (Pg.lg H2) (by omega);obtain⟨g4,w4,e4,H4,m4⟩:=aCo (Pg.rl H3) (by omega);refine Nd.t (by simpa using t1) (Nd.b1 e2 (Nd.s1 (Nd.b1 (by rw[aD];exact Pg.p1 H2) (Nd.b2 e3 (Nd.b1 (by rw[aD];exact Pg.p3 H3.m2) (Nd.b2 e4 (Nd.ck (by rw[aD];exact Pg.p3 H2) (Nd.ret ?_))))))));rw[show((D.syncL l).1==(D.syncL l).1)=true by simp];exact hΦ g4 w4 c e ⟨Pg.back H4,hok'⟩ (m1.t (m2.t (m3.t m4)))
 refine Nd.f (by simpa using t1) ?_;by_cases t2:d.k=2
 .have hD:jF (D,l) d=(D.chopL l d.n).2:=by unfold jF;rw[if_neg t0,if_neg t1,if_pos t2]
  rw[hD] at hΦ hok';obtain⟨w3,e3,H3,m3⟩:=aES (t:=d.n) hok.wf (Pg.lg H2) hok.bt (by omega) (by omega);obtain⟨⟨v4,w4⟩,e4,g4,rfl,H4,m4⟩:=aCK (t:=d.n) hok.wf (Pg.rl H3) hok.bt (by omega) (by omega) (by omega) (uY hok.wf);simp only at H4 m4;refine Nd.t (by simpa using t2) (Nd.b1 e2 (Nd.s1 (Nd.b1 (by rw[aD];exact Pg.p1 H2) (Nd.b2 e3 (Nd.b1 (by rw[aD];exact Pg.p3 H3.m2) (Nd.b2 e4 (Nd.ck (by rw[aD];exact Pg.p3 H2) (Nd.ret ?_))))))));rw[show((D.chopL l d.n).1==(D.chopL l d.n).1)=true by simp];exact hΦ g4 w4 c e ⟨Pg.back H4,hok'⟩ (m1.t (m2.t (m3.t m4)))
 refine Nd.f (by simpa using t2) ?_;by_cases t3:d.k=3
 .have hD:jF (D,l) d=((D.trip d.n).2,l):=by unfold jF;rw[if_neg t0,if_neg t1,if_neg t2,if_pos t3]
  rw[hD] at hΦ hok';obtain⟨w3,e3,H3,m3⟩:=H2.sw.dtrip (m:=d.n) hn1;obtain⟨g4,w4,e4,H4,m4⟩:=H3.m2.rtrip (m:=d.n) hn1;refine Nd.t (by simpa using t3) (Nd.b1 e2 (Nd.s1 (Nd.b1 (by rw[aD];exact Pg.p0 H2) (Nd.b2 e3 (Nd.b1 (by rw[aD];exact Pg.p2 H3.sw) (Nd.b2 e4 (Nd.ck (by rw[aD];exact Pg.p2 H2) (Nd.ret ?_))))))));rw[show((D.trip d.n).1==(D.trip d.n).1)=true by simp];exact hΦ g4 w4 c e ⟨H4.b2.sw,hok'⟩ (m1.t (m2.t (m3.t m4)))
 refine Nd.f (by simpa using t3) ?_;by_cases t4:d.k=4
 .obtain⟨k,hk,-,-⟩:=yA (hok.bt.crash d.fs) (by rw[yH hok.bt,hok.n]) (sR (D:=D) (fs:=d.fs));have hD:jF (D,l) d=(((D.crash d.fs).openL 1 3).2.1,k):=by unfold jF;rw[if_neg t0,if_neg t1,if_neg t2,if_neg t3,if_pos t4,hk];rfl
  rw[hD] at hΦ;obtain⟨w3,e3,H3,m3⟩:=H2.sw.dcrash (hf.mo (m1.t m2)) (by omega);obtain⟨g4,w4,e4,H4,m4⟩:=H3.m2.rcrash (hf.mo (m1.t (m2.t m3))) (by omega);have H5:=(H4.b2.sw).m3.tl.m3.tl;have mA:=m1.t (m2.t (m3.t m4));refine Nd.t (by simpa using t4) (Nd.j2 (Ψ:=Φ) (Nd.b1 e2 (Nd.s1 (Nd.b1 (by rw[aD];exact Pg.p0 H2) (Nd.b1 (by rw[aD];exact r2.2.2.2) (Nd.b2 e3 (Nd.b1 (by rw[aD];exact Pg.p2 H3.sw) (Nd.b1 (by rw[aD];exact(rk (m2.t m3)).2.2.2) (Nd.b2 e4 (Nd.t (by decide) (Nd.ck (by rw[aD];exact Pg.p2 H2) (Nd.ck (by rw[aD];exact r2.2.2.2) (Nd.j2 (Ψ:=Φ) ?_ (fun a b h=>Nd.ret h))))))))))))) (fun a b h=>Nd.ret h));refine aBv H5 (hok.bt.crash d.fs) (by rw[yH hok.bt,hok.n]) sR (by simp[Dk.crash]) fun g' w' c' e' k' hk' hP m'=>?_;rw[hk] at hk';cases hk';exact hΦ g' w' c' e' hP (mA.t m')
 refine Nd.f (by simpa using t4) ?_;by_cases t5:d.k=5
 .have hD:jF (D,l) d=((D.write d.n d.bs).2,l):=by unfold jF;rw[if_neg t0,if_neg t1,if_neg t2,if_neg t3,if_neg t4,if_pos t5]
  rw[hD] at hΦ hok';obtain⟨w3,e3,H3,m3⟩:=H2.sw.dwrite (i:=d.n) (hb.mo (m1.t m2)).rd (by omega);obtain⟨g4,w4,e4,H4,m4⟩:=H3.m2.rwrite (i:=d.n) (hb.mo (m1.t (m2.t m3))).rd (by omega);refine Nd.t (by simpa using t5) (Nd.b1 e2 (Nd.s1 (Nd.b1 (by rw[aD];exact Pg.p0 H2) (Nd.b1 (by rw[aD];exact r2.2.2.1) (Nd.b2 e3 (Nd.b1 (by rw[aD];exact Pg.p2 H3.sw) (Nd.b1 (by rw[aD];exact(rk (m2.t m3)).2.2.1) (Nd.b2 e4 (Nd.ck (by rw[aD];exact Pg.p2 H2) (Nd.ck (by rw[aD];exact r2.2.2.1) (Nd.ret ?_)))))))))));rw[show((D.write d.n d.bs).1==(D.write d.n d.bs).1)=true by simp];exact hΦ g4 w4 c e ⟨H4.b2.sw,hok'⟩ (m1.t (m2.t (m3.t m4)))
 have hD:jF (D,l) d=(D,l):=by unfold jF;rw[if_neg t0,if_neg t1,if_neg t2,if_neg t3,if_neg t4,if_neg t5]
 rw[hD] at hΦ;obtain⟨s,l1,ls⟩:=H2.m2.rd1;refine Nd.f (by simpa using t5) (Nd.b1 e2 (Nd.s1 (Nd.b1 (by rw[aD];exact Pg.p0 H2) (Nd.b2 H2.sw.dwaits (Nd.b1 (by rw[aD];exact Pg.p2 H2) (Nd.s1 (Nd.b1 (by rw[aD];exact l1) (Nd.ck (by rw[aD];exact Pg.p2 H2) (Nd.ck (by rw[aD];exact l1) (Nd.ret ?_))))))))));rw[ls,show((D.W.length:Int)==(D.W.length:Int))=true by simp];exact hΦ g1 w2 c e ⟨H2,hok⟩ (m1.t m2)
end
section
variable {F0 : Nat -> Prop} {g g' g0 : Gh} {w w' w0 : World} {L : List Rs} {p x y c e : Nat} {D : Dk} {l : Lg} {s : Sl}
theorem aDr (h:l.Wf):l.events 0 1099511627776=l.vis:=by
 unfold Lg.events Lg.vis;refine aKa fun r hr=>?_;obtain⟨u,hu,hr'⟩:=aKR.1 (show r∈l.used.flatMap fun s=>s.recs from hr);have h1:=((h.seg u hu).rb r hr').2.2;have h2:=(h.seg u hu).h1;have h3:=h.r0;by_cases h4:l.rel<r.1
 .rw[decide_eq_true h4,decide_eq_true (by omega),decide_eq_true (by omega)];rfl
 rw[decide_eq_false h4];simp
theorem aFc (h:l.Wf) {a b:Int} (H:Hp F0 g0 w0 g w (lgR c x l::L)):∃ z w',gI (some ⟨c,0,none⟩) a b w=some (z,w')/\Hp F0 g0 w0 g w' (wI z (l.events a b)::lgR c x l::L)/\Mo g w g w':=by
 refine xB (fun q hq=>⟨?_,fun r hr=>?_⟩) (by have:=h.len;omega) H
 .have:=(h.seg q hq).rn;have:=(h.seg q hq).f1;omega
 have:=((h.seg q hq).rb r hr).1;omega
theorem aEg (h:Pg F0 g0 w0 g w p x c y e (D,l) L):Ex (gB (some ⟨p,0,none⟩) w) fun r=>r.1=true/\Pg F0 g0 w0 g r.2 p x c y e (D,l) L/\Mo g w g r.2:=by
 have hok:=h.ok;have H:=h.H;simp only at H hok;have hw:=hok.wf;obtain⟨su,sr,rz,hz,H0⟩:=(H.m4).rlo
 -- H0: log of the document,its segments,its records,pair,disks,log
 have hA:ldA 4 w ⟨e,4,none⟩ 0=some [.int .i64 l.high,.int .i64 l.rel,su.v,sr.v]:=by rw[nJ H0.bx (by exact aIf _)];rfl
 obtain⟨b9,w1,e1,H1,m1⟩:=H0.box (T:=130) (cs:=[.int .i64 0,.int .i64 0,.slice none 0 0,.slice none 0 0]);obtain⟨w2,e2,H2,m2,l2⟩:=H1.stA' (vs:=[.int .i64 l.high,.int .i64 l.rel,su.v,sr.v]) rfl (by intro v hv;simp at hv;rcases hv with rfl | rfl | rfl | rfl<;>rfl);obtain⟨w3,e3,H3,m3⟩:=H2.dr;have hsu:l.used.length=su.n:=by have:=H3.m2.ow.len;rw[cQ cS] at this;omega
 -- the log of the program first
 have H4:Hp F0 g0 w0 g w3 (lgR c x l::bxR b9 [.int .i64 l.high,.int .i64 l.rel,su.v,sr.v] 130::cE e (rlC y l.base l.segs l.age l.high l.rel su sr)::rsR su l.used::rcR sr rz::pgR p x c y e::dkR x D::rdR y D::L):=Hp.app_cons (L:=[bxR b9 [.int .i64 l.high,.int .i64 l.rel,su.v,sr.v] 130,cE e (rlC y l.base l.segs l.age l.high l.rel su sr),rsR su l.used,rcR sr rz,pgR p x c y e,dkR x D,rdR y D]) H3;have hp:∀ {w'},Hp F0 g0 w0 g w' (lgR c x l::bxR b9 [.int .i64 l.high,.int .i64 l.rel,su.v,sr.v] 130::cE e (rlC y l.base l.segs l.age l.high l.rel su sr)::rsR su l.used::rcR sr rz::pgR p x c y e::dkR x D::rdR y D::L)->Hp F0 g0 w0 g w' (pgR p x c y e::lgR c x l::bxR b9 [.int .i64 l.high,.int .i64 l.rel,su.v,sr.v] 130::cE e (rlC y l.base l.segs l.age l.high l.rel su sr)::rsR su l.used::rcR sr rz::dkR x D::rdR y D::L) :=
  fun H=>Hp.app_cons (L:=[lgR c x l,bxR b9 [.int .i64 l.high,.int .i64 l.rel,su.v,sr.v] 130,cE e (rlC y l.base l.segs l.age l.high l.rel su sr),rsR su l.used,rcR sr rz]) H
 obtain⟨z,w5,e5,H5,m5⟩:=aFc (a:=0) (b:=1099511627776) hw H4;rw[aDr hw] at H5;have r5:=xX H5;have mA:=m1.t (m2.t (m3.t m5));have q5:=(hz.mo mA).rrd H5.tl.m4;obtain⟨w6,e6,c6,f6⟩:=aBn r5 q5 (by have:=uY hw;omega);have H6:=H5.tl.old f6;have m6:=H5.tl.mold f6;have hd:∀ {w'},Hp F0 g0 w0 g w' (lgR c x l::bxR b9 [.int .i64 l.high,.int .i64 l.rel,su.v,sr.v] 130::cE e (rlC y l.base l.segs l.age l.high l.rel su sr)::rsR su l.used::rcR sr rz::pgR p x c y e::dkR x D::rdR y D::L)->dO (some ⟨x,0,none⟩) w'=some (D.down,w')/\ldB w' ⟨y,3,none⟩=some D.down:=fun H =>
  ⟨(Hp.app_cons (L:=[lgR c x l,bxR b9 [.int .i64 l.high,.int .i64 l.rel,su.v,sr.v] 130,cE e (rlC y l.base l.segs l.age l.high l.rel su sr),rsR su l.used,rcR sr rz,pgR p x c y e]) H).ddown,(Hp.app_cons (L:=[lgR c x l,bxR b9 [.int .i64 l.high,.int .i64 l.rel,su.v,sr.v] 130,cE e (rlC y l.base l.segs l.age l.high l.rel su sr),rsR su l.used,rcR sr rz,pgR p x c y e,dkR x D]) H).rd3⟩
 have l9:∀ {w'},Hp F0 g0 w0 g w' (lgR c x l::bxR b9 [.int .i64 l.high,.int .i64 l.rel,su.v,sr.v] 130::cE e (rlC y l.base l.segs l.age l.high l.rel su sr)::rsR su l.used::rcR sr rz::pgR p x c y e::dkR x D::rdR y D::L)->ldI .i64 w' ⟨b9,0,none⟩=some l.high/\ldI .i64 w' ⟨b9,1,none⟩=some l.rel/\ldL w' ⟨b9,2,none⟩=some su/\ldL w' ⟨b9,3,none⟩=some sr:=fun H=>⟨H.sw.ldI rfl,H.sw.ldI rfl,H.sw.ldL rfl,H.sw.ldL rfl⟩;have p1:∀ {w'},Hp F0 g0 w0 g w' (lgR c x l::bxR b9 [.int .i64 l.high,.int .i64 l.rel,su.v,sr.v] 130::cE e (rlC y l.base l.segs l.age l.high l.rel su sr)::rsR su l.used::rcR sr rz::pgR p x c y e::dkR x D::rdR y D::L)->ldP w' ⟨p,0+1,none⟩=some (some ⟨c,0,none⟩)/\ldP w' ⟨p,0+0,none⟩=some (some ⟨x,0,none⟩)/\ldP w' ⟨p,0+2,none⟩=some (some ⟨y,0,none⟩):=fun H=>⟨Pg.p1 (hp H),Pg.p0 (hp H),Pg.p2 (hp H)⟩;have k3:=l9 H4;have k5:=l9 H5.tl;have j3:=p1 H4;have j5:=p1 H5.tl;have j6:=p1 H6;have d6:=hd H6;unfold gB;refine Ex.s1 (Ex.b1 (by rw[aD];exact Pg.p3 H) (Ex.s1 (Ex.b1 (by rw[aD];exact hA) (Ex.b2 e1 (Ex.b1 e2 (Ex.j2 (Ψ:=fun r=>r.1=true/\Pg F0 g0 w0 g r.2 p x c y e (D,l) L/\Mo g w g r.2) ?_ (fun a b h=>Ex.ret h)))))));refine Ex.b1 e3 (Ex.b1 (by rw[aD];exact j3.1) (Ex.b2 (uX H4) (Ex.b1 (by rw[aD];exact k3.1) (Ex.t (by simp) (Ex.b1 (by rw[aD];exact j3.1) (Ex.b2 (aAZ H4) (Ex.b1 (by rw[aD];exact k3.2.1) (Ex.t (by simp) (Ex.b1 (by rw[aD];exact j3.1) (Ex.b2 (aEy H4) (Ex.b1 (by rw[aD];exact k3.2.2.1) (Ex.t (by simp;omega)
  (Ex.b1 (by rw[aD];exact j3.1) (Ex.b2 e5 (Ex.b1 (by rw[aD];exact k5.2.2.2) (Ex.b2 e6 (Ex.t rfl (Ex.b1 (by rw[aD];exact j6.2.1) (Ex.b2 d6.1 (Ex.b1 (by rw[aD];exact j6.2.2) (Ex.s1 (Ex.b1 (by rw[aD];exact d6.2) (Ex.ck (by rw[aD];exact k3.1) (Ex.ck (by rw[aD];exact k3.2.1) (Ex.ck (by rw[aD];exact k3.2.2.1) (Ex.ck (by rw[aD];exact k3.2.2.2) (Ex.ck (by rw[aD];exact j6.2.2) (Ex.ck (by rw[aD];exact d6.2) (Ex.ret ⟨by simp,⟨?_,hok⟩,mA.t m6⟩)))))))))))))))))))))))))))))
 -- H6: log,box,document's log (3),pair,disks
 have H7:=H6.sw.tl
 -- log,block,segments,records,pair,disks
 have H8:=Hp.rli (hz.mo (mA.t m6)) H7.b3;exact H8.sw.m4.m4.m4
def qV (D:Dk) (d:Dg):Dk:=(D.write d.n d.bs).2
theorem aBy {D:Dk} (hb:D.Bt) (hn:D.S.length=52) (hc:D.Calm) {d:Dg} (hd:bW d.bs):(qV D d).Bt/\(qV D d).S.length=52/\(qV D d).Calm/\(qV D d).W.length<=D.W.length+1:=by
 have h:=mS D d.n hd;exact⟨h.b hb,by unfold qV;rw[rX,hn],zL hc _ _,h.w⟩
theorem aFr {ds:List Dg} {v:List Value} (hs:PL dgR 4 g w s ds) (hv:v[0]?=some (.pointer (some ⟨x,0,none⟩))/\v[2]?=some (.pointer (some ⟨y,0,none⟩))) {Φ:(World⊕(Addr×Bool×World))->Prop}:∀ (m i:Nat) (w1:World) (g1:Gh) (D:Dk),i+m=min ds.length 200->D.Bt->D.S.length=52->D.Calm->D.W.length<=i->Mo g w g1 w1 ->
  Hp F0 g0 w0 g1 w1 (bxR p v 85::dkR x D::rdR y D::L) ->
  (∀ g' w',Hp F0 g0 w0 g' w' (bxR p v 85::dkR x (((ds.take 200).drop i).foldl qV D)::rdR y (((ds.take 200).drop i).foldl qV D)::L)->Mo g1 w1 g' w'->Φ (.inl w')) ->
  (eQ (fun r:Int×World=>eY s ⟨p,0,none⟩ r.1 r.2) ((i:Int),w1)).t Φ:=by
 intro m
 induction m with
 | zero =>
  intro i w1 g1 D him hb hn hc hW hm H hΦ;have hd:(ds.take 200).drop i=[]:=aID (by rw[aIF];omega);have hln:=hs.len;rw[hd] at hΦ;refine Nd.next ?_
  unfold eY;refine Nd.j2 (Ψ:=fun r=>r=(false,w1)) ?_ ?_
  .by_cases hl:(i:Int)<s.n
   .exact Nd.t (by simpa using hl) (Nd.ret (by rw[decide_eq_false (by omega)]))
   exact Nd.f (by simpa using hl) (Nd.ret rfl)
  rintro _ _ he;cases he;exact Nd.f (by simp) (Nd.ret (hΦ g1 w1 H Mo.r))
 | succ m ih =>
  intro i w1 g1 D him hb hn hc hW hm H hΦ;have hi:i<ds.length:=by omega
  have hln:=hs.len;obtain⟨a,cs,ea,ga,hl4,hR,hcl⟩:=hs.at_ i ds[i] (aId hi);obtain⟨b,f,rfl,pb,pf,hby,-,-,hbz⟩:=hR;have hcell:∀ {g' w'} (j:Nat) (v:Value),Mo g1 w1 g' w'->[Value.int .i64 ds[i].k,.int .i64 ds[i].n,b.v,f.v][j]?=some v->w'.cell? (a.add j)=some v:=fun j v m hv=>by
   have hb':(a.add j).block=a.block:=by unfold Addr.add;split<;>rfl
   exact(hm.t m).cell (by rw[hb'];exact ga) (hcl j v hv)
  have hwk:=aBy hb hn hc hby;have hdrop:(ds.take 200).drop i=ds[i]::(ds.take 200).drop (i+1):=by
   have hlt:i<(ds.take 200).length:=by rw[aIF];omega
   rw[aII hlt,List.getElem_take]
  rw[hdrop] at hΦ;obtain⟨w2,e2,H2,m2⟩:=H.dr;obtain⟨w3,e3,H3,m3⟩:=H2.sw.dwrite (i:=ds[i].n) (pb.mo (hm.t m2)).rd (by omega);obtain⟨g4,w4,e4,H4,m4⟩:=H3.m2.rwrite (i:=ds[i].n) (pb.mo (hm.t (m2.t m3))).rd (by omega);have n2:∀ {g' w'},Mo g1 w1 g' w'->ldI .i64 w' (a.add 1)=some ds[i].n:=fun m=>kW (hcell 1 _ m rfl);have b2:∀ {g' w'},Mo g1 w1 g' w'->ldL w' (a.add 2)=some b:=fun m=>rQ (hcell 2 _ m rfl);have P0:ldP w2 ⟨p,0+0,none⟩=some (some ⟨x,0,none⟩):=qD H2.bx hv.1;have P2:ldP w2 ⟨p,0+2,none⟩=some (some ⟨y,0,none⟩):=qD H2.bx hv.2;have P3:ldP w3 ⟨p,0+2,none⟩=some (some ⟨y,0,none⟩):=qD H3.sw.bx hv.2;refine Nd.next ?_
  unfold eY;refine Nd.j2 (Ψ:=fun r=>r=(true,w1)) (Nd.t (by simp;omega) (Nd.ret (by rw[decide_eq_true (by omega)]))) ?_;rintro _ _ he;cases he;refine Nd.t rfl (Nd.b1 e2 (Nd.b1 (by rw[aD];exact P0) (Nd.b1 ea (Nd.b1 (n2 m2) (Nd.b1 ea (Nd.b1 (b2 m2) (Nd.b2 e3 (Nd.b1 (by rw[aD];exact P3) (Nd.b1 ea (Nd.b1 (n2 (m2.t m3)) (Nd.b1 ea (Nd.b1 (b2 (m2.t m3)) (Nd.b2 e4 (Nd.ck (by rw[aD];exact P2) (Nd.ck (n2 m2) (Nd.ck (b2 m2) (Nd.f (by simp) (Nd.ret ?_))))))))))))))))));show(eQ _ (IntKind.wrap .i64 ((i:Int)+1),w4)).t Φ;rw[cB (by omega)];exact ih (i+1) w4 g4 (qV D ds[i]) (by omega) hwk.1 hwk.2.1 hwk.2.2.1 (by omega) (hm.t (m2.t (m3.t m4))) H4.b2.sw (fun g' w' H' m'=>hΦ g' w' H' (m2.t (m3.t (m4.t m'))))
theorem aFG {ds:List Dg} (hd:∀ d∈ds,bW d.bs):∀ {D:Dk},D.Bt->D.S.length=52->D.Calm->(ds.foldl qV D).Bt/\(ds.foldl qV D).S.length=52/\(ds.foldl qV D).Calm/\(ds.foldl qV D).W.length<=D.W.length+ds.length:=by
 induction ds with
 | nil=>exact fun h1 h2 h3=>⟨h1,h2,h3,aIf _⟩
 | cons d ds ih =>
  intro D h1 h2 h3;obtain⟨k1,k2,k3,k4⟩:=aBy h1 h2 h3 (hd d (by simp));obtain⟨j1,j2,j3,j4⟩:=ih (fun d hd'=>hd d (by simp[hd'])) k1 k2 k3;exact⟨j1,j2,j3,by rw[aJa,aIs];omega⟩
theorem aCX {ds:List Dg} (hs:PL dgR 4 g w s ds) (H:Hp F0 g0 w0 g w L) {Φ:Option Addr×Bool×World->Prop}
  (hΦ:∀ g' w' p x c y e l,(((ds.take 200).foldl qV (Dk.new 52)).openL 1 3).2.2=some l->Pg F0 g0 w0 g' w' p x c y e ((((ds.take 200).foldl qV (Dk.new 52)).openL 1 3).2.1,l) L->(((ds.take 200).foldl qV (Dk.new 52)).openL 1 3).2.1.W.length<=2000->Mo g w g' w'->Φ (some ⟨p,0,none⟩,true,w')):(iQ s w).t Φ:=by
 obtain⟨p,w1,e1,H1,m1⟩:=H.box (T:=85) (cs:=List.replicate 4 (.pointer none));obtain⟨x,w2,e2,H2,m2⟩:=H1.dnew (m:=52) (by omega) (by omega);obtain⟨w3,e3,H3,m3⟩:=H2.sw.stV (o:=0) (x:=.pointer (some ⟨x,0,none⟩)) (by simp) rfl;obtain⟨y,g4,w4,e4,H4,m4⟩:=H3.rnew (m:=52) (by omega) (by omega);obtain⟨w5,e5,H5,m5⟩:=H4.sw.stV (o:=2) (x:=.pointer (some ⟨y,0,none⟩)) (by simp) rfl;have H6:Hp F0 g0 w0 g4 w5 (bxR p [.pointer (some ⟨x,0,none⟩),.pointer none,.pointer (some ⟨y,0,none⟩),.pointer none] 85::dkR x (Dk.new 52)::rdR y (Dk.new 52)::L):=H5.s2;have mA:=m1.t (m2.t (m3.t (m4.t m5)));have hdb:∀ d∈ds.take 200,bW d.bs:=fun d hd=>by
  obtain⟨i,hi,he⟩:=List.getElem_of_mem (aIQ hd);obtain⟨_,_,_,_,_,hR,_⟩:=hs.at_ i d (by rw[aId hi,he]);obtain⟨_,_,_,_,_,hby,_⟩:=hR;exact hby
 have hn52:(Dk.new 52).S.length=52:=by simp[Dk.new]
 obtain⟨k1,k2,k3,k4⟩:=aFG hdb (yB 52) hn52 (⟨rfl,rfl⟩:(Dk.new 52).Calm);have hW0:(Dk.new 52).W.length=0:=rfl;have hlt:(ds.take 200).length<=200:=by rw[aIF];omega
 unfold iQ;refine Nd.b2 e1 (Nd.b3 e2 (Nd.b1 (by rw[aD];exact e3) (Nd.b3 e4 (Nd.b1 (by rw[aD];exact e5) (Nd.j2 (Ψ:=fun r=>r=(false,w5)) (Nd.f (by decide) (Nd.f (by decide) (Nd.b1 (qD H6.bx rfl) (Nd.ret rfl)))) ?_)))));rintro _ _ he;cases he;refine Nd.f (by simp) (Nd.j1 (Ψ:=fun o=>∃ w' g',o = .inl w'/\Hp F0 g0 w0 g' w' (bxR p [.pointer (some ⟨x,0,none⟩),.pointer none,.pointer (some ⟨y,0,none⟩),.pointer none] 85::dkR x ((ds.take 200).foldl qV (Dk.new 52))::rdR y ((ds.take 200).foldl qV (Dk.new 52))::L)/\Mo g w g' w')
  (aFr (PL.mo (R:=dgR) aDq hs mA) ⟨rfl,rfl⟩ (min ds.length 200) 0 w5 g4 (Dk.new 52) (by omega) (yB 52) hn52 ⟨rfl,rfl⟩ (by simp[hW0]) Mo.r H6 fun g' w' H' m'=>⟨w',g',rfl,by rw[aIX] at H';exact H',mA.t m'⟩) ?_)
 rintro _ ⟨w6,g6,rfl,H7,m7⟩;simp only[Sum.elim_inl,u1];obtain⟨l0,hl0,-,ho,-,hWo,-⟩:=yA k1 k2 k3;refine Nd.j3 (Ψ:=fun r=>r.1=⟨p,0,none⟩/\r.2.1=true/\Φ (some ⟨p,0,none⟩,true,r.2.2)) (Nd.j2 (Ψ:=fun r=>r.1=true/\∃ g' c e,Pg F0 g0 w0 g' r.2 p x c y e ((((ds.take 200).foldl qV (Dk.new 52)).openL 1 3).2.1,l0) L/\Mo g w g' r.2) (aBv H7 k1 k2 k3 (by omega) fun g' w' c e l hl hP m'=>?_) ?_) ?_
 .rw[hl0] at hl;cases hl;exact⟨rfl,g',c,e,hP,m7.t m'⟩
 .rintro _ w8 ⟨rfl,g8,c,e,hP,m8⟩;simp only at hP m8;obtain⟨⟨v9,w9⟩,e9,rfl,hP9,m9⟩:=aEg hP;simp only at hP9 m9;exact Nd.t rfl (Nd.b1 (by rw[aD];exact Pg.p1 hP.H) (Nd.t (by simp) (Nd.b2 e9 (Nd.ret ⟨rfl,rfl,hΦ g8 w9 p x c y e l0 hl0 hP9 (by omega) (m8.t m9)⟩))))
 rintro a b w8 ⟨rfl,rfl,h8⟩;exact Nd.ret h8
end
section
variable {H : Type} {enc : TypeId × Value -> H} {w : World} {base fuel : Nat} {spare : Nat -> Bool} {held : Bool} {cs : List Value} {x : DataW H × List MemPlace}
theorem aGa {α:Type} {l:List α} (h:l.length=4):∃ a b c d,l=[a,b,c,d]:=by
 match l,h with
 | [a,b,c,d],_=>exact⟨a,b,c,d,rfl⟩
theorem aEI {m:Nat} {c:List Value} {y:DataW H×List MemPlace} (h:DataW.trod enc Try.prog w base spare held m 82 c=some y) (hx:∀ v∈y.1.weights Try.prog 82,v<=140737488351232):∃ d,dgR (old w) w c d:=by
 obtain⟨xs,m',_,hy,hl,hlen,hf⟩:=DataW.trod_struct Try.underlying82 h;have hl4:c.length=4:=hl.trans (by kernel_rfl);have c1:Try.prog.cellsOf 3=1:=by kernel_rfl
 have c2:Try.prog.cellsOf 72=1:=by kernel_rfl
 have c3:Try.prog.cellsOf 34=1:=by kernel_rfl
 have hlen4:xs.length=4:=hlen;clear hlen hl;obtain⟨v0,v1,v2,v3,rfl⟩:=aGa hl4;obtain⟨y0,y1,y2,y3,rfl⟩:=aGa hlen4;have h0:DataW.trod enc Try.prog w base spare held m' 3 (([v0,v1,v2,v3].drop 0).take (Try.prog.cellsOf 3))=some y0:=hf 0 _ rfl;have h1:DataW.trod enc Try.prog w base spare held m' 3 (([v0,v1,v2,v3].drop 1).take (Try.prog.cellsOf 3))=some y1:=hf 1 _ rfl;have h2:DataW.trod enc Try.prog w base spare held m' 72 (([v0,v1,v2,v3].drop 2).take (Try.prog.cellsOf 72))=some y2:=hf 2 _ rfl;have h3:DataW.trod enc Try.prog w base spare held m' 34 (([v0,v1,v2,v3].drop 3).take (Try.prog.cellsOf 34))=some y3:=hf 3 _ rfl;simp only[c1,c2,c3,aIX,List.take_succ_cons,List.take_zero,List.drop_succ_cons,aJe,aJd] at h0 h1 h2 h3;obtain⟨k,e0,_,_⟩:=DataW.trod_int Try.underlying3 h0;obtain⟨i,e1,_,wi⟩:=DataW.trod_int Try.underlying3 h1;rw[hy] at hx;have w2:∀ v∈y2.1.weights Try.prog 72,v<=140737488351232:=vG Try.underlying82 hx 2 _ y2.1 rfl rfl;have w3:∀ v∈y3.1.weights Try.prog 34,v<=140737488351232:=vG Try.underlying82 hx 3 _ y3.1 rfl rfl;obtain⟨b,bs,e2,r2,n2,_,wb⟩:=vX Try.underlying72 Try.underlying5 (by kernel_rfl) (of_decide_eq_true (by kernel_rfl)) h2 w2;obtain⟨f,fs,e3,r3,n3,_,wf⟩:=vX Try.underlying34 Try.underlying3 (by kernel_rfl) (of_decide_eq_true (by kernel_rfl)) h3 w3;obtain rfl:=(List.cons.inj e0).1;obtain rfl:=(List.cons.inj e1).1;obtain rfl:=(List.cons.inj e2).1;obtain rfl:=(List.cons.inj e3).1;exact⟨⟨k,i,bs,fs⟩,b,f,rfl,r2,r3,fun n hn=>aDb (wb n hn),(wV wi).1,(wV wi).2,n2⟩
theorem open_dgs (h:DataW.trod enc Try.prog w base spare held fuel 77 cs=some x) (hx:∀ v∈x.1.weights Try.prog 77,v<=140737488351232):∃ (s:Sl) (ds:List Dg),cs=[Sl.v s]/\PL dgR 4 (old w) w s ds :=
 aBR Try.underlying77 (by kernel_rfl) (by decide) (fun m c y h hx=>aEI h hx) h hx
end
theorem aEh {g g1:Gh} {w w1:World} {s:Sl} {ds:List Dg} (hs:PL dgR 4 g w s ds) (m:Mo g w g1 w1) {i:Nat} (hi:i<ds.length):∃ a cs,ix s (i:Int) 4=some a/\ldA 4 w1 a 0=some cs/\dgR g1 w1 cs ds[i]/\ldI .i64 w1 (a.add 0)=some ds[i].k/\bW ds[i].bs:=by
 obtain⟨a,cs,ea,ga,hl4,hR,hcl⟩:=hs.at_ i ds[i] (aId hi);have hcell:∀ (j:Nat) (v:Value),cs[j]?=some v->w1.cell? (a.add j)=some v:=fun j v hv=>by
  have hb':(a.add j).block=a.block:=by unfold Addr.add;split<;>rfl
  exact m.cell (by rw[hb'];exact ga) (hcl j v hv)
 refine⟨a,cs,ea,oW 4 w1 a 0 cs hl4 fun j v hv=>by rw[aLi];exact hcell j v hv,aDq hR m,?_,?_⟩
 .obtain⟨b,f,rfl,_⟩:=hR;exact kW (hcell 0 _ rfl)
 obtain⟨b,f,_,_,_,hby,_⟩:=hR;exact hby
def jB (w:World):ND (Bool×World) :=
 lb3 (lU 52 w) fun v1 v2 w3 =>
 cb2 (if (v2 !=0)=true then
 (aU (true,w3))
 else
 (aU ((v1.isNone),w3))) fun v5 w6 =>
 if v5=true then
 (aU (false,w6))
 else
 (cb3 (mV v1 1 3 w6) fun v11 v12 w13 =>
 cb2 (if (v12 !=0)=true then
 (aU (true,w13))
 else
 (if (v11.isNone)=true then
 (aU (true,w13))
 else
 (lb2 (bsl w13 5 1 [[(.int .u8 97)],[(.int .u8 98)]]) fun s21 w22 =>
 lb2 (cvS Try.prog 72 s21 w22) fun s24 w25 =>
 cb2 (jK v11 5 s24 w25) fun v27 w28 =>
 if (v27 !=0)=true then
 (aU (true,w28))
 else
 (lb2 (kO v11 w28) fun v31 w32 =>
 if (v31 !=0)=true then
 (aU (true,w32))
 else
 (lb2 (fV v1 Sl.nil w32) fun v35 w36 =>
 aU ((v35 !=0),w36)))))) fun v15 w16 =>
 if v15=true then
 (aU (false,w16))
 else
 (cb3 (mV v1 1 3 w16) fun v39 v40 w41 =>
 cb2 (if (v40==0)=true then
 (lb2 (gU v39 w41) fun v48 w49 =>
 if (v48==5)=true then
 (lb2 (gI v39 0 9 w49) fun v52 w53 =>
 lb2 (bsl w53 5 1 [[(.int .u8 97)],[(.int .u8 98)]]) fun s55 w56 =>
 lb2 (cvS Try.prog 72 s55 w56) fun s58 w59 =>
 lb2 (bsl w59 87 2 [([.int .i64 5,Sl.v s58])]) fun s61 w62 =>
 lb2 (hJ v52 s61 w62) fun v64 w65 =>
 aU (v64,w65))
 else
 (aU (false,w49)))
 else
 (aU (false,w41))) fun v43 w44 =>
 aU (v43,w44)))
theorem qR {w Q} (h:(jB w).t Q):Calls Try.prog 37 #[] w fun e w''=>∃ i,e=.returned (.bool i.1)/\Q i/\w''=i.2:=by
 refine aR (n:=66) Try.func37 rfl Try.ntmps37 (by simp) fun a u=>?_;unfold jB at h;refine wp_seq<|aA<|qa u rfl fun a u=>aB<|t_n<|wp_seq<|aA<|?_;obtain⟨v1,v2,w3,e4,h⟩:=h;refine q u (dc1 u rfl Try.call30 (sH e4)) fun a u=>qm u rfl fun a u=>q u (aW u rfl rfl) fun a u=>q u (aW u rfl rfl) fun a u=>qa u rfl fun a u=>qa u rfl fun a u=>aB<|t_n<|wp_seq<|wp_seq<|?_;refine dE (n:=66) (ι:=Bool×World) (Lf:=fun i=>[(16,(bV i.1)),(1,(pV v1))]) (wf:=fun i=>i.2) (un2 h) (fun i h a u=>?_) (fun h hk8=>?_)
 .obtain⟨v5,w6⟩:=i;have u:Has 66 [(16,(bV v5)),(1,(pV v1))] a:=u;refine t_n<|?_;refine aX u rfl h (fun b10 h=>?_) (fun b10 h=>?_)
  .refine wp_seq<|aA<|qa u rfl fun a u=>aB<|t_n<|wp_ret<|t_r<|?_;exact bI Try.results37 u rfl ⟨(false,w6),rfl,h,rfl⟩
  refine wp_skip<|t_n<|wp_seq<|aA<|qm u rfl fun a u=>?_;refine lI (ι:=(Option Addr)×Int×World) (pk:=fun i=>(.tuple #[(pV i.1),(iV i.2.1)])) (wf:=fun i=>i.2.2) (xs:=[_,_,_]) (vs:=[(pV v1),(iV 1),(iV 3)]) u ⟨rfl,rfl,rfl,aLj⟩ Try.call32 (pY (un3 h)) (fun i h a u=>?_);obtain⟨v11,v12,w13⟩:=i;refine qm u rfl fun a u=>q u (aW u rfl rfl) fun a u=>q u (aW u rfl rfl) fun a u=>qa u rfl fun a u=>qa u rfl fun a u=>aB<|t_n<|wp_seq<|wp_seq<|?_;refine dE (n:=66) (ι:=Bool×World) (Lf:=fun i=>[(44,(bV i.1)),(1,(pV v1))]) (wf:=fun i=>i.2) (un2 h) (fun i h a u=>?_) (fun h hk18=>?_)
  .obtain⟨v15,w16⟩:=i;have u:Has 66 [(44,(bV v15)),(1,(pV v1))] a:=u;refine t_n<|?_;refine aX u rfl h (fun b38 h=>?_) (fun b38 h=>?_)
   .refine wp_seq<|aA<|qa u rfl fun a u=>aB<|t_n<|wp_ret<|t_r<|?_;exact bI Try.results37 u rfl ⟨(false,w16),rfl,h,rfl⟩
   refine wp_skip<|t_n<|wp_seq<|aA<|qm u rfl fun a u=>?_;refine lI (ι:=(Option Addr)×Int×World) (pk:=fun i=>(.tuple #[(pV i.1),(iV i.2.1)])) (wf:=fun i=>i.2.2) (xs:=[_,_,_]) (vs:=[(pV v1),(iV 1),(iV 3)]) u ⟨rfl,rfl,rfl,aLj⟩ Try.call32 (pY (un3 h)) (fun i h a u=>?_);obtain⟨v39,v40,w41⟩:=i;refine qm u rfl fun a u=>q u (aW u rfl rfl) fun a u=>q u (aW u rfl rfl) fun a u=>qa u rfl fun a u=>qa u rfl fun a u=>aB<|t_n<|wp_seq<|?_;refine dE (n:=66) (ι:=Bool×World) (Lf:=fun i=>[(0,(bV i.1))]) (wf:=fun i=>i.2) (un2 h) (fun i h a u=>?_) (fun h hk46=>?_)
   .obtain⟨v43,w44⟩:=i;have u:Has 66 [(0,(bV v43))] a:=u;refine t_n<|wp_ret<|?_;exact bI Try.results37 u rfl ⟨(v43,w44),rfl,h,rfl⟩
   refine aA<|qm u rfl fun a u=>q u (gL u rfl rfl) fun a u=>qm u rfl fun a u=>?_;refine iP h (fun b47 h=>?_) (fun b47 h=>?_)
   .refine qg u 52 b47 (aC u rfl) fun a u=>?_;obtain⟨v48,w49,e50,h⟩:=h;refine qg u 52 b47 (dc1 u rfl Try.call38 (dG e50)) fun a u=>qg u 52 b47 (gL u rfl rfl) fun a u=>q u (aG u rfl b47 rfl) fun a u=>qm u rfl fun a u=>?_;refine iP h (fun b51 h=>?_) (fun b51 h=>?_)
    .refine qg u 57 b51 (aC u rfl) fun a u=>?_;obtain⟨v52,w53,e54,h⟩:=h;refine qg u 57 b51 (dc3 u rfl rfl rfl Try.call44 (kH e54)) fun a u=>?_;obtain⟨s55,w56,e57,h⟩:=h;refine qg u 57 b51 (iL (vs:=[(0,(.int .u8 97)),(1,(.int .u8 98))]) (ps:=[[(.int .u8 97)],[(.int .u8 98)]]) u ⟨rfl,rfl,rfl,rfl,aLj⟩ ⟨rfl,rfl,rfl,rfl,aLj⟩ rfl aGv aGE aHr (by decide) e57) fun a u=>?_;obtain⟨s58,w59,e60,h⟩:=h;refine qg u 57 b51 (aFi u rfl e60) fun a u=>qg u 57 b51 (eE (vs:=[(0,(iV 5)),(1,(Sl.v s58))]) (pl:=#[(0,1),(1,1)]) (cs:=([.int .i64 5,Sl.v s58])) u ⟨rfl,rfl,rfl,rfl,aLj⟩ aGS aGG (by intro w;kernel_rfl) (by kernel_rfl)) fun a u=>?_;obtain⟨s61,w62,e63,h⟩:=h;refine qg u 57 b51 (iL (vs:=[(0,(.agg (List.toArray ([.int .i64 5,Sl.v s58]))))]) (ps:=[([.int .i64 5,Sl.v s58])]) u ⟨rfl,rfl,aLj⟩ ⟨rfl,rfl,aLj⟩ rfl aGF aGM aGS (by decide) e63) fun a u=>?_;obtain⟨v64,w65,e66,h⟩:=h;refine qg u 57 b51 (dc2 u rfl rfl Try.call48 (kT e66)) fun a u=>q u (aG u rfl b51 rfl) fun a u=>qa u rfl fun a u=>aB<|?_;exact hk46 (v64,w65) h _ (u.sb rfl)
    refine qn u 57 (nm b51) fun a u=>qn u 57 (nm b51) fun a u=>qn u 57 (nm b51) fun a u=>qn u 57 (nm b51) fun a u=>qn u 57 (nm b51) fun a u=>qn u 57 (nm b51) fun a u=>qn u 57 (nm b51) fun a u=>q u (aL u rfl b51 rfl) fun a u=>qa u rfl fun a u=>aB<|?_;exact hk46 (false,w49) h _ (u.sb rfl)
   refine qn u 52 (nm b47) fun a u=>qn u 52 (nm b47) fun a u=>qn u 52 (nm b47) fun a u=>q u (aL u rfl b47 rfl) fun a u=>qm u rfl fun a u=>qn u 57 (nm aIc) fun a u=>qn u 57 (nm aIc) fun a u=>qn u 57 (nm aIc) fun a u=>qn u 57 (nm aIc) fun a u=>qn u 57 (nm aIc) fun a u=>qn u 57 (nm aIc) fun a u=>qn u 57 (nm aIc) fun a u=>q u (aL u rfl aIc rfl) fun a u=>qa u rfl fun a u=>aB<|?_;exact hk46 (false,w41) h _ (u.sb rfl)
  refine aA<|qm u rfl fun a u=>q u (fY u rfl rfl) fun a u=>qm u rfl fun a u=>?_;refine iP h (fun b19 h=>?_) (fun b19 h=>?_)
  .refine qn u 24 (tn b19) fun a u=>qn u 24 (tn b19) fun a u=>q u (aG u rfl b19 rfl) fun a u=>qm u rfl fun a u=>qn u 28 (tn rfl) fun a u=>qn u 28 (tn rfl) fun a u=>qn u 28 (tn rfl) fun a u=>qn u 28 (tn rfl) fun a u=>qn u 28 (tn rfl) fun a u=>q u (aG u rfl rfl rfl) fun a u=>qm u rfl fun a u=>qn u 35 (tn rfl) fun a u=>qn u 35 (tn rfl) fun a u=>qn u 35 (tn rfl) fun a u=>q u (aG u rfl rfl rfl) fun a u=>qm u rfl fun a u=>qn u 40 (tn rfl) fun a u=>qn u 40 (tn rfl) fun a u=>qn u 40 (tn rfl) fun a u=>q u (aG u rfl rfl rfl) fun a u=>aB<|?_;exact hk18 (true,w13) h _ (u.sb rfl)
  refine qg u 24 (nt b19) (aC u rfl) fun a u=>qg u 24 (nt b19) (jM u rfl rfl aHx) fun a u=>q u (aL u rfl b19 rfl) fun a u=>qm u rfl fun a u=>?_;refine iP h (fun b20 h=>?_) (fun b20 h=>?_)
  .refine qn u 28 (tn b20) fun a u=>qn u 28 (tn b20) fun a u=>qn u 28 (tn b20) fun a u=>qn u 28 (tn b20) fun a u=>qn u 28 (tn b20) fun a u=>q u (aG u rfl b20 rfl) fun a u=>qm u rfl fun a u=>qn u 35 (tn rfl) fun a u=>qn u 35 (tn rfl) fun a u=>qn u 35 (tn rfl) fun a u=>q u (aG u rfl rfl rfl) fun a u=>qm u rfl fun a u=>qn u 40 (tn rfl) fun a u=>qn u 40 (tn rfl) fun a u=>qn u 40 (tn rfl) fun a u=>q u (aG u rfl rfl rfl) fun a u=>aB<|?_;exact hk18 (true,w13) h _ (u.sb rfl)
  refine qg u 28 (nt b20) (aC u rfl) fun a u=>?_;obtain⟨s21,w22,e23,h⟩:=h;refine qg u 28 (nt b20) (iL (vs:=[(0,(.int .u8 97)),(1,(.int .u8 98))]) (ps:=[[(.int .u8 97)],[(.int .u8 98)]]) u ⟨rfl,rfl,rfl,rfl,aLj⟩ ⟨rfl,rfl,rfl,rfl,aLj⟩ rfl aGv aGE aHr (by decide) e23) fun a u=>?_;obtain⟨s24,w25,e26,h⟩:=h;refine qg u 28 (nt b20) (aFi u rfl e26) fun a u=>?_;refine aDj (ι:=Int×World) (pk:=fun i=>(iV i.1)) (wf:=fun i=>i.2) (xs:=[_,_,_]) (vs:=[(pV v11),(iV 5),(Sl.v s24)]) rfl rfl u (rfl:List.lookup 28 _=_) (nt b20) ⟨rfl,rfl,rfl,aLj⟩ Try.call42 (oG (un2 h)) (fun i h a u=>?_);obtain⟨v27,w28⟩:=i;refine qg u 28 (nt b20) (fY u rfl rfl) fun a u=>q u (aL u rfl b20 rfl) fun a u=>qm u rfl fun a u=>?_;refine iP h (fun b30 h=>?_) (fun b30 h=>?_)
  .refine qn u 35 (tn b30) fun a u=>qn u 35 (tn b30) fun a u=>qn u 35 (tn b30) fun a u=>q u (aG u rfl b30 rfl) fun a u=>qm u rfl fun a u=>qn u 40 (tn rfl) fun a u=>qn u 40 (tn rfl) fun a u=>qn u 40 (tn rfl) fun a u=>q u (aG u rfl rfl rfl) fun a u=>aB<|?_;exact hk18 (true,w28) h _ (u.sb rfl)
  refine qg u 35 (nt b30) (aC u rfl) fun a u=>?_;obtain⟨v31,w32,e33,h⟩:=h;refine qg u 35 (nt b30) (dc1 u rfl Try.call41 (pT e33)) fun a u=>qg u 35 (nt b30) (fY u rfl rfl) fun a u=>q u (aL u rfl b30 rfl) fun a u=>qm u rfl fun a u=>?_;refine iP h (fun b34 h=>?_) (fun b34 h=>?_)
  .refine qn u 40 (tn b34) fun a u=>qn u 40 (tn b34) fun a u=>qn u 40 (tn b34) fun a u=>q u (aG u rfl b34 rfl) fun a u=>aB<|?_;exact hk18 (true,w32) h _ (u.sb rfl)
  refine qg u 40 (nt b34) (aC u rfl) fun a u=>?_;obtain⟨v35,w36,e37,h⟩:=h;refine qg u 40 (nt b34) (mQ (xs:=[_,_]) (vs:=[(pV v1),(Sl.v Sl.nil)]) u ⟨rfl,rfl,aLj⟩ Try.call79 (lZ e37)) fun a u=>qg u 40 (nt b34) (fY u rfl rfl) fun a u=>q u (aL u rfl b34 rfl) fun a u=>aB<|?_;exact hk18 ((v35 !=0),w36) h _ (u.sb rfl)
 refine aA<|qm u rfl fun a u=>q u (fY u rfl rfl) fun a u=>qm u rfl fun a u=>?_;refine iP h (fun b9 h=>?_) (fun b9 h=>?_)
 .refine qn u 13 (tn b9) fun a u=>qn u 13 (tn b9) fun a u=>q u (aG u rfl b9 rfl) fun a u=>aB<|?_;exact hk8 (true,w3) h _ (u.sb rfl)
 refine qg u 13 (nt b9) (aC u rfl) fun a u=>qg u 13 (nt b9) (jM u rfl rfl aHf) fun a u=>q u (aL u rfl b9 rfl) fun a u=>aB<|?_;exact hk8 ((v1.isNone),w3) h _ (u.sb rfl)
def lvL:Lg:=⟨1,3,0,0,0,[]⟩
def lvA:Int×Dk×Lg:=(Dk.new 52).appendL lvL 5 [97,98]
def lvD:Dk:=(lvA.2.1.syncL lvA.2.2).2.crash []
theorem lv1:(Dk.new 52).openL 1 3=(0,Dk.new 52,some lvL):=by kernel_rfl
theorem lv2:lvA.1=0:=by kernel_rfl
theorem lv3:(lvA.2.1.syncL lvA.2.2).1=0:=by kernel_rfl
theorem lv4:(lvD.openL 1 3).1=0:=by kernel_rfl
theorem lv5:(lvD.openL 1 3).2.2=some ⟨1,3,1,5,0,[⟨0,1,2,5,[(5,[97,98])]⟩]⟩:=by kernel_rfl
theorem aEp:lvL.Wf:=⟨by decide,by decide,by decide,by decide,by decide,by decide,by decide,(fun s hs=>by cases hs),(by simp[lvL]),(fun s hs=>by cases hs)⟩
theorem aEc:(Dk.new 52).To lvA.2.1 1000:=xK _ _ _ (by intro b hb;simp at hb;rcases hb with rfl | rfl<;>decide)
section
variable {F0 : Nat -> Prop} {g g0 : Gh} {w w0 : World} {L : List Rs}
theorem Hp.lit {xs:List Int} {ps:List (List Value)} (H:Hp F0 g0 w0 g w L) (hp:ps=xs.map fun x=>[.int .u8 x]):∃ z g' w1 w2,D.bsl w 5 1 ps=some (z,w1)/\cvS Try.prog 72 z w1=some (z,w2)/\Hp F0 g0 w0 g' w2 L/\Mo g w g' w2/\PR g' w2 z 1 (nums .u8 xs):=by
 obtain⟨w1,w2,e1,e2,r2,f2⟩:=aGe (w:=w) (t:=72) (T:=5) (P:=Try.prog) (m:=ps.length) rfl Try.underlying72 Try.underlying5 (by intro p h;rw[hp] at h;obtain⟨x,_,rfl⟩:=aIA.1 h;rfl);have hfl:ps.flatten=nums .u8 xs:=by
  rw[hp];clear hp
  induction xs with
  | nil=>rfl
  | cons x xs ih=>simpa[nums] using ih
 rw[hfl] at r2;have hlt:(0<ps.length->w.heap.size<w2.heap.size):=fun h0=>by
  obtain⟨a,ea,hc⟩:=r2.at_ h0;have hx:0<xs.length:=by rw[hp] at h0;simpa using h0
  have h1:=hc 0 (.int .u8 xs[0]) (by rw[lS,aId hx];rfl);simp only[Option.some.injEq] at ea;subst ea;exact yE h1
 have n:Nw g w (fun k=>g k\/(0<ps.length/\k=w.heap.size)) w2:=⟨f2 _,fun k hk _=>⟨fun h=>h.elim id (fun h=>by omega),.inl⟩,⟨(f2 (fun _=>False)).size,fun k hk=>⟨.inl hk,(f2 (fun _=>False)).block k (H.lt k hk) id⟩⟩,
  fun k hk=>hk.elim (fun h'=>aIH (H.lt k h') (f2 (fun _=>False)).size) (fun h'=>by rw[h'.2];exact hlt h'.1)⟩
 exact⟨_,_,w1,w2,e1,e2,H.nw n,n.mo,r2,fun a ha h0=>.inr ⟨h0,by cases ha;rfl⟩⟩
theorem aCC (H:Hp F0 g0 w0 g w L) {Φ:Bool×World->Prop} (hΦ:∀ g' w',Hp F0 g0 w0 g' w' L->Mo g w g' w'->Φ (true,w')):(jB w).t Φ:=by
 obtain⟨x,w1,e1,H1,m1⟩:=H.dnew (m:=52) (by decide) (by decide);unfold jB;refine Nd.b3 e1 (Nd.j2 (Ψ:=fun r=>r=(false,w1)) (Nd.f (by decide) (Nd.ret rfl)) ?_);rintro _ _ he;cases he;refine Nd.f (by simp) (Nd.j3 (Ψ:=fun r=>∃ p g',r.1=some ⟨p,0,none⟩/\r.2.1=0/\Hp F0 g0 w0 g' r.2.2 (lgR p x lvL::dkR x (Dk.new 52)::L)/\Mo g w g' r.2.2) (vH H1 (yB _) (by simp[Dk.new]) (by decide) fun g' w' o ho m'=>?_) ?_)
 .rw[show(52:Int).toNat=52 from rfl,lv1] at ho;obtain⟨p,rfl,H'⟩:=ho;exact⟨p,g',rfl,by rw[show(52:Int).toNat=52 from rfl,lv1],H',m1.t m'⟩
 rintro _ _ w2 ⟨p,g2,rfl,rfl,H2,m2⟩;simp only at H2 m2
 -- the record is appended,and the disk crashes
 refine Nd.j2 (Ψ:=fun r=>r.1=false/\∃ g',Hp F0 g0 w0 g' r.2 (dkR x lvD::L)/\Mo g w g' r.2) (Nd.f (by decide) (Nd.f (by simp) ?_)) ?_
 .obtain⟨z3,g3,w3,w4,e3,e4,H4,m4,p4⟩:=H2.lit (xs:=[97,98]) (ps:=[[.int .u8 97],[.int .u8 98]]) rfl;refine Nd.b2 e3 (Nd.b2 e4 (Nd.j2 (Ψ:=fun r=>r.1=0/\∃ g',Hp F0 g0 w0 g' r.2 (lgR p x lvA.2.2::dkR x lvA.2.1::L)/\Mo g w g' r.2) (wP aEp H4 (fun _ _ m=>(p4.mo m).rd) (by simp[Dk.new]) fun g' w' H' m'=>⟨lv2,g',H',m2.t (m4.t m')⟩) ?_));rintro _ w5 ⟨h5,g5,H5,m5⟩;simp only at h5 H5 m5;subst h5;have hW:=aEc.w;have hW0:(Dk.new 52).W.length=0:=rfl;obtain⟨w6,e6,H6,m6⟩:=aAj H5 (by omega);rw[lv3] at e6;have hW6:=(wG lvA.2.1 lvA.2.2).w;obtain⟨w7,e7,H7,m7⟩:=(H6.sw).dcrash (f:=Sl.nil) (fs:=[]) (PR.nil rfl) (by omega);exact Nd.f (by decide) (Nd.b2 e6 (Nd.f (by decide) (Nd.b2 e7 (Nd.ret ⟨rfl,g5,H7.sw.tl,m5.t (m6.t m7)⟩))))
 rintro _ w8 ⟨h8,g8,H8,m8⟩;simp only at h8 H8 m8;subst h8;have hbt:lvD.Bt:=((wG _ _).b (aEc.b (yB _))).crash [];refine Nd.f (by simp) (Nd.j3 (Ψ:=fun r=>∃ p g',r.1=some ⟨p,0,none⟩/\r.2.1=0/\Hp F0 g0 w0 g' r.2.2 (lgR p x ⟨1,3,1,5,0,[⟨0,1,2,5,[(5,[97,98])]⟩]⟩::L)/\Mo g w g' r.2.2) (vH H8 hbt (by simp[lvD,Dk.crash]) (by decide) fun g' w' o ho m'=>?_) ?_)
 .rw[lv5] at ho;obtain⟨p,rfl,H'⟩:=ho;exact⟨p,g',rfl,lv4,H'.sw.tl,m8.t m'⟩
 rintro _ _ w9 ⟨q,g9,rfl,rfl,H9,m9⟩;simp only at H9 m9;refine Nd.j2 (Ψ:=fun r=>r.1=true/\∃ g',Hp F0 g0 w0 g' r.2 L/\Mo g w g' r.2) (Nd.t (by decide) (Nd.b2 (uX H9) (Nd.t (by decide) ?_))) ?_
 .obtain⟨z10,w10,e10,H10,m10⟩:=xB (a:=0) (b:=9) (by simp) (by simp) H9;obtain⟨z11,g11,w11,w12,e11,e12,H12,m12,p12⟩:=H10.lit (xs:=[97,98]) (ps:=[[.int .u8 97],[.int .u8 98]]) rfl;obtain⟨z13,w13,e13,n13,_,H13,m13⟩:=H12.bsl (T:=87) (sz:=2) (ps:=[rcC 5 z11]) (by intro v hv;simp at hv;subst hv;rfl) (by simp);have hev:Lg.events ⟨1,3,1,5,0,[⟨0,1,2,5,[(5,[97,98])]⟩]⟩ 0 9=[(5,[97,98])]:=by kernel_rfl
  rw[hev] at H13;have r1:RRd w13 z10 [(5,[97,98])]:=xX H13.sw;have r2:RRd w13 z13 [(5,[97,98])]:=⟨[(5,z11)],H13.ow.rd,rfl,fun j r q hr hq=>by
   cases j with
   | zero=>simp at hr hq;subst hr;subst hq;exact⟨rfl,(p12.mo m13).rd⟩
   | succ j=>simp at hr⟩
  obtain⟨w14,e14,-,f14⟩:=aBn r1 r2 (by simp);have H14:=H13.tl.tl.tl.old f14;exact Nd.b2 e10 (Nd.b2 e11 (Nd.b2 e12 (Nd.b2 e13 (Nd.b2 e14 (Nd.ret ⟨rfl,g11,H14,m9.t (m10.t (m12.t (m13.t (H13.mold f14))))⟩)))))
 rintro _ w15 ⟨h15,g15,H15,m15⟩;simp only at h15 H15 m15;subst h15;exact Nd.ret (hΦ g15 w15 H15 m15)
end
def dF (v106:Sl) (v100:Int) (v95:Int) (x109:Int) (w110:World):ND ((Int×World)⊕((World)⊕(Bool×World))) :=
 if (decide (x109<(v106.n:Int)))=true then
 (cb2 (lb1 (dr w110) fun w124 =>
 lb1 (ix v106 x109 2) fun p126 =>
 lb1 (ldI .i64 w124 (p126.add 0)) fun v128 =>
 if (decide (v128<=v100))=true then
 (aU (true,w124))
 else
 (lb1 (ix v106 x109 2) fun p131 =>
 lb1 (ldI .i64 w124 (p131.add 0)) fun v133 =>
 if (decide (v95<v133))=true then
 (aU (true,w124))
 else
 (if (decide (0<x109))=true then
 (lb1 (ix v106 x109 2) fun p137 =>
 lb1 (ldI .i64 w124 (p137.add 0)) fun v139 =>
 lb1 (ix v106 (IntKind.wrap .i64 (x109-1)) 2) fun p141 =>
 lb1 (ldI .i64 w124 (p141.add 0)) fun v143 =>
 aU ((decide (v139<=v143)),w124))
 else
 (aU (false,w124))))) fun v120 w121 =>
 if v120=true then
 (aU (.inr (.inr (false,w121))))
 else
 (aU (.inl ((IntKind.wrap .i64 (x109+1)),w121))))
 else
 (aU (.inr (.inl w110)))
noncomputable def dB (a0:Sl) (v1:Option Addr) (x5:Bool) (x6:Int) (x7:Int) (x8:Int) (w9:World):ND ((Bool×Int×Int×Int×World)⊕((Bool×World)⊕(Bool×World))) :=
 cb2 (if x5=true then
 (if (decide (x8<(a0.n:Int)))=true then
 (aU ((decide (x8<100)),w9))
 else
 (aU (false,w9)))
 else
 (aU (false,w9))) fun v19 w20 =>
 if v19=true then
 (cbX (cb2 (lb1 (ix a0 x8 4) fun p39 =>
 lb1 (ldI .i64 w20 (p39.add 0)) fun v41 =>
 if (v41==4)=true then
 (aU (true,w20))
 else
 (lb1 (ix a0 x8 4) fun p44 =>
 lb1 (ldI .i64 w20 (p44.add 0)) fun v46 =>
 aU ((v46==5),w20))) fun v35 w36 =>
 if v35=true then
 (aU (.inr (x5,x6,x7,w36)))
 else
 (lb1 (ix a0 x8 4) fun p49 =>
 lb1 (ldA 4 w36 p49 0) fun c51 =>
 cb2 (gZ v1 c51 w36) fun v53 w54 =>
 cb2 (lb1 (dr w54) fun w60 =>
 lb1 (v1) fun p62 =>
 lb1 (ldP w60 (p62.add 1)) fun v64 =>
 lb2 (gU v64 w60) fun v66 w67 =>
 if (decide (v66<x6))=true then
 (aU (true,w67))
 else
 (lb1 (ldP w67 (p62.add 1)) fun v70 =>
 lb2 (jI v70 w67) fun v72 w73 =>
 if (decide (v72<x7))=true then
 (aU (true,w73))
 else
 (lb1 (ldP w73 (p62.add 1)) fun v76 =>
 lb2 (jI v76 w73) fun v78 w79 =>
 lb1 (ldP w79 (p62.add 1)) fun v81 =>
 lb2 (gU v81 w79) fun v83 w84 =>
 nck (ldP w73 (p62.add 1)=some v81) <|
 aU ((decide (v83<v78)),w84)))) fun v56 w57 =>
 if v56=true then
 (cb1 (aU (.inr (.inr (false,w57)))) fun g34=>aU (.inl g34))
 else
 (lb1 (dr w57) fun w89 =>
 lb1 (v1) fun p91 =>
 lb1 (ldP w89 (p91.add 1)) fun v93 =>
 lb2 (gU v93 w89) fun v95 w96 =>
 lb1 (ldP w96 (p91.add 1)) fun v98 =>
 lb2 (jI v98 w96) fun v100 w101 =>
 nck (ldP w89 (p91.add 1)=some v98) <|
 lb1 (ldP w101 (p91.add 1)) fun v104 =>
 lb2 (gI v104 0 1099511627776 w101) fun v106 w107 =>
 cb1 (eQ (fun s:Int×World=>dF v106 v100 v95 s.1 s.2) (0,w107)) fun r111=>Sum.elim (fun (i:World)=>u1 i fun w113 =>
 aU (.inr (v53,v95,v100,w113))) (fun (i:Bool×World)=>u2 i fun v114 w115 =>
 cb1 (aU (.inr (.inr (v114,w115)))) fun g34=>aU (.inl g34)) r111))) fun (i:Bool×Int×Int×World)=>u4 i fun v26 v27 v28 w29 =>
 aU (.inl (v26,v27,v28,(IntKind.wrap .i64 (x8+1)),w29)))
 else
 (aU (.inr (.inl (x5,w20))))
noncomputable def iF (a0:Sl) (w:World):ND (Bool×World) :=
 cb3 (iQ Sl.nil w) fun v1 v2 w3 =>
 cb1 (eQ (fun s:Bool×Int×Int×Int×World=>dB a0 v1 s.1 s.2.1 s.2.2.1 s.2.2.2.1 s.2.2.2.2) (v2,0,0,0,w3)) fun r10=>Sum.elim (fun (i:Bool×World)=>u2 i fun v12 w13 =>
 cb2 (cb2 (jB w13) fun v152 w153 =>
 if v152=true then
 (aU (v12,w153))
 else
 (aU (false,w153))) fun v148 w149 =>
 aU (v148,w149)) (fun (i:Bool×World)=>u2 i fun v14 w15 =>
 aU (v14,w15)) r10
theorem grapevinelaw11_EvlogGrows_ok {a0 w Q} (h:(iF a0 w).t Q):Calls Try.prog 11 #[(Sl.v a0)] w fun e w''=>∃ i,e=.returned (.bool i.1)/\Q i/\w''=i.2:=by
 refine aR (n:=135) Try.func11 rfl Try.ntmps11 (by simp) fun a u=>?_;unfold iF at h;refine wp_seq<|aA<|qa u rfl fun a u=>aB<|t_n<|wp_seq<|aA<|?_;refine lI (ι:=(Option Addr)×Bool×World) (pk:=fun i=>(.tuple #[(pV i.1),(bV i.2.1)])) (wf:=fun i=>i.2.2) (xs:=[_]) (vs:=[(Sl.v Sl.nil)]) u ⟨rfl,aLj⟩ Try.call45 (qE (un3 h)) (fun i h a u=>?_);obtain⟨v1,v2,w3⟩:=i;refine qm u rfl fun a u=>q u (aW u rfl rfl) fun a u=>q u (aW u rfl rfl) fun a u=>qa u rfl fun a u=>qa u rfl fun a u=>aB<|t_n<|wp_seq<|aA<|qa u rfl fun a u=>qa u rfl fun a u=>aB<|t_n<|wp_seq<|wp_seq<|aA<|qa u rfl fun a u=>aB<|t_n<|wp_block<|?_;refine qF (n:=135) (L1:=fun i=>[(4,(bV i.1))]) (w1:=fun i=>i.2) (L2:=fun i=>[(2,(bV i.1))]) (w2:=fun i=>i.2) (e1:=.exit 0) (e2:=.ret) (I:=fun (s:Bool×Int×Int×Int×World) a w=>Has 135 [(4,(bV s.1)),(5,(iV s.2.1)),(6,(iV s.2.2.1)),(7,(iV s.2.2.2.1)),(0,(Sl.v a0)),(3,(pV v1))] a/\w=s.2.2.2.2) (un1 h) ⟨u.sub ⟨rfl,rfl,rfl,rfl,rfl,rfl,aLj⟩,rfl⟩ (fun i h a u=>?_) (fun i h a u=>?_) (fun hk16 hk17=>?_)
 .obtain⟨v12,w13⟩:=i
  try dsimp only[Sum.elim_inl,Sum.elim_inr,u1,u2,u3,u4,u5,u6] at h
  have u:Has 135 [(4,(bV v12))] a:=u;refine dV<|t_n<|wp_seq<|?_;refine dE (n:=135) (ι:=Bool×World) (Lf:=fun i=>[(2,(bV i.1))]) (wf:=fun i=>i.2) (un2 h) (fun i h a u=>?_) (fun h hk151=>?_)
  .obtain⟨v148,w149⟩:=i;have u:Has 135 [(2,(bV v148))] a:=u;refine t_n<|wp_ret<|?_;exact bI Try.results11 u rfl ⟨(v148,w149),rfl,h,rfl⟩
  refine aA<|?_;refine lI (ι:=Bool×World) (pk:=fun i=>(bV i.1)) (wf:=fun i=>i.2) (xs:=[]) (vs:=[]) u trivial Try.call37 (qR (un2 h)) (fun i h a u=>?_);obtain⟨v152,w153⟩:=i;refine qm u rfl fun a u=>?_;refine iP h (fun b155 h=>?_) (fun b155 h=>?_)
  .refine qg u 132 b155 (aC u rfl) fun a u=>q u (aG u rfl b155 rfl) fun a u=>qa u rfl fun a u=>aB<|?_;exact hk151 (v12,w153) h _ (u.sb rfl)
  refine qn u 132 (nm b155) fun a u=>q u (aL u rfl b155 rfl) fun a u=>qa u rfl fun a u=>aB<|?_;exact hk151 (false,w153) h _ (u.sb rfl)
 .obtain⟨v14,w15⟩:=i
  try dsimp only[Sum.elim_inl,Sum.elim_inr,u1,u2,u3,u4,u5,u6] at h
  have u:Has 135 [(2,(bV v14))] a:=u;refine b_r<|t_r<|?_;exact bI Try.results11 u rfl ⟨(v14,w15),rfl,h,rfl⟩
 clear h;intro hX156;rintro⟨x5,x6,x7,x8,w9⟩ a wq ⟨u,hwq⟩ h;obtain rfl:w9=wq:=hwq.symm;have u:Has 135 [(4,(bV x5)),(5,(iV x6)),(6,(iV x7)),(7,(iV x8)),(0,(Sl.v a0)),(3,(pV v1))] a:=u;have h:(dB a0 v1 x5 x6 x7 x8 w9).t _:=h;unfold dB at h;refine wp_seq<|wp_seq<|?_;refine dE (n:=135) (ι:=Bool×World) (Lf:=fun i=>[(24,(bV i.1)),(0,(Sl.v a0)),(3,(pV v1)),(4,(bV x5)),(5,(iV x6)),(6,(iV x7)),(7,(iV x8))]) (wf:=fun i=>i.2) (un2 h) (fun i h a u=>?_) (fun h hk22=>?_)
 .obtain⟨v19,w20⟩:=i;have u:Has 135 [(24,(bV v19)),(0,(Sl.v a0)),(3,(pV v1)),(4,(bV x5)),(5,(iV x6)),(6,(iV x7)),(7,(iV x8))] a:=u;refine t_n<|?_;refine aX u rfl h (fun b25 h=>?_) (fun b25 h=>?_)
  .refine wp_skip<|t_n<|?_;refine mH (n:=135) (ι:=Bool×Int×Int×World) (Lf:=fun i=>[(4,(bV i.1)),(5,(iV i.2.1)),(6,(iV i.2.2.1)),(0,(Sl.v a0)),(3,(pV v1)),(7,(iV x8))]) (wf:=fun i=>i.2.2.2) (unX h) (fun i h a u=>?_) (fun h hk33=>?_)
   .obtain⟨v26,v27,v28,w29⟩:=i
    try dsimp only[Sum.elim_inl,Sum.elim_inr,u1,u2,u3,u4,u5,u6] at h
    have u:Has 135 [(4,(bV v26)),(5,(iV v27)),(6,(iV v28)),(0,(Sl.v a0)),(3,(pV v1)),(7,(iV x8))] a:=u;refine aA<|qm u rfl fun a u=>q u (bJ u rfl rfl) fun a u=>qa u rfl fun a u=>aB<|?_;exact⟨(v26,v27,v28,(IntKind.wrap .i64 (x8+1)),w29),⟨u.sb rfl,rfl⟩,h⟩
   refine wp_block<|wp_seq<|wp_seq<|?_;refine dE (n:=135) (ι:=Bool×World) (Lf:=fun i=>[(40,(bV i.1)),(0,(Sl.v a0)),(3,(pV v1)),(4,(bV x5)),(5,(iV x6)),(6,(iV x7)),(7,(iV x8))]) (wf:=fun i=>i.2) (un2 h) (fun i h a u=>?_) (fun h hk38=>?_)
   .obtain⟨v35,w36⟩:=i;have u:Has 135 [(40,(bV v35)),(0,(Sl.v a0)),(3,(pV v1)),(4,(bV x5)),(5,(iV x6)),(6,(iV x7)),(7,(iV x8))] a:=u;refine t_n<|?_;refine aX u rfl h (fun b48 h=>?_) (fun b48 h=>?_)
    .refine wp_exit<|t_x<|dV<|?_;exact hk33 (x5,x6,x7,w36) h _ (u.sb rfl)
    refine wp_skip<|t_n<|wp_seq<|aA<|qm u rfl fun a u=>qm u rfl fun a u=>qm u rfl fun a u=>?_;obtain⟨p49,e50,h⟩:=h;refine q u (bQ u rfl rfl aHv aHN e50) fun a u=>?_;obtain⟨c51,e52,h⟩:=h;refine q u (gC u rfl Try.isAgg82 aHN e52) fun a u=>?_;refine lI (ι:=Bool×World) (pk:=fun i=>(bV i.1)) (wf:=fun i=>i.2) (xs:=[_,_]) (vs:=[(pV v1),(.agg (List.toArray c51))]) u ⟨rfl,rfl,aLj⟩ Try.call46 (pO (un2 h)) (fun i h a u=>?_);obtain⟨v53,w54⟩:=i;refine qa u rfl fun a u=>aB<|t_n<|wp_seq<|wp_seq<|?_;refine dE (n:=135) (ι:=Bool×World) (Lf:=fun i=>[(75,(bV i.1)),(0,(Sl.v a0)),(3,(pV v1)),(4,(bV v53)),(7,(iV x8))]) (wf:=fun i=>i.2) (un2 h) (fun i h a u=>?_) (fun h hk59=>?_)
    .obtain⟨v56,w57⟩:=i;have u:Has 135 [(75,(bV v56)),(0,(Sl.v a0)),(3,(pV v1)),(4,(bV v53)),(7,(iV x8))] a:=u;refine t_n<|?_;refine aX u rfl h (fun b87 h=>?_) (fun b87 h=>?_)
     .refine wp_seq<|aA<|qa u rfl fun a u=>aB<|t_n<|wp_ret<|t_r<|b_r<|?_;have h:=unL h;refine t_r<|t_r<|?_;exact hk17 (false,w57) h _ (u.sb rfl)
     refine wp_skip<|t_n<|wp_seq<|?_;obtain⟨w89,e90,h⟩:=h;obtain⟨p91,e92,h⟩:=h;obtain⟨v93,e94,h⟩:=h;obtain⟨v95,w96,e97,h⟩:=h;obtain⟨v98,e99,h⟩:=h;obtain⟨v100,w101,e102,h⟩:=h;obtain⟨e103,h⟩:=h;have u:Has 135 [(0,(Sl.v a0)),(3,(pV v1)),(4,(bV v53)),(7,(iV x8))] a:=u.sb rfl;refine aM (n:=135) (ds:=(aQ (pV v1) 0 [] 3::aF (pV (some p91)) 0 [0] 76 (pV v1)::aF (pV (some (p91.add 1))) 0 [0,1] 77 (pV (some p91))::aF (pV v93) 0 [0,1,2] 78 (pV (some (p91.add 1)))::aI (iV v95) true 0 0 (rn 0 4) [(79,(pV v93))]::aI (pV v1) false 0 1 [] [(3,(pV v1))]::aI (pV (some p91)) false 0 1 [5] [(81,(pV v1))]::aI (pV (some (p91.add 1))) false 0 1 [5,6] [(82,(pV (some p91)))]::aI (pV v98) false 0 1 [5,6,7] [(83,(pV (some (p91.add 1))))]::aI (iV v100) true 1 1 (rn 0 9) [(84,(pV v98))]::aQ (iV v95) 2 (rn 0 10) 80::aQ (iV v100) 2 (rn 0 11) 85::[])) (W:=(fun j=>match j with | 0=>w89 | 1=>w96 | 2=>w101 | _=>w101)) (by kernel_rfl) u (cR e90) (by kernel_rfl) ?_ (aT (by kernel_rfl)) (by kernel_rfl) (m:=2) (by kernel_rfl) (fun a u=>?_)
     .refine⟨oa (aC · rfl),oa (aH · rfl e92),oa (aK · rfl aGB rfl rfl aGW),oc 0 (kd (aJ · rfl aHc (bB e94))),oc 0 (kd (dc1 · rfl Try.call38 (dG e97))),oa (aC · rfl),oa (aH · rfl e92),oa (aK · rfl aGB rfl rfl aGW),?_,oc 1 (kd (dc1 · rfl Try.call39 (gK e102))),oa (bA · rfl),oa (bA · rfl),aLj⟩;intro j h1 h2;have h1:0<=j:=h1;have h2:j<=1:=h2;rcases(by omega:j=0\/j=1) with rfl | rfl
      .exact kd (aJ · rfl aHc (bB e103))
      exact kd (aJ · rfl aHc (bB e99))
     have u:Has 135 [(0,(Sl.v a0)),(3,(pV v1)),(4,(bV v53)),(5,(iV v95)),(6,(iV v100)),(7,(iV x8))] a:=u.sb rfl;refine t_n<|wp_seq<|aA<|qm u rfl fun a u=>q u (aH u rfl e92) fun a u=>q u (aK u rfl aGB rfl rfl aGW) fun a u=>?_;obtain⟨v104,e105,h⟩:=h;refine q u (aJ u rfl aHc (bB e105)) fun a u=>?_;obtain⟨v106,w107,e108,h⟩:=h;refine q u (dc3 u rfl rfl rfl Try.call44 (kH e108)) fun a u=>qa u rfl fun a u=>aB<|t_n<|wp_seq<|aA<|qa u rfl fun a u=>aB<|t_n<|wp_block<|?_;refine qF (n:=135) (L1:=fun i=>[(0,(Sl.v a0)),(3,(pV v1)),(4,(bV v53)),(5,(iV v95)),(6,(iV v100)),(7,(iV x8))]) (w1:=fun i=>i) (L2:=fun i=>[(2,(bV i.1))]) (w2:=fun i=>i.2) (e1:=.exit 2) (e2:=.ret) (I:=fun (s:Int×World) a w=>Has 135 [(9,(iV s.1)),(0,(Sl.v a0)),(3,(pV v1)),(4,(bV v53)),(5,(iV v95)),(6,(iV v100)),(7,(iV x8)),(8,(Sl.v v106))] a/\w=s.2) (un1 h) ⟨u.sub ⟨rfl,rfl,rfl,rfl,rfl,rfl,rfl,rfl,aLj⟩,rfl⟩ (fun i h a u=>?_) (fun i h a u=>?_) (fun hk116 hk117=>?_)
     .obtain⟨w113,rfl⟩:∃ x,x=i:=⟨i,rfl⟩
      try dsimp only[Sum.elim_inl,Sum.elim_inr,u1,u2,u3,u4,u5,u6] at h
      have u:Has 135 [(0,(Sl.v a0)),(3,(pV v1)),(4,(bV v53)),(5,(iV v95)),(6,(iV v100)),(7,(iV x8))] a:=u;refine dV<|b_n<|?_;exact hk33 (v53,v95,v100,w113) h _ (u.sb rfl)
     .obtain⟨v114,w115⟩:=i
      try dsimp only[Sum.elim_inl,Sum.elim_inr,u1,u2,u3,u4,u5,u6] at h
      have u:Has 135 [(2,(bV v114))] a:=u;refine b_r<|b_r<|?_;have h:=unL h;refine t_r<|t_r<|?_;exact hk17 (v114,w115) h _ (u.sb rfl)
     clear h;intro hX147;rintro⟨x109,w110⟩ a wq ⟨u,hwq⟩ h;obtain rfl:w110=wq:=hwq.symm;have u:Has 135 [(9,(iV x109)),(0,(Sl.v a0)),(3,(pV v1)),(4,(bV v53)),(5,(iV v95)),(6,(iV v100)),(7,(iV x8)),(8,(Sl.v v106))] a:=u;have h:(dF v106 v100 v95 x109 w110).t _:=h;unfold dF at h;refine wp_seq<|wp_seq<|aA<|qm u rfl fun a u=>qm u rfl fun a u=>q u (aZ u rfl aGF) fun a u=>q u (cY u rfl rfl) fun a u=>aB<|t_n<|?_;refine aX u rfl h (fun b119 h=>?_) (fun b119 h=>?_)
     .refine wp_skip<|t_n<|wp_seq<|wp_block<|wp_seq<|?_;refine dE (n:=135) (ι:=Bool×World) (Lf:=fun i=>[(130,(bV i.1)),(0,(Sl.v a0)),(3,(pV v1)),(4,(bV v53)),(5,(iV v95)),(6,(iV v100)),(7,(iV x8)),(8,(Sl.v v106)),(9,(iV x109))]) (wf:=fun i=>i.2) (un2 h) (fun i h a u=>?_) (fun h hk123=>?_)
      .obtain⟨v120,w121⟩:=i;have u:Has 135 [(130,(bV v120)),(0,(Sl.v a0)),(3,(pV v1)),(4,(bV v53)),(5,(iV v95)),(6,(iV v100)),(7,(iV x8)),(8,(Sl.v v106)),(9,(iV x109))] a:=u;refine t_n<|?_;refine aX u rfl h (fun b145 h=>?_) (fun b145 h=>?_)
       .refine wp_seq<|aA<|qa u rfl fun a u=>aB<|t_n<|wp_ret<|b_r<|t_r<|t_r<|?_;exact hk117 (false,w121) h _ (u.sb rfl)
       refine wp_skip<|b_n<|t_n<|aA<|qm u rfl fun a u=>q u (bJ u rfl rfl) fun a u=>qa u rfl fun a u=>aB<|?_;exact⟨((IntKind.wrap .i64 (x109+1)),w121),⟨u.sb rfl,rfl⟩,h⟩
      obtain⟨w124,e125,h⟩:=h;obtain⟨p126,e127,h⟩:=h;obtain⟨v128,e129,h⟩:=h;refine iP h (fun b130 h=>?_) (fun b130 h=>?_)
      .have u:Has 135 [(0,(Sl.v a0)),(3,(pV v1)),(4,(bV v53)),(5,(iV v95)),(6,(iV v100)),(7,(iV x8)),(8,(Sl.v v106)),(9,(iV x109))] a:=u.sb rfl;refine aM (n:=135) (ds:=(aQ (Sl.v v106) 0 [] 8::aQ (iV x109) 0 [] 9::aP (pV (some p126)) 0 [0,1] [(97,(Sl.v v106)),(98,(iV x109))]::aF (pV (some (p126.add 0))) 0 [0,1,2] 99 (pV (some p126))::aF (iV v128) 0 (rn 0 4) 100 (pV (some (p126.add 0)))::aQ (iV v100) 0 [] 6::aP (bV (decide (v128<=v100))) 0 (rn 0 6) [(101,(iV v128)),(102,(iV v100))]::aQ (bV (decide (v128<=v100))) 0 (rn 0 7) 103::aF (undef) 0 (rn 0 8) 104 (bV (decide (v128<=v100)))::aF (undef) 0 (rn 0 8) 104 (bV (decide (v128<=v100)))::aF (undef) 0 (rn 0 10) 104 (bV (decide (v128<=v100)))::aF (undef) 0 (rn 0 11) 104 (bV (decide (v128<=v100)))::aF (undef) 0 (rn 0 12) 104 (bV (decide (v128<=v100)))::aF (undef) 0 (rn 0 8) 104 (bV (decide (v128<=v100)))::aF (undef) 0 (rn 0 14) 104 (bV (decide (v128<=v100)))::aP (bV true) 0 (rn 0 15) [(104,(bV (decide (v128<=v100)))),(111,undef)]::aQ (bV true) 0 (rn 0 16) 112::aF (undef) 0 (rn 0 17) 113 (bV true)::aF (undef) 0 (rn 0 18) 113 (bV true)::aF (undef) 0 (rn 0 19) 113 (bV true)::aQ (undef) 0 (rn 0 20) 116::aQ (undef) 0 (rn 0 20) 116::aQ (undef) 0 (rn 0 22) 116::aQ (undef) 0 (rn 0 23) 116::aQ (undef) 0 (rn 0 24) 116::aQ (undef) 0 (rn 0 20) 116::aQ (undef) 0 (rn 0 20) 116::aQ (undef) 0 (rn 0 20++[26]) 116::aQ (undef) 0 (rn 0 20++[25,26,27]) 116::aQ (undef) 0 (rn 0 20++rn 25 4) 116::aQ (undef) 0 (rn 0 20++rn 25 5) 116::aQ (undef) 0 (rn 0 31) 116::aF (undef) 0 (rn 0 32) 113 (bV true)::aP (bV true) 0 (rn 0 33) [(113,(bV true)),(129,undef)]::[])) (W:=(fun _=>w124)) (by kernel_rfl) u (cR e125) (by kernel_rfl) ?_ (aT (by kernel_rfl)) (by kernel_rfl) (m:=0) (by kernel_rfl) (fun a u=>?_)
       .refine⟨oa (aC · rfl),oa (aC · rfl),oa (bQ · rfl rfl aGF aGM e127),oa (aK · rfl aGG rfl rfl aGw),oc (e:=false) 0 (kd (aJ · rfl aGy (aS e129))),oa (aC · rfl),oa (qC · rfl rfl),oa (aC · rfl),on 104 (tn b130),on 104 (tn b130),on 104 (tn b130),on 104 (tn b130),on 104 (tn b130),on 104 (tn b130),on 104 (tn b130),oa (aG · rfl b130 rfl),oa (aC · rfl),on 113 (tn rfl),on 113 (tn rfl),on 113 (tn rfl),?_,?_,?_,?_,?_,?_,?_,?_,?_,?_,?_,?_,on 113 (tn rfl),oa (aG · rfl rfl rfl),aLj⟩
        .intro j _ _;exact fG rfl rfl (rfl:List.lookup 116 _=_)
        .intro j _ _;exact fG rfl rfl (rfl:List.lookup 116 _=_)
        .intro j _ _;exact fG rfl rfl (rfl:List.lookup 116 _=_)
        .intro j _ _;exact fG rfl rfl (rfl:List.lookup 116 _=_)
        .intro j _ _;exact fG rfl rfl (rfl:List.lookup 116 _=_)
        .intro j _ _;exact fG rfl rfl (rfl:List.lookup 116 _=_)
        .intro j _ _;exact fG rfl rfl (rfl:List.lookup 116 _=_)
        .intro j _ _;exact fG rfl rfl (rfl:List.lookup 116 _=_)
        .intro j _ _;exact fG rfl rfl (rfl:List.lookup 116 _=_)
        .intro j _ _;exact fG rfl rfl (rfl:List.lookup 116 _=_)
        .intro j _ _;exact fG rfl rfl (rfl:List.lookup 116 _=_)
        intro j _ _;exact fG rfl rfl (rfl:List.lookup 116 _=_)
       have u:Has 135 [(0,(Sl.v a0)),(3,(pV v1)),(4,(bV v53)),(5,(iV v95)),(6,(iV v100)),(7,(iV x8)),(8,(Sl.v v106)),(9,(iV x109)),(130,(bV true))] a:=u.sb rfl;exact hk123 (true,w124) h _ (u.sb rfl)
      obtain⟨p131,e132,h⟩:=h;obtain⟨v133,e134,h⟩:=h;refine iP h (fun b135 h=>?_) (fun b135 h=>?_)
      .have u:Has 135 [(0,(Sl.v a0)),(3,(pV v1)),(4,(bV v53)),(5,(iV v95)),(6,(iV v100)),(7,(iV x8)),(8,(Sl.v v106)),(9,(iV x109))] a:=u.sb rfl;refine aM (n:=135) (ds:=(aQ (Sl.v v106) 0 [] 8::aQ (iV x109) 0 [] 9::aP (pV (some p126)) 0 [0,1] [(97,(Sl.v v106)),(98,(iV x109))]::aF (pV (some (p126.add 0))) 0 [0,1,2] 99 (pV (some p126))::aF (iV v128) 0 (rn 0 4) 100 (pV (some (p126.add 0)))::aQ (iV v100) 0 [] 6::aP (bV (decide (v128<=v100))) 0 (rn 0 6) [(101,(iV v128)),(102,(iV v100))]::aQ (bV (decide (v128<=v100))) 0 (rn 0 7) 103::aP (Sl.v v106) 0 (rn 0 8) [(8,(Sl.v v106)),(104,(bV (decide (v128<=v100))))]::aP (iV x109) 0 (rn 0 8) [(9,(iV x109)),(104,(bV (decide (v128<=v100))))]::aP (pV (some p131)) 0 (rn 0 10) [(105,(Sl.v v106)),(106,(iV x109)),(104,(bV (decide (v128<=v100))))]::aP (pV (some (p131.add 0))) 0 (rn 0 11) [(107,(pV (some p131))),(104,(bV (decide (v128<=v100))))]::aP (iV v133) 0 (rn 0 12) [(108,(pV (some (p131.add 0)))),(104,(bV (decide (v128<=v100))))]::aP (iV v95) 0 (rn 0 8) [(5,(iV v95)),(104,(bV (decide (v128<=v100))))]::aP (bV (decide (v95<v133))) 0 (rn 0 14) [(109,(iV v133)),(110,(iV v95)),(104,(bV (decide (v128<=v100))))]::aP (bV (decide (v95<v133))) 0 (rn 0 15) [(104,(bV (decide (v128<=v100)))),(111,(bV (decide (v95<v133))))]::aQ (bV (decide (v95<v133))) 0 (rn 0 16) 112::aF (undef) 0 (rn 0 17) 113 (bV (decide (v95<v133)))::aF (undef) 0 (rn 0 18) 113 (bV (decide (v95<v133)))::aF (undef) 0 (rn 0 19) 113 (bV (decide (v95<v133)))::aQ (undef) 0 (rn 0 20) 116::aQ (undef) 0 (rn 0 20) 116::aQ (undef) 0 (rn 0 22) 116::aQ (undef) 0 (rn 0 23) 116::aQ (undef) 0 (rn 0 24) 116::aQ (undef) 0 (rn 0 20) 116::aQ (undef) 0 (rn 0 20) 116::aQ (undef) 0 (rn 0 20++[26]) 116::aQ (undef) 0 (rn 0 20++[25,26,27]) 116::aQ (undef) 0 (rn 0 20++rn 25 4) 116::aQ (undef) 0 (rn 0 20++rn 25 5) 116::aQ (undef) 0 (rn 0 31) 116::aF (undef) 0 (rn 0 32) 113 (bV (decide (v95<v133)))::aP (bV true) 0 (rn 0 33) [(113,(bV (decide (v95<v133)))),(129,undef)]::[])) (W:=(fun _=>w124)) (by kernel_rfl) u (cR e125) (by kernel_rfl) ?_ (aT (by kernel_rfl)) (by kernel_rfl) (m:=0) (by kernel_rfl) (fun a u=>?_)
       .refine⟨oa (aC · rfl),oa (aC · rfl),oa (bQ · rfl rfl aGF aGM e127),oa (aK · rfl aGG rfl rfl aGw),oc (e:=false) 0 (kd (aJ · rfl aGy (aS e129))),oa (aC · rfl),oa (qC · rfl rfl),oa (aC · rfl),oag 104 (nt b130) (aC · rfl),oag 104 (nt b130) (aC · rfl),oag 104 (nt b130) (bQ · rfl rfl aGF aGM e132),oag 104 (nt b130) (aK · rfl aGG rfl rfl aGw),oc (e:=false) 0 (kg 104 (nt b130) (aJ · rfl aGy (aS e134))),oag 104 (nt b130) (aC · rfl),oag 104 (nt b130) (fW · rfl rfl),oa (aL · rfl b130 rfl),oa (aC · rfl),on 113 (tn b135),on 113 (tn b135),on 113 (tn b135),?_,?_,?_,?_,?_,?_,?_,?_,?_,?_,?_,?_,on 113 (tn b135),oa (aG · rfl b135 rfl),aLj⟩
        .intro j _ _;exact fG rfl rfl (rfl:List.lookup 116 _=_)
        .intro j _ _;exact fG rfl rfl (rfl:List.lookup 116 _=_)
        .intro j _ _;exact fG rfl rfl (rfl:List.lookup 116 _=_)
        .intro j _ _;exact fG rfl rfl (rfl:List.lookup 116 _=_)
        .intro j _ _;exact fG rfl rfl (rfl:List.lookup 116 _=_)
        .intro j _ _;exact fG rfl rfl (rfl:List.lookup 116 _=_)
        .intro j _ _;exact fG rfl rfl (rfl:List.lookup 116 _=_)
        .intro j _ _;exact fG rfl rfl (rfl:List.lookup 116 _=_)
        .intro j _ _;exact fG rfl rfl (rfl:List.lookup 116 _=_)
        .intro j _ _;exact fG rfl rfl (rfl:List.lookup 116 _=_)
        .intro j _ _;exact fG rfl rfl (rfl:List.lookup 116 _=_)
        intro j _ _;exact fG rfl rfl (rfl:List.lookup 116 _=_)
       have u:Has 135 [(0,(Sl.v a0)),(3,(pV v1)),(4,(bV v53)),(5,(iV v95)),(6,(iV v100)),(7,(iV x8)),(8,(Sl.v v106)),(9,(iV x109)),(130,(bV true))] a:=u.sb rfl;exact hk123 (true,w124) h _ (u.sb rfl)
      refine iP h (fun b136 h=>?_) (fun b136 h=>?_)
      .obtain⟨p137,e138,h⟩:=h;obtain⟨v139,e140,h⟩:=h;obtain⟨p141,e142,h⟩:=h;obtain⟨v143,e144,h⟩:=h;have u:Has 135 [(0,(Sl.v a0)),(3,(pV v1)),(4,(bV v53)),(5,(iV v95)),(6,(iV v100)),(7,(iV x8)),(8,(Sl.v v106)),(9,(iV x109))] a:=u.sb rfl;refine aM (n:=135) (ds:=(aQ (Sl.v v106) 0 [] 8::aQ (iV x109) 0 [] 9::aP (pV (some p126)) 0 [0,1] [(97,(Sl.v v106)),(98,(iV x109))]::aF (pV (some (p126.add 0))) 0 [0,1,2] 99 (pV (some p126))::aF (iV v128) 0 (rn 0 4) 100 (pV (some (p126.add 0)))::aQ (iV v100) 0 [] 6::aP (bV (decide (v128<=v100))) 0 (rn 0 6) [(101,(iV v128)),(102,(iV v100))]::aQ (bV (decide (v128<=v100))) 0 (rn 0 7) 103::aP (Sl.v v106) 0 (rn 0 8) [(8,(Sl.v v106)),(104,(bV (decide (v128<=v100))))]::aP (iV x109) 0 (rn 0 8) [(9,(iV x109)),(104,(bV (decide (v128<=v100))))]::aP (pV (some p131)) 0 (rn 0 10) [(105,(Sl.v v106)),(106,(iV x109)),(104,(bV (decide (v128<=v100))))]::aP (pV (some (p131.add 0))) 0 (rn 0 11) [(107,(pV (some p131))),(104,(bV (decide (v128<=v100))))]::aP (iV v133) 0 (rn 0 12) [(108,(pV (some (p131.add 0)))),(104,(bV (decide (v128<=v100))))]::aP (iV v95) 0 (rn 0 8) [(5,(iV v95)),(104,(bV (decide (v128<=v100))))]::aP (bV (decide (v95<v133))) 0 (rn 0 14) [(109,(iV v133)),(110,(iV v95)),(104,(bV (decide (v128<=v100))))]::aP (bV (decide (v95<v133))) 0 (rn 0 15) [(104,(bV (decide (v128<=v100)))),(111,(bV (decide (v95<v133))))]::aQ (bV (decide (v95<v133))) 0 (rn 0 16) 112::aP (iV x109) 0 (rn 0 17) [(9,(iV x109)),(113,(bV (decide (v95<v133))))]::aP (bV (decide (0<x109))) 0 (rn 0 18) [(114,(iV x109)),(113,(bV (decide (v95<v133))))]::aP (bV (decide (0<x109))) 0 (rn 0 19) [(115,(bV (decide (0<x109)))),(113,(bV (decide (v95<v133))))]::aP (Sl.v v106) 0 (rn 0 20) [(8,(Sl.v v106)),(116,(bV (decide (0<x109))))]::aP (iV x109) 0 (rn 0 20) [(9,(iV x109)),(116,(bV (decide (0<x109))))]::aP (pV (some p137)) 0 (rn 0 22) [(117,(Sl.v v106)),(118,(iV x109)),(116,(bV (decide (0<x109))))]::aP (pV (some (p137.add 0))) 0 (rn 0 23) [(119,(pV (some p137))),(116,(bV (decide (0<x109))))]::aP (iV v139) 0 (rn 0 24) [(120,(pV (some (p137.add 0)))),(116,(bV (decide (0<x109))))]::aP (Sl.v v106) 0 (rn 0 20) [(8,(Sl.v v106)),(116,(bV (decide (0<x109))))]::aP (iV x109) 0 (rn 0 20) [(9,(iV x109)),(116,(bV (decide (0<x109))))]::aP (iV (IntKind.wrap .i64 (x109-1))) 0 (rn 0 20++[26]) [(123,(iV x109)),(116,(bV (decide (0<x109))))]::aP (pV (some p141)) 0 (rn 0 20++[25,26,27]) [(122,(Sl.v v106)),(124,(iV (IntKind.wrap .i64 (x109-1)))),(116,(bV (decide (0<x109))))]::aP (pV (some (p141.add 0))) 0 (rn 0 20++rn 25 4) [(125,(pV (some p141))),(116,(bV (decide (0<x109))))]::aP (iV v143) 0 (rn 0 20++rn 25 5) [(126,(pV (some (p141.add 0)))),(116,(bV (decide (0<x109))))]::aP (bV (decide (v139<=v143))) 0 (rn 0 31) [(121,(iV v139)),(127,(iV v143)),(116,(bV (decide (0<x109))))]::aP (bV (decide (v139<=v143))) 0 (rn 0 32) [(116,(bV (decide (0<x109)))),(128,(bV (decide (v139<=v143)))),(113,(bV (decide (v95<v133))))]::aP (bV (decide (v139<=v143))) 0 (rn 0 33) [(113,(bV (decide (v95<v133)))),(129,(bV (decide (v139<=v143))))]::[])) (W:=(fun _=>w124)) (by kernel_rfl) u (cR e125) (by kernel_rfl) ?_ (aT (by kernel_rfl)) (by kernel_rfl) (m:=0) (by kernel_rfl) (fun a u=>?_)
       .exact⟨oa (aC · rfl),oa (aC · rfl),oa (bQ · rfl rfl aGF aGM e127),oa (aK · rfl aGG rfl rfl aGw),oc (e:=false) 0 (kd (aJ · rfl aGy (aS e129))),oa (aC · rfl),oa (qC · rfl rfl),oa (aC · rfl),oag 104 (nt b130) (aC · rfl),oag 104 (nt b130) (aC · rfl),oag 104 (nt b130) (bQ · rfl rfl aGF aGM e132),oag 104 (nt b130) (aK · rfl aGG rfl rfl aGw),oc (e:=false) 0 (kg 104 (nt b130) (aJ · rfl aGy (aS e134))),oag 104 (nt b130) (aC · rfl),oag 104 (nt b130) (fW · rfl rfl),oa (aL · rfl b130 rfl),oa (aC · rfl),oag 113 (nt b135) (aC · rfl),oag 113 (nt b135) (fW · rfl rfl),oag 113 (nt b135) (aC · rfl),oag 116 b136 (aC · rfl),oag 116 b136 (aC · rfl),oag 116 b136 (bQ · rfl rfl aGF aGM e138),oag 116 b136 (aK · rfl aGG rfl rfl aGw),oc (e:=false) 0 (kg 116 b136 (aJ · rfl aGy (aS e140))),oag 116 b136 (aC · rfl),oag 116 b136 (aC · rfl),oag 116 b136 (gW · rfl rfl),oag 116 b136 (bQ · rfl rfl aGF aGM e142),
         oag 116 b136 (aK · rfl aGG rfl rfl aGw),oc (e:=false) 0 (kg 116 b136 (aJ · rfl aGy (aS e144))),oag 116 b136 (qC · rfl rfl),oag 113 (nt b135) (aG · rfl b136 rfl),oa (aL · rfl b135 rfl),aLj⟩
       have u:Has 135 [(0,(Sl.v a0)),(3,(pV v1)),(4,(bV v53)),(5,(iV v95)),(6,(iV v100)),(7,(iV x8)),(8,(Sl.v v106)),(9,(iV x109)),(130,(bV (decide (v139<=v143))))] a:=u.sb rfl;exact hk123 ((decide (v139<=v143)),w124) h _ (u.sb rfl)
      have u:Has 135 [(0,(Sl.v a0)),(3,(pV v1)),(4,(bV v53)),(5,(iV v95)),(6,(iV v100)),(7,(iV x8)),(8,(Sl.v v106)),(9,(iV x109))] a:=u.sb rfl;refine aM (n:=135) (ds:=(aQ (Sl.v v106) 0 [] 8::aQ (iV x109) 0 [] 9::aP (pV (some p126)) 0 [0,1] [(97,(Sl.v v106)),(98,(iV x109))]::aF (pV (some (p126.add 0))) 0 [0,1,2] 99 (pV (some p126))::aF (iV v128) 0 (rn 0 4) 100 (pV (some (p126.add 0)))::aQ (iV v100) 0 [] 6::aP (bV (decide (v128<=v100))) 0 (rn 0 6) [(101,(iV v128)),(102,(iV v100))]::aQ (bV (decide (v128<=v100))) 0 (rn 0 7) 103::aP (Sl.v v106) 0 (rn 0 8) [(8,(Sl.v v106)),(104,(bV (decide (v128<=v100))))]::aP (iV x109) 0 (rn 0 8) [(9,(iV x109)),(104,(bV (decide (v128<=v100))))]::aP (pV (some p131)) 0 (rn 0 10) [(105,(Sl.v v106)),(106,(iV x109)),(104,(bV (decide (v128<=v100))))]::aP (pV (some (p131.add 0))) 0 (rn 0 11) [(107,(pV (some p131))),(104,(bV (decide (v128<=v100))))]::aP (iV v133) 0 (rn 0 12) [(108,(pV (some (p131.add 0)))),(104,(bV (decide (v128<=v100))))]::aP (iV v95) 0 (rn 0 8) [(5,(iV v95)),(104,(bV (decide (v128<=v100))))]::aP (bV (decide (v95<v133))) 0 (rn 0 14) [(109,(iV v133)),(110,(iV v95)),(104,(bV (decide (v128<=v100))))]::aP (bV (decide (v95<v133))) 0 (rn 0 15) [(104,(bV (decide (v128<=v100)))),(111,(bV (decide (v95<v133))))]::aQ (bV (decide (v95<v133))) 0 (rn 0 16) 112::aP (iV x109) 0 (rn 0 17) [(9,(iV x109)),(113,(bV (decide (v95<v133))))]::aP (bV (decide (0<x109))) 0 (rn 0 18) [(114,(iV x109)),(113,(bV (decide (v95<v133))))]::aP (bV (decide (0<x109))) 0 (rn 0 19) [(115,(bV (decide (0<x109)))),(113,(bV (decide (v95<v133))))]::aF (undef) 0 (rn 0 20) 116 (bV (decide (0<x109)))::aF (undef) 0 (rn 0 20) 116 (bV (decide (0<x109)))::aF (undef) 0 (rn 0 22) 116 (bV (decide (0<x109)))::aF (undef) 0 (rn 0 23) 116 (bV (decide (0<x109)))::aF (undef) 0 (rn 0 24) 116 (bV (decide (0<x109)))::aF (undef) 0 (rn 0 20) 116 (bV (decide (0<x109)))::aF (undef) 0 (rn 0 20) 116 (bV (decide (0<x109)))::aF (undef) 0 (rn 0 20++[26]) 116 (bV (decide (0<x109)))::aF (undef) 0 (rn 0 20++[25,26,27]) 116 (bV (decide (0<x109)))::aF (undef) 0 (rn 0 20++rn 25 4) 116 (bV (decide (0<x109)))::aF (undef) 0 (rn 0 20++rn 25 5) 116 (bV (decide (0<x109)))::aF (undef) 0 (rn 0 31) 116 (bV (decide (0<x109)))::aP (bV false) 0 (rn 0 32) [(116,(bV (decide (0<x109)))),(128,undef),(113,(bV (decide (v95<v133))))]::aP (bV false) 0 (rn 0 33) [(113,(bV (decide (v95<v133)))),(129,(bV false))]::[])) (W:=(fun _=>w124)) (by kernel_rfl) u (cR e125) (by kernel_rfl) ?_ (aT (by kernel_rfl)) (by kernel_rfl) (m:=0) (by kernel_rfl) (fun a u=>?_)
      .exact⟨oa (aC · rfl),oa (aC · rfl),oa (bQ · rfl rfl aGF aGM e127),oa (aK · rfl aGG rfl rfl aGw),oc (e:=false) 0 (kd (aJ · rfl aGy (aS e129))),oa (aC · rfl),oa (qC · rfl rfl),oa (aC · rfl),oag 104 (nt b130) (aC · rfl),oag 104 (nt b130) (aC · rfl),oag 104 (nt b130) (bQ · rfl rfl aGF aGM e132),oag 104 (nt b130) (aK · rfl aGG rfl rfl aGw),oc (e:=false) 0 (kg 104 (nt b130) (aJ · rfl aGy (aS e134))),oag 104 (nt b130) (aC · rfl),oag 104 (nt b130) (fW · rfl rfl),oa (aL · rfl b130 rfl),oa (aC · rfl),oag 113 (nt b135) (aC · rfl),oag 113 (nt b135) (fW · rfl rfl),oag 113 (nt b135) (aC · rfl),on 116 (nm b136),on 116 (nm b136),on 116 (nm b136),on 116 (nm b136),on 116 (nm b136),on 116 (nm b136),on 116 (nm b136),on 116 (nm b136),on 116 (nm b136),on 116 (nm b136),on 116 (nm b136),on 116 (nm b136),oag 113 (nt b135) (aL · rfl b136 rfl),oa (aL · rfl b135 rfl),aLj⟩
      have u:Has 135 [(0,(Sl.v a0)),(3,(pV v1)),(4,(bV v53)),(5,(iV v95)),(6,(iV v100)),(7,(iV x8)),(8,(Sl.v v106)),(9,(iV x109)),(130,(bV false))] a:=u.sb rfl;exact hk123 (false,w124) h _ (u.sb rfl)
     refine wp_exit<|t_x<|t_x<|?_;exact hk116 w110 h _ (u.sb rfl)
    obtain⟨w60,e61,h⟩:=h;obtain⟨p62,e63,h⟩:=h;obtain⟨v64,e65,h⟩:=h;obtain⟨v66,w67,e68,h⟩:=h;refine iP h (fun b69 h=>?_) (fun b69 h=>?_)
    .have u:Has 135 [(0,(Sl.v a0)),(3,(pV v1)),(4,(bV v53)),(5,(iV x6)),(6,(iV x7)),(7,(iV x8))] a:=u.sb rfl;refine aM (n:=135) (ds:=(aQ (pV v1) 0 [] 3::aF (pV (some p62)) 0 [0] 47 (pV v1)::aF (pV (some (p62.add 1))) 0 [0,1] 48 (pV (some p62))::aF (pV v64) 0 [0,1,2] 49 (pV (some (p62.add 1)))::aI (iV v66) true 0 0 (rn 0 4) [(50,(pV v64))]::aI (iV x6) false 0 1 [] [(5,(iV x6))]::aP (bV (decide (v66<x6))) 1 (rn 0 6) [(51,(iV v66)),(52,(iV x6))]::aQ (bV (decide (v66<x6))) 1 (rn 0 7) 53::aF (undef) 1 (rn 0 8) 54 (bV (decide (v66<x6)))::aF (undef) 1 (rn 0 9) 54 (bV (decide (v66<x6)))::aF (undef) 1 (rn 0 10) 54 (bV (decide (v66<x6)))::aF (undef) 1 (rn 0 11) 54 (bV (decide (v66<x6)))::aF (undef) 1 (rn 0 12) 54 (bV (decide (v66<x6)))::aF (undef) 1 (rn 0 8) 54 (bV (decide (v66<x6)))::aF (undef) 1 (rn 0 14) 54 (bV (decide (v66<x6)))::aP (bV true) 1 (rn 0 15) [(54,(bV (decide (v66<x6)))),(61,undef)]::aQ (bV true) 1 (rn 0 16) 62::aF (undef) 1 (rn 0 17) 63 (bV true)::aF (undef) 1 (rn 0 18) 63 (bV true)::aF (undef) 1 (rn 0 19) 63 (bV true)::aF (undef) 1 (rn 0 20) 63 (bV true)::aF (undef) 1 (rn 0 21) 63 (bV true)::aF (undef) 1 (rn 0 17) 63 (bV true)::aF (undef) 1 (rn 0 17++[22]) 63 (bV true)::aF (undef) 1 (rn 0 17++[22,23]) 63 (bV true)::aF (undef) 1 (rn 0 17++[22,23,24]) 63 (bV true)::aF (undef) 1 (rn 0 26) 63 (bV true)::aF (undef) 1 (rn 0 27) 63 (bV true)::aP (bV true) 1 (rn 0 28) [(63,(bV true)),(74,undef)]::[])) (W:=(fun j=>match j with | 0=>w60 | 1=>w67 | _=>w67)) (by kernel_rfl) u (cR e61) (by kernel_rfl) ?_ (aT (by kernel_rfl)) (by kernel_rfl) (m:=1) (by kernel_rfl) (fun a u=>?_)
     .exact⟨oa (aC · rfl),oa (aH · rfl e63),oa (aK · rfl aGB rfl rfl aGW),oc 0 (kd (aJ · rfl aHc (bB e65))),oc 0 (kd (dc1 · rfl Try.call38 (dG e68))),oa (aC · rfl),oa (cY · rfl rfl),oa (aC · rfl),on 54 (tn b69),on 54 (tn b69),on 54 (tn b69),on 54 (tn b69),on 54 (tn b69),on 54 (tn b69),on 54 (tn b69),oa (aG · rfl b69 rfl),oa (aC · rfl),on 63 (tn rfl),on 63 (tn rfl),on 63 (tn rfl),on 63 (tn rfl),on 63 (tn rfl),on 63 (tn rfl),on 63 (tn rfl),on 63 (tn rfl),on 63 (tn rfl),on 63 (tn rfl),on 63 (tn rfl),oa (aG · rfl rfl rfl),aLj⟩
     have u:Has 135 [(0,(Sl.v a0)),(3,(pV v1)),(4,(bV v53)),(7,(iV x8)),(75,(bV true))] a:=u.sb rfl;exact hk59 (true,w67) h _ (u.sb rfl)
    obtain⟨v70,e71,h⟩:=h;obtain⟨v72,w73,e74,h⟩:=h;refine iP h (fun b75 h=>?_) (fun b75 h=>?_)
    .have u:Has 135 [(0,(Sl.v a0)),(3,(pV v1)),(4,(bV v53)),(5,(iV x6)),(6,(iV x7)),(7,(iV x8))] a:=u.sb rfl;refine aM (n:=135) (ds:=(aQ (pV v1) 0 [] 3::aF (pV (some p62)) 0 [0] 47 (pV v1)::aF (pV (some (p62.add 1))) 0 [0,1] 48 (pV (some p62))::aF (pV v64) 0 [0,1,2] 49 (pV (some (p62.add 1)))::aI (iV v66) true 0 0 (rn 0 4) [(50,(pV v64))]::aI (iV x6) false 0 1 [] [(5,(iV x6))]::aP (bV (decide (v66<x6))) 1 (rn 0 6) [(51,(iV v66)),(52,(iV x6))]::aQ (bV (decide (v66<x6))) 1 (rn 0 7) 53::aP (pV v1) 1 (rn 0 8) [(3,(pV v1)),(54,(bV (decide (v66<x6))))]::aP (pV (some p62)) 1 (rn 0 9) [(55,(pV v1)),(54,(bV (decide (v66<x6))))]::aP (pV (some (p62.add 1))) 1 (rn 0 10) [(56,(pV (some p62))),(54,(bV (decide (v66<x6))))]::aP (pV v70) 1 (rn 0 11) [(57,(pV (some (p62.add 1)))),(54,(bV (decide (v66<x6))))]::aI (iV v72) true 1 1 (rn 0 12) [(58,(pV v70)),(54,(bV (decide (v66<x6))))]::aI (iV x7) false 1 2 (rn 0 8) [(6,(iV x7)),(54,(bV (decide (v66<x6))))]::aP (bV (decide (v72<x7))) 2 (rn 0 14) [(59,(iV v72)),(60,(iV x7)),(54,(bV (decide (v66<x6))))]::aP (bV (decide (v72<x7))) 2 (rn 0 15) [(54,(bV (decide (v66<x6)))),(61,(bV (decide (v72<x7))))]::aQ (bV (decide (v72<x7))) 2 (rn 0 16) 62::aF (undef) 2 (rn 0 17) 63 (bV (decide (v72<x7)))::aF (undef) 2 (rn 0 18) 63 (bV (decide (v72<x7)))::aF (undef) 2 (rn 0 19) 63 (bV (decide (v72<x7)))::aF (undef) 2 (rn 0 20) 63 (bV (decide (v72<x7)))::aF (undef) 2 (rn 0 21) 63 (bV (decide (v72<x7)))::aF (undef) 2 (rn 0 17) 63 (bV (decide (v72<x7)))::aF (undef) 2 (rn 0 17++[22]) 63 (bV (decide (v72<x7)))::aF (undef) 2 (rn 0 17++[22,23]) 63 (bV (decide (v72<x7)))::aF (undef) 2 (rn 0 17++[22,23,24]) 63 (bV (decide (v72<x7)))::aF (undef) 2 (rn 0 26) 63 (bV (decide (v72<x7)))::aF (undef) 2 (rn 0 27) 63 (bV (decide (v72<x7)))::aP (bV true) 2 (rn 0 28) [(63,(bV (decide (v72<x7)))),(74,undef)]::[])) (W:=(fun j=>match j with | 0=>w60 | 1=>w67 | 2=>w73 | _=>w73)) (by kernel_rfl) u (cR e61) (by kernel_rfl) ?_ (aT (by kernel_rfl)) (by kernel_rfl) (m:=2) (by kernel_rfl) (fun a u=>?_)
     .exact⟨oa (aC · rfl),oa (aH · rfl e63),oa (aK · rfl aGB rfl rfl aGW),oc 0 (kd (aJ · rfl aHc (bB e65))),oc 0 (kd (dc1 · rfl Try.call38 (dG e68))),oa (aC · rfl),oa (cY · rfl rfl),oa (aC · rfl),oag 54 (nt b69) (aC · rfl),oag 54 (nt b69) (aH · rfl e63),oag 54 (nt b69) (aK · rfl aGB rfl rfl aGW),oc 1 (kg 54 (nt b69) (aJ · rfl aHc (bB e71))),oc 1 (kg 54 (nt b69) (dc1 · rfl Try.call39 (gK e74))),oag 54 (nt b69) (aC · rfl),oag 54 (nt b69) (cY · rfl rfl),oa (aL · rfl b69 rfl),oa (aC · rfl),on 63 (tn b75),on 63 (tn b75),on 63 (tn b75),on 63 (tn b75),on 63 (tn b75),on 63 (tn b75),on 63 (tn b75),on 63 (tn b75),on 63 (tn b75),on 63 (tn b75),on 63 (tn b75),oa (aG · rfl b75 rfl),aLj⟩
     have u:Has 135 [(0,(Sl.v a0)),(3,(pV v1)),(4,(bV v53)),(7,(iV x8)),(75,(bV true))] a:=u.sb rfl;exact hk59 (true,w73) h _ (u.sb rfl)
    obtain⟨v76,e77,h⟩:=h;obtain⟨v78,w79,e80,h⟩:=h;obtain⟨v81,e82,h⟩:=h;obtain⟨v83,w84,e85,h⟩:=h;obtain⟨e86,h⟩:=h;have u:Has 135 [(0,(Sl.v a0)),(3,(pV v1)),(4,(bV v53)),(5,(iV x6)),(6,(iV x7)),(7,(iV x8))] a:=u.sb rfl;refine aM (n:=135) (ds:=(aQ (pV v1) 0 [] 3::aF (pV (some p62)) 0 [0] 47 (pV v1)::aF (pV (some (p62.add 1))) 0 [0,1] 48 (pV (some p62))::aF (pV v64) 0 [0,1,2] 49 (pV (some (p62.add 1)))::aI (iV v66) true 0 0 (rn 0 4) [(50,(pV v64))]::aI (iV x6) false 0 1 [] [(5,(iV x6))]::aP (bV (decide (v66<x6))) 1 (rn 0 6) [(51,(iV v66)),(52,(iV x6))]::aQ (bV (decide (v66<x6))) 1 (rn 0 7) 53::aP (pV v1) 1 (rn 0 8) [(3,(pV v1)),(54,(bV (decide (v66<x6))))]::aP (pV (some p62)) 1 (rn 0 9) [(55,(pV v1)),(54,(bV (decide (v66<x6))))]::aP (pV (some (p62.add 1))) 1 (rn 0 10) [(56,(pV (some p62))),(54,(bV (decide (v66<x6))))]::aP (pV v70) 1 (rn 0 11) [(57,(pV (some (p62.add 1)))),(54,(bV (decide (v66<x6))))]::aI (iV v72) true 1 1 (rn 0 12) [(58,(pV v70)),(54,(bV (decide (v66<x6))))]::aI (iV x7) false 1 2 (rn 0 8) [(6,(iV x7)),(54,(bV (decide (v66<x6))))]::aP (bV (decide (v72<x7))) 2 (rn 0 14) [(59,(iV v72)),(60,(iV x7)),(54,(bV (decide (v66<x6))))]::aP (bV (decide (v72<x7))) 2 (rn 0 15) [(54,(bV (decide (v66<x6)))),(61,(bV (decide (v72<x7))))]::aQ (bV (decide (v72<x7))) 2 (rn 0 16) 62::aP (pV v1) 2 (rn 0 17) [(3,(pV v1)),(63,(bV (decide (v72<x7))))]::aP (pV (some p62)) 2 (rn 0 18) [(64,(pV v1)),(63,(bV (decide (v72<x7))))]::aP (pV (some (p62.add 1))) 2 (rn 0 19) [(65,(pV (some p62))),(63,(bV (decide (v72<x7))))]::aP (pV v76) 2 (rn 0 20) [(66,(pV (some (p62.add 1)))),(63,(bV (decide (v72<x7))))]::aI (iV v78) true 2 2 (rn 0 21) [(67,(pV v76)),(63,(bV (decide (v72<x7))))]::aI (pV v1) false 2 3 (rn 0 17) [(3,(pV v1)),(63,(bV (decide (v72<x7))))]::aI (pV (some p62)) false 2 3 (rn 0 17++[22]) [(69,(pV v1)),(63,(bV (decide (v72<x7))))]::aI (pV (some (p62.add 1))) false 2 3 (rn 0 17++[22,23]) [(70,(pV (some p62))),(63,(bV (decide (v72<x7))))]::aI (pV v81) false 2 3 (rn 0 17++[22,23,24]) [(71,(pV (some (p62.add 1)))),(63,(bV (decide (v72<x7))))]::aI (iV v83) true 3 3 (rn 0 26) [(72,(pV v81)),(63,(bV (decide (v72<x7))))]::aP (bV (decide (v83<v78))) 4 (rn 0 27) [(68,(iV v78)),(73,(iV v83)),(63,(bV (decide (v72<x7))))]::aP (bV (decide (v83<v78))) 4 (rn 0 28) [(63,(bV (decide (v72<x7)))),(74,(bV (decide (v83<v78))))]::[])) (W:=(fun j=>match j with | 0=>w60 | 1=>w67 | 2=>w73 | 3=>w79 | 4=>w84 | _=>w84)) (by kernel_rfl) u (cR e61) (by kernel_rfl) ?_ (aT (by kernel_rfl)) (by kernel_rfl) (m:=4) (by kernel_rfl) (fun a u=>?_)
    .refine⟨oa (aC · rfl),oa (aH · rfl e63),oa (aK · rfl aGB rfl rfl aGW),oc 0 (kd (aJ · rfl aHc (bB e65))),oc 0 (kd (dc1 · rfl Try.call38 (dG e68))),oa (aC · rfl),oa (cY · rfl rfl),oa (aC · rfl),oag 54 (nt b69) (aC · rfl),oag 54 (nt b69) (aH · rfl e63),oag 54 (nt b69) (aK · rfl aGB rfl rfl aGW),oc 1 (kg 54 (nt b69) (aJ · rfl aHc (bB e71))),oc 1 (kg 54 (nt b69) (dc1 · rfl Try.call39 (gK e74))),oag 54 (nt b69) (aC · rfl),oag 54 (nt b69) (cY · rfl rfl),oa (aL · rfl b69 rfl),oa (aC · rfl),oag 63 (nt b75) (aC · rfl),oag 63 (nt b75) (aH · rfl e63),oag 63 (nt b75) (aK · rfl aGB rfl rfl aGW),oc 2 (kg 63 (nt b75) (aJ · rfl aHc (bB e77))),oc 2 (kg 63 (nt b75) (dc1 · rfl Try.call39 (gK e80))),oag 63 (nt b75) (aC · rfl),oag 63 (nt b75) (aH · rfl e63),oag 63 (nt b75) (aK · rfl aGB rfl rfl aGW),?_,oc 3 (kg 63 (nt b75) (dc1 · rfl Try.call38 (dG e85))),oag 63 (nt b75) (fW · rfl rfl),oa (aL · rfl b75 rfl),aLj⟩;intro j h1 h2;have h1:2<=j:=h1;have h2:j<=3:=h2;rcases(by omega:j=2\/j=3) with rfl | rfl
     .exact kg 63 (nt b75) (aJ · rfl aHc (bB e86))
     exact kg 63 (nt b75) (aJ · rfl aHc (bB e82))
    have u:Has 135 [(0,(Sl.v a0)),(3,(pV v1)),(4,(bV v53)),(7,(iV x8)),(75,(bV (decide (v83<v78))))] a:=u.sb rfl;exact hk59 ((decide (v83<v78)),w84) h _ (u.sb rfl)
   refine aA<|qm u rfl fun a u=>qm u rfl fun a u=>?_;obtain⟨p39,e40,h⟩:=h;refine q u (bQ u rfl rfl aHv aHN e40) fun a u=>q u (aK u rfl aGU rfl rfl aGw) fun a u=>?_;obtain⟨v41,e42,h⟩:=h;refine q u (aJ u rfl aGy (aS e42)) fun a u=>q u (gL u rfl rfl) fun a u=>qm u rfl fun a u=>?_;refine iP h (fun b43 h=>?_) (fun b43 h=>?_)
   .refine qn u 33 (tn b43) fun a u=>qn u 33 (tn b43) fun a u=>qn u 33 (tn b43) fun a u=>qn u 33 (tn b43) fun a u=>qn u 33 (tn b43) fun a u=>qn u 33 (tn b43) fun a u=>q u (aG u rfl b43 rfl) fun a u=>aB<|?_;exact hk38 (true,w20) h _ (u.sb rfl)
   refine qg u 33 (nt b43) (aC u rfl) fun a u=>qg u 33 (nt b43) (aC u rfl) fun a u=>?_;obtain⟨p44,e45,h⟩:=h;refine qg u 33 (nt b43) (bQ u rfl rfl aHv aHN e45) fun a u=>qg u 33 (nt b43) (aK u rfl aGU rfl rfl aGw) fun a u=>?_;obtain⟨v46,e47,h⟩:=h;refine qg u 33 (nt b43) (aJ u rfl aGy (aS e47)) fun a u=>qg u 33 (nt b43) (gL u rfl rfl) fun a u=>q u (aL u rfl b43 rfl) fun a u=>aB<|?_;exact hk38 ((v46==5),w20) h _ (u.sb rfl)
  refine wp_exit<|t_x<|t_x<|?_;exact hk16 (x5,w20) h _ (u.sb rfl)
 refine aA<|qm u rfl fun a u=>qm u rfl fun a u=>?_;refine iP h (fun b23 h=>?_) (fun b23 h=>?_)
 .refine qg u 15 b23 (aC u rfl) fun a u=>qg u 15 b23 (aC u rfl) fun a u=>qg u 15 b23 (aZ u rfl aHv) fun a u=>qg u 15 b23 (cY u rfl rfl) fun a u=>q u (aG u rfl b23 rfl) fun a u=>qm u rfl fun a u=>?_;refine iP h (fun b24 h=>?_) (fun b24 h=>?_)
  .refine qg u 21 b24 (aC u rfl) fun a u=>qg u 21 b24 (cY u rfl rfl) fun a u=>q u (aG u rfl b24 rfl) fun a u=>aB<|?_;exact hk22 ((decide (x8<100)),w9) h _ (u.sb rfl)
  refine qn u 21 (nm b24) fun a u=>qn u 21 (nm b24) fun a u=>q u (aL u rfl b24 rfl) fun a u=>aB<|?_;exact hk22 (false,w9) h _ (u.sb rfl)
 refine qn u 15 (nm b23) fun a u=>qn u 15 (nm b23) fun a u=>qn u 15 (nm b23) fun a u=>qn u 15 (nm b23) fun a u=>q u (aL u rfl b23 rfl) fun a u=>qm u rfl fun a u=>qn u 21 (nm aIc) fun a u=>qn u 21 (nm aIc) fun a u=>q u (aL u rfl aIc rfl) fun a u=>aB<|?_;exact hk22 (false,w9) h _ (u.sb rfl)
section
variable {F0 : Nat -> Prop} {g g0 : Gh} {w w0 : World} {L : List Rs} {p x y : Nat} {s z : Sl} {ds : List Dg}
theorem aDB {es:List (Int×List Int)} {hi re:Int} (hn:es.length<=100000) (h:∀ r∈es,re<r.1/\r.1<=hi) (hp:es.Pairwise fun a b=>a.1<b.1) {Φ:World⊕(Bool×World)->Prop}:∀ (m j:Nat) (w:World),m+j=es.length->RRd w z es ->
  (∀ w',(∀ S,Fr S w w')->Φ (.inl w'))->(eQ (fun r:Int×World=>dF z re hi r.1 r.2) ((j:Int),w)).t Φ:=by
 intro m
 induction m with
 | zero =>
  intro j w hm hr hΦ;have:=hr.n;refine Nd.next ?_
  unfold dF;exact Nd.f (by simp;omega) (Nd.ret (hΦ w fun _=>Fr.refl))
 | succ m ih =>
  intro j w hm hr hΦ;have hzn:=hr.n;have hj:j<es.length:=by omega
  obtain⟨w2,e2,_,f2,_,c2⟩:=tP (w:=w);have hr2:=hr.fr c2;obtain⟨a,za,a1,-,a3,-,-⟩:=hr2.at_ (aId hj);have hb:=h es[j] (aJc hj);have F2:∀ S,Fr S w w2:=fun S=>(f2 w.heap.size S).fr;refine Nd.next ?_
  unfold dF;refine Nd.t (by simp;omega) (Nd.j2 (Ψ:=fun r=>r=(false,w2)) (Nd.b1 e2 (Nd.b1 a1 (Nd.b1 a3 (Nd.f (by simp;omega) (Nd.b1 a1 (Nd.b1 a3 (Nd.f (by simp;omega) ?_))))))) ?_)
  .by_cases h0:j=0
   .exact Nd.f (by simp[h0]) (Nd.ret rfl)
   obtain⟨i,rfl⟩:∃ i,j=i+1:=⟨j-1,by omega⟩;obtain⟨b,zb,b1,-,b3,-,-⟩:=hr2.at_ (aId (show i<es.length by omega));have hlt:es[i].1<es[i+1].1:=List.pairwise_iff_getElem.1 hp i (i+1) (by omega) hj (by omega);exact Nd.t (by simp) (Nd.b1 a1 (Nd.b1 a3 (Nd.b1 (by rw[show((i+1:Nat):Int)-1=(i:Int) by omega,aIi,show((i:Int)+9223372036854775808) % 18446744073709551616-9223372036854775808=(i:Int) by omega];exact b1) (Nd.b1 b3 (Nd.ret (by rw[decide_eq_false (by omega)]))))))
  rintro _ _ he;cases he;refine Nd.f (by simp) (Nd.ret ?_);show(eQ _ (IntKind.wrap .i64 ((j:Int)+1),w2)).t Φ;rw[cB (by omega)];exact ih (j+1) w2 (by omega) hr2 fun w' f'=>hΦ w' fun S=>(F2 S).trans (f' S)
theorem aAQ (hs:PL dgR 4 g w s ds) {Φ:(Bool×World)⊕(Bool×World)->Prop}:∀ (m i:Nat) (w1:World) (g1:Gh) (c e:Nat) (S:Dk×Lg) (hi re:Int),i+m=min ds.length 100->S.1.W.length<=2000+1000*i->Mo g w g1 w1->Pg F0 g0 w0 g1 w1 p x c y e S L->S.2.Up->hi<=S.2.high->re<=S.2.rel ->
  (∀ g' w' c' e' S',Pg F0 g0 w0 g' w' p x c' y e' S' L->Φ (.inl (true,w'))) ->
  (eQ (fun r:Bool×Int×Int×Int×World=>dB s (some ⟨p,0,none⟩) r.1 r.2.1 r.2.2.1 r.2.2.2.1 r.2.2.2.2) (true,hi,re,(i:Int),w1)).t Φ:=by
 intro m
 induction m with
 | zero =>
  intro i w1 g1 c e S hi re him hW hm h hU h1 h2 hΦ;have hln:=hs.len;refine Nd.next ?_
  unfold dB;refine Nd.j2 (Ψ:=fun r=>r=(false,w1)) (Nd.t rfl ?_) ?_
  .by_cases hl:(i:Int)<s.n
   .exact Nd.t (by simpa using hl) (Nd.ret (by show(decide ((i:Int)<100),w1)=(false,w1);rw[decide_eq_false (by omega)]))
   exact Nd.f (by simpa using hl) (Nd.ret rfl)
  rintro _ _ he;cases he;exact Nd.f (by simp) (Nd.ret (hΦ g1 w1 c e S h))
 | succ m ih =>
  intro i w1 g1 c e S hi re him hW hm h hU h1 h2 hΦ;have hil:i<ds.length:=by omega
  have hln:=hs.len;obtain⟨a,cs,ea,la,hR,ek,hby⟩:=aEh hs hm hil;obtain⟨D,l⟩:=S;simp only at hW hU h1 h2;obtain⟨hk2,hk⟩:=xI h.ok hby;simp only at hk hk2;refine Nd.next ?_
  unfold dB;refine Nd.j2 (Ψ:=fun r=>r=(true,w1)) (Nd.t rfl (Nd.t (by simp;omega) (Nd.ret (by show(decide ((i:Int)<100),w1)=(true,w1);rw[decide_eq_true (by omega)])))) ?_;rintro _ _ he;cases he;have him2:i+1+m=min ds.length 100:=by omega
  have hW1:D.W.length<=2000+1000*(i+1):=by omega
  have hWd:D.W.length<600000:=by omega
  refine Nd.t rfl (Nd.jX (Ψ:=fun r=>r.1=true/\∃ g' c' e' S',Pg F0 g0 w0 g' r.2.2.2 p x c' y e' S' L/\Mo g1 w1 g' r.2.2.2/\S'.2.Up/\r.2.1<=S'.2.high/\r.2.2.1<=S'.2.rel/\S'.1.W.length<=2000+1000*(i+1)) ?_ ?_)
  .refine Nd.j2 (Ψ:=fun r=>r=(decide (ds[i].k=4\/ds[i].k=5),w1)) ?_ ?_
   .refine Nd.b1 ea (Nd.b1 ek ?_);by_cases h4:ds[i].k=4
    .exact Nd.t (by simpa using h4) (Nd.ret (by simp[h4]))
    exact Nd.f (by simpa using h4) (Nd.b1 ea (Nd.b1 ek (Nd.ret (by simp[h4];rfl))))
   rintro _ _ he;cases he;by_cases h45:ds[i].k=4\/ds[i].k=5
   .exact Nd.t (by simpa using h45) (Nd.ret ⟨rfl,g1,c,e,(D,l),h,Mo.r,hU,h1,h2,hW1⟩)
   have hdo:=fun {Φ}=>aGi (Φ:=Φ) h hR hWd;obtain⟨k1,k2,k3⟩:=aEn (D:=D) (l:=l) (d:=ds[i]) h.ok.wf hU (fun h=>h45 (.inl h)) (fun h=>h45 (.inr h));obtain⟨S2,hS2⟩:∃ S2,jF (D,l) ds[i]=S2:=⟨_,rfl⟩;rw[hS2] at hk hk2 hdo k1 k2 k3;refine Nd.f (by simpa using h45) (Nd.b1 ea (Nd.b1 la (Nd.j2 (Ψ:=fun r=>r.1=true/\∃ g' c' e',Pg F0 g0 w0 g' r.2 p x c' y e' S2 L/\Mo g1 w1 g' r.2) (hdo fun g' w' c' e' hP m'=>⟨rfl,g',c',e',hP,m'⟩) ?_)));rintro _ w2 ⟨rfl,g2,c2,e2,hp2,m2⟩;simp only at hp2 m2;obtain⟨w3,d3,H3,m3⟩:=hp2.H.dr;have q3:=Pg.p1 H3;have hi3:=uX H3.m3;have re3:=aAZ H3.m3;have hr1:=hk2.wf.r1;refine Nd.j2 (Ψ:=fun r=>r=(false,w3)) (Nd.b1 d3 (Nd.s1 (Nd.b1 (by rw[aD];exact q3) (Nd.b2 hi3 (Nd.f (by simp;omega) (Nd.b1 (by rw[aD];exact q3) (Nd.b2 re3 (Nd.f (by simp;omega) (Nd.b1 (by rw[aD];exact q3) (Nd.b2 re3 (Nd.b1 (by rw[aD];exact q3) (Nd.b2 hi3 (Nd.ck (by rw[aD];exact q3) (Nd.ret (by rw[decide_eq_false (by omega)]))))))))))))))) ?_;rintro _ _ he;cases he;obtain⟨w4,d4,H4,m4⟩:=H3.dr;have q4:=Pg.p1 H4;have hi4:=uX H4.m3;have re4:=aAZ H4.m3;obtain⟨z,w5,e5,H5,m5⟩:=aFc (a:=0) (b:=1099511627776) hk2.wf H4.m3;have r5:=xX H5;rw[aDr hk2.wf] at r5;refine Nd.f (by simp) (Nd.b1 d4 (Nd.s1 (Nd.b1 (by rw[aD];exact q4) (Nd.b2 hi4 (Nd.b1 (by rw[aD];exact q4) (Nd.b2 re4 (Nd.ck (by rw[aD];exact q4) (Nd.b1 (by rw[aD];exact q4) (Nd.b2 e5 (Nd.j1 (Ψ:=fun o=>∃ w',o = .inl w'/\∀ S,Fr S w5 w') (aDB (by have:=uY hk2.wf;omega) ?_ ?_ S2.2.vis.length 0 w5 (by omega) r5 fun w' f'=>⟨w',rfl,f'⟩) ?_))))))))))
   .intro r hr;have:=aIL.1 hr;exact⟨by simpa using this.2,aCO hk2.wf this.1⟩
   .exact k1.filter _
   rintro _ ⟨w6,rfl,f6⟩;have H6:=H5.tl.old f6;have m6:=H5.tl.mold f6;simp only[Sum.elim_inl,u1];exact Nd.ret ⟨rfl,g2,c2,e2,S2,⟨Hp.cons_app (L:=[pgR p x c2 y e2,dkR x S2.1,rdR y S2.1]) H6,hk2⟩,m2.t (m3.t (m4.t (m5.t m6))),k1,aIv _,aIv _,by rw[Nat.mul_add,<-aKj];exact aIN hk (Nat.add_le_add_right hW _)⟩
  rintro⟨v1,v2,v3,w7⟩ ⟨rfl,g7,c7,e7,S7,hp7,m7,k1,k2,k3,k4⟩;simp only at hp7 m7 k2 k3;refine Nd.ret ?_;show(eQ _ (true,v2,v3,IntKind.wrap .i64 ((i:Int)+1),w7)).t Φ;rw[cB (by omega)];exact ih (i+1) w7 g7 c7 e7 S7 v2 v3 him2 k4 (hm.t m7) hp7 k1 k2 k3 hΦ
end
theorem EvlogGrows_law {w:World} (s1:Sl) (ds1:List Dg) (hs1:PL dgR 4 (old w) w s1 ds1):(iF s1 w).t fun r=>r.1=true/\Fr (fun k=>w.heap.size<=k) w r.2:=by
 have H:Hp (fun _=>False) (old w) w (old w) w []:=Hp.beg (aFn w);unfold iF;refine Nd.j3 (Ψ:=fun r=>∃ g p x c y e D,r.1=some ⟨p,0,none⟩/\r.2.1=true/\Pg (fun _=>False) (old w) w g r.2.2 p x c y e (D,lvL) []/\D.W.length<=2000/\Mo (old w) w g r.2.2) (aCX (ds:=[]) (PL.nil rfl) H fun g' w' p x c y e l hl hP hW m'=>?_) ?_
 .have:l=lvL:=by
   have e:(((([]:List Dg).take 200).foldl qV (Dk.new 52)).openL 1 3).2.2=some lvL:=congrArg (fun o=>o.2.2) lv1;rw[e] at hl;cases hl;rfl
  subst this;exact⟨g',p,x,c,y,e,_,rfl,rfl,hP,hW,m'⟩
 rintro _ _ w1 ⟨g1,p,x,c,y,e,D,rfl,rfl,h1,hW1,m1⟩;simp only at h1 m1 hW1;refine Nd.j1 (Ψ:=fun o=>∃ w' g' c' e' S',o = .inl (true,w')/\Pg (fun _=>False) (old w) w g' w' p x c' y e' S' []) (aAQ hs1 (min ds1.length 100) 0 w1 g1 c e (D,lvL) 0 0 (by omega) (by simp only;omega) m1 h1 List.Pairwise.nil (aIv _) (aIv _) fun g' w' c' e' S' hP=>⟨w',g',c',e',S',rfl,hP⟩) ?_;rintro _ ⟨w2,g2,c2,e2,S2,rfl,h2⟩;simp only[Sum.elim_inl,u2];exact Nd.j2 (Ψ:=fun r=>r.1=true/\Fr (fun k=>w.heap.size<=k) w r.2) (Nd.j2 (Ψ:=fun r=>r.1=true/\Fr (fun k=>w.heap.size<=k) w r.2) (aCC h2.H fun g' w' H' _=>⟨rfl,H'.fin⟩) (fun a b h=>by obtain⟨rfl,h⟩:=h;exact Nd.t rfl (Nd.ret ⟨rfl,h⟩))) (fun a b h=>Nd.ret h)
end
end Go.Proofs.Ytejkaciimmfgcaa.D
