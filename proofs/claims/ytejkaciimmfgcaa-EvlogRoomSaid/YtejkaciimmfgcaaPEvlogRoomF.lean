/- EvlogRoom -/
import Derived.Test.YtejkaciimmfgcaaPEvlogRoomA
import Derived.Test.YtejkaciimmfgcaaPEvlogRoomB
import Derived.Test.YtejkaciimmfgcaaPEvlogRoomC
import Derived.Test.YtejkaciimmfgcaaPEvlogRoomD
import Derived.Test.YtejkaciimmfgcaaPEvlogRoomE
namespace Go.Proofs.Ytejkaciimmfgcaa.D
open Go
set_option linter.unusedVariables false
set_option linter.unusedSimpArgs false
set_option maxHeartbeats 1000000
set_option maxRecDepth 100000
noncomputable section
def eJ (a0:Option Addr) (w:World):ND (Bool×World) :=
 lb1 (a0) fun p1 =>
 lb1 (ldP w (p1.add 0)) fun v3 =>
 cb3 (mV v3 1 3 w) fun v5 v6 w7 =>
 lb1 (ldP w7 (p1.add 2)) fun v9 =>
 cb3 (iZ v9 1 3 w7) fun v11 v12 w13 =>
 cb2 (if (v6 !=v12)=true then
 (aU (true,w13))
 else
 (aU (((v5.isNone) !=(v12 !=0)),w13))) fun v15 w16 =>
 if v15=true then
 (aU (false,w16))
 else
 (cb1 (if (v12==0)=true then
 (lb1 (stV w16 (p1.add 1) (.pointer v5)) fun w25 =>
 lb1 (stV w25 (p1.add 3) (.pointer v11)) fun w27 =>
 aU w27)
 else
 (aU w16)) fun w21 =>
 aU (true,w21))
theorem lG {a0 w Q} (h:(eJ a0 w).t Q):Calls Try.prog 90 #[(.pointer a0)] w fun e w''=>∃ i,e=.returned (.bool i.1)/\Q i/\w''=i.2:=by
 refine aP (n:=43) Try.func90 rfl Try.ntmps90 (by simp) fun a u=>?_;unfold eJ at h;refine wp_seq<|aA<|qa u rfl fun a u=>aB<|t_n<|wp_seq<|aA<|qm u rfl fun a u=>?_;obtain⟨p1,e2,h⟩:=h;refine q u (aH u rfl e2) fun a u=>q u (aK u rfl aGQ rfl rfl aHm) fun a u=>?_;obtain⟨v3,e4,h⟩:=h;refine q u (aJ u rfl aHj (bA e4)) fun a u=>?_;refine jV (ι:=(Option Addr)×Int×World) (pk:=fun i=>(.tuple #[(pV i.1),(iV i.2.1)])) (wf:=fun i=>i.2.2) (xs:=[_,_,_]) (vs:=[(pV v3),(iV 1),(iV 3)]) u ⟨rfl,rfl,rfl,aLz⟩ Try.call32 (pZ (un3 h)) (fun i h a u=>?_);obtain⟨v5,v6,w7⟩:=i;refine qm u rfl fun a u=>q u (aW u rfl rfl) fun a u=>q u (aW u rfl rfl) fun a u=>qa u rfl fun a u=>qa u rfl fun a u=>aB<|t_n<|wp_seq<|aA<|qm u rfl fun a u=>q u (aH u rfl e2) fun a u=>q u (aK u rfl aGQ rfl rfl aHp) fun a u=>?_;obtain⟨v9,e10,h⟩:=h;refine q u (aJ u rfl aHi (bA e10)) fun a u=>?_;refine jV (ι:=(Option Addr)×Int×World) (pk:=fun i=>(.tuple #[(pV i.1),(iV i.2.1)])) (wf:=fun i=>i.2.2) (xs:=[_,_,_]) (vs:=[(pV v9),(iV 1),(iV 3)]) u ⟨rfl,rfl,rfl,aLz⟩ Try.call33 (qL (un3 h)) (fun i h a u=>?_);obtain⟨v11,v12,w13⟩:=i;refine qm u rfl fun a u=>q u (aW u rfl rfl) fun a u=>q u (aW u rfl rfl) fun a u=>qa u rfl fun a u=>qa u rfl fun a u=>aB<|t_n<|wp_seq<|wp_seq<|?_;refine dD (n:=43) (ι:=Bool×World) (Lf:=fun i=>[(32,(bV i.1)),(0,(pV a0)),(3,(pV v5)),(5,(pV v11)),(6,(iV v12))]) (wf:=fun i=>i.2) (un2 h) (fun i h a u=>?_) (fun h hk18=>?_)
 .obtain⟨v15,w16⟩:=i;have u:Has 43 [(32,(bV v15)),(0,(pV a0)),(3,(pV v5)),(5,(pV v11)),(6,(iV v12))] a:=u;refine t_n<|?_;refine aX u rfl h (fun b20 h=>?_) (fun b20 h=>?_)
  .refine wp_seq<|aA<|qa u rfl fun a u=>aB<|t_n<|wp_ret<|t_r<|?_;exact bI Try.results90 u rfl ⟨(false,w16),rfl,h,rfl⟩
  refine wp_skip<|t_n<|?_;refine gJ (n:=43) (ι:=World) (Lf:=fun i=>[]) (wf:=fun i=>i) (un1 h) (fun i h a u=>?_) (fun h hk23=>?_)
  .obtain⟨w21,rfl⟩:∃ x,x=i:=⟨i,rfl⟩;have u:Has 43 [] a:=u;refine wp_seq<|aA<|qa u rfl fun a u=>aB<|t_n<|wp_ret<|?_;exact bI Try.results90 u rfl ⟨(true,w21),rfl,h,rfl⟩
  refine wp_seq<|aA<|qm u rfl fun a u=>q u (gD u rfl rfl) fun a u=>aB<|t_n<|?_;refine aX u rfl h (fun b24 h=>?_) (fun b24 h=>?_)
  .refine aA<|qm u rfl fun a u=>qm u rfl fun a u=>qm u rfl fun a u=>qm u rfl fun a u=>q u (aH u rfl e2) fun a u=>q u (aK u rfl aGQ rfl rfl aHr) fun a u=>?_;obtain⟨w25,e26,h⟩:=h;refine q u (fO u rfl rfl aHr e26) fun a u=>q u (aH u rfl e2) fun a u=>q u (aK u rfl aGQ rfl rfl aIi) fun a u=>?_;obtain⟨w27,e28,h⟩:=h;refine q u (fO u rfl rfl aIi e28) fun a u=>aB<|?_;exact hk23 w27 h _ (u.sb rfl)
  refine wp_skip<|?_;exact hk23 w16 h _ (u.sb rfl)
 refine aA<|qm u rfl fun a u=>qm u rfl fun a u=>q u (fJ u rfl rfl) fun a u=>qm u rfl fun a u=>?_;refine iE h (fun b19 h=>?_) (fun b19 h=>?_)
 .refine qn u 26 (tn b19) fun a u=>qn u 26 (tn b19) fun a u=>qn u 26 (tn b19) fun a u=>qn u 26 (tn b19) fun a u=>qn u 26 (tn b19) fun a u=>q u (aF u rfl b19 rfl) fun a u=>aB<|?_;exact hk18 (true,w13) h _ (u.sb rfl)
 refine qg u 26 (nt b19) (aC u rfl) fun a u=>qg u 26 (nt b19) (jJ u rfl rfl aHL) fun a u=>qg u 26 (nt b19) (aC u rfl) fun a u=>qg u 26 (nt b19) (fJ u rfl rfl) fun a u=>qg u 26 (nt b19) (aGn u rfl rfl Try.runUnderlying4) fun a u=>q u (aL u rfl b19 rfl) fun a u=>aB<|?_;exact hk18 (((v5.isNone) !=(v12 !=0)),w13) h _ (u.sb rfl)
noncomputable def fZ (a0:Option Addr) (w:World):Option (Bool×World) :=
 (a0).bind fun p1 =>
 (ldP w (p1.add 3)).bind fun v3 =>
 (v3).bind fun p5 =>
 (ldA 4 w (p5.add 4) 0).bind fun c7 =>
 aN (mk w 130 ([.int .i64 0,.int .i64 0,.slice none 0 0,.slice none 0 0])) fun p9 w10 =>
 (stA w10 p9 0 c7).bind fun w12 =>
 aN ((dr w12).bind fun w18 =>
 (ldP w18 (p1.add 1)).bind fun v20 =>
 aN (iQ v20 w18) fun v22 w23 =>
 (ldI .i64 w23 (p9.add 0)).bind fun v25 =>
 if (v22==v25)=true then
 ((ldP w23 (p1.add 1)).bind fun v28 =>
 aN (mR v28 w23) fun v30 w31 =>
 (ldI .i64 w31 (p9.add 1)).bind fun v33 =>
 if (v30==v33)=true then
 ((ldP w31 (p1.add 1)).bind fun v36 =>
 aN (kI v36 w31) fun v38 w39 =>
 (ldL w39 (p9.add 2)).bind fun v41 =>
 if (v38==(v41.n:Int))=true then
 ((ldP w39 (p1.add 1)).bind fun v44 =>
 aN (fG v44 0 1099511627776 w39) fun v46 w47 =>
 (ldL w47 (p9.add 3)).bind fun v49 =>
 aN (hU v46 v49 w47) fun v51 w52 =>
 if v51=true then
 ((ldP w52 (p1.add 0)).bind fun v55 =>
 aN (dB v55 w52) fun v57 w58 =>
 (ldP w58 (p1.add 2)).bind fun v60 =>
 (v60).bind fun p62 =>
 (ldB w58 (p62.add 3)).bind fun v64 =>
 chk (ldI .i64 w18 (p9.add 0)=some v25) <|
 chk (ldI .i64 w23 (p9.add 1)=some v33) <|
 chk (ldL w31 (p9.add 2)=some v41) <|
 chk (ldL w39 (p9.add 3)=some v49) <|
 chk (ldP w52 (p1.add 2)=some v60) <|
 chk (ldB w52 (p62.add 3)=some v64) <|
 some ((v57==v64),w58))
 else
 (chk (ldI .i64 w18 (p9.add 0)=some v25) <|
 chk (ldI .i64 w23 (p9.add 1)=some v33) <|
 chk (ldL w31 (p9.add 2)=some v41) <|
 chk (ldL w39 (p9.add 3)=some v49) <|
 some (false,w52)))
 else
 (chk (ldI .i64 w18 (p9.add 0)=some v25) <|
 chk (ldI .i64 w23 (p9.add 1)=some v33) <|
 chk (ldL w31 (p9.add 2)=some v41) <|
 some (false,w39)))
 else
 (chk (ldI .i64 w18 (p9.add 0)=some v25) <|
 chk (ldI .i64 w23 (p9.add 1)=some v33) <|
 some (false,w31)))
 else
 (chk (ldI .i64 w18 (p9.add 0)=some v25) <|
 some (false,w23))) fun v14 w15 =>
 some (v14,w15)
theorem oT {a0 w w' r0} (h:fZ a0 w=some (r0,w')):Calls Try.prog 51 #[(.pointer a0)] w fun e w''=>e=.returned (.bool r0)/\w''=w':=by
 refine aP (n:=65) Try.func51 rfl Try.ntmps51 (by simp) fun a u=>?_;unfold fZ at h;refine wp_seq<|aA<|qa u rfl fun a u=>aB<|t_n<|wp_seq<|aA<|qm u rfl fun a u=>?_;have⟨p1,e2,h⟩:=bs1 h;refine q u (aH u rfl e2) fun a u=>q u (aK u rfl aGQ rfl rfl aIi) fun a u=>?_;have⟨v3,e4,h⟩:=bs1 h;refine q u (aJ u rfl aIl (bA e4)) fun a u=>?_;have⟨p5,e6,h⟩:=bs1 h;refine q u (aH u rfl e6) fun a u=>q u (aK u rfl aGP rfl rfl aHd) fun a u=>?_;have⟨c7,e8,h⟩:=bs1 h;refine q u (gC u rfl aIp aHd e8) fun a u=>?_;have⟨p9,w10,e11,h⟩:=bs2 h;refine q u (eX aIa (by kernel_rfl) e11) fun a u=>?_;have⟨w12,e13,h⟩:=bs1 h;refine q u (eW u rfl rfl aHd ((kR e8).1) e13) fun a u=>aB<|t_n<|wp_seq<|?_;have⟨v14,w15,e16,h⟩:=bs2 h;refine bP (n:=65) (L:=[(2,(bV v14))]) (w':=w15) (fun a u=>?_) (fun hk17=>?_)
 .refine t_n<|wp_ret<|?_;have y:=u;cases h;exact bI Try.results51 y rfl ⟨rfl,rfl⟩
 clear h;have h:=e16;have⟨w18,e19,h⟩:=bs1 h;have⟨v20,e21,h⟩:=bs1 h;have⟨v22,w23,e24,h⟩:=bs2 h;have⟨v25,e26,h⟩:=bs1 h;refine bW h (fun b27 h=>?_) (fun b27 h=>?_)
 .have⟨v28,e29,h⟩:=bs1 h;have⟨v30,w31,e32,h⟩:=bs2 h;have⟨v33,e34,h⟩:=bs1 h;refine bW h (fun b35 h=>?_) (fun b35 h=>?_)
  .have⟨v36,e37,h⟩:=bs1 h;have⟨v38,w39,e40,h⟩:=bs2 h;have⟨v41,e42,h⟩:=bs1 h;refine bW h (fun b43 h=>?_) (fun b43 h=>?_)
   .have⟨v44,e45,h⟩:=bs1 h;have⟨v46,w47,e48,h⟩:=bs2 h;have⟨v49,e50,h⟩:=bs1 h;have⟨v51,w52,e53,h⟩:=bs2 h;refine bW h (fun b54 h=>?_) (fun b54 h=>?_)
    .have⟨v55,e56,h⟩:=bs1 h;have⟨v57,w58,e59,h⟩:=bs2 h;have⟨v60,e61,h⟩:=bs1 h;have⟨p62,e63,h⟩:=bs1 h;have⟨v64,e65,h⟩:=bs1 h;obtain⟨e66,h⟩:=bO h;obtain⟨e67,h⟩:=bO h;obtain⟨e68,h⟩:=bO h;obtain⟨e69,h⟩:=bO h;obtain⟨e70,h⟩:=bO h;obtain⟨e71,h⟩:=bO h;have u:Has 65 [(0,(pV a0)),(3,(pV (some p9)))] a:=u.sb rfl;refine aM (n:=65) (ds:=(aS (pV a0) 0 [] 0::aG (pV (some p1)) 0 [0] 11 (pV a0)::aG (pV (some (p1.add 1))) 0 [0,1] 12 (pV (some p1))::aG (pV v20) 0 [0,1,2] 13 (pV (some (p1.add 1)))::aI (iV v22) true 0 0 (rn 0 4) [(14,(pV v20))]::aI (pV (some (p9.add 0))) false 0 1 [] [(3,(pV (some p9)))]::aI (iV v25) false 0 1 [5] [(16,(pV (some (p9.add 0))))]::aT (bV (v22==v25)) 1 (rn 0 7) [(15,(iV v22)),(17,(iV v25))]::aS (bV (v22==v25)) 1 (rn 0 8) 18::aT (pV a0) 1 (rn 0 9) [(0,(pV a0)),(19,(bV (v22==v25)))]::aT (pV (some p1)) 1 (rn 0 10) [(20,(pV a0)),(19,(bV (v22==v25)))]::aT (pV (some (p1.add 1))) 1 (rn 0 11) [(21,(pV (some p1))),(19,(bV (v22==v25)))]::aT (pV v28) 1 (rn 0 12) [(22,(pV (some (p1.add 1)))),(19,(bV (v22==v25)))]::aI (iV v30) true 1 1 (rn 0 13) [(23,(pV v28)),(19,(bV (v22==v25)))]::aI (pV (some (p9.add 1))) false 1 2 (rn 0 9) [(3,(pV (some p9))),(19,(bV (v22==v25)))]::aI (iV v33) false 1 2 (rn 0 9++[14]) [(25,(pV (some (p9.add 1)))),(19,(bV (v22==v25)))]::aT (bV (v30==v33)) 2 (rn 0 16) [(24,(iV v30)),(26,(iV v33)),(19,(bV (v22==v25)))]::aT (bV (v30==v33)) 2 (rn 0 17) [(19,(bV (v22==v25))),(27,(bV (v30==v33)))]::aS (bV (v30==v33)) 2 (rn 0 18) 28::aT (pV a0) 2 (rn 0 19) [(0,(pV a0)),(29,(bV (v30==v33)))]::aT (pV (some p1)) 2 (rn 0 20) [(30,(pV a0)),(29,(bV (v30==v33)))]::aT (pV (some (p1.add 1))) 2 (rn 0 21) [(31,(pV (some p1))),(29,(bV (v30==v33)))]::aT (pV v36) 2 (rn 0 22) [(32,(pV (some (p1.add 1)))),(29,(bV (v30==v33)))]::aI (iV v38) true 2 2 (rn 0 23) [(33,(pV v36)),(29,(bV (v30==v33)))]::aI (pV (some (p9.add 2))) false 2 3 (rn 0 19) [(3,(pV (some p9))),(29,(bV (v30==v33)))]::aI (Sl.v v41) false 2 3 (rn 0 19++[24]) [(35,(pV (some (p9.add 2)))),(29,(bV (v30==v33)))]::aI (iV (v41.n:Int)) false 2 3 (rn 0 19++[24,25]) [(36,(Sl.v v41)),(29,(bV (v30==v33)))]::aT (bV (v38==(v41.n:Int))) 3 (rn 0 27) [(34,(iV v38)),(37,(iV (v41.n:Int))),(29,(bV (v30==v33)))]::aT (bV (v38==(v41.n:Int))) 3 (rn 0 28) [(29,(bV (v30==v33))),(38,(bV (v38==(v41.n:Int))))]::aS (bV (v38==(v41.n:Int))) 3 (rn 0 29) 39::aT (pV a0) 3 (rn 0 30) [(0,(pV a0)),(40,(bV (v38==(v41.n:Int))))]::aT (pV (some p1)) 3 (rn 0 31) [(41,(pV a0)),(40,(bV (v38==(v41.n:Int))))]::aT (pV (some (p1.add 1))) 3 (rn 0 32) [(42,(pV (some p1))),(40,(bV (v38==(v41.n:Int))))]::aT (pV v44) 3 (rn 0 33) [(43,(pV (some (p1.add 1)))),(40,(bV (v38==(v41.n:Int))))]::aI (Sl.v v46) true 3 3 (rn 0 34) [(44,(pV v44)),(40,(bV (v38==(v41.n:Int))))]::aI (pV (some (p9.add 3))) false 3 4 (rn 0 30) [(3,(pV (some p9))),(40,(bV (v38==(v41.n:Int))))]::aI (Sl.v v49) false 3 4 (rn 0 30++[35]) [(46,(pV (some (p9.add 3)))),(40,(bV (v38==(v41.n:Int))))]::aI (bV v51) true 4 4 (rn 0 37) [(45,(Sl.v v46)),(47,(Sl.v v49)),(40,(bV (v38==(v41.n:Int))))]::aT (bV v51) 5 (rn 0 38) [(40,(bV (v38==(v41.n:Int)))),(48,(bV v51))]::aS (bV v51) 5 (rn 0 39) 49::aT (pV a0) 5 (rn 0 40) [(0,(pV a0)),(50,(bV v51))]::aT (pV (some p1)) 5 (rn 0 41) [(51,(pV a0)),(50,(bV v51))]::aT (pV (some (p1.add 0))) 5 (rn 0 42) [(52,(pV (some p1))),(50,(bV v51))]::aT (pV v55) 5 (rn 0 43) [(53,(pV (some (p1.add 0)))),(50,(bV v51))]::aI (bV v57) true 5 5 (rn 0 44) [(54,(pV v55)),(50,(bV v51))]::aI (pV a0) false 5 6 (rn 0 40) [(0,(pV a0)),(50,(bV v51))]::aI (pV (some p1)) false 5 6 (rn 0 40++[45]) [(56,(pV a0)),(50,(bV v51))]::aI (pV (some (p1.add 2))) false 5 6 (rn 0 40++[45,46]) [(57,(pV (some p1))),(50,(bV v51))]::aI (pV v60) false 5 6 (rn 0 40++[45,46,47]) [(58,(pV (some (p1.add 2)))),(50,(bV v51))]::aI (pV (some p62)) false 5 6 (rn 0 40++rn 45 4) [(59,(pV v60)),(50,(bV v51))]::aI (pV (some (p62.add 3))) false 5 6 (rn 0 40++rn 45 5) [(60,(pV (some p62))),(50,(bV v51))]::aI (bV v64) false 5 6 (rn 0 40++rn 45 6) [(61,(pV (some (p62.add 3)))),(50,(bV v51))]::aT (bV (v57==v64)) 6 (rn 0 52) [(55,(bV v57)),(62,(bV v64)),(50,(bV v51))]::aT (bV (v57==v64)) 6 (rn 0 53) [(50,(bV v51)),(63,(bV (v57==v64)))]::aS (bV (v57==v64)) 6 (rn 0 54) 64::[])) (W:=(fun j=>match j with | 0=>w18 | 1=>w23 | 2=>w31 | 3=>w39 | 4=>w47 | 5=>w52 | 6=>w58 | _=>w58)) (by kernel_rfl) u (cY e19) (by kernel_rfl) ?_ (aR (by kernel_rfl)) (by kernel_rfl) (m:=6) (by kernel_rfl) (fun a u=>?_)
     .refine⟨oa (aC · rfl),oa (aH · rfl e2),oa (aK · rfl aGQ rfl rfl aHr),oc 0 (kd (aJ · rfl aHv (bA e21))),oc 0 (kd (dc1 · rfl Try.call38 (fU e24))),oa (aK · rfl aGM rfl rfl aGL),?_,oa (gD · rfl rfl),oa (aC · rfl),oag 19 b27 (aC · rfl),oag 19 b27 (aH · rfl e2),oag 19 b27 (aK · rfl aGQ rfl rfl aHr),oc 1 (kg 19 b27 (aJ · rfl aHv (bA e29))),oc 1 (kg 19 b27 (dc1 · rfl Try.call39 (mG e32))),oag 19 b27 (aK · rfl aGM rfl rfl aGL),?_,oag 19 b27 (gD · rfl rfl),oa (aF · rfl b27 rfl),oa (aC · rfl),oag 29 b35 (aC · rfl),oag 29 b35 (aH · rfl e2),oag 29 b35 (aK · rfl aGQ rfl rfl aHr),oc 2 (kg 29 b35 (aJ · rfl aHv (bA e37))),oc 2 (kg 29 b35 (dc1 · rfl Try.call40 (lJ e40))),oag 29 b35 (aK · rfl aGM rfl rfl aHb),?_,oag 29 b35 (aZ · rfl aGR),oag 29 b35 (gD · rfl rfl),oa (aF · rfl b35 rfl),oa (aC · rfl),oag 40 b43 (aC · rfl),oag 40 b43 (aH · rfl e2),
       oag 40 b43 (aK · rfl aGQ rfl rfl aHr),oc 3 (kg 40 b43 (aJ · rfl aHv (bA e45))),oc 3 (kg 40 b43 (dc3 · rfl rfl rfl Try.call44 (jC e48))),oag 40 b43 (aK · rfl aGM rfl rfl aHy),?_,oc 4 (kg 40 b43 (dc2 · rfl rfl Try.call48 (kU e53))),oa (aF · rfl b43 rfl),oa (aC · rfl),oag 50 b54 (aC · rfl),oag 50 b54 (aH · rfl e2),oag 50 b54 (aK · rfl aGQ rfl rfl aHm),oc 5 (kg 50 b54 (aJ · rfl aHj (bA e56))),oc 5 (kg 50 b54 (dc1 · rfl Try.call47 (hJ e59))),oag 50 b54 (aC · rfl),oag 50 b54 (aH · rfl e2),oag 50 b54 (aK · rfl aGQ rfl rfl aHp),?_,oag 50 b54 (aH · rfl e63),oag 50 b54 (aK · rfl aGS rfl rfl aHz),?_,oag 50 b54 (aGj · rfl rfl Try.runUnderlying4),oa (aF · rfl b54 rfl),oa (bD · rfl),aLz⟩
      .intro j h1 h2;have h1:0<=j:=h1;have h2:j<=1:=h2;rcases(by omega:j=0\/j=1) with rfl | rfl
       .exact kd (aJ · rfl aGN (aQ e66))
       exact kd (aJ · rfl aGN (aQ e26))
      .intro j h1 h2;have h1:1<=j:=h1;have h2:j<=2:=h2;rcases(by omega:j=1\/j=2) with rfl | rfl
       .exact kg 19 b27 (aJ · rfl aGN (aQ e67))
       exact kg 19 b27 (aJ · rfl aGN (aQ e34))
      .intro j h1 h2;have h1:2<=j:=h1;have h2:j<=3:=h2;rcases(by omega:j=2\/j=3) with rfl | rfl
       .exact kg 29 b35 (aJ · rfl aHc (aV e68))
       exact kg 29 b35 (aJ · rfl aHc (aV e42))
      .intro j h1 h2;have h1:3<=j:=h1;have h2:j<=4:=h2;rcases(by omega:j=3\/j=4) with rfl | rfl
       .exact kg 40 b43 (aJ · rfl aHI (aV e69))
       exact kg 40 b43 (aJ · rfl aHI (aV e50))
      .intro j h1 h2;have h1:5<=j:=h1;have h2:j<=6:=h2;rcases(by omega:j=5\/j=6) with rfl | rfl
       .exact kg 50 b54 (aJ · rfl aHi (bA e70))
       exact kg 50 b54 (aJ · rfl aHi (bA e61))
      intro j h1 h2;have h1:5<=j:=h1;have h2:j<=6:=h2;rcases(by omega:j=5\/j=6) with rfl | rfl
      .exact kg 50 b54 (aJ · rfl aHR (oO e71))
      exact kg 50 b54 (aJ · rfl aHR (oO e65))
     have u:Has 65 [(2,(bV (v57==v64)))] a:=u.sb rfl;have y:=u;cases h;exact hk17 _ (y.sb rfl)
    obtain⟨e72,h⟩:=bO h;obtain⟨e73,h⟩:=bO h;obtain⟨e74,h⟩:=bO h;obtain⟨e75,h⟩:=bO h;have u:Has 65 [(0,(pV a0)),(3,(pV (some p9)))] a:=u.sb rfl;refine aM (n:=65) (ds:=(aS (pV a0) 0 [] 0::aG (pV (some p1)) 0 [0] 11 (pV a0)::aG (pV (some (p1.add 1))) 0 [0,1] 12 (pV (some p1))::aG (pV v20) 0 [0,1,2] 13 (pV (some (p1.add 1)))::aI (iV v22) true 0 0 (rn 0 4) [(14,(pV v20))]::aI (pV (some (p9.add 0))) false 0 1 [] [(3,(pV (some p9)))]::aI (iV v25) false 0 1 [5] [(16,(pV (some (p9.add 0))))]::aT (bV (v22==v25)) 1 (rn 0 7) [(15,(iV v22)),(17,(iV v25))]::aS (bV (v22==v25)) 1 (rn 0 8) 18::aT (pV a0) 1 (rn 0 9) [(0,(pV a0)),(19,(bV (v22==v25)))]::aT (pV (some p1)) 1 (rn 0 10) [(20,(pV a0)),(19,(bV (v22==v25)))]::aT (pV (some (p1.add 1))) 1 (rn 0 11) [(21,(pV (some p1))),(19,(bV (v22==v25)))]::aT (pV v28) 1 (rn 0 12) [(22,(pV (some (p1.add 1)))),(19,(bV (v22==v25)))]::aI (iV v30) true 1 1 (rn 0 13) [(23,(pV v28)),(19,(bV (v22==v25)))]::aI (pV (some (p9.add 1))) false 1 2 (rn 0 9) [(3,(pV (some p9))),(19,(bV (v22==v25)))]::aI (iV v33) false 1 2 (rn 0 9++[14]) [(25,(pV (some (p9.add 1)))),(19,(bV (v22==v25)))]::aT (bV (v30==v33)) 2 (rn 0 16) [(24,(iV v30)),(26,(iV v33)),(19,(bV (v22==v25)))]::aT (bV (v30==v33)) 2 (rn 0 17) [(19,(bV (v22==v25))),(27,(bV (v30==v33)))]::aS (bV (v30==v33)) 2 (rn 0 18) 28::aT (pV a0) 2 (rn 0 19) [(0,(pV a0)),(29,(bV (v30==v33)))]::aT (pV (some p1)) 2 (rn 0 20) [(30,(pV a0)),(29,(bV (v30==v33)))]::aT (pV (some (p1.add 1))) 2 (rn 0 21) [(31,(pV (some p1))),(29,(bV (v30==v33)))]::aT (pV v36) 2 (rn 0 22) [(32,(pV (some (p1.add 1)))),(29,(bV (v30==v33)))]::aI (iV v38) true 2 2 (rn 0 23) [(33,(pV v36)),(29,(bV (v30==v33)))]::aI (pV (some (p9.add 2))) false 2 3 (rn 0 19) [(3,(pV (some p9))),(29,(bV (v30==v33)))]::aI (Sl.v v41) false 2 3 (rn 0 19++[24]) [(35,(pV (some (p9.add 2)))),(29,(bV (v30==v33)))]::aI (iV (v41.n:Int)) false 2 3 (rn 0 19++[24,25]) [(36,(Sl.v v41)),(29,(bV (v30==v33)))]::aT (bV (v38==(v41.n:Int))) 3 (rn 0 27) [(34,(iV v38)),(37,(iV (v41.n:Int))),(29,(bV (v30==v33)))]::aT (bV (v38==(v41.n:Int))) 3 (rn 0 28) [(29,(bV (v30==v33))),(38,(bV (v38==(v41.n:Int))))]::aS (bV (v38==(v41.n:Int))) 3 (rn 0 29) 39::aT (pV a0) 3 (rn 0 30) [(0,(pV a0)),(40,(bV (v38==(v41.n:Int))))]::aT (pV (some p1)) 3 (rn 0 31) [(41,(pV a0)),(40,(bV (v38==(v41.n:Int))))]::aT (pV (some (p1.add 1))) 3 (rn 0 32) [(42,(pV (some p1))),(40,(bV (v38==(v41.n:Int))))]::aT (pV v44) 3 (rn 0 33) [(43,(pV (some (p1.add 1)))),(40,(bV (v38==(v41.n:Int))))]::aI (Sl.v v46) true 3 3 (rn 0 34) [(44,(pV v44)),(40,(bV (v38==(v41.n:Int))))]::aI (pV (some (p9.add 3))) false 3 4 (rn 0 30) [(3,(pV (some p9))),(40,(bV (v38==(v41.n:Int))))]::aI (Sl.v v49) false 3 4 (rn 0 30++[35]) [(46,(pV (some (p9.add 3)))),(40,(bV (v38==(v41.n:Int))))]::aI (bV v51) true 4 4 (rn 0 37) [(45,(Sl.v v46)),(47,(Sl.v v49)),(40,(bV (v38==(v41.n:Int))))]::aT (bV v51) 5 (rn 0 38) [(40,(bV (v38==(v41.n:Int)))),(48,(bV v51))]::aS (bV v51) 5 (rn 0 39) 49::aG (undef) 5 (rn 0 40) 50 (bV v51)::aG (undef) 5 (rn 0 41) 50 (bV v51)::aG (undef) 5 (rn 0 42) 50 (bV v51)::aG (undef) 5 (rn 0 43) 50 (bV v51)::aG (undef) 5 (rn 0 44) 50 (bV v51)::aG (undef) 5 (rn 0 40) 50 (bV v51)::aG (undef) 5 (rn 0 40++[45]) 50 (bV v51)::aG (undef) 5 (rn 0 40++[45,46]) 50 (bV v51)::aG (undef) 5 (rn 0 40++[45,46,47]) 50 (bV v51)::aG (undef) 5 (rn 0 40++rn 45 4) 50 (bV v51)::aG (undef) 5 (rn 0 40++rn 45 5) 50 (bV v51)::aG (undef) 5 (rn 0 40++rn 45 6) 50 (bV v51)::aG (undef) 5 (rn 0 52) 50 (bV v51)::aT (bV false) 5 (rn 0 53) [(50,(bV v51)),(63,undef)]::aS (bV false) 5 (rn 0 54) 64::[])) (W:=(fun j=>match j with | 0=>w18 | 1=>w23 | 2=>w31 | 3=>w39 | 4=>w47 | 5=>w52 | _=>w52)) (by kernel_rfl) u (cY e19) (by kernel_rfl) ?_ (aR (by kernel_rfl)) (by kernel_rfl) (m:=5) (by kernel_rfl) (fun a u=>?_)
    .refine⟨oa (aC · rfl),oa (aH · rfl e2),oa (aK · rfl aGQ rfl rfl aHr),oc 0 (kd (aJ · rfl aHv (bA e21))),oc 0 (kd (dc1 · rfl Try.call38 (fU e24))),oa (aK · rfl aGM rfl rfl aGL),?_,oa (gD · rfl rfl),oa (aC · rfl),oag 19 b27 (aC · rfl),oag 19 b27 (aH · rfl e2),oag 19 b27 (aK · rfl aGQ rfl rfl aHr),oc 1 (kg 19 b27 (aJ · rfl aHv (bA e29))),oc 1 (kg 19 b27 (dc1 · rfl Try.call39 (mG e32))),oag 19 b27 (aK · rfl aGM rfl rfl aGL),?_,oag 19 b27 (gD · rfl rfl),oa (aF · rfl b27 rfl),oa (aC · rfl),oag 29 b35 (aC · rfl),oag 29 b35 (aH · rfl e2),oag 29 b35 (aK · rfl aGQ rfl rfl aHr),oc 2 (kg 29 b35 (aJ · rfl aHv (bA e37))),oc 2 (kg 29 b35 (dc1 · rfl Try.call40 (lJ e40))),oag 29 b35 (aK · rfl aGM rfl rfl aHb),?_,oag 29 b35 (aZ · rfl aGR),oag 29 b35 (gD · rfl rfl),oa (aF · rfl b35 rfl),oa (aC · rfl),oag 40 b43 (aC · rfl),oag 40 b43 (aH · rfl e2),
      oag 40 b43 (aK · rfl aGQ rfl rfl aHr),oc 3 (kg 40 b43 (aJ · rfl aHv (bA e45))),oc 3 (kg 40 b43 (dc3 · rfl rfl rfl Try.call44 (jC e48))),oag 40 b43 (aK · rfl aGM rfl rfl aHy),?_,oc 4 (kg 40 b43 (dc2 · rfl rfl Try.call48 (kU e53))),oa (aF · rfl b43 rfl),oa (aC · rfl),on 50 (nm b54),on 50 (nm b54),on 50 (nm b54),on 50 (nm b54),on 50 (nm b54),on 50 (nm b54),on 50 (nm b54),on 50 (nm b54),on 50 (nm b54),on 50 (nm b54),on 50 (nm b54),on 50 (nm b54),on 50 (nm b54),oa (aL · rfl b54 rfl),oa (bD · rfl),aLz⟩
     .intro j h1 h2;have h1:0<=j:=h1;have h2:j<=1:=h2;rcases(by omega:j=0\/j=1) with rfl | rfl
      .exact kd (aJ · rfl aGN (aQ e72))
      exact kd (aJ · rfl aGN (aQ e26))
     .intro j h1 h2;have h1:1<=j:=h1;have h2:j<=2:=h2;rcases(by omega:j=1\/j=2) with rfl | rfl
      .exact kg 19 b27 (aJ · rfl aGN (aQ e73))
      exact kg 19 b27 (aJ · rfl aGN (aQ e34))
     .intro j h1 h2;have h1:2<=j:=h1;have h2:j<=3:=h2;rcases(by omega:j=2\/j=3) with rfl | rfl
      .exact kg 29 b35 (aJ · rfl aHc (aV e74))
      exact kg 29 b35 (aJ · rfl aHc (aV e42))
     intro j h1 h2;have h1:3<=j:=h1;have h2:j<=4:=h2;rcases(by omega:j=3\/j=4) with rfl | rfl
     .exact kg 40 b43 (aJ · rfl aHI (aV e75))
     exact kg 40 b43 (aJ · rfl aHI (aV e50))
    have u:Has 65 [(2,(bV false))] a:=u.sb rfl;have y:=u;cases h;exact hk17 _ (y.sb rfl)
   obtain⟨e76,h⟩:=bO h;obtain⟨e77,h⟩:=bO h;obtain⟨e78,h⟩:=bO h;have u:Has 65 [(0,(pV a0)),(3,(pV (some p9)))] a:=u.sb rfl;refine aM (n:=65) (ds:=(aS (pV a0) 0 [] 0::aG (pV (some p1)) 0 [0] 11 (pV a0)::aG (pV (some (p1.add 1))) 0 [0,1] 12 (pV (some p1))::aG (pV v20) 0 [0,1,2] 13 (pV (some (p1.add 1)))::aI (iV v22) true 0 0 (rn 0 4) [(14,(pV v20))]::aI (pV (some (p9.add 0))) false 0 1 [] [(3,(pV (some p9)))]::aI (iV v25) false 0 1 [5] [(16,(pV (some (p9.add 0))))]::aT (bV (v22==v25)) 1 (rn 0 7) [(15,(iV v22)),(17,(iV v25))]::aS (bV (v22==v25)) 1 (rn 0 8) 18::aT (pV a0) 1 (rn 0 9) [(0,(pV a0)),(19,(bV (v22==v25)))]::aT (pV (some p1)) 1 (rn 0 10) [(20,(pV a0)),(19,(bV (v22==v25)))]::aT (pV (some (p1.add 1))) 1 (rn 0 11) [(21,(pV (some p1))),(19,(bV (v22==v25)))]::aT (pV v28) 1 (rn 0 12) [(22,(pV (some (p1.add 1)))),(19,(bV (v22==v25)))]::aI (iV v30) true 1 1 (rn 0 13) [(23,(pV v28)),(19,(bV (v22==v25)))]::aI (pV (some (p9.add 1))) false 1 2 (rn 0 9) [(3,(pV (some p9))),(19,(bV (v22==v25)))]::aI (iV v33) false 1 2 (rn 0 9++[14]) [(25,(pV (some (p9.add 1)))),(19,(bV (v22==v25)))]::aT (bV (v30==v33)) 2 (rn 0 16) [(24,(iV v30)),(26,(iV v33)),(19,(bV (v22==v25)))]::aT (bV (v30==v33)) 2 (rn 0 17) [(19,(bV (v22==v25))),(27,(bV (v30==v33)))]::aS (bV (v30==v33)) 2 (rn 0 18) 28::aT (pV a0) 2 (rn 0 19) [(0,(pV a0)),(29,(bV (v30==v33)))]::aT (pV (some p1)) 2 (rn 0 20) [(30,(pV a0)),(29,(bV (v30==v33)))]::aT (pV (some (p1.add 1))) 2 (rn 0 21) [(31,(pV (some p1))),(29,(bV (v30==v33)))]::aT (pV v36) 2 (rn 0 22) [(32,(pV (some (p1.add 1)))),(29,(bV (v30==v33)))]::aI (iV v38) true 2 2 (rn 0 23) [(33,(pV v36)),(29,(bV (v30==v33)))]::aI (pV (some (p9.add 2))) false 2 3 (rn 0 19) [(3,(pV (some p9))),(29,(bV (v30==v33)))]::aI (Sl.v v41) false 2 3 (rn 0 19++[24]) [(35,(pV (some (p9.add 2)))),(29,(bV (v30==v33)))]::aI (iV (v41.n:Int)) false 2 3 (rn 0 19++[24,25]) [(36,(Sl.v v41)),(29,(bV (v30==v33)))]::aT (bV (v38==(v41.n:Int))) 3 (rn 0 27) [(34,(iV v38)),(37,(iV (v41.n:Int))),(29,(bV (v30==v33)))]::aT (bV (v38==(v41.n:Int))) 3 (rn 0 28) [(29,(bV (v30==v33))),(38,(bV (v38==(v41.n:Int))))]::aS (bV (v38==(v41.n:Int))) 3 (rn 0 29) 39::aG (undef) 3 (rn 0 30) 40 (bV (v38==(v41.n:Int)))::aG (undef) 3 (rn 0 31) 40 (bV (v38==(v41.n:Int)))::aG (undef) 3 (rn 0 32) 40 (bV (v38==(v41.n:Int)))::aG (undef) 3 (rn 0 33) 40 (bV (v38==(v41.n:Int)))::aG (undef) 3 (rn 0 34) 40 (bV (v38==(v41.n:Int)))::aG (undef) 3 (rn 0 30) 40 (bV (v38==(v41.n:Int)))::aG (undef) 3 (rn 0 30++[35]) 40 (bV (v38==(v41.n:Int)))::aG (undef) 3 (rn 0 37) 40 (bV (v38==(v41.n:Int)))::aT (bV false) 3 (rn 0 38) [(40,(bV (v38==(v41.n:Int)))),(48,undef)]::aS (bV false) 3 (rn 0 39) 49::aG (undef) 3 (rn 0 40) 50 (bV false)::aG (undef) 3 (rn 0 41) 50 (bV false)::aG (undef) 3 (rn 0 42) 50 (bV false)::aG (undef) 3 (rn 0 43) 50 (bV false)::aG (undef) 3 (rn 0 44) 50 (bV false)::aG (undef) 3 (rn 0 40) 50 (bV false)::aG (undef) 3 (rn 0 40++[45]) 50 (bV false)::aG (undef) 3 (rn 0 40++[45,46]) 50 (bV false)::aG (undef) 3 (rn 0 40++[45,46,47]) 50 (bV false)::aG (undef) 3 (rn 0 40++rn 45 4) 50 (bV false)::aG (undef) 3 (rn 0 40++rn 45 5) 50 (bV false)::aG (undef) 3 (rn 0 40++rn 45 6) 50 (bV false)::aG (undef) 3 (rn 0 52) 50 (bV false)::aT (bV false) 3 (rn 0 53) [(50,(bV false)),(63,undef)]::aS (bV false) 3 (rn 0 54) 64::[])) (W:=(fun j=>match j with | 0=>w18 | 1=>w23 | 2=>w31 | 3=>w39 | _=>w39)) (by kernel_rfl) u (cY e19) (by kernel_rfl) ?_ (aR (by kernel_rfl)) (by kernel_rfl) (m:=3) (by kernel_rfl) (fun a u=>?_)
   .refine⟨oa (aC · rfl),oa (aH · rfl e2),oa (aK · rfl aGQ rfl rfl aHr),oc 0 (kd (aJ · rfl aHv (bA e21))),oc 0 (kd (dc1 · rfl Try.call38 (fU e24))),oa (aK · rfl aGM rfl rfl aGL),?_,oa (gD · rfl rfl),oa (aC · rfl),oag 19 b27 (aC · rfl),oag 19 b27 (aH · rfl e2),oag 19 b27 (aK · rfl aGQ rfl rfl aHr),oc 1 (kg 19 b27 (aJ · rfl aHv (bA e29))),oc 1 (kg 19 b27 (dc1 · rfl Try.call39 (mG e32))),oag 19 b27 (aK · rfl aGM rfl rfl aGL),?_,oag 19 b27 (gD · rfl rfl),oa (aF · rfl b27 rfl),oa (aC · rfl),oag 29 b35 (aC · rfl),oag 29 b35 (aH · rfl e2),oag 29 b35 (aK · rfl aGQ rfl rfl aHr),oc 2 (kg 29 b35 (aJ · rfl aHv (bA e37))),oc 2 (kg 29 b35 (dc1 · rfl Try.call40 (lJ e40))),oag 29 b35 (aK · rfl aGM rfl rfl aHb),?_,oag 29 b35 (aZ · rfl aGR),oag 29 b35 (gD · rfl rfl),oa (aF · rfl b35 rfl),oa (aC · rfl),on 40 (nm b43),on 40 (nm b43),on 40 (nm b43),
     on 40 (nm b43),on 40 (nm b43),on 40 (nm b43),on 40 (nm b43),on 40 (nm b43),oa (aL · rfl b43 rfl),oa (aC · rfl),on 50 (nm aIr),on 50 (nm aIr),on 50 (nm aIr),on 50 (nm aIr),on 50 (nm aIr),on 50 (nm aIr),on 50 (nm aIr),on 50 (nm aIr),on 50 (nm aIr),on 50 (nm aIr),on 50 (nm aIr),on 50 (nm aIr),on 50 (nm aIr),oa (aL · rfl aIr rfl),oa (bD · rfl),aLz⟩
    .intro j h1 h2;have h1:0<=j:=h1;have h2:j<=1:=h2;rcases(by omega:j=0\/j=1) with rfl | rfl
     .exact kd (aJ · rfl aGN (aQ e76))
     exact kd (aJ · rfl aGN (aQ e26))
    .intro j h1 h2;have h1:1<=j:=h1;have h2:j<=2:=h2;rcases(by omega:j=1\/j=2) with rfl | rfl
     .exact kg 19 b27 (aJ · rfl aGN (aQ e77))
     exact kg 19 b27 (aJ · rfl aGN (aQ e34))
    intro j h1 h2;have h1:2<=j:=h1;have h2:j<=3:=h2;rcases(by omega:j=2\/j=3) with rfl | rfl
    .exact kg 29 b35 (aJ · rfl aHc (aV e78))
    exact kg 29 b35 (aJ · rfl aHc (aV e42))
   have u:Has 65 [(2,(bV false))] a:=u.sb rfl;have y:=u;cases h;exact hk17 _ (y.sb rfl)
  obtain⟨e79,h⟩:=bO h;obtain⟨e80,h⟩:=bO h;have u:Has 65 [(0,(pV a0)),(3,(pV (some p9)))] a:=u.sb rfl;refine aM (n:=65) (ds:=(aS (pV a0) 0 [] 0::aG (pV (some p1)) 0 [0] 11 (pV a0)::aG (pV (some (p1.add 1))) 0 [0,1] 12 (pV (some p1))::aG (pV v20) 0 [0,1,2] 13 (pV (some (p1.add 1)))::aI (iV v22) true 0 0 (rn 0 4) [(14,(pV v20))]::aI (pV (some (p9.add 0))) false 0 1 [] [(3,(pV (some p9)))]::aI (iV v25) false 0 1 [5] [(16,(pV (some (p9.add 0))))]::aT (bV (v22==v25)) 1 (rn 0 7) [(15,(iV v22)),(17,(iV v25))]::aS (bV (v22==v25)) 1 (rn 0 8) 18::aT (pV a0) 1 (rn 0 9) [(0,(pV a0)),(19,(bV (v22==v25)))]::aT (pV (some p1)) 1 (rn 0 10) [(20,(pV a0)),(19,(bV (v22==v25)))]::aT (pV (some (p1.add 1))) 1 (rn 0 11) [(21,(pV (some p1))),(19,(bV (v22==v25)))]::aT (pV v28) 1 (rn 0 12) [(22,(pV (some (p1.add 1)))),(19,(bV (v22==v25)))]::aI (iV v30) true 1 1 (rn 0 13) [(23,(pV v28)),(19,(bV (v22==v25)))]::aI (pV (some (p9.add 1))) false 1 2 (rn 0 9) [(3,(pV (some p9))),(19,(bV (v22==v25)))]::aI (iV v33) false 1 2 (rn 0 9++[14]) [(25,(pV (some (p9.add 1)))),(19,(bV (v22==v25)))]::aT (bV (v30==v33)) 2 (rn 0 16) [(24,(iV v30)),(26,(iV v33)),(19,(bV (v22==v25)))]::aT (bV (v30==v33)) 2 (rn 0 17) [(19,(bV (v22==v25))),(27,(bV (v30==v33)))]::aS (bV (v30==v33)) 2 (rn 0 18) 28::aG (undef) 2 (rn 0 19) 29 (bV (v30==v33))::aG (undef) 2 (rn 0 20) 29 (bV (v30==v33))::aG (undef) 2 (rn 0 21) 29 (bV (v30==v33))::aG (undef) 2 (rn 0 22) 29 (bV (v30==v33))::aG (undef) 2 (rn 0 23) 29 (bV (v30==v33))::aG (undef) 2 (rn 0 19) 29 (bV (v30==v33))::aG (undef) 2 (rn 0 19++[24]) 29 (bV (v30==v33))::aG (undef) 2 (rn 0 19++[24,25]) 29 (bV (v30==v33))::aG (undef) 2 (rn 0 27) 29 (bV (v30==v33))::aT (bV false) 2 (rn 0 28) [(29,(bV (v30==v33))),(38,undef)]::aS (bV false) 2 (rn 0 29) 39::aG (undef) 2 (rn 0 30) 40 (bV false)::aG (undef) 2 (rn 0 31) 40 (bV false)::aG (undef) 2 (rn 0 32) 40 (bV false)::aG (undef) 2 (rn 0 33) 40 (bV false)::aG (undef) 2 (rn 0 34) 40 (bV false)::aG (undef) 2 (rn 0 30) 40 (bV false)::aG (undef) 2 (rn 0 30++[35]) 40 (bV false)::aG (undef) 2 (rn 0 37) 40 (bV false)::aT (bV false) 2 (rn 0 38) [(40,(bV false)),(48,undef)]::aS (bV false) 2 (rn 0 39) 49::aG (undef) 2 (rn 0 40) 50 (bV false)::aG (undef) 2 (rn 0 41) 50 (bV false)::aG (undef) 2 (rn 0 42) 50 (bV false)::aG (undef) 2 (rn 0 43) 50 (bV false)::aG (undef) 2 (rn 0 44) 50 (bV false)::aG (undef) 2 (rn 0 40) 50 (bV false)::aG (undef) 2 (rn 0 40++[45]) 50 (bV false)::aG (undef) 2 (rn 0 40++[45,46]) 50 (bV false)::aG (undef) 2 (rn 0 40++[45,46,47]) 50 (bV false)::aG (undef) 2 (rn 0 40++rn 45 4) 50 (bV false)::aG (undef) 2 (rn 0 40++rn 45 5) 50 (bV false)::aG (undef) 2 (rn 0 40++rn 45 6) 50 (bV false)::aG (undef) 2 (rn 0 52) 50 (bV false)::aT (bV false) 2 (rn 0 53) [(50,(bV false)),(63,undef)]::aS (bV false) 2 (rn 0 54) 64::[])) (W:=(fun j=>match j with | 0=>w18 | 1=>w23 | 2=>w31 | _=>w31)) (by kernel_rfl) u (cY e19) (by kernel_rfl) ?_ (aR (by kernel_rfl)) (by kernel_rfl) (m:=2) (by kernel_rfl) (fun a u=>?_)
  .refine⟨oa (aC · rfl),oa (aH · rfl e2),oa (aK · rfl aGQ rfl rfl aHr),oc 0 (kd (aJ · rfl aHv (bA e21))),oc 0 (kd (dc1 · rfl Try.call38 (fU e24))),oa (aK · rfl aGM rfl rfl aGL),?_,oa (gD · rfl rfl),oa (aC · rfl),oag 19 b27 (aC · rfl),oag 19 b27 (aH · rfl e2),oag 19 b27 (aK · rfl aGQ rfl rfl aHr),oc 1 (kg 19 b27 (aJ · rfl aHv (bA e29))),oc 1 (kg 19 b27 (dc1 · rfl Try.call39 (mG e32))),oag 19 b27 (aK · rfl aGM rfl rfl aGL),?_,oag 19 b27 (gD · rfl rfl),oa (aF · rfl b27 rfl),oa (aC · rfl),on 29 (nm b35),on 29 (nm b35),on 29 (nm b35),on 29 (nm b35),on 29 (nm b35),on 29 (nm b35),on 29 (nm b35),on 29 (nm b35),on 29 (nm b35),oa (aL · rfl b35 rfl),oa (aC · rfl),on 40 (nm aIr),on 40 (nm aIr),on 40 (nm aIr),on 40 (nm aIr),on 40 (nm aIr),on 40 (nm aIr),on 40 (nm aIr),on 40 (nm aIr),oa (aL · rfl aIr rfl),oa (aC · rfl),
    on 50 (nm aIr),on 50 (nm aIr),on 50 (nm aIr),on 50 (nm aIr),on 50 (nm aIr),on 50 (nm aIr),on 50 (nm aIr),on 50 (nm aIr),on 50 (nm aIr),on 50 (nm aIr),on 50 (nm aIr),on 50 (nm aIr),on 50 (nm aIr),oa (aL · rfl aIr rfl),oa (bD · rfl),aLz⟩
   .intro j h1 h2;have h1:0<=j:=h1;have h2:j<=1:=h2;rcases(by omega:j=0\/j=1) with rfl | rfl
    .exact kd (aJ · rfl aGN (aQ e79))
    exact kd (aJ · rfl aGN (aQ e26))
   intro j h1 h2;have h1:1<=j:=h1;have h2:j<=2:=h2;rcases(by omega:j=1\/j=2) with rfl | rfl
   .exact kg 19 b27 (aJ · rfl aGN (aQ e80))
   exact kg 19 b27 (aJ · rfl aGN (aQ e34))
  have u:Has 65 [(2,(bV false))] a:=u.sb rfl;have y:=u;cases h;exact hk17 _ (y.sb rfl)
 obtain⟨e81,h⟩:=bO h;have u:Has 65 [(0,(pV a0)),(3,(pV (some p9)))] a:=u.sb rfl;refine aM (n:=65) (ds:=(aS (pV a0) 0 [] 0::aG (pV (some p1)) 0 [0] 11 (pV a0)::aG (pV (some (p1.add 1))) 0 [0,1] 12 (pV (some p1))::aG (pV v20) 0 [0,1,2] 13 (pV (some (p1.add 1)))::aI (iV v22) true 0 0 (rn 0 4) [(14,(pV v20))]::aI (pV (some (p9.add 0))) false 0 1 [] [(3,(pV (some p9)))]::aI (iV v25) false 0 1 [5] [(16,(pV (some (p9.add 0))))]::aT (bV (v22==v25)) 1 (rn 0 7) [(15,(iV v22)),(17,(iV v25))]::aS (bV (v22==v25)) 1 (rn 0 8) 18::aG (undef) 1 (rn 0 9) 19 (bV (v22==v25))::aG (undef) 1 (rn 0 10) 19 (bV (v22==v25))::aG (undef) 1 (rn 0 11) 19 (bV (v22==v25))::aG (undef) 1 (rn 0 12) 19 (bV (v22==v25))::aG (undef) 1 (rn 0 13) 19 (bV (v22==v25))::aG (undef) 1 (rn 0 9) 19 (bV (v22==v25))::aG (undef) 1 (rn 0 9++[14]) 19 (bV (v22==v25))::aG (undef) 1 (rn 0 16) 19 (bV (v22==v25))::aT (bV false) 1 (rn 0 17) [(19,(bV (v22==v25))),(27,undef)]::aS (bV false) 1 (rn 0 18) 28::aG (undef) 1 (rn 0 19) 29 (bV false)::aG (undef) 1 (rn 0 20) 29 (bV false)::aG (undef) 1 (rn 0 21) 29 (bV false)::aG (undef) 1 (rn 0 22) 29 (bV false)::aG (undef) 1 (rn 0 23) 29 (bV false)::aG (undef) 1 (rn 0 19) 29 (bV false)::aG (undef) 1 (rn 0 19++[24]) 29 (bV false)::aG (undef) 1 (rn 0 19++[24,25]) 29 (bV false)::aG (undef) 1 (rn 0 27) 29 (bV false)::aT (bV false) 1 (rn 0 28) [(29,(bV false)),(38,undef)]::aS (bV false) 1 (rn 0 29) 39::aG (undef) 1 (rn 0 30) 40 (bV false)::aG (undef) 1 (rn 0 31) 40 (bV false)::aG (undef) 1 (rn 0 32) 40 (bV false)::aG (undef) 1 (rn 0 33) 40 (bV false)::aG (undef) 1 (rn 0 34) 40 (bV false)::aG (undef) 1 (rn 0 30) 40 (bV false)::aG (undef) 1 (rn 0 30++[35]) 40 (bV false)::aG (undef) 1 (rn 0 37) 40 (bV false)::aT (bV false) 1 (rn 0 38) [(40,(bV false)),(48,undef)]::aS (bV false) 1 (rn 0 39) 49::aG (undef) 1 (rn 0 40) 50 (bV false)::aG (undef) 1 (rn 0 41) 50 (bV false)::aG (undef) 1 (rn 0 42) 50 (bV false)::aG (undef) 1 (rn 0 43) 50 (bV false)::aG (undef) 1 (rn 0 44) 50 (bV false)::aG (undef) 1 (rn 0 40) 50 (bV false)::aG (undef) 1 (rn 0 40++[45]) 50 (bV false)::aG (undef) 1 (rn 0 40++[45,46]) 50 (bV false)::aG (undef) 1 (rn 0 40++[45,46,47]) 50 (bV false)::aG (undef) 1 (rn 0 40++rn 45 4) 50 (bV false)::aG (undef) 1 (rn 0 40++rn 45 5) 50 (bV false)::aG (undef) 1 (rn 0 40++rn 45 6) 50 (bV false)::aG (undef) 1 (rn 0 52) 50 (bV false)::aT (bV false) 1 (rn 0 53) [(50,(bV false)),(63,undef)]::aS (bV false) 1 (rn 0 54) 64::[])) (W:=(fun j=>match j with | 0=>w18 | 1=>w23 | _=>w23)) (by kernel_rfl) u (cY e19) (by kernel_rfl) ?_ (aR (by kernel_rfl)) (by kernel_rfl) (m:=1) (by kernel_rfl) (fun a u=>?_)
 .refine⟨oa (aC · rfl),oa (aH · rfl e2),oa (aK · rfl aGQ rfl rfl aHr),oc 0 (kd (aJ · rfl aHv (bA e21))),oc 0 (kd (dc1 · rfl Try.call38 (fU e24))),oa (aK · rfl aGM rfl rfl aGL),?_,oa (gD · rfl rfl),oa (aC · rfl),on 19 (nm b27),on 19 (nm b27),on 19 (nm b27),on 19 (nm b27),on 19 (nm b27),on 19 (nm b27),on 19 (nm b27),on 19 (nm b27),oa (aL · rfl b27 rfl),oa (aC · rfl),on 29 (nm aIr),on 29 (nm aIr),on 29 (nm aIr),on 29 (nm aIr),on 29 (nm aIr),on 29 (nm aIr),on 29 (nm aIr),on 29 (nm aIr),on 29 (nm aIr),oa (aL · rfl aIr rfl),oa (aC · rfl),on 40 (nm aIr),on 40 (nm aIr),on 40 (nm aIr),on 40 (nm aIr),on 40 (nm aIr),on 40 (nm aIr),on 40 (nm aIr),on 40 (nm aIr),oa (aL · rfl aIr rfl),oa (aC · rfl),on 50 (nm aIr),on 50 (nm aIr),
   on 50 (nm aIr),on 50 (nm aIr),on 50 (nm aIr),on 50 (nm aIr),on 50 (nm aIr),on 50 (nm aIr),on 50 (nm aIr),on 50 (nm aIr),on 50 (nm aIr),on 50 (nm aIr),on 50 (nm aIr),oa (aL · rfl aIr rfl),oa (bD · rfl),aLz⟩
  intro j h1 h2;have h1:0<=j:=h1;have h2:j<=1:=h2;rcases(by omega:j=0\/j=1) with rfl | rfl
  .exact kd (aJ · rfl aGN (aQ e81))
  exact kd (aJ · rfl aGN (aQ e26))
 have u:Has 65 [(2,(bV false))] a:=u.sb rfl;have y:=u;cases h;exact hk17 _ (y.sb rfl)
noncomputable def eU (a0:Sl) (p1:Addr) (x25:Int) (w26:World):ND ((Int×World)⊕((World)⊕(Addr×Bool×World))) :=
 cb2 (if (decide (x25<(a0.n:Int)))=true then
 (aU ((decide (x25<200)),w26))
 else
 (aU (false,w26))) fun v36 w37 =>
 if v36=true then
 (lb1 (dr w37) fun w42 =>
 lb1 (ldP w42 (p1.add 0)) fun v44 =>
 lb1 (ix a0 x25 4) fun p46 =>
 lb1 (ldI .i64 w42 (p46.add 1)) fun v48 =>
 lb1 (ix a0 x25 4) fun p50 =>
 lb1 (ldL w42 (p50.add 2)) fun v52 =>
 lb2 (cD v44 v48 v52 w42) fun v54 w55 =>
 lb1 (ldP w55 (p1.add 2)) fun v57 =>
 lb1 (ix a0 x25 4) fun p59 =>
 lb1 (ldI .i64 w55 (p59.add 1)) fun v61 =>
 lb1 (ix a0 x25 4) fun p63 =>
 lb1 (ldL w55 (p63.add 2)) fun v65 =>
 lb2 (bE v57 v61 v65 w55) fun v67 w68 =>
 nck (ldP w42 (p1.add 2)=some v57) <|
 nck (ldI .i64 w42 (p59.add 1)=some v61) <|
 nck (ldL w42 (p63.add 2)=some v65) <|
 if (v54 !=v67)=true then
 (aU (.inr (.inr (p1,false,w68))))
 else
 (aU (.inl ((IntKind.wrap .i64 (x25+1)),w68))))
 else
 (aU (.inr (.inl w37)))
noncomputable def iN (a0:Sl) (w:World):ND ((Option Addr)×Bool×World) :=
 lb2 (mk w 85 (List.replicate 4 (.pointer none))) fun p1 w2 =>
 lb3 (lR 52 w2) fun v4 v5 w6 =>
 lb1 (stV w6 (p1.add 0) (.pointer v4)) fun w8 =>
 lb3 (gI 52 w8) fun v10 v11 w12 =>
 lb1 (stV w12 (p1.add 2) (.pointer v10)) fun w14 =>
 cb2 (if (v5 !=0)=true then
 (aU (true,w14))
 else
 (if (v11 !=0)=true then
 (aU (true,w14))
 else
 (lb1 (ldP w14 (p1.add 0)) fun v22 =>
 aU ((v22.isNone),w14)))) fun v16 w17 =>
 if v16=true then
 (aU ((some p1),false,w17))
 else
 (cb1 (fB (fun s:Int×World=>eU a0 p1 s.1 s.2) (0,w17)) fun r27=>Sum.elim (fun (i:World)=>u1 i fun w29 =>
 cb3 (cb2 (eJ (some p1) w29) fun v79 w80 =>
 if v79=true then
 (lb1 (ldP w80 (p1.add 1)) fun v83 =>
 if (!(v83.isNone))=true then
 (lb2 (fZ (some p1) w80) fun v86 w87 =>
 aU (p1,v86,w87))
 else
 (aU (p1,false,w80)))
 else
 (aU (p1,false,w80))) fun v74 v75 w76 =>
 aU ((some v74),v75,w76)) (fun (i:Addr×Bool×World)=>u3 i fun v30 v31 w32 =>
 aU ((some v30),v31,w32)) r27)
theorem qI {a0 w Q} (h:(iN a0 w).t Q):Calls Try.prog 45 #[(Sl.v a0)] w fun e w''=>∃ i,e=.returned (.tuple #[(.pointer i.1),(.bool i.2.1)])/\Q i/\w''=i.2.2:=by
 refine aP (n:=94) Try.func45 rfl Try.ntmps45 (by simp) fun a u=>?_;unfold iN at h;refine wp_seq<|aA<|qa u rfl fun a u=>qa u rfl fun a u=>aB<|t_n<|wp_seq<|aA<|q u (dZ (vs:=[]) (pl:=#[(0,1),(1,1),(2,1),(3,1)]) (cs:=(List.replicate 4 (pV none))) u trivial Try.zeroValue85 aGQ (by intro w;kernel_rfl) (by kernel_rfl)) fun a u=>?_;obtain⟨p1,w2,e3,h⟩:=h;refine q u (rF u rfl rfl e3) fun a u=>qa u rfl fun a u=>aB<|t_n<|wp_seq<|aA<|qa u rfl fun a u=>qa u rfl fun a u=>aB<|t_n<|wp_seq<|aA<|qm u rfl fun a u=>?_;obtain⟨v4,v5,w6,e7,h⟩:=h;refine q u (dc1 u rfl Try.call30 (sG e7)) fun a u=>qm u rfl fun a u=>q u (aW u rfl rfl) fun a u=>q u (aW u rfl rfl) fun a u=>q u (lX u rfl) fun a u=>q u (aK u rfl aGQ rfl rfl aHm) fun a u=>?_;obtain⟨w8,e9,h⟩:=h;refine q u (fO u rfl rfl aHm e9) fun a u=>qa u rfl fun a u=>aB<|t_n<|wp_seq<|aA<|qm u rfl fun a u=>?_;obtain⟨v10,v11,w12,e13,h⟩:=h;refine q u (dc1 u rfl Try.call31 (rG e13)) fun a u=>qm u rfl fun a u=>q u (aW u rfl rfl) fun a u=>q u (aW u rfl rfl) fun a u=>q u (lX u rfl) fun a u=>q u (aK u rfl aGQ rfl rfl aHp) fun a u=>?_;obtain⟨w14,e15,h⟩:=h;refine q u (fO u rfl rfl aHp e15) fun a u=>qa u rfl fun a u=>aB<|t_n<|wp_seq<|wp_seq<|?_;refine dD (n:=94) (ι:=Bool×World) (Lf:=fun i=>[(36,(bV i.1)),(0,(Sl.v a0)),(4,(pV (some p1)))]) (wf:=fun i=>i.2) (un2 h) (fun i h a u=>?_) (fun h hk19=>?_)
 .obtain⟨v16,w17⟩:=i;have u:Has 94 [(36,(bV v16)),(0,(Sl.v a0)),(4,(pV (some p1)))] a:=u;refine t_n<|?_;refine aX u rfl h (fun b24 h=>?_) (fun b24 h=>?_)
  .refine wp_seq<|aA<|qm u rfl fun a u=>qa u rfl fun a u=>qa u rfl fun a u=>aB<|t_n<|wp_ret<|t_r<|?_;exact jA Try.results45 u rfl rfl ⟨((some p1),false,w17),rfl,h,rfl⟩
  refine wp_skip<|t_n<|wp_seq<|wp_seq<|aA<|qa u rfl fun a u=>aB<|t_n<|wp_block<|?_;refine sW (n:=94) (L1:=fun i=>[(4,(pV (some p1)))]) (w1:=fun i=>i) (L2:=fun i=>[(2,(pV (some i.1))),(3,(bV i.2.1))]) (w2:=fun i=>i.2.2) (e1:=.exit 0) (e2:=.ret) (I:=fun (s:Int×World) a w=>Has 94 [(7,(iV s.1)),(0,(Sl.v a0)),(4,(pV (some p1)))] a/\w=s.2) (un1 h) ⟨u.sub ⟨rfl,rfl,rfl,aLz⟩,rfl⟩ (fun i h a u=>?_) (fun i h a u=>?_) (fun hk33 hk34=>?_)
  .obtain⟨w29,rfl⟩:∃ x,x=i:=⟨i,rfl⟩
   try dsimp only[Sum.elim_inl,Sum.elim_inr,u1,u2,u3,u4,u5,u6] at h
   have u:Has 94 [(4,(pV (some p1)))] a:=u;refine eC<|t_n<|wp_seq<|?_;refine dD (n:=94) (ι:=Addr×Bool×World) (Lf:=fun i=>[(2,(pV (some i.1))),(3,(bV i.2.1))]) (wf:=fun i=>i.2.2) (un3 h) (fun i h a u=>?_) (fun h hk78=>?_)
   .obtain⟨v74,v75,w76⟩:=i;have u:Has 94 [(2,(pV (some v74))),(3,(bV v75))] a:=u;refine t_n<|wp_ret<|?_;exact jA Try.results45 u rfl rfl ⟨((some v74),v75,w76),rfl,h,rfl⟩
   refine aA<|qm u rfl fun a u=>qm u rfl fun a u=>?_;refine jV (ι:=Bool×World) (pk:=fun i=>(bV i.1)) (wf:=fun i=>i.2) (xs:=[_]) (vs:=[(pV (some p1))]) u ⟨rfl,aLz⟩ Try.call90 (lG (un2 h)) (fun i h a u=>?_);obtain⟨v79,w80⟩:=i;refine qm u rfl fun a u=>?_;refine iE h (fun b82 h=>?_) (fun b82 h=>?_)
   .refine qg u 83 b82 (aC u rfl) fun a u=>qg u 83 b82 (lX u rfl) fun a u=>qg u 83 b82 (aK u rfl aGQ rfl rfl aHr) fun a u=>?_;obtain⟨v83,e84,h⟩:=h;refine qg u 83 b82 (aJ u rfl aHv (bA e84)) fun a u=>qg u 83 b82 (aFt u rfl rfl aHL) fun a u=>q u (aF u rfl b82 rfl) fun a u=>qm u rfl fun a u=>?_;refine iE h (fun b85 h=>?_) (fun b85 h=>?_)
    .refine qg u 90 b85 (aC u rfl) fun a u=>?_;obtain⟨v86,w87,e88,h⟩:=h;refine qg u 90 b85 (dc1 u rfl Try.call51 (oT e88)) fun a u=>q u (aF u rfl b85 rfl) fun a u=>qa u rfl fun a u=>qa u rfl fun a u=>aB<|?_;exact hk78 (p1,v86,w87) h _ (u.sb rfl)
    refine qn u 90 (nm b85) fun a u=>qn u 90 (nm b85) fun a u=>q u (aL u rfl b85 rfl) fun a u=>qa u rfl fun a u=>qa u rfl fun a u=>aB<|?_;exact hk78 (p1,false,w80) h _ (u.sb rfl)
   refine qn u 83 (nm b82) fun a u=>qn u 83 (nm b82) fun a u=>qn u 83 (nm b82) fun a u=>qn u 83 (nm b82) fun a u=>qn u 83 (nm b82) fun a u=>q u (aL u rfl b82 rfl) fun a u=>qm u rfl fun a u=>qn u 90 (nm aIr) fun a u=>qn u 90 (nm aIr) fun a u=>q u (aL u rfl aIr rfl) fun a u=>qa u rfl fun a u=>qa u rfl fun a u=>aB<|?_;exact hk78 (p1,false,w80) h _ (u.sb rfl)
  .obtain⟨v30,v31,w32⟩:=i
   try dsimp only[Sum.elim_inl,Sum.elim_inr,u1,u2,u3,u4,u5,u6] at h
   have u:Has 94 [(2,(pV (some v30))),(3,(bV v31))] a:=u;refine b_r<|t_r<|?_;exact jA Try.results45 u rfl rfl ⟨((some v30),v31,w32),rfl,h,rfl⟩
  clear h;intro hX89;rintro⟨x25,w26⟩ a wq ⟨u,hwq⟩ h;obtain rfl:w26=wq:=hwq.symm;have u:Has 94 [(7,(iV x25)),(0,(Sl.v a0)),(4,(pV (some p1)))] a:=u;have h:(eU a0 p1 x25 w26).t _:=h;unfold eU at h;refine wp_seq<|wp_seq<|?_;refine dD (n:=94) (ι:=Bool×World) (Lf:=fun i=>[(45,(bV i.1)),(0,(Sl.v a0)),(4,(pV (some p1))),(7,(iV x25))]) (wf:=fun i=>i.2) (un2 h) (fun i h a u=>?_) (fun h hk39=>?_)
  .obtain⟨v36,w37⟩:=i;have u:Has 94 [(45,(bV v36)),(0,(Sl.v a0)),(4,(pV (some p1))),(7,(iV x25))] a:=u;refine t_n<|?_;refine aX u rfl h (fun b41 h=>?_) (fun b41 h=>?_)
   .refine wp_skip<|t_n<|wp_seq<|wp_block<|wp_seq<|?_;obtain⟨w42,e43,h⟩:=h;obtain⟨v44,e45,h⟩:=h;obtain⟨p46,e47,h⟩:=h;obtain⟨v48,e49,h⟩:=h;obtain⟨p50,e51,h⟩:=h;obtain⟨v52,e53,h⟩:=h;obtain⟨v54,w55,e56,h⟩:=h;obtain⟨v57,e58,h⟩:=h;obtain⟨p59,e60,h⟩:=h;obtain⟨v61,e62,h⟩:=h;obtain⟨p63,e64,h⟩:=h;obtain⟨v65,e66,h⟩:=h;obtain⟨v67,w68,e69,h⟩:=h;obtain⟨e70,h⟩:=h;obtain⟨e71,h⟩:=h;obtain⟨e72,h⟩:=h;have u:Has 94 [(0,(Sl.v a0)),(4,(pV (some p1))),(7,(iV x25))] a:=u.sb rfl;refine aM (n:=94) (ds:=(aS (pV (some p1)) 0 [] 4::aS (pV (some p1)) 0 [0] 48::aG (pV (some (p1.add 0))) 0 [0,1] 49 (pV (some p1))::aG (pV v44) 0 [0,1,2] 50 (pV (some (p1.add 0)))::aS (Sl.v a0) 0 [] 0::aS (iV x25) 0 [] 7::aT (pV (some p46)) 0 [4,5] [(52,(Sl.v a0)),(53,(iV x25))]::aG (pV (some (p46.add 1))) 0 [4,5,6] 54 (pV (some p46))::aG (iV v48) 0 (rn 4 4) 55 (pV (some (p46.add 1)))::aS (Sl.v a0) 0 [] 0::aS (iV x25) 0 [] 7::aT (pV (some p50)) 0 [9,10] [(57,(Sl.v a0)),(58,(iV x25))]::aG (pV (some (p50.add 2))) 0 [9,10,11] 59 (pV (some p50))::aG (Sl.v v52) 0 (rn 9 4) 60 (pV (some (p50.add 2)))::aI (iV v54) true 0 0 (rn 0 14) [(51,(pV v44)),(56,(iV v48)),(61,(Sl.v v52))]::aI (pV (some p1)) false 0 1 [] [(4,(pV (some p1)))]::aI (pV (some p1)) false 0 1 [15] [(63,(pV (some p1)))]::aI (pV (some (p1.add 2))) false 0 1 [15,16] [(64,(pV (some p1)))]::aI (pV v57) false 0 1 [15,16,17] [(65,(pV (some (p1.add 2))))]::aI (Sl.v a0) false 0 1 [] [(0,(Sl.v a0))]::aI (iV x25) false 0 1 [] [(7,(iV x25))]::aI (pV (some p59)) false 0 1 [19,20] [(67,(Sl.v a0)),(68,(iV x25))]::aI (pV (some (p59.add 1))) false 0 1 [19,20,21] [(69,(pV (some p59)))]::aI (iV v61) false 0 1 (rn 19 4) [(70,(pV (some (p59.add 1))))]::aI (Sl.v a0) false 0 1 [] [(0,(Sl.v a0))]::aI (iV x25) false 0 1 [] [(7,(iV x25))]::aI (pV (some p63)) false 0 1 [24,25] [(72,(Sl.v a0)),(73,(iV x25))]::aI (pV (some (p63.add 2))) false 0 1 [24,25,26] [(74,(pV (some p63)))]::aI (Sl.v v65) false 0 1 (rn 24 4) [(75,(pV (some (p63.add 2))))]::aI (iV v67) true 1 1 (rn 0 29) [(66,(pV v57)),(71,(iV v61)),(76,(Sl.v v65))]::aT (bV (v54 !=v67)) 2 (rn 0 30) [(62,(iV v54)),(77,(iV v67))]::[])) (W:=(fun j=>match j with | 0=>w42 | 1=>w55 | 2=>w68 | _=>w68)) (by kernel_rfl) u (cY e43) (by kernel_rfl) ?_ (aR (by kernel_rfl)) (by kernel_rfl) (m:=2) (by kernel_rfl) (fun a u=>?_)
    .refine⟨oa (aC · rfl),oa (lX · rfl),oa (aK · rfl aGQ rfl rfl aHm),oc 0 (kd (aJ · rfl aHj (bA e45))),oa (aC · rfl),oa (aC · rfl),oa (bZ · rfl rfl aHM aIj e47),oa (aK · rfl aHk rfl rfl aGL),oc 0 (kd (aJ · rfl aGN (aQ e49))),oa (aC · rfl),oa (aC · rfl),oa (bZ · rfl rfl aHM aIj e51),oa (aK · rfl aHk rfl rfl aHJ),oc 0 (kd (aJ · rfl aHN (aV e53))),oc 0 (kd (dc3 · rfl rfl rfl Try.call84 (fC e56))),oa (aC · rfl),oa (lX · rfl),oa (aK · rfl aGQ rfl rfl aHp),?_,oa (aC · rfl),oa (aC · rfl),oa (bZ · rfl rfl aHM aIj e60),oa (aK · rfl aHk rfl rfl aGL),?_,oa (aC · rfl),oa (aC · rfl),oa (bZ · rfl rfl aHM aIj e64),oa (aK · rfl aHk rfl rfl aHJ),?_,oc 1 (kd (dc3 · rfl rfl rfl Try.call89 (cL e69))),oa (fJ · rfl rfl),aLz⟩
     .intro j h1 h2;have h1:0<=j:=h1;have h2:j<=1:=h2;rcases(by omega:j=0\/j=1) with rfl | rfl
      .exact kd (aJ · rfl aHi (bA e70))
      exact kd (aJ · rfl aHi (bA e58))
     .intro j h1 h2;have h1:0<=j:=h1;have h2:j<=1:=h2;rcases(by omega:j=0\/j=1) with rfl | rfl
      .exact kd (aJ · rfl aGN (aQ e71))
      exact kd (aJ · rfl aGN (aQ e62))
     intro j h1 h2;have h1:0<=j:=h1;have h2:j<=1:=h2;rcases(by omega:j=0\/j=1) with rfl | rfl
     .exact kd (aJ · rfl aHN (aV e72))
     exact kd (aJ · rfl aHN (aV e66))
    have u:Has 94 [(0,(Sl.v a0)),(4,(pV (some p1))),(7,(iV x25)),(78,(bV (v54 !=v67)))] a:=u.sb rfl;refine t_n<|?_;refine aX u rfl h (fun b73 h=>?_) (fun b73 h=>?_)
    .refine wp_seq<|aA<|qm u rfl fun a u=>qa u rfl fun a u=>qa u rfl fun a u=>aB<|t_n<|wp_ret<|b_r<|t_r<|t_r<|?_;exact hk34 (p1,false,w68) h _ (u.sb rfl)
    refine wp_skip<|b_n<|t_n<|aA<|qm u rfl fun a u=>q u (bJ u rfl rfl) fun a u=>qa u rfl fun a u=>aB<|?_;exact⟨((IntKind.wrap .i64 (x25+1)),w68),⟨u.sb rfl,rfl⟩,h⟩
   refine wp_exit<|t_x<|t_x<|?_;exact hk33 w37 h _ (u.sb rfl)
  refine aA<|qm u rfl fun a u=>qm u rfl fun a u=>q u (aZ u rfl aHM) fun a u=>q u (dK u rfl rfl) fun a u=>qm u rfl fun a u=>?_;refine iE h (fun b40 h=>?_) (fun b40 h=>?_)
  .refine qg u 42 b40 (aC u rfl) fun a u=>qg u 42 b40 (dK u rfl rfl) fun a u=>q u (aF u rfl b40 rfl) fun a u=>aB<|?_;exact hk39 ((decide (x25<200)),w26) h _ (u.sb rfl)
  refine qn u 42 (nm b40) fun a u=>qn u 42 (nm b40) fun a u=>q u (aL u rfl b40 rfl) fun a u=>aB<|?_;exact hk39 (false,w26) h _ (u.sb rfl)
 refine aA<|qm u rfl fun a u=>q u (fJ u rfl rfl) fun a u=>qm u rfl fun a u=>?_;refine iE h (fun b20 h=>?_) (fun b20 h=>?_)
 .refine qn u 26 (tn b20) fun a u=>qn u 26 (tn b20) fun a u=>q u (aF u rfl b20 rfl) fun a u=>qm u rfl fun a u=>qn u 30 (tn rfl) fun a u=>qn u 30 (tn rfl) fun a u=>qn u 30 (tn rfl) fun a u=>qn u 30 (tn rfl) fun a u=>qn u 30 (tn rfl) fun a u=>q u (aF u rfl rfl rfl) fun a u=>aB<|?_;exact hk19 (true,w14) h _ (u.sb rfl)
 refine qg u 26 (nt b20) (aC u rfl) fun a u=>qg u 26 (nt b20) (fJ u rfl rfl) fun a u=>q u (aL u rfl b20 rfl) fun a u=>qm u rfl fun a u=>?_;refine iE h (fun b21 h=>?_) (fun b21 h=>?_)
 .refine qn u 30 (tn b21) fun a u=>qn u 30 (tn b21) fun a u=>qn u 30 (tn b21) fun a u=>qn u 30 (tn b21) fun a u=>qn u 30 (tn b21) fun a u=>q u (aF u rfl b21 rfl) fun a u=>aB<|?_;exact hk19 (true,w14) h _ (u.sb rfl)
 refine qg u 30 (nt b21) (aC u rfl) fun a u=>qg u 30 (nt b21) (lX u rfl) fun a u=>qg u 30 (nt b21) (aK u rfl aGQ rfl rfl aHm) fun a u=>?_;obtain⟨v22,e23,h⟩:=h;refine qg u 30 (nt b21) (aJ u rfl aHj (bA e23)) fun a u=>qg u 30 (nt b21) (jJ u rfl rfl aHt) fun a u=>q u (aL u rfl b21 rfl) fun a u=>aB<|?_;exact hk19 ((v22.isNone),w14) h _ (u.sb rfl)
noncomputable def iO (a0:Int) (a1:Int) (w:World):Option (Int×World) :=
 (rmI (IntKind.wrap .u64 a1) 1000).bind fun v1 =>
 some ((IntKind.wrap .i64 ((IntKind.wrap .i64 (a0+1))+(IntKind.wrap .i64 v1))),w)
theorem qD {a0 a1 w w' r0} (h:iO a0 a1 w=some (r0,w')):Calls Try.prog 91 #[(.int .i64 a0),(.int .i64 a1)] w fun e w''=>e=.returned (.int .i64 r0)/\w''=w':=by
 refine aP (n:=12) Try.func91 rfl Try.ntmps91 (by simp) fun a u=>?_;unfold iO at h;refine wp_seq<|aA<|qa u rfl fun a u=>aB<|t_n<|wp_seq<|aA<|qm u rfl fun a u=>q u (bJ u rfl rfl) fun a u=>qm u rfl fun a u=>q u (iP u rfl aHl aHu) fun a u=>?_;have⟨v1,e2,h⟩:=bs1 h;refine q u (sH u rfl rfl e2) fun a u=>q u (iP u rfl aHu aHl) fun a u=>q u (bJ u rfl rfl) fun a u=>qa u rfl fun a u=>aB<|t_n<|wp_ret<|?_;have y:=u;cases h;exact bI Try.results91 y rfl ⟨rfl,rfl⟩
noncomputable def dX (s41:Sl) (x60:Int) (w61:World):ND ((Int×World)⊕(World)) :=
 if (decide (x60<(s41.n:Int)))=true then
 (lb1 (ix s41 x60 1) fun p68 =>
 lb1 (ldI .u8 w61 p68) fun v70 =>
 lb1 (ix s41 x60 1) fun p72 =>
 lb1 (stV w61 p72 (.int .u8 (uE .u8 v70 65))) fun w74 =>
 aU (.inl ((IntKind.wrap .i64 (x60+1)),w74)))
 else
 (aU (.inr w61))
noncomputable def gY (a0:Option Addr) (a1:List Value) (w:World):ND (Bool×World) :=
 lb2 (mk w 82 a1) fun p1 w2 =>
 lb1 (ldI .i64 w2 (p1.add 1)) fun v4 =>
 lb1 (ldI .i64 w2 (p1.add 0)) fun v6 =>
 cb2 (if (v6==0)=true then
 (aU ((v6==0),w2))
 else
 (aU ((v6==6),w2))) fun v8 w9 =>
 if v8=true then
 (cb2 (lb1 (ldI .i64 w9 (p1.add 0)) fun v18 =>
 if (v18==6)=true then
 (lb1 (dr w9) fun w21 =>
 lb1 (a0) fun p23 =>
 lb1 (ldP w21 (p23.add 3)) fun v25 =>
 lb1 (v25) fun p27 =>
 lb1 (ldI .i64 w21 ((p27.add 4).add 0)) fun v29 =>
 lb1 (ldI .i64 w21 (p1.add 1)) fun v31 =>
 lb2 (iO v29 v31 w21) fun v33 w34 =>
 aU (v33,w34))
 else
 (aU (v4,w9))) fun v14 w15 =>
 lb2 (bsl w15 5 1 []) fun s36 w37 =>
 lb1 (ldL w37 (p1.add 2)) fun v39 =>
 lb2 (apS Try.prog 72 s36 v39 w37) fun s41 w42 =>
 lb1 (a0) fun p44 =>
 lb1 (ldP w42 (p44.add 1)) fun v46 =>
 cb2 (iJ v46 v14 s41 w42) fun v48 w49 =>
 lb1 (dr w49) fun w51 =>
 lb1 (ldP w51 (p44.add 3)) fun v53 =>
 lb1 (ldL w51 (p1.add 2)) fun v55 =>
 cb2 (fN v53 v14 v55 w51) fun v57 w58 =>
 cb1 (fB (fun s:Int×World=>dX s41 s.1 s.2) (0,w58)) fun w64 =>
 aU ((v48==v57),w64))
 else
 (if (v6==1)=true then
 (lb1 (dr w9) fun w78 =>
 lb1 (a0) fun p80 =>
 lb1 (ldP w78 (p80.add 1)) fun v82 =>
 lb2 (kH v82 w78) fun v84 w85 =>
 lb1 (ldP w85 (p80.add 3)) fun v87 =>
 lb2 (gP v87 w85) fun v89 w90 =>
 nck (ldP w78 (p80.add 3)=some v87) <|
 aU ((v84==v89),w90))
 else
 (if (v6==2)=true then
 (lb1 (dr w9) fun w94 =>
 lb1 (a0) fun p96 =>
 lb1 (ldP w94 (p96.add 1)) fun v98 =>
 lb2 (kJ v98 v4 w94) fun v100 w101 =>
 lb1 (ldP w101 (p96.add 3)) fun v103 =>
 lb2 (gK v103 v4 w101) fun v105 w106 =>
 nck (ldP w94 (p96.add 3)=some v103) <|
 aU ((v100==v105),w106))
 else
 (if (v6==3)=true then
 (lb1 (dr w9) fun w110 =>
 lb1 (a0) fun p112 =>
 lb1 (ldP w110 (p112.add 0)) fun v114 =>
 lb2 (gL v114 v4 w110) fun v116 w117 =>
 lb1 (ldP w117 (p112.add 2)) fun v119 =>
 lb2 (dF v119 v4 w117) fun v121 w122 =>
 nck (ldP w110 (p112.add 2)=some v119) <|
 aU ((v116==v121),w122))
 else
 (if (v6==4)=true then
 (cb2 (lb1 (dr w9) fun w130 =>
 lb1 (a0) fun p132 =>
 lb1 (ldP w130 (p132.add 0)) fun v134 =>
 lb1 (ldL w130 (p1.add 3)) fun v136 =>
 lb2 (fW v134 v136 w130) fun v138 w139 =>
 lb1 (ldP w139 (p132.add 2)) fun v141 =>
 lb1 (ldL w139 (p1.add 3)) fun v143 =>
 lb2 (cZ v141 v143 w139) fun v145 w146 =>
 if (v138==v145)=true then
 (nck (ldP w130 (p132.add 2)=some v141) <|
 nck (ldL w130 (p1.add 3)=some v143) <|
 cb2 (eJ a0 w146) fun v149 w150 =>
 aU (v149,w150))
 else
 (nck (ldP w130 (p132.add 2)=some v141) <|
 nck (ldL w130 (p1.add 3)=some v143) <|
 aU (false,w146))) fun v126 w127 =>
 aU (v126,w127))
 else
 (if (v6==5)=true then
 (lb1 (dr w9) fun w157 =>
 lb1 (a0) fun p159 =>
 lb1 (ldP w157 (p159.add 0)) fun v161 =>
 lb1 (ldL w157 (p1.add 2)) fun v163 =>
 lb2 (cD v161 v4 v163 w157) fun v165 w166 =>
 lb1 (ldP w166 (p159.add 2)) fun v168 =>
 lb1 (ldL w166 (p1.add 2)) fun v170 =>
 lb2 (bE v168 v4 v170 w166) fun v172 w173 =>
 nck (ldP w157 (p159.add 2)=some v168) <|
 nck (ldL w157 (p1.add 2)=some v170) <|
 aU ((v165==v172),w173))
 else
 (lb1 (dr w9) fun w177 =>
 lb1 (a0) fun p179 =>
 lb1 (ldP w177 (p179.add 0)) fun v181 =>
 lb2 (gZ v181 w177) fun v183 w184 =>
 lb1 (ldP w184 (p179.add 2)) fun v186 =>
 lb1 (v186) fun p188 =>
 lb1 (ldL w184 (p188.add 1)) fun v190 =>
 nck (ldP w177 (p179.add 2)=some v186) <|
 nck (ldL w177 (p188.add 1)=some v190) <|
 aU ((v183==(v190.n:Int)),w184)))))))
theorem pQ {a0 a1 w Q} (h:(gY a0 a1 w).t Q):Calls Try.prog 46 #[(.pointer a0),(.agg (List.toArray a1))] w fun e w''=>∃ i,e=.returned (.bool i.1)/\Q i/\w''=i.2:=by
 refine aP (n:=162) Try.func46 rfl Try.ntmps46 (by simp) fun a u=>?_;unfold gY at h;refine wp_seq<|aA<|?_;obtain⟨p1,w2,e3,h⟩:=h;refine q u (rF u rfl rfl e3) fun a u=>qa u rfl fun a u=>aB<|t_n<|wp_seq<|aA<|q u (aK u rfl aHk rfl rfl aGL) fun a u=>?_;obtain⟨v4,e5,h⟩:=h;refine q u (aJ u rfl aGN (aQ e5)) fun a u=>qa u rfl fun a u=>aB<|t_n<|wp_seq<|wp_seq<|aA<|q u (aK u rfl aHk rfl rfl aGL) fun a u=>?_;obtain⟨v6,e7,h⟩:=h;refine q u (aJ u rfl aGN (aQ e7)) fun a u=>aB<|t_n<|wp_block<|?_;refine gJ (n:=162) (ι:=Bool×World) (Lf:=fun i=>[(14,(bV i.1)),(0,(pV a0)),(3,(pV (some p1))),(5,(iV v4)),(13,(iV v6))]) (wf:=fun i=>i.2) (un2 h) (fun i h a u=>?_) (fun h hk11=>?_)
 .obtain⟨v8,w9⟩:=i;have u:Has 162 [(14,(bV v8)),(0,(pV a0)),(3,(pV (some p1))),(5,(iV v4)),(13,(iV v6))] a:=u;refine aX u rfl h (fun b13 h=>?_) (fun b13 h=>?_)
  .refine gJ (n:=162) (ι:=Int×World) (Lf:=fun i=>[(5,(iV i.1)),(0,(pV a0)),(3,(pV (some p1)))]) (wf:=fun i=>i.2) (un2 h) (fun i h a u=>?_) (fun h hk17=>?_)
   .obtain⟨v14,w15⟩:=i;have u:Has 162 [(5,(iV v14)),(0,(pV a0)),(3,(pV (some p1)))] a:=u;refine wp_seq<|aA<|?_;obtain⟨s36,w37,e38,h⟩:=h;refine q u (iK (vs:=[]) (ps:=[]) u trivial trivial rfl aGK aGT aHG (by decide) e38) fun a u=>q u (aK u rfl aHk rfl rfl aHJ) fun a u=>?_;obtain⟨v39,e40,h⟩:=h;refine q u (aJ u rfl aHN (aV e40)) fun a u=>?_;obtain⟨s41,w42,e43,h⟩:=h;refine q u (iF u rfl rfl e43) fun a u=>qa u rfl fun a u=>aB<|t_n<|wp_seq<|aA<|qm u rfl fun a u=>?_;obtain⟨p44,e45,h⟩:=h;refine q u (aH u rfl e45) fun a u=>q u (aK u rfl aGQ rfl rfl aHr) fun a u=>?_;obtain⟨v46,e47,h⟩:=h;refine q u (aJ u rfl aHv (bA e47)) fun a u=>qm u rfl fun a u=>qm u rfl fun a u=>?_;refine jV (ι:=Int×World) (pk:=fun i=>(iV i.1)) (wf:=fun i=>i.2) (xs:=[_,_,_]) (vs:=[(pV v46),(iV v14),(Sl.v s41)]) u ⟨rfl,rfl,rfl,aLz⟩ Try.call42 (mP (un2 h)) (fun i h a u=>?_);obtain⟨v48,w49⟩:=i;refine qa u rfl fun a u=>aB<|t_n<|wp_seq<|?_;obtain⟨w51,e52,h⟩:=h;obtain⟨v53,e54,h⟩:=h;obtain⟨v55,e56,h⟩:=h;have u:Has 162 [(0,(pV a0)),(3,(pV (some p1))),(5,(iV v14)),(6,(Sl.v s41)),(7,(iV v48))] a:=u.sb rfl;refine vF (n:=162) (ds:=(aS (pV a0) 0 [] 0::aG (pV (some p44)) 0 [0] 42 (pV a0)::aG (pV (some (p44.add 3))) 0 [0,1] 43 (pV (some p44))::aG (pV v53) 0 [0,1,2] 44 (pV (some (p44.add 3)))::aS (iV v14) 0 [] 5::aG (pV (some (p1.add 2))) 0 [] 3 (pV (some p1))::aG (Sl.v v55) 0 [5] 47 (pV (some (p1.add 2)))::[])) (B:=(_::_::[])) (W:=(fun _=>w51)) (m:=0) (by kernel_rfl) u (cY e52) (by kernel_rfl) (by kernel_rfl) ?_ (aR (by kernel_rfl)) (by kernel_rfl) (by kernel_rfl) (fun a u=>?_)
    .exact⟨oa (aC · rfl),oa (aH · rfl e45),oa (aK · rfl aGQ rfl rfl aIi),oc (e:=false) 0 (kd (aJ · rfl aIl (bA e54))),oa (aC · rfl),oa (aK · rfl aHk rfl rfl aHJ),oc (e:=false) 0 (kd (aJ · rfl aHN (aV e56))),aLz⟩
    have u:Has 162 [(48,(Sl.v v55)),(47,(pV (some (p1.add 2)))),(46,(iV v14)),(45,(pV v53)),(44,(pV (some (p44.add 3)))),(43,(pV (some p44))),(42,(pV a0)),(0,(pV a0)),(3,(pV (some p1))),(5,(iV v14)),(6,(Sl.v s41)),(7,(iV v48))] a:=u.sb rfl;refine aBA (p:=7) (by kernel_rfl)<|?_;refine aAz (ι:=Int×World) (pk:=fun i=>(iV i.1)) (wf:=fun i=>i.2) (xs:=[_,_,_]) (vs:=[(pV v53),(iV v14),(Sl.v v55)]) rfl (.inl rfl) u ⟨rfl,rfl,rfl,aLz⟩ Try.call92 (oD (un2 h)) (fun i h a u=>?_);obtain⟨v57,w58⟩:=i;refine uM (n:=162) (L0:=[(0,(pV a0)),(3,(pV (some p1))),(5,(iV v14)),(6,(Sl.v s41)),(7,(iV v48))]) (ds:=(aI (pV a0) false 0 9 [] [(0,(pV a0))]::aI (pV (some p44)) false 0 9 [0] [(42,(pV a0))]::aI (pV (some (p44.add 3))) false 0 9 [0,1] [(43,(pV (some p44)))]::aI (pV v53) false 0 9 [0,1,2] [(44,(pV (some (p44.add 3))))]::aI (iV v14) false 0 9 [] [(5,(iV v14))]::aI (pV (some (p1.add 2))) false 0 9 [] [(3,(pV (some p1)))]::aI (Sl.v v55) false 0 9 [5] [(47,(pV (some (p1.add 2))))]::aI (iV v57) false 0 9 (rn 0 7) [(45,(pV v53)),(46,(iV v14)),(48,(Sl.v v55))]::aS (iV v57) 0 (rn 0 8) 49::[])) (W:=(fun _=>w58)) (p:=8) (q:=1) (m:=0) (by kernel_rfl) (by kernel_rfl) (by kernel_rfl) (by kernel_rfl) (by kernel_rfl) ?_ (aR (by kernel_rfl)) (by kernel_rfl) (by kernel_rfl) (u.sub ⟨rfl,rfl,rfl,rfl,rfl,rfl,rfl,rfl,rfl,rfl,rfl,rfl,rfl,aLz⟩) (fun a u=>?_)
    .refine aAk (p:=8)<|?_;exact⟨oa (bD · rfl),aLz⟩
    have u:Has 162 [(6,(Sl.v s41)),(7,(iV v48)),(8,(iV v57))] a:=u.sb rfl;refine t_n<|wp_seq<|wp_seq<|aA<|qa u rfl fun a u=>aB<|t_n<|wp_block<|?_;refine lE (n:=162) (Lr:=fun i=>[(7,(iV v48)),(8,(iV v57))]) (wr:=fun i=>i) (e:=.exit 1) (I:=fun (s:Int×World) a w=>Has 162 [(9,(iV s.1)),(6,(Sl.v s41)),(7,(iV v48)),(8,(iV v57))] a/\w=s.2) (un1 h) ⟨u.sub ⟨rfl,rfl,rfl,rfl,aLz⟩,rfl⟩ (fun i h a u=>?_) (fun hk65=>?_)
    .obtain⟨w64,rfl⟩:∃ x,x=i:=⟨i,rfl⟩;have u:Has 162 [(7,(iV v48)),(8,(iV v57))] a:=u;refine eC<|t_n<|wp_seq<|aA<|qm u rfl fun a u=>qm u rfl fun a u=>q u (gD u rfl rfl) fun a u=>qa u rfl fun a u=>aB<|t_n<|wp_ret<|b_r<|t_r<|?_;exact bI Try.results46 u rfl ⟨((v48==v57),w64),rfl,h,rfl⟩
    clear h;intro hX76;rintro⟨x60,w61⟩ a wq ⟨u,hwq⟩ h;obtain rfl:w61=wq:=hwq.symm;have u:Has 162 [(9,(iV x60)),(6,(Sl.v s41)),(7,(iV v48)),(8,(iV v57))] a:=u;have h:(dX s41 x60 w61).t _:=h;unfold dX at h;refine wp_seq<|wp_seq<|aA<|qm u rfl fun a u=>qm u rfl fun a u=>q u (aZ u rfl aGK) fun a u=>q u (dK u rfl rfl) fun a u=>aB<|t_n<|?_;refine aX u rfl h (fun b67 h=>?_) (fun b67 h=>?_)
    .refine wp_skip<|t_n<|wp_seq<|wp_block<|aA<|qm u rfl fun a u=>qm u rfl fun a u=>?_;obtain⟨p68,e69,h⟩:=h;refine q u (bZ u rfl rfl aGK aGT e69) fun a u=>?_;obtain⟨v70,e71,h⟩:=h;refine q u (aJ u rfl aHs (aQ e71)) fun a u=>q u (aDY u rfl rfl) fun a u=>?_;obtain⟨p72,e73,h⟩:=h;refine q u (bZ u rfl rfl aGK aGT e73) fun a u=>?_;obtain⟨w74,e75,h⟩:=h;refine q u (fO u rfl rfl aGT e75) fun a u=>aB<|b_n<|t_n<|aA<|qm u rfl fun a u=>q u (bJ u rfl rfl) fun a u=>qa u rfl fun a u=>aB<|?_;exact⟨((IntKind.wrap .i64 (x60+1)),w74),⟨u.sb rfl,rfl⟩,h⟩
    refine wp_exit<|t_x<|t_x<|?_;exact hk65 w61 h _ (u.sb rfl)
   refine wp_seq<|aA<|q u (aK u rfl aHk rfl rfl aGL) fun a u=>?_;obtain⟨v18,e19,h⟩:=h;refine q u (aJ u rfl aGN (aQ e19)) fun a u=>q u (gD u rfl rfl) fun a u=>aB<|t_n<|?_;refine aX u rfl h (fun b20 h=>?_) (fun b20 h=>?_)
   .obtain⟨w21,e22,h⟩:=h;obtain⟨p23,e24,h⟩:=h;obtain⟨v25,e26,h⟩:=h;obtain⟨p27,e28,h⟩:=h;obtain⟨v29,e30,h⟩:=h;obtain⟨v31,e32,h⟩:=h;obtain⟨v33,w34,e35,h⟩:=h;have u:Has 162 [(0,(pV a0)),(3,(pV (some p1))),(5,(iV v4)),(19,(bV (v18==6)))] a:=u.sb rfl;refine aM (n:=162) (ds:=(aS (pV a0) 0 [] 0::aG (pV (some p23)) 0 [0] 20 (pV a0)::aG (pV (some (p23.add 3))) 0 [0,1] 21 (pV (some p23))::aG (pV v25) 0 [0,1,2] 22 (pV (some (p23.add 3)))::aG (pV (some p27)) 0 (rn 0 4) 23 (pV v25)::aG (pV (some (p27.add 4))) 0 (rn 0 5) 24 (pV (some p27))::aG (pV (some ((p27.add 4).add 0))) 0 (rn 0 6) 25 (pV (some (p27.add 4)))::aG (iV v29) 0 (rn 0 7) 26 (pV (some ((p27.add 4).add 0)))::aG (pV (some (p1.add 1))) 0 [] 3 (pV (some p1))::aG (iV v31) 0 [8] 28 (pV (some (p1.add 1)))::aI (iV v33) true 0 0 (rn 0 10) [(27,(iV v29)),(29,(iV v31))]::aS (iV v33) 1 (rn 0 11) 30::[])) (W:=(fun j=>match j with | 0=>w21 | 1=>w34 | _=>w34)) (by kernel_rfl) u (cY e22) (by kernel_rfl) ?_ (aR (by kernel_rfl)) (by kernel_rfl) (m:=1) (by kernel_rfl) (fun a u=>?_)
    .exact⟨oa (aC · rfl),oa (aH · rfl e24),oa (aK · rfl aGQ rfl rfl aIi),oc 0 (kd (aJ · rfl aIl (bA e26))),oa (aH · rfl e28),oa (aK · rfl aGP rfl rfl aHd),oa (aK · rfl aGM rfl rfl aGL),oc 0 (kd (aJ · rfl aGN (aQ e30))),oa (aK · rfl aHk rfl rfl aGL),oc 0 (kd (aJ · rfl aGN (aQ e32))),oc 0 (kd (dc2 · rfl rfl Try.call91 (qD e35))),oa (bD · rfl),aLz⟩
    have u:Has 162 [(0,(pV a0)),(3,(pV (some p1))),(5,(iV v33))] a:=u.sb rfl;exact hk17 (v33,w34) h _ (u.sb rfl)
   refine wp_skip<|?_;exact hk17 (v4,w9) h _ (u.sb rfl)
  refine wp_seq<|aA<|q u (gD u rfl rfl) fun a u=>qa u rfl fun a u=>aB<|t_n<|?_;refine aX u rfl h (fun b77 h=>?_) (fun b77 h=>?_)
  .refine wp_seq<|?_;obtain⟨w78,e79,h⟩:=h;obtain⟨p80,e81,h⟩:=h;obtain⟨v82,e83,h⟩:=h;obtain⟨v84,w85,e86,h⟩:=h;obtain⟨v87,e88,h⟩:=h;obtain⟨v89,w90,e91,h⟩:=h;obtain⟨e92,h⟩:=h;have u:Has 162 [(0,(pV a0)),(3,(pV (some p1))),(5,(iV v4)),(13,(iV v6)),(65,(bV (v6==1)))] a:=u.sb rfl;refine aM (n:=162) (ds:=(aS (pV a0) 0 [] 0::aG (pV (some p80)) 0 [0] 67 (pV a0)::aG (pV (some (p80.add 1))) 0 [0,1] 68 (pV (some p80))::aG (pV v82) 0 [0,1,2] 69 (pV (some (p80.add 1)))::aI (iV v84) true 0 0 (rn 0 4) [(70,(pV v82))]::aI (pV a0) false 0 1 [] [(0,(pV a0))]::aI (pV (some p80)) false 0 1 [5] [(72,(pV a0))]::aI (pV (some (p80.add 3))) false 0 1 [5,6] [(73,(pV (some p80)))]::aI (pV v87) false 0 1 [5,6,7] [(74,(pV (some (p80.add 3))))]::aI (iV v89) true 1 1 (rn 0 9) [(75,(pV v87))]::aT (bV (v84==v89)) 2 (rn 0 10) [(71,(iV v84)),(76,(iV v89))]::aS (bV (v84==v89)) 2 (rn 0 11) 77::[])) (W:=(fun j=>match j with | 0=>w78 | 1=>w85 | 2=>w90 | _=>w90)) (by kernel_rfl) u (cY e79) (by kernel_rfl) ?_ (aR (by kernel_rfl)) (by kernel_rfl) (m:=2) (by kernel_rfl) (fun a u=>?_)
   .refine⟨oa (aC · rfl),oa (aH · rfl e81),oa (aK · rfl aGQ rfl rfl aHr),oc 0 (kd (aJ · rfl aHv (bA e83))),oc 0 (kd (dc1 · rfl Try.call41 (pW e86))),oa (aC · rfl),oa (aH · rfl e81),oa (aK · rfl aGQ rfl rfl aIi),?_,oc 1 (kd (dc1 · rfl Try.call93 (pG e91))),oa (gD · rfl rfl),oa (bD · rfl),aLz⟩;intro j h1 h2;have h1:0<=j:=h1;have h2:j<=1:=h2;rcases(by omega:j=0\/j=1) with rfl | rfl
    .exact kd (aJ · rfl aIl (bA e92))
    exact kd (aJ · rfl aIl (bA e88))
   have u:Has 162 [(4,(bV (v84==v89)))] a:=u.sb rfl;refine t_n<|wp_ret<|b_r<|t_r<|?_;exact bI Try.results46 u rfl ⟨((v84==v89),w90),rfl,h,rfl⟩
  refine wp_seq<|aA<|q u (gD u rfl rfl) fun a u=>qa u rfl fun a u=>aB<|t_n<|?_;refine aX u rfl h (fun b93 h=>?_) (fun b93 h=>?_)
  .refine wp_seq<|?_;obtain⟨w94,e95,h⟩:=h;obtain⟨p96,e97,h⟩:=h;obtain⟨v98,e99,h⟩:=h;obtain⟨v100,w101,e102,h⟩:=h;obtain⟨v103,e104,h⟩:=h;obtain⟨v105,w106,e107,h⟩:=h;obtain⟨e108,h⟩:=h;have u:Has 162 [(0,(pV a0)),(3,(pV (some p1))),(5,(iV v4)),(13,(iV v6)),(78,(bV (v6==2)))] a:=u.sb rfl;refine aM (n:=162) (ds:=(aS (pV a0) 0 [] 0::aG (pV (some p96)) 0 [0] 80 (pV a0)::aG (pV (some (p96.add 1))) 0 [0,1] 81 (pV (some p96))::aG (pV v98) 0 [0,1,2] 82 (pV (some (p96.add 1)))::aS (iV v4) 0 [] 5::aI (iV v100) true 0 0 (rn 0 5) [(83,(pV v98)),(84,(iV v4))]::aI (pV a0) false 0 1 [] [(0,(pV a0))]::aI (pV (some p96)) false 0 1 [6] [(86,(pV a0))]::aI (pV (some (p96.add 3))) false 0 1 [6,7] [(87,(pV (some p96)))]::aI (pV v103) false 0 1 [6,7,8] [(88,(pV (some (p96.add 3))))]::aI (iV v4) false 0 1 [] [(5,(iV v4))]::aI (iV v105) true 1 1 (rn 0 11) [(89,(pV v103)),(90,(iV v4))]::aT (bV (v100==v105)) 2 (rn 0 12) [(85,(iV v100)),(91,(iV v105))]::aS (bV (v100==v105)) 2 (rn 0 13) 92::[])) (W:=(fun j=>match j with | 0=>w94 | 1=>w101 | 2=>w106 | _=>w106)) (by kernel_rfl) u (cY e95) (by kernel_rfl) ?_ (aR (by kernel_rfl)) (by kernel_rfl) (m:=2) (by kernel_rfl) (fun a u=>?_)
   .refine⟨oa (aC · rfl),oa (aH · rfl e97),oa (aK · rfl aGQ rfl rfl aHr),oc 0 (kd (aJ · rfl aHv (bA e99))),oa (aC · rfl),oc 0 (kd (dc2 · rfl rfl Try.call43 (pU e102))),oa (aC · rfl),oa (aH · rfl e97),oa (aK · rfl aGQ rfl rfl aIi),?_,oa (aC · rfl),oc 1 (kd (dc2 · rfl rfl Try.call94 (pB e107))),oa (gD · rfl rfl),oa (bD · rfl),aLz⟩;intro j h1 h2;have h1:0<=j:=h1;have h2:j<=1:=h2;rcases(by omega:j=0\/j=1) with rfl | rfl
    .exact kd (aJ · rfl aIl (bA e108))
    exact kd (aJ · rfl aIl (bA e104))
   have u:Has 162 [(4,(bV (v100==v105)))] a:=u.sb rfl;refine t_n<|wp_ret<|b_r<|t_r<|?_;exact bI Try.results46 u rfl ⟨((v100==v105),w106),rfl,h,rfl⟩
  refine wp_seq<|aA<|q u (gD u rfl rfl) fun a u=>qa u rfl fun a u=>aB<|t_n<|?_;refine aX u rfl h (fun b109 h=>?_) (fun b109 h=>?_)
  .refine wp_seq<|?_;obtain⟨w110,e111,h⟩:=h;obtain⟨p112,e113,h⟩:=h;obtain⟨v114,e115,h⟩:=h;obtain⟨v116,w117,e118,h⟩:=h;obtain⟨v119,e120,h⟩:=h;obtain⟨v121,w122,e123,h⟩:=h;obtain⟨e124,h⟩:=h;have u:Has 162 [(0,(pV a0)),(3,(pV (some p1))),(5,(iV v4)),(13,(iV v6)),(93,(bV (v6==3)))] a:=u.sb rfl;refine aM (n:=162) (ds:=(aS (pV a0) 0 [] 0::aG (pV (some p112)) 0 [0] 95 (pV a0)::aG (pV (some (p112.add 0))) 0 [0,1] 96 (pV (some p112))::aG (pV v114) 0 [0,1,2] 97 (pV (some (p112.add 0)))::aS (iV v4) 0 [] 5::aI (iV v116) true 0 0 (rn 0 5) [(98,(pV v114)),(99,(iV v4))]::aI (pV a0) false 0 1 [] [(0,(pV a0))]::aI (pV (some p112)) false 0 1 [6] [(101,(pV a0))]::aI (pV (some (p112.add 2))) false 0 1 [6,7] [(102,(pV (some p112)))]::aI (pV v119) false 0 1 [6,7,8] [(103,(pV (some (p112.add 2))))]::aI (iV v4) false 0 1 [] [(5,(iV v4))]::aI (iV v121) true 1 1 (rn 0 11) [(104,(pV v119)),(105,(iV v4))]::aT (bV (v116==v121)) 2 (rn 0 12) [(100,(iV v116)),(106,(iV v121))]::aS (bV (v116==v121)) 2 (rn 0 13) 107::[])) (W:=(fun j=>match j with | 0=>w110 | 1=>w117 | 2=>w122 | _=>w122)) (by kernel_rfl) u (cY e111) (by kernel_rfl) ?_ (aR (by kernel_rfl)) (by kernel_rfl) (m:=2) (by kernel_rfl) (fun a u=>?_)
   .refine⟨oa (aC · rfl),oa (aH · rfl e113),oa (aK · rfl aGQ rfl rfl aHm),oc 0 (kd (aJ · rfl aHj (bA e115))),oa (aC · rfl),oc 0 (kd (dc2 · rfl rfl Try.call35 (oJ e118))),oa (aC · rfl),oa (aH · rfl e113),oa (aK · rfl aGQ rfl rfl aHp),?_,oa (aC · rfl),oc 1 (kd (dc2 · rfl rfl Try.call95 (oU e123))),oa (gD · rfl rfl),oa (bD · rfl),aLz⟩;intro j h1 h2;have h1:0<=j:=h1;have h2:j<=1:=h2;rcases(by omega:j=0\/j=1) with rfl | rfl
    .exact kd (aJ · rfl aHi (bA e124))
    exact kd (aJ · rfl aHi (bA e120))
   have u:Has 162 [(4,(bV (v116==v121)))] a:=u.sb rfl;refine t_n<|wp_ret<|b_r<|t_r<|?_;exact bI Try.results46 u rfl ⟨((v116==v121),w122),rfl,h,rfl⟩
  refine wp_seq<|aA<|q u (gD u rfl rfl) fun a u=>qa u rfl fun a u=>aB<|t_n<|?_;refine aX u rfl h (fun b125 h=>?_) (fun b125 h=>?_)
  .refine wp_seq<|?_;refine dD (n:=162) (ι:=Bool×World) (Lf:=fun i=>[(4,(bV i.1))]) (wf:=fun i=>i.2) (un2 h) (fun i h a u=>?_) (fun h hk129=>?_)
   .obtain⟨v126,w127⟩:=i;have u:Has 162 [(4,(bV v126))] a:=u;refine t_n<|wp_ret<|b_r<|t_r<|?_;exact bI Try.results46 u rfl ⟨(v126,w127),rfl,h,rfl⟩
   obtain⟨w130,e131,h⟩:=h;obtain⟨p132,e133,h⟩:=h;obtain⟨v134,e135,h⟩:=h;obtain⟨v136,e137,h⟩:=h;obtain⟨v138,w139,e140,h⟩:=h;obtain⟨v141,e142,h⟩:=h;obtain⟨v143,e144,h⟩:=h;obtain⟨v145,w146,e147,h⟩:=h;refine iE h (fun b148 h=>?_) (fun b148 h=>?_)
   .obtain⟨e152,h⟩:=h;obtain⟨e153,h⟩:=h;have u:Has 162 [(0,(pV a0)),(3,(pV (some p1))),(5,(iV v4)),(13,(iV v6)),(108,(bV (v6==4)))] a:=u.sb rfl;refine vF (n:=162) (ds:=(aS (pV a0) 0 [] 0::aG (pV (some p132)) 0 [0] 110 (pV a0)::aG (pV (some (p132.add 0))) 0 [0,1] 111 (pV (some p132))::aG (pV v134) 0 [0,1,2] 112 (pV (some (p132.add 0)))::aG (pV (some (p1.add 3))) 0 [] 3 (pV (some p1))::aG (Sl.v v136) 0 [4] 114 (pV (some (p1.add 3)))::aI (iV v138) true 0 0 (rn 0 6) [(113,(pV v134)),(115,(Sl.v v136))]::aI (pV a0) false 0 1 [] [(0,(pV a0))]::aI (pV (some p132)) false 0 1 [7] [(117,(pV a0))]::aI (pV (some (p132.add 2))) false 0 1 [7,8] [(118,(pV (some p132)))]::aI (pV v141) false 0 1 [7,8,9] [(119,(pV (some (p132.add 2))))]::aI (pV (some (p1.add 3))) false 0 1 [] [(3,(pV (some p1)))]::aI (Sl.v v143) false 0 1 [11] [(121,(pV (some (p1.add 3))))]::aI (iV v145) true 1 1 (rn 0 13) [(120,(pV v141)),(122,(Sl.v v143))]::aT (bV (v138==v145)) 2 (rn 0 14) [(116,(iV v138)),(123,(iV v145))]::aS (bV (v138==v145)) 2 (rn 0 15) 124::aT (pV a0) 2 (rn 0 16) [(0,(pV a0)),(125,(bV (v138==v145)))]::[])) (B:=(_::_::_::[])) (W:=(fun j=>match j with | 0=>w130 | 1=>w139 | 2=>w146 | _=>w146)) (m:=2) (by kernel_rfl) u (cY e131) (by kernel_rfl) (by kernel_rfl) ?_ (aR (by kernel_rfl)) (by kernel_rfl) (by kernel_rfl) (fun a u=>?_)
    .refine⟨oa (aC · rfl),oa (aH · rfl e133),oa (aK · rfl aGQ rfl rfl aHm),oc 0 (kd (aJ · rfl aHj (bA e135))),oa (aK · rfl aHk rfl rfl aIq),oc 0 (kd (aJ · rfl aIm (aV e137))),oc 0 (kd (dc2 · rfl rfl Try.call79 (lQ e140))),oa (aC · rfl),oa (aH · rfl e133),oa (aK · rfl aGQ rfl rfl aHp),?_,oa (aK · rfl aHk rfl rfl aIq),?_,oc 1 (kd (dc2 · rfl rfl Try.call96 (lA e147))),oa (gD · rfl rfl),oa (aC · rfl),oag 125 b148 (aC · rfl),aLz⟩
     .intro j h1 h2;have h1:0<=j:=h1;have h2:j<=1:=h2;rcases(by omega:j=0\/j=1) with rfl | rfl
      .exact kd (aJ · rfl aHi (bA e152))
      exact kd (aJ · rfl aHi (bA e142))
     intro j h1 h2;have h1:0<=j:=h1;have h2:j<=1:=h2;rcases(by omega:j=0\/j=1) with rfl | rfl
     .exact kd (aJ · rfl aIm (aV e153))
     exact kd (aJ · rfl aIm (aV e144))
    have u:Has 162 [(126,(pV a0)),(125,(bV (v138==v145))),(124,(bV (v138==v145))),(123,(iV v145)),(122,(Sl.v v143)),(121,(pV (some (p1.add 3)))),(120,(pV v141)),(119,(pV (some (p132.add 2)))),(118,(pV (some p132))),(117,(pV a0)),(116,(iV v138)),(115,(Sl.v v136)),(114,(pV (some (p1.add 3)))),(113,(pV v134)),(112,(pV (some (p132.add 0)))),(111,(pV (some p132))),(110,(pV a0)),(0,(pV a0)),(3,(pV (some p1))),(5,(iV v4)),(13,(iV v6)),(108,(bV (v6==4)))] a:=u.sb rfl;refine aBA (p:=17) (by kernel_rfl)<|?_;refine aAz (ι:=Bool×World) (pk:=fun i=>(bV i.1)) (wf:=fun i=>i.2) (xs:=[_]) (vs:=[(pV a0)]) rfl (.inr ⟨_,_,125,_,rfl,rfl,rfl,b148⟩) u ⟨rfl,aLz⟩ Try.call90 (lG (un2 h)) (fun i h a u=>?_);obtain⟨v149,w150⟩:=i;refine uM (n:=162) (L0:=[(0,(pV a0)),(3,(pV (some p1))),(5,(iV v4)),(13,(iV v6)),(108,(bV (v6==4)))]) (ds:=(aI (pV a0) false 0 20 [] [(0,(pV a0))]::aI (pV (some p132)) false 0 20 [0] [(110,(pV a0))]::aI (pV (some (p132.add 0))) false 0 20 [0,1] [(111,(pV (some p132)))]::aI (pV v134) false 0 20 [0,1,2] [(112,(pV (some (p132.add 0))))]::aI (pV (some (p1.add 3))) false 0 20 [] [(3,(pV (some p1)))]::aI (Sl.v v136) false 0 20 [4] [(114,(pV (some (p1.add 3))))]::aI (iV v138) false 0 20 (rn 0 6) [(113,(pV v134)),(115,(Sl.v v136))]::aI (pV a0) false 0 20 [] [(0,(pV a0))]::aI (pV (some p132)) false 0 20 [7] [(117,(pV a0))]::aI (pV (some (p132.add 2))) false 0 20 [7,8] [(118,(pV (some p132)))]::aI (pV v141) false 0 20 [7,8,9] [(119,(pV (some (p132.add 2))))]::aI (pV (some (p1.add 3))) false 0 20 [] [(3,(pV (some p1)))]::aI (Sl.v v143) false 0 20 [11] [(121,(pV (some (p1.add 3))))]::aI (iV v145) false 0 20 (rn 0 13) [(120,(pV v141)),(122,(Sl.v v143))]::aI (bV (v138==v145)) false 0 20 (rn 0 14) [(116,(iV v138)),(123,(iV v145))]::aI (bV (v138==v145)) false 0 20 (rn 0 15) [(124,(bV (v138==v145)))]::aI (pV a0) false 0 20 (rn 0 16) [(0,(pV a0)),(125,(bV (v138==v145)))]::aI (bV v149) false 0 20 (rn 0 17) [(126,(pV a0)),(125,(bV (v138==v145)))]::aT (bV v149) 0 (rn 0 18) [(125,(bV (v138==v145))),(127,(bV v149))]::aS (bV v149) 0 (rn 0 19) 128::[])) (W:=(fun _=>w150)) (p:=18) (q:=2) (m:=0) (by kernel_rfl) (by kernel_rfl) (by kernel_rfl) (by kernel_rfl) (by kernel_rfl) ?_ (aR (by kernel_rfl)) (by kernel_rfl) (by kernel_rfl) (u.sub ⟨rfl,rfl,rfl,rfl,rfl,rfl,rfl,rfl,rfl,rfl,rfl,rfl,rfl,rfl,rfl,rfl,rfl,rfl,rfl,rfl,rfl,rfl,rfl,aLz⟩) (fun a u=>?_)
    .refine aAk (p:=18)<|?_;exact⟨oa (aF · rfl b148 rfl),oa (bD · rfl),aLz⟩
    have u:Has 162 [(4,(bV v149))] a:=u.sb rfl;exact hk129 (v149,w150) h _ (u.sb rfl)
   obtain⟨e154,h⟩:=h;obtain⟨e155,h⟩:=h;have u:Has 162 [(0,(pV a0)),(3,(pV (some p1))),(5,(iV v4)),(13,(iV v6)),(108,(bV (v6==4)))] a:=u.sb rfl;refine aM (n:=162) (ds:=(aS (pV a0) 0 [] 0::aG (pV (some p132)) 0 [0] 110 (pV a0)::aG (pV (some (p132.add 0))) 0 [0,1] 111 (pV (some p132))::aG (pV v134) 0 [0,1,2] 112 (pV (some (p132.add 0)))::aG (pV (some (p1.add 3))) 0 [] 3 (pV (some p1))::aG (Sl.v v136) 0 [4] 114 (pV (some (p1.add 3)))::aI (iV v138) true 0 0 (rn 0 6) [(113,(pV v134)),(115,(Sl.v v136))]::aI (pV a0) false 0 1 [] [(0,(pV a0))]::aI (pV (some p132)) false 0 1 [7] [(117,(pV a0))]::aI (pV (some (p132.add 2))) false 0 1 [7,8] [(118,(pV (some p132)))]::aI (pV v141) false 0 1 [7,8,9] [(119,(pV (some (p132.add 2))))]::aI (pV (some (p1.add 3))) false 0 1 [] [(3,(pV (some p1)))]::aI (Sl.v v143) false 0 1 [11] [(121,(pV (some (p1.add 3))))]::aI (iV v145) true 1 1 (rn 0 13) [(120,(pV v141)),(122,(Sl.v v143))]::aT (bV (v138==v145)) 2 (rn 0 14) [(116,(iV v138)),(123,(iV v145))]::aS (bV (v138==v145)) 2 (rn 0 15) 124::aG (undef) 2 (rn 0 16) 125 (bV (v138==v145))::aG (undef) 2 (rn 0 17) 125 (bV (v138==v145))::aT (bV false) 2 (rn 0 18) [(125,(bV (v138==v145))),(127,undef)]::aS (bV false) 2 (rn 0 19) 128::[])) (W:=(fun j=>match j with | 0=>w130 | 1=>w139 | 2=>w146 | _=>w146)) (by kernel_rfl) u (cY e131) (by kernel_rfl) ?_ (aR (by kernel_rfl)) (by kernel_rfl) (m:=2) (by kernel_rfl) (fun a u=>?_)
   .refine⟨oa (aC · rfl),oa (aH · rfl e133),oa (aK · rfl aGQ rfl rfl aHm),oc 0 (kd (aJ · rfl aHj (bA e135))),oa (aK · rfl aHk rfl rfl aIq),oc 0 (kd (aJ · rfl aIm (aV e137))),oc 0 (kd (dc2 · rfl rfl Try.call79 (lQ e140))),oa (aC · rfl),oa (aH · rfl e133),oa (aK · rfl aGQ rfl rfl aHp),?_,oa (aK · rfl aHk rfl rfl aIq),?_,oc 1 (kd (dc2 · rfl rfl Try.call96 (lA e147))),oa (gD · rfl rfl),oa (aC · rfl),on 125 (nm b148),on 125 (nm b148),oa (aL · rfl b148 rfl),oa (bD · rfl),aLz⟩
    .intro j h1 h2;have h1:0<=j:=h1;have h2:j<=1:=h2;rcases(by omega:j=0\/j=1) with rfl | rfl
     .exact kd (aJ · rfl aHi (bA e154))
     exact kd (aJ · rfl aHi (bA e142))
    intro j h1 h2;have h1:0<=j:=h1;have h2:j<=1:=h2;rcases(by omega:j=0\/j=1) with rfl | rfl
    .exact kd (aJ · rfl aIm (aV e155))
    exact kd (aJ · rfl aIm (aV e144))
   have u:Has 162 [(4,(bV false))] a:=u.sb rfl;exact hk129 (false,w146) h _ (u.sb rfl)
  refine wp_seq<|aA<|q u (gD u rfl rfl) fun a u=>qa u rfl fun a u=>aB<|t_n<|?_;refine aX u rfl h (fun b156 h=>?_) (fun b156 h=>?_)
  .refine wp_seq<|?_;obtain⟨w157,e158,h⟩:=h;obtain⟨p159,e160,h⟩:=h;obtain⟨v161,e162,h⟩:=h;obtain⟨v163,e164,h⟩:=h;obtain⟨v165,w166,e167,h⟩:=h;obtain⟨v168,e169,h⟩:=h;obtain⟨v170,e171,h⟩:=h;obtain⟨v172,w173,e174,h⟩:=h;obtain⟨e175,h⟩:=h;obtain⟨e176,h⟩:=h;have u:Has 162 [(0,(pV a0)),(3,(pV (some p1))),(5,(iV v4)),(129,(bV (v6==5)))] a:=u.sb rfl;refine aM (n:=162) (ds:=(aS (pV a0) 0 [] 0::aG (pV (some p159)) 0 [0] 131 (pV a0)::aG (pV (some (p159.add 0))) 0 [0,1] 132 (pV (some p159))::aG (pV v161) 0 [0,1,2] 133 (pV (some (p159.add 0)))::aS (iV v4) 0 [] 5::aG (pV (some (p1.add 2))) 0 [] 3 (pV (some p1))::aG (Sl.v v163) 0 [5] 136 (pV (some (p1.add 2)))::aI (iV v165) true 0 0 (rn 0 7) [(134,(pV v161)),(135,(iV v4)),(137,(Sl.v v163))]::aI (pV a0) false 0 1 [] [(0,(pV a0))]::aI (pV (some p159)) false 0 1 [8] [(139,(pV a0))]::aI (pV (some (p159.add 2))) false 0 1 [8,9] [(140,(pV (some p159)))]::aI (pV v168) false 0 1 [8,9,10] [(141,(pV (some (p159.add 2))))]::aI (iV v4) false 0 1 [] [(5,(iV v4))]::aI (pV (some (p1.add 2))) false 0 1 [] [(3,(pV (some p1)))]::aI (Sl.v v170) false 0 1 [13] [(144,(pV (some (p1.add 2))))]::aI (iV v172) true 1 1 (rn 0 15) [(142,(pV v168)),(143,(iV v4)),(145,(Sl.v v170))]::aT (bV (v165==v172)) 2 (rn 0 16) [(138,(iV v165)),(146,(iV v172))]::aS (bV (v165==v172)) 2 (rn 0 17) 147::[])) (W:=(fun j=>match j with | 0=>w157 | 1=>w166 | 2=>w173 | _=>w173)) (by kernel_rfl) u (cY e158) (by kernel_rfl) ?_ (aR (by kernel_rfl)) (by kernel_rfl) (m:=2) (by kernel_rfl) (fun a u=>?_)
   .refine⟨oa (aC · rfl),oa (aH · rfl e160),oa (aK · rfl aGQ rfl rfl aHm),oc 0 (kd (aJ · rfl aHj (bA e162))),oa (aC · rfl),oa (aK · rfl aHk rfl rfl aHJ),oc 0 (kd (aJ · rfl aHN (aV e164))),oc 0 (kd (dc3 · rfl rfl rfl Try.call84 (fC e167))),oa (aC · rfl),oa (aH · rfl e160),oa (aK · rfl aGQ rfl rfl aHp),?_,oa (aC · rfl),oa (aK · rfl aHk rfl rfl aHJ),?_,oc 1 (kd (dc3 · rfl rfl rfl Try.call89 (cL e174))),oa (gD · rfl rfl),oa (bD · rfl),aLz⟩
    .intro j h1 h2;have h1:0<=j:=h1;have h2:j<=1:=h2;rcases(by omega:j=0\/j=1) with rfl | rfl
     .exact kd (aJ · rfl aHi (bA e175))
     exact kd (aJ · rfl aHi (bA e169))
    intro j h1 h2;have h1:0<=j:=h1;have h2:j<=1:=h2;rcases(by omega:j=0\/j=1) with rfl | rfl
    .exact kd (aJ · rfl aHN (aV e176))
    exact kd (aJ · rfl aHN (aV e171))
   have u:Has 162 [(4,(bV (v165==v172)))] a:=u.sb rfl;refine t_n<|wp_ret<|b_r<|t_r<|?_;exact bI Try.results46 u rfl ⟨((v165==v172),w173),rfl,h,rfl⟩
  refine wp_skip<|b_n<|t_n<|wp_seq<|?_;obtain⟨w177,e178,h⟩:=h;obtain⟨p179,e180,h⟩:=h;obtain⟨v181,e182,h⟩:=h;obtain⟨v183,w184,e185,h⟩:=h;obtain⟨v186,e187,h⟩:=h;obtain⟨p188,e189,h⟩:=h;obtain⟨v190,e191,h⟩:=h;obtain⟨e192,h⟩:=h;obtain⟨e193,h⟩:=h;have u:Has 162 [(0,(pV a0))] a:=u.sb rfl;refine aM (n:=162) (ds:=(aS (pV a0) 0 [] 0::aG (pV (some p179)) 0 [0] 148 (pV a0)::aG (pV (some (p179.add 0))) 0 [0,1] 149 (pV (some p179))::aG (pV v181) 0 [0,1,2] 150 (pV (some (p179.add 0)))::aI (iV v183) true 0 0 (rn 0 4) [(151,(pV v181))]::aI (pV a0) false 0 1 [] [(0,(pV a0))]::aI (pV (some p179)) false 0 1 [5] [(153,(pV a0))]::aI (pV (some (p179.add 2))) false 0 1 [5,6] [(154,(pV (some p179)))]::aI (pV v186) false 0 1 [5,6,7] [(155,(pV (some (p179.add 2))))]::aI (pV (some p188)) false 0 1 (rn 5 4) [(156,(pV v186))]::aI (pV (some (p188.add 1))) false 0 1 (rn 5 5) [(157,(pV (some p188)))]::aI (Sl.v v190) false 0 1 (rn 5 6) [(158,(pV (some (p188.add 1))))]::aI (iV (v190.n:Int)) false 0 1 (rn 5 7) [(159,(Sl.v v190))]::aT (bV (v183==(v190.n:Int))) 1 (rn 0 13) [(152,(iV v183)),(160,(iV (v190.n:Int)))]::aS (bV (v183==(v190.n:Int))) 1 (rn 0 14) 161::[])) (W:=(fun j=>match j with | 0=>w177 | 1=>w184 | _=>w184)) (by kernel_rfl) u (cY e178) (by kernel_rfl) ?_ (aR (by kernel_rfl)) (by kernel_rfl) (m:=1) (by kernel_rfl) (fun a u=>?_)
  .refine⟨oa (aC · rfl),oa (aH · rfl e180),oa (aK · rfl aGQ rfl rfl aHm),oc 0 (kd (aJ · rfl aHj (bA e182))),oc 0 (kd (dc1 · rfl Try.call34 (rM e185))),oa (aC · rfl),oa (aH · rfl e180),oa (aK · rfl aGQ rfl rfl aHp),?_,oa (aH · rfl e189),oa (aK · rfl aGS rfl rfl aHF),?_,oa (aZ · rfl aHE),oa (gD · rfl rfl),oa (bD · rfl),aLz⟩
   .intro j h1 h2;have h1:0<=j:=h1;have h2:j<=1:=h2;rcases(by omega:j=0\/j=1) with rfl | rfl
    .exact kd (aJ · rfl aHi (bA e192))
    exact kd (aJ · rfl aHi (bA e187))
   intro j h1 h2;have h1:0<=j:=h1;have h2:j<=1:=h2;rcases(by omega:j=0\/j=1) with rfl | rfl
   .exact kd (aJ · rfl aHV (aV e193))
   exact kd (aJ · rfl aHV (aV e191))
  have u:Has 162 [(4,(bV (v183==(v190.n:Int))))] a:=u.sb rfl;refine t_n<|wp_ret<|?_;exact bI Try.results46 u rfl ⟨((v183==(v190.n:Int)),w184),rfl,h,rfl⟩
 refine wp_seq<|aA<|q u (gD u rfl rfl) fun a u=>qa u rfl fun a u=>aB<|t_n<|?_;refine aX u rfl h (fun b12 h=>?_) (fun b12 h=>?_)
 .refine wp_skip<|?_;exact hk11 ((v6==0),w2) h _ (u.sb rfl)
 refine aA<|q u (gD u rfl rfl) fun a u=>qa u rfl fun a u=>aB<|?_;exact hk11 ((v6==6),w2) h _ (u.sb rfl)
structure Dg where
 k:Int
 n:Int
 bs:List Int
 fs:List Int
def dgR (g:Gh) (w:World) (cs:List Value) (d:Dg):Prop:=∃ b f:Sl,cs=[.int .i64 d.k,.int .i64 d.n,b.v,f.v]/\PR g w b 1 (nums .u8 d.bs)/\PR g w f 1 (nums .i64 d.fs)/\bU d.bs/\-9223372036854775808<=d.n/\d.n<=9223372036854775807/\b.n<=140737488351232
theorem aCZ {g g':Gh} {w w':World} {cs:List Value} {d:Dg} (h:dgR g w cs d) (m:Mo g w g' w'):dgR g' w' cs d:=by
 obtain⟨b,f,e,h1,h2,h3⟩:=h;exact⟨b,f,e,h1.mo m,h2.mo m,h3⟩
def aBh (a n:Int):Int:=IntKind.wrap .i64 (IntKind.wrap .i64 (a+1)+IntKind.wrap .i64 ((IntKind.wrap .u64 n).tmod 1000))
def wB (l:Lg) (d:Dg):Int:=if d.k=6 then aBh l.high d.n else d.n
def jK (s:Dk×Lg) (d:Dg):Dk×Lg :=
 if d.k=0\/d.k=6 then (s.1.appendL s.2 (wB s.2 d) d.bs).2 else if d.k=1 then ((s.1.syncL s.2).2,s.2) else if d.k=2 then (s.1.chopL s.2 d.n).2 else if d.k=3 then ((s.1.trip d.n).2,s.2) else
 if d.k=4 then (((s.1.crash d.fs).openL 1 3).2.1,((s.1.crash d.fs).openL 1 3).2.2.getD s.2) else if d.k=5 then ((s.1.write d.n d.bs).2,s.2) else s
structure aCF (D:Dk) (l:Lg):Prop where
 bt:D.Bt
 n:D.S.length=52
 wf:l.Wf
 b:l.base=1
 s:l.segs=3
theorem aFd {D:Dk} (h:D.S.length=52):mQ D.S.length 1 3=true:=by rw[h];rfl
theorem rC {D:Dk} {fs:List Int}:(D.crash fs).Calm:=⟨rfl,rfl⟩
theorem vO {D:Dk} (hb:D.Bt) (hn:D.S.length=52) (hc:D.Calm):∃ l,(D.openL 1 3).2.2=some l/\(D.openL 1 3).1=0/\aCF (D.openL 1 3).2.1 l/\(D.openL 1 3).2.1.Calm/\(D.openL 1 3).2.1.W.length<=D.W.length+1000/\l.age=D.age:=by
 obtain⟨e,c,l,hl⟩:=aCr hc (aFd hn);obtain⟨h1,h2,h3,h4,h5⟩:=aEX hb (by omega) hl;have ht:=aEy (D:=D) (base:=1) (segs:=3);exact⟨l,hl,e,⟨ht.b hb,by rw[ht.s,hn],h1,h2,h3⟩,c,ht.w,h4⟩
theorem xO {D:Dk} {l:Lg} (h:aCF D l) {d:Dg} (hb:bU d.bs):aCF (jK (D,l) d).1 (jK (D,l) d).2/\(jK (D,l) d).1.W.length<=D.W.length+1000:=by
 unfold jK;simp only;split
 .have h1:=xE D l (wB l d) hb;have h2:=wZ (D:=D) (t:=wB l d) h.wf hb;exact⟨⟨h1.b h.bt,by rw[h1.s,h.n],h2.1,by rw[h2.2.1,h.b],by rw[h2.2.2.1,h.s]⟩,h1.w⟩
 split
 .have h1:=vQ D l;exact⟨⟨h1.b h.bt,by rw[h1.s,h.n],h.wf,h.b,h.s⟩,by have:=h1.w;simp only;omega⟩
 split
 .have h1:=zB D l d.n h.wf.len;have h2:=zD (D:=D) (t:=d.n) h.wf;exact⟨⟨h1.b h.bt,by rw[h1.s,h.n],h2.1,by rw[h2.2.1,h.b],by rw[h2.2.2.1,h.s]⟩,h1.w⟩
 split
 .obtain⟨h1,h2⟩:=aDR D d.n;exact⟨⟨⟨by rw[h1];exact h.bt.s,by rw[h2];exact h.bt.w⟩,by rw[h1,h.n],h.wf,h.b,h.s⟩,by simp only;rw[h2];omega⟩
 split
 .obtain⟨k,hk,-,ho,-,hw,-⟩:=vO (h.bt.crash d.fs) (by rw[tA h.bt,h.n]) (rC (D:=D) (fs:=d.fs));rw[hk];have:(D.crash d.fs).W.length=0:=rfl;exact⟨ho,by simp only;omega⟩
 split
 .have h1:=mT D d.n hb;exact⟨⟨h1.b h.bt,by rw[h1.s,h.n],h.wf,h.b,h.s⟩,by have:=h1.w;simp only;omega⟩
 exact⟨h,by simp only;omega⟩
def pgC (x c y e:Nat):List Value:=[.pointer (some ⟨x,0,none⟩),.pointer (some ⟨c,0,none⟩),.pointer (some ⟨y,0,none⟩),.pointer (some ⟨e,0,none⟩)]
abbrev pgR (p x c y e:Nat):Rs:=bxR p (pgC x c y e) 85
structure Pg (F0:Nat->Prop) (g0:Gh) (w0:World) (g:Gh) (w:World) (p x c y e:Nat) (s:Dk×Lg) (L:List Rs):Prop where
 H:Hp F0 g0 w0 g w (pgR p x c y e::dkR x s.1::rdR y s.1::lgR c x s.2::rlR e y s.2::L)
 ok:aCF s.1 s.2
section
variable {F0 : Nat -> Prop} {g g' g0 : Gh} {w w' w0 : World} {L : List Rs} {p x y c e : Nat} {D : Dk} {l : Lg} {a b r s t : Rs}
theorem Hp.s2 (H:Hp F0 g0 w0 g w (a::b::r::L)):Hp F0 g0 w0 g w (a::r::b::L):=⟨H.sp,H.sep.cons fun _ h=>h.sw⟩
theorem Hp.t2 (H:Hp F0 g0 w0 g w (a::b::r::s::t::L)):Hp F0 g0 w0 g w (a::b::s::t::r::L):=⟨H.sp,H.sep.cons fun _ h=>h.cons fun _ h=>h.sw.cons fun _ h=>h.sw⟩
theorem Hp.mem (H:Hp F0 g0 w0 g w L) (h:r∈L):∃ F,r.h g w F:=by
 obtain⟨A,B,rfl⟩:=List.append_of_mem h;exact H.app_cons.hd
theorem aBs {q1 q2:Option Addr} (H:Hp F0 g0 w0 g w (bxR p [.pointer (some ⟨x,0,none⟩),.pointer q1,.pointer (some ⟨y,0,none⟩),.pointer q2] 85::dkR x D::rdR y D::L)) (hb:D.Bt) (hn:D.S.length=52) (hc:D.Calm) (hW:D.W.length<700000) {Φ:Bool×World->Prop}
  (hΦ:∀ g' w' c e l,(D.openL 1 3).2.2=some l->Pg F0 g0 w0 g' w' p x c y e ((D.openL 1 3).2.1,l) L->Mo g w g' w'->Φ (true,w')):(eJ (some ⟨p,0,none⟩) w).t Φ:=by
 obtain⟨l,hl,h0,hok,-,hWo,-⟩:=vO hb hn hc;unfold eJ;refine Nd.s1 (Nd.b1 (qF H.bx rfl) (Nd.j3 (Ψ:=fun r=>∃ c g',r.1=some ⟨c,0,none⟩/\r.2.1=0/\Hp F0 g0 w0 g' r.2.2 (lgR c x l::dkR x (D.openL 1 3).2.1::bxR p [.pointer (some ⟨x,0,none⟩),.pointer q1,.pointer (some ⟨y,0,none⟩),.pointer q2] 85::rdR y D::L)/\Mo g w g' r.2.2) (vX H.sw hb (by omega) (by decide) fun g' w' o ho m'=>?_) ?_))
 .rw[hl] at ho;obtain⟨c,rfl,H'⟩:=ho;exact⟨c,g',rfl,h0,H',m'⟩
 rintro _ _ w1 ⟨c,g1,rfl,rfl,H1,m1⟩;simp only at H1 m1;refine Nd.b1 (qF H1.m2.bx rfl) (Nd.j3 (Ψ:=fun r=>∃ e g',r.1=some ⟨e,0,none⟩/\r.2.1=0/\Hp F0 g0 w0 g' r.2.2 (rlR e y l::rdR y (D.openL 1 3).2.1::lgR c x l::dkR x (D.openL 1 3).2.1::bxR p [.pointer (some ⟨x,0,none⟩),.pointer q1,.pointer (some ⟨y,0,none⟩),.pointer q2] 85::L)/\Mo g w g' r.2.2) (aCu H1.m3 hb (by omega) (by decide) fun g' w' o ho m'=>?_) ?_)
 .rw[hl] at ho;obtain⟨c,rfl,H'⟩:=ho;exact⟨c,g',rfl,h0,H',m1.t m'⟩
 rintro _ _ w2 ⟨e,g2,rfl,rfl,H2,m2⟩;simp only at H2 m2;obtain⟨w3,e3,H3,m3⟩:=H2.m4.stV (o:=1) (x:=.pointer (some ⟨c,0,none⟩)) (by simp) rfl;obtain⟨w4,e4,H4,m4⟩:=H3.stV (o:=3) (x:=.pointer (some ⟨e,0,none⟩)) (by simp) rfl;have H4:Hp F0 g0 w0 g2 w4 (pgR p x c y e::rlR e y l::rdR y (D.openL 1 3).2.1::lgR c x l::dkR x (D.openL 1 3).2.1::L):=H4;refine Nd.j2 (Ψ:=fun r=>r=(false,w2)) (Nd.f (by simp) (Nd.ret rfl)) ?_;rintro _ _ he;cases he;refine Nd.f (by simp) (Nd.j1 (Ψ:=fun r=>r=w4) (Nd.t (by simp) (Nd.b1 (by rw[aD];exact e3) (Nd.b1 (by rw[aD];exact e4) (Nd.ret rfl)))) ?_);rintro _ rfl;exact Nd.ret (hΦ g2 _ c e l hl ⟨H4.m4.sw.t2,hok⟩ (m2.t (m3.t m4)))
end
theorem aCT {l:Lg} (h:l.Wf) {r:Int×List Int} (hr:r∈l.all):r.1<=l.high:=by
 obtain⟨u,hu,hr'⟩:=aLi.1 (show r∈l.used.flatMap fun s=>s.recs from hr);have h1:=((h.seg u hu).rb r hr').2.2;have h2:=h.hh u hu;omega
def HB (c:Int) (b:List Int):Prop:=∀ j,4<=j->j<12->b.getD j 0<=if j=4 then 128 else if j=11 then c else 0
def Hd3 (i:Int):Prop:=i=3\/i=19\/i=35
structure DHB (c:Int) (D:Dk):Prop where
 s:∀ i:Nat,Hd3 i->HB c (D.S.getD i [])
 w:∀ x∈D.W,Hd3 x.1->HB c x.2
 l:∀ x∈D.W,x.2.length=64
section
variable {c c' : Int} {D : Dk} {a b : List Int} {m : Nat} {l : Lg}
theorem HB.of0 (hc:0<=c) {j:Nat} (h:b.getD j 0=0):b.getD j 0<=if j=4 then 128 else if j=11 then c else 0:=by
 rw[h];split<;>(try split)<;>omega
theorem HB.mono (h:HB c b) (hc:c<=c'):HB c' b:=fun j h1 h2=>by
 have:=h j h1 h2;split<;>(try split)<;>simp_all<;>omega
theorem HB.nil (hc:0<=c):HB c []:=fun j _ _=>HB.of0 hc (by simp)
theorem HB.mix (h1:HB c a) (h2:HB c b) (hm:m<=a.length):HB c (a.take m++b.drop m):=fun j j1 j2=>by
 have hl:(a.take m).length=m:=by rw[aIN];omega
 by_cases hj:j<m
 .have e:(a.take m++b.drop m).getD j 0=a.getD j 0:=by
   rw[aIu,aIu,aID (by omega),aIV,if_pos hj]
  rw[e];exact h1 j j1 j2
 have e:(a.take m++b.drop m).getD j 0=b.getD j 0:=by
  rw[aIu,aIu,aII (by omega),aJi,hl,show m+(j-m)=j by omega]
 rw[e];exact h2 j j1 j2
theorem HB.pad (hc:0<=c) (h:HB c b):HB c (pad b):=fun j j1 j2=>by
 unfold D.pad;by_cases hj:j<b.length
 .have e:(b++List.replicate (64-b.length) 0).getD j 0=b.getD j 0:=by
   rw[aIu,aIu,aID hj]
  rw[e];exact h j j1 j2
 refine HB.of0 hc ?_;rw[aIu,aII (by omega),aKF];split<;>rfl
theorem HB.laid {s h:Int} (h0:0<=s) (hc:s<=c) (h1:c<=255):HB c (lL 1 (fK s++fK h) true):=fun j j1 j2=>by
 have hk:fK s=[(s+9223372036854775808) / 72057594037927936 % 256,(s+9223372036854775808) / 281474976710656 % 256,(s+9223372036854775808) / 1099511627776 % 256,(s+9223372036854775808) / 4294967296 % 256,(s+9223372036854775808) / 16777216 % 256,(s+9223372036854775808) / 65536 % 256,(s+9223372036854775808) / 256 % 256,(s+9223372036854775808) / 1 % 256]:=rfl;unfold lL;rw[hk];have:j=4\/j=5\/j=6\/j=7\/j=8\/j=9\/j=10\/j=11:=by omega
 rcases this with rfl | rfl | rfl | rfl | rfl | rfl | rfl | rfl<;>simp<;>omega
theorem aFD {pos:Int} {s:Sg} (hh:nA pos b=some s) (h:HB c b):s.seq<=c:=by
 unfold nA at hh;split at hh
 .rename_i hc;cases hh;show eY (bL b).2.1 0<=c;simp only[zM,aIz,decide_eq_true_eq] at hc;obtain⟨⟨⟨h1,-⟩,h3⟩,-⟩:=hc;unfold bL at h1 h3 ⊢;by_cases hg:sD b=true
  .rw[if_pos hg] at h1 h3 ⊢;simp only at h3 ⊢;have hl:b.length=64:=by
    unfold sD at hg;simp only[aIz,decide_eq_true_eq] at hg;exact hg.1.1.1.1.1.1.1.1
   obtain⟨n,hn⟩:∃ n,(b.getD 2 0).toNat=n:=⟨_,rfl⟩;rw[hn] at h3 ⊢;rw[aIN,aIY,hl] at h3;have e8:(List.take 8 (List.drop 0 (List.take n (List.drop 4 b))))=(b.drop 4).take 8:=by
    rw[aJj,List.take_take,show min 8 n=8 by omega]
   unfold eY;rw[e8];obtain⟨x0,x1,x2,x3,x4,x5,x6,x7,e⟩:=aFA (l:=(b.drop 4).take 8) (by simp[hl]);have hx:∀ i,i<8->b.getD (4+i) 0=[x0,x1,x2,x3,x4,x5,x6,x7].getD i 0:=fun i hi=>by
    rw[<-e,aIu,aIu,aIV,if_pos hi,aJi]
   have k0:=h 4 (by omega) (by omega);have k1:=h 5 (by omega) (by omega);have k2:=h 6 (by omega) (by omega);have k3:=h 7 (by omega) (by omega);have k4:=h 8 (by omega) (by omega);have k5:=h 9 (by omega) (by omega);have k6:=h 10 (by omega) (by omega);have k7:=h 11 (by omega) (by omega);rw[hx 0 (by omega)] at k0;rw[hx 1 (by omega)] at k1;rw[hx 2 (by omega)] at k2;rw[hx 3 (by omega)] at k3;rw[hx 4 (by omega)] at k4;rw[hx 5 (by omega)] at k5;rw[hx 6 (by omega)] at k6;rw[hx 7 (by omega)] at k7;simp at k0 k1 k2 k3 k4 k5 k6 k7;rw[e];simp only[be,aJn,List.foldl_nil];omega
  rw[if_neg hg] at h1;cases h1
 cases hh
theorem zV (D:Dk):D.trips.2.S=D.S/\D.trips.2.W=D.W:=by unfold Dk.trips;split<;>exact⟨rfl,rfl⟩
theorem DHB.of (h:DHB c D) {E:Dk} (h1:E.S=D.S) (h2:E.W=D.W):DHB c E:=⟨by rw[h1];exact h.s,by rw[h2];exact h.w,by rw[h2];exact h.l⟩
theorem DHB.mono (h:DHB c D) (hc:c<=c'):DHB c' D:=⟨fun i hi=>(h.s i hi).mono hc,fun x hx hi=>(h.w x hx hi).mono hc,h.l⟩
theorem DHB.write (h:DHB c D) (hc:0<=c) {i:Int} (hb:Hd3 i->HB c b):DHB c (D.write i b).2:=by
 obtain⟨t1,t2⟩:=zV D;unfold Dk.write;split;· exact h
 split;· exact h
 split;· exact h
 rename_i hl;split
 .exact h.of t1 t2
 refine⟨by show ∀ i:Nat,Hd3 i->HB c (D.trips.2.S.getD i []);rw[t1];exact h.s,fun x hx hi=>?_,fun x hx=>?_⟩
 .have hx':x∈D.W++[(i,pad b)]:=hx;rcases aIG.1 hx' with h' | h'
  .exact h.w x h' hi
  simp at h';subst h';exact(hb hi).pad hc
 have hx':x∈D.W++[(i,pad b)]:=hx;rcases aIG.1 hx' with h' | h'
 .exact h.l x h'
 simp at h';subst h';simp only[pad,aIE,aIM];omega
theorem DHB.write0 (h:DHB c D) (hc:0<=c) (i:Int):DHB c (D.write i []).2:=h.write hc fun _=>HB.nil hc
theorem yS {S:List (List Int)} (hS:∀ i:Nat,Hd3 i->HB c (S.getD i [])) {x:Int×List Int} (hx:Hd3 x.1->HB c x.2) (hl:x.2.length=64) (hm:m<=64):∀ i:Nat,Hd3 i->HB c ((oA S x m).getD i []):=fun i hi=>by
 unfold oA;by_cases he:x.1.toNat=i
 .subst he;have hx1:x.1=(x.1.toNat:Int):=by unfold Hd3 at hi;omega
  have h1:=hx (by rw[hx1];exact hi);have h2:=hS _ hi;by_cases hk:x.1.toNat<S.length
  .rw[aIu,aJp hk,aJb];exact h1.mix h2 (by omega)
  rw[List.set_eq_of_length_le (by omega)];exact h2
 rw[aIu,aKu he,<-aIu];exact hS i hi
theorem DHB.sync (h:DHB c D):DHB c D.sync.2:=by
 obtain⟨t1,t2⟩:=zV D;unfold Dk.sync;split;· exact h
 split;· exact h.of t1 t2
 refine⟨?_,fun x hx=>(by cases hx),fun x hx=>(by cases hx)⟩;have:∀ (W:List (Int×List Int)) (S:List (List Int)),(∀ x∈W,(Hd3 x.1->HB c x.2)/\x.2.length=64)->(∀ i:Nat,Hd3 i->HB c (S.getD i []))->∀ i:Nat,Hd3 i->HB c ((W.foldl (fun S x=>oA S x 64) S).getD i []):=by
  intro W
  induction W with
  | nil=>exact fun S _ h=>h
  | cons x W ih=>exact fun S hW h=>ih _ (fun y hy=>hW y (by simp[hy])) (yS h (hW x (by simp)).1 (hW x (by simp)).2 (by omega))
 exact this D.W D.S (fun x hx=>⟨h.w x hx,h.l x hx⟩) h.s
theorem DHB.crash (h:DHB c D) (fs:List Int):DHB c (D.crash fs):=by
 refine⟨?_,fun x hx=>(by cases hx),fun x hx=>(by cases hx)⟩;have:∀ (W:List (Int×List Int)) (k:Nat) (S:List (List Int)),(∀ x∈W,(Hd3 x.1->HB c x.2)/\x.2.length=64)->(∀ i:Nat,Hd3 i->HB c (S.getD i []))->∀ i:Nat,Hd3 i->HB c ((pD fs k W S).getD i []):=by
  intro W
  induction W with
  | nil=>exact fun k S _ h=>h
  | cons x W ih =>
   intro k S hW h;refine ih (k+1) _ (fun y hy=>hW y (by simp[hy])) ?_;unfold kA;split
   .exact yS h (hW x (by simp)).1 (hW x (by simp)).2 (by omega)
   split
   .refine yS h (hW x (by simp)).1 (hW x (by simp)).2 ?_;have:=aKC ((lN fs k).tdiv 3) (show(0:Int)<64 by decide);omega
   exact h
 exact this D.W 0 D.S (fun x hx=>⟨h.w x hx,h.l x hx⟩) h.s
theorem DHB.cur (h:DHB c D) {i:Nat} (hi:Hd3 i):HB c (D.cur i):=by
 unfold Dk.cur;have:∀ (W:List (Int×List Int)) (b:List Int),(∀ x∈W,Hd3 x.1->HB c x.2)->HB c b->HB c (W.foldl (fun b x=>if x.1=(i:Int) then x.2 else b) b):=by
  intro W
  induction W with
  | nil=>exact fun b _ h=>h
  | cons x W ih =>
   intro b hW h;refine ih _ (fun y hy=>hW y (by simp[hy])) ?_;show HB c (if x.1=(i:Int) then x.2 else b);split
   .rename_i e;exact hW x (by simp) (by rw[e];exact hi)
   exact h
 exact this D.W _ h.w (h.s i hi)
theorem DHB.read (h:DHB c D) (hc:0<=c) {i:Nat} (hi:Hd3 i):HB c (D.read i).1:=by
 unfold Dk.read;split;· exact HB.nil hc
 split;· exact HB.nil hc
 exact h.cur hi
theorem DHB.put (h:DHB c D) (hc:0<=c) (t:Int):DHB c (D.put 1 1 0 t).2:=by
 have hi:∀ x:Int,Hd3 (1+2*0+x % 2)->False:=fun x hx=>by unfold Hd3 at hx;omega
 unfold Dk.put;split;· exact h
 split;· exact h
 split;· exact h
 split
 .exact h.write hc fun hx=>(hi _ hx).elim
 exact(h.write hc fun hx=>(hi _ hx).elim).sync
theorem DHB.wipe (hc:0<=c) {pos:Int}:∀ (m:Nat) (D:Dk) (i n:Int),DHB c D->DHB c (D.wipe 1 pos m i n).2.2
 | 0,D,i,n,h=>h
 | m+1,D,i,n,h=>by
  unfold Dk.wipe;split
  .exact DHB.wipe hc m D (i+1) n h
  split
  .exact DHB.wipe hc m _ (i+1) (n+1) (h.write0 hc _)
  exact h.write0 hc _
theorem DHB.free (hc:0<=c) {rel:Int}:∀ (us:List Sg) (D:Dk),DHB c D->DHB c (D.free 1 rel us).2.1
 | [],D,h=>h
 | u::us,D,h=>by
  rw[jG];split
  .exact DHB.free hc us D h
  split
  .exact DHB.free hc us _ (h.write0 hc _)
  exact h.write0 hc _
theorem DHB.wipeLast (hc:0<=c) (us:List Sg) (h:DHB c D):DHB c (wipeLast D 1 us).2.2:=by
 unfold Go.Proofs.Ytejkaciimmfgcaa.D.wipeLast;split
 .exact DHB.wipe hc _ _ _ _ h
 exact h
theorem DHB.fresh (h:DHB c D) (h0:0<=c) (hb:l.base=1) (hq:0<=nJ l.used) (hc:nJ l.used<=c) (h1:c<=255):DHB c (D.fresh l).2:=by
 unfold Dk.fresh;rw[hb];split;· exact h
 split;· exact h
 split;· exact DHB.wipe h0 _ _ _ _ h
 split;· exact(DHB.wipe h0 _ _ _ _ h).sync
 exact(DHB.wipe h0 _ _ _ _ h).sync.write h0 fun _=>HB.laid hq hc h1
theorem DHB.puts (h0:0<=c) {pos:Int}:∀ (m:Nat) (D:Dk) (i k:Int) (all:List Int),1<=i->i+m<=16->DHB c D->DHB c (D.puts 1 pos m i k all).2
 | 0,D,i,k,all,_,_,h=>h
 | m+1,D,i,k,all,hi,hm,h=>by
  have hn:Hd3 (1+2+pos*16+i)->False:=fun hx=>by unfold Hd3 at hx;omega
  unfold Dk.puts;split;· exact h
  split
  .exact DHB.puts h0 m _ (i+1) 3 _ (by omega) (by omega) (h.write h0 fun hx=>(hn hx).elim)
  exact h.write h0 fun hx=>(hn hx).elim
structure RI (c:Int) (D:Dk) (l:Lg):Prop where
 d:DHB c D
 q:∀ s∈l.used,s.seq<=c
 u:l.high=l.rel->l.used.length<=1
theorem aBv (h0:0<=c) (h:∀ s∈l.used,s.seq<=c) (hw:l.Wf):0<=nJ l.used/\nJ l.used<=c+1:=by
 unfold nJ;split
 .rename_i s hs;have:=h s (aIL hs);have:=(hw.seg s (aIL hs)).q0;omega
 omega
theorem zN (hw:l.Wf) (n:Nat) (hn:n<=7):1<=(iR l n).fin/\(iR l n).fin+n<=16:=by
 unfold iR fY
 cases hg:l.used.getLast? with
 | none=>simp;omega
 | some u =>
  have:=(hw.seg u (aIL hg)).f0;simp only;split
  .simp only;omega
  rename_i h;simp at h ⊢;omega
theorem aCB {t:Int} {body:List Int} (hw:l.Wf) (hb:l.base=1) (h0:0<=c) (h1:c+1<=255) (h:RI c D l):RI (c+1) (D.appendL l t body).2.1 (D.appendL l t body).2.2:=by
 have k:RI (c+1) D l:=⟨h.d.mono (by omega),fun s hs=>by have:=h.q s hs;omega,h.u⟩;have hq:=aBv h0 h.q hw;have hf:=k.d.fresh (by omega) hb hq.1 hq.2 h1;unfold Dk.appendL;split;· exact k
 split;· exact k
 split;· exact k
 rename_i g1 g2 g3;by_cases h4:fY l.used (bN body)=true/\(D.fresh l).1≠0
 .rw[if_pos h4];exact⟨hf,k.q,k.u⟩
 rw[if_neg h4];have hsb:bN body<=7:=by unfold bN;omega
 have hcf:=zN hw (bN body) hsb;have hp:DHB (c+1) ((if fY l.used (bN body)=true then (D.fresh l).2 else D).puts l.base (iR l (bN body)).pos (bN body) (iR l (bN body)).fin 2 (fK t++body)).2:=by
  rw[hb];refine DHB.puts (by omega) _ _ _ _ _ hcf.1 hcf.2 ?_;split
  .exact hf
  exact k.d
 obtain⟨r,hr⟩:∃ r,(if fY l.used (bN body)=true then (D.fresh l).2 else D).puts l.base (iR l (bN body)).pos (bN body) (iR l (bN body)).fin 2 (fK t++body)=r:=⟨_,rfl⟩;rw[hr] at hp ⊢;by_cases h5:r.1≠0
 .rw[if_pos h5];exact⟨hp,k.q,k.u⟩
 rw[if_neg h5];refine⟨hp,fun s hs=>?_,fun e=>?_⟩
 .have hs':s∈(if fY l.used (bN body)=true then l.used else l.used.dropLast)++[⟨(iR l (bN body)).pos,(iR l (bN body)).seq,(iR l (bN body)).fin+bN body,t,(iR l (bN body)).recs++[(t,body)]⟩]:=hs;rcases aIG.1 hs' with h' | h'
  .refine k.q s ?_;split at h'
   .exact h'
   exact(List.dropLast_sublist _).subset h'
  simp at h';subst h';show(iR l (bN body)).seq<=c+1;unfold iR;split
  .exact hq.2
  rename_i hbg
  cases hg:l.used.getLast? with
  | none=>unfold fY at hbg;rw[hg] at hbg;exact(hbg rfl).elim
  | some u=>exact k.q u (aIL hg)
 have e':t=l.rel:=e;have:=hw.r1;omega
theorem tH {rel:Int}:∀ {us:List Sg} {D:Dk},(∀ s∈us,s.high<=rel)->(D.free 1 rel us).2.2.length<=1
 | [],D,_=>by simp[Dk.free]
 | u::us,D,h=>by
  rw[jG];split
  .rename_i hh;rcases hh with rfl | hh
   .simp[Dk.free]
   have:=h u (by simp);omega
  split
  .exact tH fun s hs=>h s (by simp[hs])
  simp
theorem aEw {t:Int} (hw:l.Wf) (hb:l.base=1) (h0:0<=c) (h:RI c D l):RI c (D.chopL l t).2.1 (D.chopL l t).2.2:=by
 have h1:=h.d.put h0 t;have h2:=DHB.free h0 (rel:=t) l.used _ h1;unfold Dk.chopL;rw[hb];split;· exact h
 split;· exact h
 split;· exact h
 split;· exact⟨h1,h.q,h.u⟩
 split;· exact⟨h2,h.q,h.u⟩
 have key:∀ E:Dk,DHB c E->RI c E { l with rel:=t,used:=((D.put 1 1 0 t).2.free 1 t l.used).2.2 }:=fun E hE =>
  ⟨hE,fun s hs=>h.q s (nH hs),fun e=>tH fun s hs=>by have h1:=hw.hh s hs;have e':l.high=t:=e;omega⟩
 rw[hb] at key;split
 .split
  .exact⟨h2.sync,h.q,h.u⟩
  exact key _ h2.sync
 exact key _ h2
theorem zI {base:Int}:∀ {us:List Sg} {h:Int} {ds:List Sg},(D.segs base us h ds).2.map (fun s=>s.seq)=ds.map (fun s=>s.seq)++us.map (fun s=>s.seq)
 | [],_,_=>by simp[Dk.segs]
 | u::us,h,ds=>by rw[Dk.segs,zI];simp
theorem aFQ (h0:0<=c) (h:DHB c D):∀ s∈(D.readL 1 3).used,s.seq<=c:=fun s hs=>by
 have hp:s.seq∈(D.segs 1 ((D.heads 1 (3:Int).toNat).foldl jM []) 0 []).2.map (fun s=>s.seq):=aIP.2 ⟨s,hs,rfl⟩;rw[zI] at hp;simp only[List.map_nil,aJL,aIP] at hp;obtain⟨u,hu,hpu⟩:=hp;rcases mX hu with h' | h'
 .obtain⟨k,hk,hs⟩:=List.mem_filterMap.1 h';have hk:=aIO.1 hk;have hk3:k<3:=hk;have e:(1+2+(k:Int)*16+0)=((3+k*16:Nat):Int):=by omega
  have:=aFD hs (by unfold Dk.look;rw[e];exact h.read h0 (by unfold Hd3;omega));omega
 cases h'
theorem aEC {k:Lg} (hbt:D.Bt) (hn:D.S.length=52) (h0:0<=c) (h:DHB c D) (hk:(D.openL 1 3).2.2=some k):RI c (D.openL 1 3).2.1 k:=by
 have hl:mQ D.S.length 1 3=true:=aFd hn;have hw:=aAD hbt (by omega) hl;have hq:=aFQ h0 h;unfold Dk.openL at hk ⊢;split at hk;· cases hk
 rename_i hd;rw[if_neg hd];rw[if_pos hl];obtain⟨R,hR⟩:∃ R,D.readL 1 3=R:=⟨_,rfl⟩;have hRb:R.base=1:=by rw[<-hR];rfl
 rw[hR] at hw hq hk ⊢;have ht:=(aCd hw hk).1;have h1:=DHB.free h0 (rel:=R.rel) R.used D h;have h2:=h1.wipeLast h0 (D.free 1 R.rel R.used).2.2;refine⟨?_,fun s hs=>?_,fun e=>?_⟩
 .unfold Dk.tidy;rw[hRb];split;· exact h1
  split;· exact h2
  split
  .split
   .exact h2.sync
   exact h2.sync
  exact h2
 .rw[ht,hRb] at hs;exact hq s (nH hs)
 rw[ht,hRb] at e ⊢;exact tH fun s hs=>by have h1:=hw.hh s hs;have e':R.high=R.rel:=e;omega
theorem aEJ {d:Dg} (hk:aCF D l) (h0:0<=c) (h1:c+1<=255) (h5:d.k≠5) (h:RI c D l):RI (c+1) (jK (D,l) d).1 (jK (D,l) d).2:=by
 have up:∀ {E:Dk} {k:Lg},RI c E k->RI (c+1) E k:=fun h=>⟨h.d.mono (by omega),fun s hs=>by have:=h.q s hs;omega,h.u⟩;unfold jK;simp only;split;· exact aCB hk.wf hk.b h0 h1 h
 split
 .refine up ⟨?_,h.q,h.u⟩;unfold Dk.syncL;split
  .exact h.d
  exact h.d.sync
 split;· exact up (aEw hk.wf hk.b h0 h)
 split
 .refine up ⟨?_,h.q,h.u⟩;obtain⟨t1,t2⟩:=aDR D d.n;exact h.d.of t1 t2
 split
 .obtain⟨k,hk',-,-⟩:=vO (hk.bt.crash d.fs) (by rw[tA hk.bt,hk.n]) (rC (D:=D) (fs:=d.fs));rw[hk'];exact up (aEC (hk.bt.crash d.fs) (by rw[tA hk.bt,hk.n]) h0 (h.d.crash _) hk')
 exact up h
end
section
variable {F0 : Nat -> Prop} {g g' g0 : Gh} {w w' w0 : World} {L : List Rs} {p x y c e : Nat} {D : Dk} {l : Lg} {z : Sl} {T : TypeId}
theorem aDX (hz:z.n<=140737488351232) {Φ:World->Prop}:∀ (m j:Nat) (xs:List Int) (w:World),m+j=xs.length->Hp F0 g0 w0 g w (owR T 1 z (nums .u8 xs)::L)->(∀ w' xs',Hp F0 g0 w0 g w' (owR T 1 z (nums .u8 xs')::L)->Mo g w g w'->Φ w') ->
  (fB (fun s:Int×World=>dX z s.1 s.2) ((j:Int),w)).t Φ:=by
 intro m
 induction m with
 | zero =>
  intro j xs w hm H hΦ;have hn:xs.length=z.n:=by have:=H.ow.len;simpa using this
  refine Nd.next ?_
  unfold dX;exact Nd.f (by simp;omega) (Nd.ret (hΦ w xs H Mo.r))
 | succ m ih =>
  intro j xs w hm H hΦ;have hn:xs.length=z.n:=by have:=H.ow.len;simpa using this
  have hj:j<xs.length:=by omega
  obtain⟨b,rest,hp,-,-⟩:=H.ow.at_ (by omega);obtain⟨a,ea,la⟩:=H.ow.ixI (i:=j) (k:=.u8) (x:=xs[j]) (by rw[lY,aIs hj];rfl);have ei:ix z (j:Int) 1=some ⟨b,j,none⟩:=by unfold D.ix;rw[hp,aLx,if_pos ⟨by omega,by omega⟩,aD];simp
  rw[ei] at ea;cases ea;obtain⟨w2,e2,H2,m2⟩:=H.oset (o:=j) (x:=.int .u8 (uE .u8 xs[j] 65)) hp (by omega) (by simpa using hj) rfl;rw[show(nums .u8 xs).set j (.int .u8 (uE .u8 xs[j] 65))=nums .u8 (xs.set j (uE .u8 xs[j] 65)) by simp[nums,aLo]] at H2;refine Nd.next ?_
  unfold dX;refine Nd.t (by simp;omega) (Nd.b1 ei (Nd.b1 la (Nd.b1 ei (Nd.b1 e2 (Nd.ret ?_)))));show(fB _ (IntKind.wrap .i64 ((j:Int)+1),w2)).t Φ;rw[cC (by omega)];exact ih (j+1) _ w2 (by simp;omega) H2 (fun w' xs' H' m'=>hΦ w' xs' H' (m2.t m'))
theorem aDy (a n:Int) (w:World):iO a n w=some (aBh a n,w):=by
 unfold iO rmI aBh;rw[if_neg (by decide),aLx]
theorem yK (h:l.Wf):l.vis.length<=10000:=by
 have h1:=h.len;have key:∀ us:List Sg,(∀ s∈us,s.recs.length<=16)->(us.flatMap fun s=>s.recs).length<=16*us.length:=by
  intro us
  induction us with
  | nil=>intro _;simp
  | cons u us ih =>
   intro hu;have a1:=hu u (by simp);have a2:=ih fun s hs=>hu s (by simp[hs]);rw[aIQ,aIE,aIH];omega
 have h2:=key l.used fun s hs=>by have:=(h.seg s hs).rn;have:=(h.seg s hs).f1;omega
 have h3:l.vis.length<=l.all.length:=aJU _ _;have h4:l.all.length=(l.used.flatMap fun s=>s.recs).length:=rfl;omega
theorem Pg.p0 (h:Hp F0 g0 w0 g w (pgR p x c y e::L)):ldP w ⟨p,0,none⟩=some (some ⟨x,0,none⟩):=qF h.bx rfl
theorem Pg.p1 (h:Hp F0 g0 w0 g w (pgR p x c y e::L)):ldP w ⟨p,1,none⟩=some (some ⟨c,0,none⟩):=qF h.bx rfl
theorem Pg.p2 (h:Hp F0 g0 w0 g w (pgR p x c y e::L)):ldP w ⟨p,2,none⟩=some (some ⟨y,0,none⟩):=qF h.bx rfl
theorem Pg.p3 (h:Hp F0 g0 w0 g w (pgR p x c y e::L)):ldP w ⟨p,3,none⟩=some (some ⟨e,0,none⟩):=qF h.bx rfl
theorem Pg.lg (H:Hp F0 g0 w0 g w (pgR p x c y e::dkR x D::rdR y D::lgR c x l::rlR e y l::L)):Hp F0 g0 w0 g w (lgR c x l::dkR x D::pgR p x c y e::rdR y D::rlR e y l::L):=H.m3.s2
theorem Pg.rl {l':Lg} {D':Dk} (H:Hp F0 g0 w0 g w (lgR c x l'::dkR x D'::pgR p x c y e::rdR y D::rlR e y l::L)):Hp F0 g0 w0 g w (rlR e y l::rdR y D::lgR c x l'::dkR x D'::pgR p x c y e::L):=H.m4.m4.sw
theorem Pg.back (H:Hp F0 g0 w0 g w (rlR e y l::rdR y D::lgR c x l::dkR x D::pgR p x c y e::L)):Hp F0 g0 w0 g w (pgR p x c y e::dkR x D::rdR y D::lgR c x l::rlR e y l::L):=H.m4.m4.sw.t2
theorem aGd {cs:List Value} {d:Dg} (h:Pg F0 g0 w0 g w p x c y e (D,l) L) (hd:dgR g w cs d) (hW:D.W.length<600000) {Φ:Bool×World->Prop}
  (hΦ:∀ g' w' c' e',Pg F0 g0 w0 g' w' p x c' y e' (jK (D,l) d) L->Mo g w g' w'->Φ (true,w')):(gY (some ⟨p,0,none⟩) cs w).t Φ:=by
 obtain⟨b,f,rfl,hb,hf,hby,hn0,hn1,hbz⟩:=hd;obtain⟨hok',-⟩:=xO h.ok hby;have hok:=h.ok;simp only at hok;have hbn:=hok.b;have hsn:=hok.s;have hSn:=hok.n;obtain⟨q,g1,w1,e1,H1,m1,b1⟩:=h.H.boxK 82 [.int .i64 d.k,.int .i64 d.n,b.v,f.v];simp only at H1;have rk:∀ {g' w'},Mo g1 w1 g' w'->ldI .i64 w' ⟨q,0,none⟩=some d.k/\ldI .i64 w' ⟨q,1,none⟩=some d.n/\ldL w' ⟨q,2,none⟩=some b/\ldL w' ⟨q,3,none⟩=some f :=
  fun m=>⟨lP (b1.mo m).at_ rfl,lP (b1.mo m).at_ rfl,pE (b1.mo m).at_ rfl,pE (b1.mo m).at_ rfl⟩
 have r1:=rk Mo.r;unfold gY;refine Nd.b2 e1 (Nd.b1 (by rw[aD];exact r1.2.1) (Nd.b1 (by rw[aD];exact r1.1) (Nd.j2 (Ψ:=fun r=>r=(decide (d.k=0\/d.k=6),w1)) ?_ ?_)))
 .by_cases h0:d.k=0
  .exact Nd.t (by simpa using h0) (Nd.ret (by simp[h0]))
  exact Nd.f (by simpa using h0) (Nd.ret (by simp[h0];rfl))
 rintro _ _ he;cases he;by_cases t0:d.k=0\/d.k=6
 .have hD:jK (D,l) d=(D.appendL l (wB l d) d.bs).2:=by unfold jK;rw[if_pos t0]
  rw[hD] at hΦ hok';refine Nd.t (by simpa using t0) (Nd.j2 (Ψ:=fun r=>r.1=wB l d/\Hp F0 g0 w0 g1 r.2 (pgR p x c y e::dkR x D::rdR y D::lgR c x l::rlR e y l::L)/\Mo g1 w1 g1 r.2) (Nd.b1 (by rw[aD];exact r1.1) ?_) ?_)
  .unfold wB;by_cases h6:d.k=6
   .obtain⟨w2,e2,H2,m2⟩:=H1.dr;obtain⟨su,sr,rz,hz,H3⟩:=(H2.m4).rlo;have lh:ldI .i64 w2 ⟨e,4,none⟩=some l.high:=H3.ldI rfl;exact Nd.t (by simpa using h6) (Nd.b1 e2 (Nd.s1 (Nd.b1 (by rw[aD];exact Pg.p3 H2) (Nd.s1 (Nd.b1 (by rw[aD,aD];exact lh) (Nd.b1 (by rw[aD];exact(rk m2).2.1) (Nd.b2 (aDy _ _ _) (Nd.ret ⟨by rw[if_pos h6],H2,m2⟩))))))))
   exact Nd.f (by simpa using h6) (Nd.ret ⟨by rw[if_neg h6],H1,Mo.r⟩)
  rintro _ w2 ⟨rfl,H2,m2⟩;simp only at H2 m2 ⊢;obtain⟨s3,w3,e3,n3,_,H3,m3⟩:=H2.bsl (T:=5) (sz:=1) (ps:=[]) (by intro p hp;cases hp) (by simp);have hbr:=hb.mo (m1.t (m2.t m3));have hbl:d.bs.length=b.n:=by have:=hbr.rd.len;simpa using this
  obtain⟨s4,w4,e4,n4,H4,m4⟩:=H3.apS mS hbr.rd dU (by rw[n3];simp;omega);have H4:Hp F0 g0 w0 g1 w4 (owR 5 1 s4 (nums .u8 d.bs)::pgR p x c y e::dkR x D::rdR y D::lgR c x l::rlR e y l::L):=by simpa using H4
  have hs4:s4.n<=140737488351232:=by rw[n4,n3];simp;omega
  have H5:Hp F0 g0 w0 g1 w4 (pgR p x c y e::dkR x D::rdR y D::lgR c x l::rlR e y l::owR 5 1 s4 (nums .u8 d.bs)::L):=Hp.cons_app (L:=[pgR p x c y e,dkR x D,rdR y D,lgR c x l,rlR e y l]) H4;have mA:=m2.t (m3.t m4);obtain⟨A,hA⟩:∃ A,D.appendL l (wB l d) d.bs=A:=⟨_,rfl⟩;rw[hA] at hΦ hok';refine Nd.b2 e3 (Nd.b1 (by rw[aD];exact(rk (m2.t m3)).2.2.1) (Nd.b2 e4 (Nd.s1 (Nd.b1 (by rw[aD];exact Pg.p1 H5) (Nd.j2 (Ψ:=fun r=>r.1=A.1/\∃ g',Hp F0 g0 w0 g' r.2 (lgR c x A.2.2::dkR x A.2.1::pgR p x c y e::rdR y D::rlR e y l::owR 5 1 s4 (nums .u8 d.bs)::L)/\Mo g1 w4 g' r.2) ?_ ?_)))))
  .refine uA hok.wf (Pg.lg H5) (fun L' H m=>by obtain⟨F,hF⟩:=H.mem (r:=owR 5 1 s4 (nums .u8 d.bs)) (by simp);exact hF.1.rd) (by omega) fun g' w' H' m'=>?_;rw[hA] at H' ⊢;exact⟨rfl,g',H',m'⟩
  rintro _ w6 ⟨rfl,g6,H6,m6⟩;simp only at H6 m6 ⊢;obtain⟨w7,e7,H7,m7⟩:=H6.dr;have mB:=mA.t (m6.t m7);refine Nd.b1 e7 (Nd.b1 (by rw[aD];exact Pg.p3 H7.m2) (Nd.b1 (by rw[aD];exact(rk mB).2.2.1) (Nd.j2 (Ψ:=fun r=>r.1=A.1/\∃ g',Hp F0 g0 w0 g' r.2 (rlR e y A.2.2::rdR y A.2.1::lgR c x A.2.2::dkR x A.2.1::pgR p x c y e::owR 5 1 s4 (nums .u8 d.bs)::L)/\Mo g6 w7 g' r.2) ?_ ?_)))
  .refine aBm hok.wf (Pg.rl H7) (hb.mo (m1.t mB)) hok.bt (by omega) (by omega) (yK hok.wf) fun g' w' H' m'=>?_;rw[hA] at H' ⊢;exact⟨rfl,g',H',m'⟩
  rintro _ w8 ⟨rfl,g8,H8,m8⟩;simp only at H8 m8 ⊢;have H9:Hp F0 g0 w0 g8 w8 (owR 5 1 s4 (nums .u8 d.bs)::rlR e y A.2.2::rdR y A.2.1::lgR c x A.2.2::dkR x A.2.1::pgR p x c y e::L):=Hp.app_cons (L:=[rlR e y A.2.2,rdR y A.2.1,lgR c x A.2.2,dkR x A.2.1,pgR p x c y e]) H8;refine Nd.j1 (Ψ:=fun w'=>Φ (true,w')) (aDX hs4 d.bs.length 0 d.bs w8 (by omega) H9 fun w' xs' H' m'=>hΦ g8 w' c e ⟨Pg.back H'.tl,hok'⟩ (m1.t (mB.t (m8.t m')))) (fun w' hw'=>Nd.ret ?_);rw[show(A.1==A.1)=true by simp];exact hw'
 refine Nd.f (by simpa using t0) ?_;obtain⟨w2,e2,H2,m2⟩:=H1.dr;have r2:=rk m2;by_cases t1:d.k=1
 .have hD:jK (D,l) d=((D.syncL l).2,l):=by unfold jK;rw[if_neg t0,if_pos t1]
  rw[hD] at hΦ hok';obtain⟨w3,e3,H3,m3⟩:=zT (Pg.lg H2) (by omega);obtain⟨g4,w4,e4,H4,m4⟩:=aCk (Pg.rl H3) (by omega);refine Nd.t (by simpa using t1) (Nd.b1 e2 (Nd.s1 (Nd.b1 (by rw[aD];exact Pg.p1 H2) (Nd.b2 e3 (Nd.b1 (by rw[aD];exact Pg.p3 H3.m2) (Nd.b2 e4 (Nd.ck (by rw[aD];exact Pg.p3 H2) (Nd.ret ?_))))))));rw[show((D.syncL l).1==(D.syncL l).1)=true by simp];exact hΦ g4 w4 c e ⟨Pg.back H4,hok'⟩ (m1.t (m2.t (m3.t m4)))
 refine Nd.f (by simpa using t1) ?_;by_cases t2:d.k=2
 .have hD:jK (D,l) d=(D.chopL l d.n).2:=by unfold jK;rw[if_neg t0,if_neg t1,if_pos t2]
  rw[hD] at hΦ hok';obtain⟨w3,e3,H3,m3⟩:=aBw (t:=d.n) hok.wf (Pg.lg H2) hok.bt (by omega) (by omega);obtain⟨⟨v4,w4⟩,e4,g4,rfl,H4,m4⟩:=aEn (t:=d.n) hok.wf (Pg.rl H3) hok.bt (by omega) (by omega) (by omega) (yK hok.wf);simp only at H4 m4;refine Nd.t (by simpa using t2) (Nd.b1 e2 (Nd.s1 (Nd.b1 (by rw[aD];exact Pg.p1 H2) (Nd.b2 e3 (Nd.b1 (by rw[aD];exact Pg.p3 H3.m2) (Nd.b2 e4 (Nd.ck (by rw[aD];exact Pg.p3 H2) (Nd.ret ?_))))))));rw[show((D.chopL l d.n).1==(D.chopL l d.n).1)=true by simp];exact hΦ g4 w4 c e ⟨Pg.back H4,hok'⟩ (m1.t (m2.t (m3.t m4)))
 refine Nd.f (by simpa using t2) ?_;by_cases t3:d.k=3
 .have hD:jK (D,l) d=((D.trip d.n).2,l):=by unfold jK;rw[if_neg t0,if_neg t1,if_neg t2,if_pos t3]
  rw[hD] at hΦ hok';obtain⟨w3,e3,H3,m3⟩:=H2.sw.dtrip (m:=d.n) hn1;obtain⟨g4,w4,e4,H4,m4⟩:=H3.m2.rtrip (m:=d.n) hn1;refine Nd.t (by simpa using t3) (Nd.b1 e2 (Nd.s1 (Nd.b1 (by rw[aD];exact Pg.p0 H2) (Nd.b2 e3 (Nd.b1 (by rw[aD];exact Pg.p2 H3.sw) (Nd.b2 e4 (Nd.ck (by rw[aD];exact Pg.p2 H2) (Nd.ret ?_))))))));rw[show((D.trip d.n).1==(D.trip d.n).1)=true by simp];exact hΦ g4 w4 c e ⟨H4.b2.sw,hok'⟩ (m1.t (m2.t (m3.t m4)))
 refine Nd.f (by simpa using t3) ?_;by_cases t4:d.k=4
 .obtain⟨k,hk,-,-⟩:=vO (hok.bt.crash d.fs) (by rw[tA hok.bt,hok.n]) (rC (D:=D) (fs:=d.fs));have hD:jK (D,l) d=(((D.crash d.fs).openL 1 3).2.1,k):=by unfold jK;rw[if_neg t0,if_neg t1,if_neg t2,if_neg t3,if_pos t4,hk];rfl
  rw[hD] at hΦ;obtain⟨w3,e3,H3,m3⟩:=H2.sw.dcrash (hf.mo (m1.t m2)) (by omega);obtain⟨g4,w4,e4,H4,m4⟩:=H3.m2.rcrash (hf.mo (m1.t (m2.t m3))) (by omega);have H5:=(H4.b2.sw).m3.tl.m3.tl;have mA:=m1.t (m2.t (m3.t m4));refine Nd.t (by simpa using t4) (Nd.j2 (Ψ:=Φ) (Nd.b1 e2 (Nd.s1 (Nd.b1 (by rw[aD];exact Pg.p0 H2) (Nd.b1 (by rw[aD];exact r2.2.2.2) (Nd.b2 e3 (Nd.b1 (by rw[aD];exact Pg.p2 H3.sw) (Nd.b1 (by rw[aD];exact(rk (m2.t m3)).2.2.2) (Nd.b2 e4 (Nd.t (by decide) (Nd.ck (by rw[aD];exact Pg.p2 H2) (Nd.ck (by rw[aD];exact r2.2.2.2) (Nd.j2 (Ψ:=Φ) ?_ (fun a b h=>Nd.ret h))))))))))))) (fun a b h=>Nd.ret h));refine aBs H5 (hok.bt.crash d.fs) (by rw[tA hok.bt,hok.n]) rC (by simp[Dk.crash]) fun g' w' c' e' k' hk' hP m'=>?_;rw[hk] at hk';cases hk';exact hΦ g' w' c' e' hP (mA.t m')
 refine Nd.f (by simpa using t4) ?_;by_cases t5:d.k=5
 .have hD:jK (D,l) d=((D.write d.n d.bs).2,l):=by unfold jK;rw[if_neg t0,if_neg t1,if_neg t2,if_neg t3,if_neg t4,if_pos t5]
  rw[hD] at hΦ hok';obtain⟨w3,e3,H3,m3⟩:=H2.sw.dwrite (i:=d.n) (hb.mo (m1.t m2)).rd (by omega);obtain⟨g4,w4,e4,H4,m4⟩:=H3.m2.rwrite (i:=d.n) (hb.mo (m1.t (m2.t m3))).rd (by omega);refine Nd.t (by simpa using t5) (Nd.b1 e2 (Nd.s1 (Nd.b1 (by rw[aD];exact Pg.p0 H2) (Nd.b1 (by rw[aD];exact r2.2.2.1) (Nd.b2 e3 (Nd.b1 (by rw[aD];exact Pg.p2 H3.sw) (Nd.b1 (by rw[aD];exact(rk (m2.t m3)).2.2.1) (Nd.b2 e4 (Nd.ck (by rw[aD];exact Pg.p2 H2) (Nd.ck (by rw[aD];exact r2.2.2.1) (Nd.ret ?_)))))))))));rw[show((D.write d.n d.bs).1==(D.write d.n d.bs).1)=true by simp];exact hΦ g4 w4 c e ⟨H4.b2.sw,hok'⟩ (m1.t (m2.t (m3.t m4)))
 have hD:jK (D,l) d=(D,l):=by unfold jK;rw[if_neg t0,if_neg t1,if_neg t2,if_neg t3,if_neg t4,if_neg t5]
 rw[hD] at hΦ;obtain⟨s,l1,ls⟩:=H2.m2.rd1;refine Nd.f (by simpa using t5) (Nd.b1 e2 (Nd.s1 (Nd.b1 (by rw[aD];exact Pg.p0 H2) (Nd.b2 H2.sw.dwaits (Nd.b1 (by rw[aD];exact Pg.p2 H2) (Nd.s1 (Nd.b1 (by rw[aD];exact l1) (Nd.ck (by rw[aD];exact Pg.p2 H2) (Nd.ck (by rw[aD];exact l1) (Nd.ret ?_))))))))));rw[ls,show((D.W.length:Int)==(D.W.length:Int))=true by simp];exact hΦ g1 w2 c e ⟨H2,hok⟩ (m1.t m2)
end
section
variable {F0 : Nat -> Prop} {g g' g0 : Gh} {w w' w0 : World} {L : List Rs} {p x y c e : Nat} {D : Dk} {l : Lg} {s : Sl}
theorem aDm (h:l.Wf):l.events 0 1099511627776=l.vis:=by
 unfold Lg.events Lg.vis;refine aKp fun r hr=>?_;obtain⟨u,hu,hr'⟩:=aLi.1 (show r∈l.used.flatMap fun s=>s.recs from hr);have h1:=((h.seg u hu).rb r hr').2.2;have h2:=(h.seg u hu).h1;have h3:=h.r0;by_cases h4:l.rel<r.1
 .rw[decide_eq_true h4,decide_eq_true (by omega),decide_eq_true (by omega)];rfl
 rw[decide_eq_false h4];simp
theorem aDL (h:l.Wf) {a b:Int} (H:Hp F0 g0 w0 g w (lgR c x l::L)):∃ z w',fG (some ⟨c,0,none⟩) a b w=some (z,w')/\Hp F0 g0 w0 g w' (wL z (l.events a b)::lgR c x l::L)/\Mo g w g w':=by
 refine xI (fun q hq=>⟨?_,fun r hr=>?_⟩) (by have:=h.len;omega) H
 .have:=(h.seg q hq).rn;have:=(h.seg q hq).f1;omega
 have:=((h.seg q hq).rb r hr).1;omega
theorem aEW (h:Pg F0 g0 w0 g w p x c y e (D,l) L):Ex (fZ (some ⟨p,0,none⟩) w) fun r=>r.1=true/\Pg F0 g0 w0 g r.2 p x c y e (D,l) L/\Mo g w g r.2:=by
 have hok:=h.ok;have H:=h.H;simp only at H hok;have hw:=hok.wf;obtain⟨su,sr,rz,hz,H0⟩:=(H.m4).rlo
 -- H0: log of the document,its segments,its records,pair,disks,log
 have hA:ldA 4 w ⟨e,4,none⟩ 0=some [.int .i64 l.high,.int .i64 l.rel,su.v,sr.v]:=by rw[nK H0.bx (by exact aIv _)];rfl
 obtain⟨b9,w1,e1,H1,m1⟩:=H0.box (T:=130) (cs:=[.int .i64 0,.int .i64 0,.slice none 0 0,.slice none 0 0]);obtain⟨w2,e2,H2,m2,l2⟩:=H1.stA' (vs:=[.int .i64 l.high,.int .i64 l.rel,su.v,sr.v]) rfl (by intro v hv;simp at hv;rcases hv with rfl | rfl | rfl | rfl<;>rfl);obtain⟨w3,e3,H3,m3⟩:=H2.dr;have hsu:l.used.length=su.n:=by have:=H3.m2.ow.len;rw[cQ cR] at this;omega
 -- the log of the program first
 have H4:Hp F0 g0 w0 g w3 (lgR c x l::bxR b9 [.int .i64 l.high,.int .i64 l.rel,su.v,sr.v] 130::cF e (rlC y l.base l.segs l.age l.high l.rel su sr)::rsR su l.used::rcR sr rz::pgR p x c y e::dkR x D::rdR y D::L):=Hp.app_cons (L:=[bxR b9 [.int .i64 l.high,.int .i64 l.rel,su.v,sr.v] 130,cF e (rlC y l.base l.segs l.age l.high l.rel su sr),rsR su l.used,rcR sr rz,pgR p x c y e,dkR x D,rdR y D]) H3;have hp:∀ {w'},Hp F0 g0 w0 g w' (lgR c x l::bxR b9 [.int .i64 l.high,.int .i64 l.rel,su.v,sr.v] 130::cF e (rlC y l.base l.segs l.age l.high l.rel su sr)::rsR su l.used::rcR sr rz::pgR p x c y e::dkR x D::rdR y D::L)->Hp F0 g0 w0 g w' (pgR p x c y e::lgR c x l::bxR b9 [.int .i64 l.high,.int .i64 l.rel,su.v,sr.v] 130::cF e (rlC y l.base l.segs l.age l.high l.rel su sr)::rsR su l.used::rcR sr rz::dkR x D::rdR y D::L) :=
  fun H=>Hp.app_cons (L:=[lgR c x l,bxR b9 [.int .i64 l.high,.int .i64 l.rel,su.v,sr.v] 130,cF e (rlC y l.base l.segs l.age l.high l.rel su sr),rsR su l.used,rcR sr rz]) H
 obtain⟨z,w5,e5,H5,m5⟩:=aDL (a:=0) (b:=1099511627776) hw H4;rw[aDm hw] at H5;have r5:=vC H5;have mA:=m1.t (m2.t (m3.t m5));have q5:=(hz.mo mA).rrd H5.tl.m4;obtain⟨w6,e6,c6,f6⟩:=aBC r5 q5 (by have:=yK hw;omega);have H6:=H5.tl.old f6;have m6:=H5.tl.mold f6;have hd:∀ {w'},Hp F0 g0 w0 g w' (lgR c x l::bxR b9 [.int .i64 l.high,.int .i64 l.rel,su.v,sr.v] 130::cF e (rlC y l.base l.segs l.age l.high l.rel su sr)::rsR su l.used::rcR sr rz::pgR p x c y e::dkR x D::rdR y D::L)->dB (some ⟨x,0,none⟩) w'=some (D.down,w')/\ldB w' ⟨y,3,none⟩=some D.down:=fun H =>
  ⟨(Hp.app_cons (L:=[lgR c x l,bxR b9 [.int .i64 l.high,.int .i64 l.rel,su.v,sr.v] 130,cF e (rlC y l.base l.segs l.age l.high l.rel su sr),rsR su l.used,rcR sr rz,pgR p x c y e]) H).ddown,(Hp.app_cons (L:=[lgR c x l,bxR b9 [.int .i64 l.high,.int .i64 l.rel,su.v,sr.v] 130,cF e (rlC y l.base l.segs l.age l.high l.rel su sr),rsR su l.used,rcR sr rz,pgR p x c y e,dkR x D]) H).rd3⟩
 have l9:∀ {w'},Hp F0 g0 w0 g w' (lgR c x l::bxR b9 [.int .i64 l.high,.int .i64 l.rel,su.v,sr.v] 130::cF e (rlC y l.base l.segs l.age l.high l.rel su sr)::rsR su l.used::rcR sr rz::pgR p x c y e::dkR x D::rdR y D::L)->ldI .i64 w' ⟨b9,0,none⟩=some l.high/\ldI .i64 w' ⟨b9,1,none⟩=some l.rel/\ldL w' ⟨b9,2,none⟩=some su/\ldL w' ⟨b9,3,none⟩=some sr:=fun H=>⟨H.sw.ldI rfl,H.sw.ldI rfl,H.sw.ldL rfl,H.sw.ldL rfl⟩;have p1:∀ {w'},Hp F0 g0 w0 g w' (lgR c x l::bxR b9 [.int .i64 l.high,.int .i64 l.rel,su.v,sr.v] 130::cF e (rlC y l.base l.segs l.age l.high l.rel su sr)::rsR su l.used::rcR sr rz::pgR p x c y e::dkR x D::rdR y D::L)->ldP w' ⟨p,0+1,none⟩=some (some ⟨c,0,none⟩)/\ldP w' ⟨p,0+0,none⟩=some (some ⟨x,0,none⟩)/\ldP w' ⟨p,0+2,none⟩=some (some ⟨y,0,none⟩):=fun H=>⟨Pg.p1 (hp H),Pg.p0 (hp H),Pg.p2 (hp H)⟩;have k3:=l9 H4;have k5:=l9 H5.tl;have j3:=p1 H4;have j5:=p1 H5.tl;have j6:=p1 H6;have d6:=hd H6;unfold fZ;refine Ex.s1 (Ex.b1 (by rw[aD];exact Pg.p3 H) (Ex.s1 (Ex.b1 (by rw[aD];exact hA) (Ex.b2 e1 (Ex.b1 e2 (Ex.j2 (Ψ:=fun r=>r.1=true/\Pg F0 g0 w0 g r.2 p x c y e (D,l) L/\Mo g w g r.2) ?_ (fun a b h=>Ex.ret h)))))));refine Ex.b1 e3 (Ex.b1 (by rw[aD];exact j3.1) (Ex.b2 (uY H4) (Ex.b1 (by rw[aD];exact k3.1) (Ex.t (by simp) (Ex.b1 (by rw[aD];exact j3.1) (Ex.b2 (aFC H4) (Ex.b1 (by rw[aD];exact k3.2.1) (Ex.t (by simp) (Ex.b1 (by rw[aD];exact j3.1) (Ex.b2 (aBJ H4) (Ex.b1 (by rw[aD];exact k3.2.2.1) (Ex.t (by simp;omega)
  (Ex.b1 (by rw[aD];exact j3.1) (Ex.b2 e5 (Ex.b1 (by rw[aD];exact k5.2.2.2) (Ex.b2 e6 (Ex.t rfl (Ex.b1 (by rw[aD];exact j6.2.1) (Ex.b2 d6.1 (Ex.b1 (by rw[aD];exact j6.2.2) (Ex.s1 (Ex.b1 (by rw[aD];exact d6.2) (Ex.ck (by rw[aD];exact k3.1) (Ex.ck (by rw[aD];exact k3.2.1) (Ex.ck (by rw[aD];exact k3.2.2.1) (Ex.ck (by rw[aD];exact k3.2.2.2) (Ex.ck (by rw[aD];exact j6.2.2) (Ex.ck (by rw[aD];exact d6.2) (Ex.ret ⟨by simp,⟨?_,hok⟩,mA.t m6⟩)))))))))))))))))))))))))))))
 -- H6: log,box,document's log (3),pair,disks
 have H7:=H6.sw.tl
 -- log,block,segments,records,pair,disks
 have H8:=Hp.rli (hz.mo (mA.t m6)) H7.b3;exact H8.sw.m4.m4.m4
def qY (D:Dk) (d:Dg):Dk:=(D.write d.n d.bs).2
theorem aBX {D:Dk} (hb:D.Bt) (hn:D.S.length=52) (hc:D.Calm) {d:Dg} (hd:bU d.bs):(qY D d).Bt/\(qY D d).S.length=52/\(qY D d).Calm/\(qY D d).W.length<=D.W.length+1:=by
 have h:=mT D d.n hd;exact⟨h.b hb,by unfold qY;rw[rB,hn],aAn hc _ _,h.w⟩
theorem aFU {ds:List Dg} {v:List Value} (hs:PL dgR 4 g w s ds) (hv:v[0]?=some (.pointer (some ⟨x,0,none⟩))/\v[2]?=some (.pointer (some ⟨y,0,none⟩))) {Φ:(World⊕(Addr×Bool×World))->Prop}:∀ (m i:Nat) (w1:World) (g1:Gh) (D:Dk),i+m=min ds.length 200->D.Bt->D.S.length=52->D.Calm->D.W.length<=i->Mo g w g1 w1 ->
  Hp F0 g0 w0 g1 w1 (bxR p v 85::dkR x D::rdR y D::L) ->
  (∀ g' w',Hp F0 g0 w0 g' w' (bxR p v 85::dkR x (((ds.take 200).drop i).foldl qY D)::rdR y (((ds.take 200).drop i).foldl qY D)::L)->Mo g1 w1 g' w'->Φ (.inl w')) ->
  (fB (fun r:Int×World=>eU s ⟨p,0,none⟩ r.1 r.2) ((i:Int),w1)).t Φ:=by
 intro m
 induction m with
 | zero =>
  intro i w1 g1 D him hb hn hc hW hm H hΦ;have hd:(ds.take 200).drop i=[]:=aIU (by rw[aIN];omega);have hln:=hs.len;rw[hd] at hΦ;refine Nd.next ?_
  unfold eU;refine Nd.j2 (Ψ:=fun r=>r=(false,w1)) ?_ ?_
  .by_cases hl:(i:Int)<s.n
   .exact Nd.t (by simpa using hl) (Nd.ret (by rw[decide_eq_false (by omega)]))
   exact Nd.f (by simpa using hl) (Nd.ret rfl)
  rintro _ _ he;cases he;exact Nd.f (by simp) (Nd.ret (hΦ g1 w1 H Mo.r))
 | succ m ih =>
  intro i w1 g1 D him hb hn hc hW hm H hΦ;have hi:i<ds.length:=by omega
  have hln:=hs.len;obtain⟨a,cs,ea,ga,hl4,hR,hcl⟩:=hs.at_ i ds[i] (aIs hi);obtain⟨b,f,rfl,pb,pf,hby,-,-,hbz⟩:=hR;have hcell:∀ {g' w'} (j:Nat) (v:Value),Mo g1 w1 g' w'->[Value.int .i64 ds[i].k,.int .i64 ds[i].n,b.v,f.v][j]?=some v->w'.cell? (a.add j)=some v:=fun j v m hv=>by
   have hb':(a.add j).block=a.block:=by unfold Addr.add;split<;>rfl
   exact(hm.t m).cell (by rw[hb'];exact ga) (hcl j v hv)
  have hwk:=aBX hb hn hc hby;have hdrop:(ds.take 200).drop i=ds[i]::(ds.take 200).drop (i+1):=by
   have hlt:i<(ds.take 200).length:=by rw[aIN];omega
   rw[aJa hlt,List.getElem_take]
  rw[hdrop] at hΦ;obtain⟨w2,e2,H2,m2⟩:=H.dr;obtain⟨w3,e3,H3,m3⟩:=H2.sw.dwrite (i:=ds[i].n) (pb.mo (hm.t m2)).rd (by omega);obtain⟨g4,w4,e4,H4,m4⟩:=H3.m2.rwrite (i:=ds[i].n) (pb.mo (hm.t (m2.t m3))).rd (by omega);have n2:∀ {g' w'},Mo g1 w1 g' w'->ldI .i64 w' (a.add 1)=some ds[i].n:=fun m=>kZ (hcell 1 _ m rfl);have b2:∀ {g' w'},Mo g1 w1 g' w'->ldL w' (a.add 2)=some b:=fun m=>rO (hcell 2 _ m rfl);have P0:ldP w2 ⟨p,0+0,none⟩=some (some ⟨x,0,none⟩):=qF H2.bx hv.1;have P2:ldP w2 ⟨p,0+2,none⟩=some (some ⟨y,0,none⟩):=qF H2.bx hv.2;have P3:ldP w3 ⟨p,0+2,none⟩=some (some ⟨y,0,none⟩):=qF H3.sw.bx hv.2;refine Nd.next ?_
  unfold eU;refine Nd.j2 (Ψ:=fun r=>r=(true,w1)) (Nd.t (by simp;omega) (Nd.ret (by rw[decide_eq_true (by omega)]))) ?_;rintro _ _ he;cases he;refine Nd.t rfl (Nd.b1 e2 (Nd.b1 (by rw[aD];exact P0) (Nd.b1 ea (Nd.b1 (n2 m2) (Nd.b1 ea (Nd.b1 (b2 m2) (Nd.b2 e3 (Nd.b1 (by rw[aD];exact P3) (Nd.b1 ea (Nd.b1 (n2 (m2.t m3)) (Nd.b1 ea (Nd.b1 (b2 (m2.t m3)) (Nd.b2 e4 (Nd.ck (by rw[aD];exact P2) (Nd.ck (n2 m2) (Nd.ck (b2 m2) (Nd.f (by simp) (Nd.ret ?_))))))))))))))))));show(fB _ (IntKind.wrap .i64 ((i:Int)+1),w4)).t Φ;rw[cC (by omega)];exact ih (i+1) w4 g4 (qY D ds[i]) (by omega) hwk.1 hwk.2.1 hwk.2.2.1 (by omega) (hm.t (m2.t (m3.t m4))) H4.b2.sw (fun g' w' H' m'=>hΦ g' w' H' (m2.t (m3.t (m4.t m'))))
theorem aFy {ds:List Dg} (hd:∀ d∈ds,bU d.bs):∀ {D:Dk},D.Bt->D.S.length=52->D.Calm->(ds.foldl qY D).Bt/\(ds.foldl qY D).S.length=52/\(ds.foldl qY D).Calm/\(ds.foldl qY D).W.length<=D.W.length+ds.length:=by
 induction ds with
 | nil=>exact fun h1 h2 h3=>⟨h1,h2,h3,aIv _⟩
 | cons d ds ih =>
  intro D h1 h2 h3;obtain⟨k1,k2,k3,k4⟩:=aBX h1 h2 h3 (hd d (by simp));obtain⟨j1,j2,j3,j4⟩:=ih (fun d hd'=>hd d (by simp[hd'])) k1 k2 k3;exact⟨j1,j2,j3,by rw[aJn,aIH];omega⟩
theorem aDQ {ds:List Dg} (hs:PL dgR 4 g w s ds) (H:Hp F0 g0 w0 g w L) {Φ:Option Addr×Bool×World->Prop}
  (hΦ:∀ g' w' p x c y e l,(((ds.take 200).foldl qY (Dk.new 52)).openL 1 3).2.2=some l->Pg F0 g0 w0 g' w' p x c y e ((((ds.take 200).foldl qY (Dk.new 52)).openL 1 3).2.1,l) L->(((ds.take 200).foldl qY (Dk.new 52)).openL 1 3).2.1.W.length<=2000->Mo g w g' w'->Φ (some ⟨p,0,none⟩,true,w')):(iN s w).t Φ:=by
 obtain⟨p,w1,e1,H1,m1⟩:=H.box (T:=85) (cs:=List.replicate 4 (.pointer none));obtain⟨x,w2,e2,H2,m2⟩:=H1.dnew (m:=52) (by omega) (by omega);obtain⟨w3,e3,H3,m3⟩:=H2.sw.stV (o:=0) (x:=.pointer (some ⟨x,0,none⟩)) (by simp) rfl;obtain⟨y,g4,w4,e4,H4,m4⟩:=H3.rnew (m:=52) (by omega) (by omega);obtain⟨w5,e5,H5,m5⟩:=H4.sw.stV (o:=2) (x:=.pointer (some ⟨y,0,none⟩)) (by simp) rfl;have H6:Hp F0 g0 w0 g4 w5 (bxR p [.pointer (some ⟨x,0,none⟩),.pointer none,.pointer (some ⟨y,0,none⟩),.pointer none] 85::dkR x (Dk.new 52)::rdR y (Dk.new 52)::L):=H5.s2;have mA:=m1.t (m2.t (m3.t (m4.t m5)));have hdb:∀ d∈ds.take 200,bU d.bs:=fun d hd=>by
  obtain⟨i,hi,he⟩:=List.getElem_of_mem (aJh hd);obtain⟨_,_,_,_,_,hR,_⟩:=hs.at_ i d (by rw[aIs hi,he]);obtain⟨_,_,_,_,_,hby,_⟩:=hR;exact hby
 have hn52:(Dk.new 52).S.length=52:=by simp[Dk.new]
 obtain⟨k1,k2,k3,k4⟩:=aFy hdb (yI 52) hn52 (⟨rfl,rfl⟩:(Dk.new 52).Calm);have hW0:(Dk.new 52).W.length=0:=rfl;have hlt:(ds.take 200).length<=200:=by rw[aIN];omega
 unfold iN;refine Nd.b2 e1 (Nd.b3 e2 (Nd.b1 (by rw[aD];exact e3) (Nd.b3 e4 (Nd.b1 (by rw[aD];exact e5) (Nd.j2 (Ψ:=fun r=>r=(false,w5)) (Nd.f (by decide) (Nd.f (by decide) (Nd.b1 (qF H6.bx rfl) (Nd.ret rfl)))) ?_)))));rintro _ _ he;cases he;refine Nd.f (by simp) (Nd.j1 (Ψ:=fun o=>∃ w' g',o = .inl w'/\Hp F0 g0 w0 g' w' (bxR p [.pointer (some ⟨x,0,none⟩),.pointer none,.pointer (some ⟨y,0,none⟩),.pointer none] 85::dkR x ((ds.take 200).foldl qY (Dk.new 52))::rdR y ((ds.take 200).foldl qY (Dk.new 52))::L)/\Mo g w g' w')
  (aFU (PL.mo (R:=dgR) aCZ hs mA) ⟨rfl,rfl⟩ (min ds.length 200) 0 w5 g4 (Dk.new 52) (by omega) (yI 52) hn52 ⟨rfl,rfl⟩ (by simp[hW0]) Mo.r H6 fun g' w' H' m'=>⟨w',g',rfl,by rw[aJj] at H';exact H',mA.t m'⟩) ?_)
 rintro _ ⟨w6,g6,rfl,H7,m7⟩;simp only[Sum.elim_inl,u1];obtain⟨l0,hl0,-,ho,-,hWo,-⟩:=vO k1 k2 k3;refine Nd.j3 (Ψ:=fun r=>r.1=⟨p,0,none⟩/\r.2.1=true/\Φ (some ⟨p,0,none⟩,true,r.2.2)) (Nd.j2 (Ψ:=fun r=>r.1=true/\∃ g' c e,Pg F0 g0 w0 g' r.2 p x c y e ((((ds.take 200).foldl qY (Dk.new 52)).openL 1 3).2.1,l0) L/\Mo g w g' r.2) (aBs H7 k1 k2 k3 (by omega) fun g' w' c e l hl hP m'=>?_) ?_) ?_
 .rw[hl0] at hl;cases hl;exact⟨rfl,g',c,e,hP,m7.t m'⟩
 .rintro _ w8 ⟨rfl,g8,c,e,hP,m8⟩;simp only at hP m8;obtain⟨⟨v9,w9⟩,e9,rfl,hP9,m9⟩:=aEW hP;simp only at hP9 m9;exact Nd.t rfl (Nd.b1 (by rw[aD];exact Pg.p1 hP.H) (Nd.t (by simp) (Nd.b2 e9 (Nd.ret ⟨rfl,rfl,hΦ g8 w9 p x c y e l0 hl0 hP9 (by omega) (m8.t m9)⟩))))
 rintro a b w8 ⟨rfl,rfl,h8⟩;exact Nd.ret h8
end
section
variable {H : Type} {enc : TypeId × Value -> H} {w : World} {base fuel : Nat} {spare : Nat -> Bool} {held : Bool} {cs : List Value} {x : DataW H × List MemPlace}
theorem aGg {α:Type} {l:List α} (h:l.length=4):∃ a b c d,l=[a,b,c,d]:=by
 match l,h with
 | [a,b,c,d],_=>exact⟨a,b,c,d,rfl⟩
theorem aEA {m:Nat} {c:List Value} {y:DataW H×List MemPlace} (h:DataW.trod enc Try.prog w base spare held m 82 c=some y) (hx:∀ v∈y.1.weights Try.prog 82,v<=140737488351232):∃ d,dgR (old w) w c d:=by
 obtain⟨xs,m',_,hy,hl,hlen,hf⟩:=DataW.trod_struct Try.underlying82 h;have hl4:c.length=4:=hl.trans (by kernel_rfl);have c1:Try.prog.cellsOf 3=1:=by kernel_rfl
 have c2:Try.prog.cellsOf 72=1:=by kernel_rfl
 have c3:Try.prog.cellsOf 34=1:=by kernel_rfl
 have hlen4:xs.length=4:=hlen;clear hlen hl;obtain⟨v0,v1,v2,v3,rfl⟩:=aGg hl4;obtain⟨y0,y1,y2,y3,rfl⟩:=aGg hlen4;have h0:DataW.trod enc Try.prog w base spare held m' 3 (([v0,v1,v2,v3].drop 0).take (Try.prog.cellsOf 3))=some y0:=hf 0 _ rfl;have h1:DataW.trod enc Try.prog w base spare held m' 3 (([v0,v1,v2,v3].drop 1).take (Try.prog.cellsOf 3))=some y1:=hf 1 _ rfl;have h2:DataW.trod enc Try.prog w base spare held m' 72 (([v0,v1,v2,v3].drop 2).take (Try.prog.cellsOf 72))=some y2:=hf 2 _ rfl;have h3:DataW.trod enc Try.prog w base spare held m' 34 (([v0,v1,v2,v3].drop 3).take (Try.prog.cellsOf 34))=some y3:=hf 3 _ rfl;simp only[c1,c2,c3,aJj,List.take_succ_cons,List.take_zero,List.drop_succ_cons,aJu,aJt] at h0 h1 h2 h3;obtain⟨k,e0,_,_⟩:=DataW.trod_int Try.underlying3 h0;obtain⟨i,e1,_,wi⟩:=DataW.trod_int Try.underlying3 h1;rw[hy] at hx;have w2:∀ v∈y2.1.weights Try.prog 72,v<=140737488351232:=vW Try.underlying82 hx 2 _ y2.1 rfl rfl;have w3:∀ v∈y3.1.weights Try.prog 34,v<=140737488351232:=vW Try.underlying82 hx 3 _ y3.1 rfl rfl;obtain⟨b,bs,e2,r2,n2,_,wb⟩:=vM Try.underlying72 Try.underlying5 (by kernel_rfl) (of_decide_eq_true (by kernel_rfl)) h2 w2;obtain⟨f,fs,e3,r3,n3,_,wf⟩:=vM Try.underlying34 Try.underlying3 (by kernel_rfl) (of_decide_eq_true (by kernel_rfl)) h3 w3;obtain rfl:=(List.cons.inj e0).1;obtain rfl:=(List.cons.inj e1).1;obtain rfl:=(List.cons.inj e2).1;obtain rfl:=(List.cons.inj e3).1;exact⟨⟨k,i,bs,fs⟩,b,f,rfl,r2,r3,fun n hn=>aAy (wb n hn),(xH wi).1,(xH wi).2,n2⟩
theorem open_dgs (h:DataW.trod enc Try.prog w base spare held fuel 77 cs=some x) (hx:∀ v∈x.1.weights Try.prog 77,v<=140737488351232):∃ (s:Sl) (ds:List Dg),cs=[Sl.v s]/\PL dgR 4 (old w) w s ds :=
 aCv Try.underlying77 (by kernel_rfl) (by decide) (fun m c y h hx=>aEA h hx) h hx
end
theorem aED {g g1:Gh} {w w1:World} {s:Sl} {ds:List Dg} (hs:PL dgR 4 g w s ds) (m:Mo g w g1 w1) {i:Nat} (hi:i<ds.length):∃ a cs,ix s (i:Int) 4=some a/\ldA 4 w1 a 0=some cs/\dgR g1 w1 cs ds[i]/\ldI .i64 w1 (a.add 0)=some ds[i].k/\bU ds[i].bs:=by
 obtain⟨a,cs,ea,ga,hl4,hR,hcl⟩:=hs.at_ i ds[i] (aIs hi);have hcell:∀ (j:Nat) (v:Value),cs[j]?=some v->w1.cell? (a.add j)=some v:=fun j v hv=>by
  have hb':(a.add j).block=a.block:=by unfold Addr.add;split<;>rfl
  exact m.cell (by rw[hb'];exact ga) (hcl j v hv)
 refine⟨a,cs,ea,oY 4 w1 a 0 cs hl4 fun j v hv=>by rw[aLy];exact hcell j v hv,aCZ hR m,?_,?_⟩
 .obtain⟨b,f,rfl,_⟩:=hR;exact kZ (hcell 0 _ rfl)
 obtain⟨b,f,_,_,_,hby,_⟩:=hR;exact hby
def fS (w:World):ND (Bool×World) :=
 lb3 (lR 52 w) fun v1 v2 w3 =>
 cb2 (if (v2 !=0)=true then
 (aU (true,w3))
 else
 (aU ((v1.isNone),w3))) fun v5 w6 =>
 if v5=true then
 (aU (false,w6))
 else
 (cb3 (mV v1 1 3 w6) fun v11 v12 w13 =>
 cb2 (if (v12 !=0)=true then
 (aU (true,w13))
 else
 (if (v11.isNone)=true then
 (aU (true,w13))
 else
 (lb2 (bsl w13 5 1 [[(.int .u8 97)],[(.int .u8 98)]]) fun s21 w22 =>
 lb2 (cvS Try.prog 72 s21 w22) fun s24 w25 =>
 cb2 (iJ v11 5 s24 w25) fun v27 w28 =>
 if (v27 !=0)=true then
 (aU (true,w28))
 else
 (lb2 (kH v11 w28) fun v31 w32 =>
 if (v31 !=0)=true then
 (aU (true,w32))
 else
 (lb2 (fW v1 Sl.nil w32) fun v35 w36 =>
 aU ((v35 !=0),w36)))))) fun v15 w16 =>
 if v15=true then
 (aU (false,w16))
 else
 (cb3 (mV v1 1 3 w16) fun v39 v40 w41 =>
 cb2 (if (v40==0)=true then
 (lb2 (iQ v39 w41) fun v48 w49 =>
 if (v48==5)=true then
 (lb2 (fG v39 0 9 w49) fun v52 w53 =>
 lb2 (bsl w53 5 1 [[(.int .u8 97)],[(.int .u8 98)]]) fun s55 w56 =>
 lb2 (cvS Try.prog 72 s55 w56) fun s58 w59 =>
 lb2 (bsl w59 87 2 [([.int .i64 5,Sl.v s58])]) fun s61 w62 =>
 lb2 (hU v52 s61 w62) fun v64 w65 =>
 aU (v64,w65))
 else
 (aU (false,w49)))
 else
 (aU (false,w41))) fun v43 w44 =>
 aU (v43,w44)))
theorem kS {w Q} (h:(fS w).t Q):Calls Try.prog 37 #[] w fun e w''=>∃ i,e=.returned (.bool i.1)/\Q i/\w''=i.2:=by
 refine aP (n:=66) Try.func37 rfl Try.ntmps37 (by simp) fun a u=>?_;unfold fS at h;refine wp_seq<|aA<|qa u rfl fun a u=>aB<|t_n<|wp_seq<|aA<|?_;obtain⟨v1,v2,w3,e4,h⟩:=h;refine q u (dc1 u rfl Try.call30 (sG e4)) fun a u=>qm u rfl fun a u=>q u (aW u rfl rfl) fun a u=>q u (aW u rfl rfl) fun a u=>qa u rfl fun a u=>qa u rfl fun a u=>aB<|t_n<|wp_seq<|wp_seq<|?_;refine dD (n:=66) (ι:=Bool×World) (Lf:=fun i=>[(16,(bV i.1)),(1,(pV v1))]) (wf:=fun i=>i.2) (un2 h) (fun i h a u=>?_) (fun h hk8=>?_)
 .obtain⟨v5,w6⟩:=i;have u:Has 66 [(16,(bV v5)),(1,(pV v1))] a:=u;refine t_n<|?_;refine aX u rfl h (fun b10 h=>?_) (fun b10 h=>?_)
  .refine wp_seq<|aA<|qa u rfl fun a u=>aB<|t_n<|wp_ret<|t_r<|?_;exact bI Try.results37 u rfl ⟨(false,w6),rfl,h,rfl⟩
  refine wp_skip<|t_n<|wp_seq<|aA<|qm u rfl fun a u=>?_;refine jV (ι:=(Option Addr)×Int×World) (pk:=fun i=>(.tuple #[(pV i.1),(iV i.2.1)])) (wf:=fun i=>i.2.2) (xs:=[_,_,_]) (vs:=[(pV v1),(iV 1),(iV 3)]) u ⟨rfl,rfl,rfl,aLz⟩ Try.call32 (pZ (un3 h)) (fun i h a u=>?_);obtain⟨v11,v12,w13⟩:=i;refine qm u rfl fun a u=>q u (aW u rfl rfl) fun a u=>q u (aW u rfl rfl) fun a u=>qa u rfl fun a u=>qa u rfl fun a u=>aB<|t_n<|wp_seq<|wp_seq<|?_;refine dD (n:=66) (ι:=Bool×World) (Lf:=fun i=>[(44,(bV i.1)),(1,(pV v1))]) (wf:=fun i=>i.2) (un2 h) (fun i h a u=>?_) (fun h hk18=>?_)
  .obtain⟨v15,w16⟩:=i;have u:Has 66 [(44,(bV v15)),(1,(pV v1))] a:=u;refine t_n<|?_;refine aX u rfl h (fun b38 h=>?_) (fun b38 h=>?_)
   .refine wp_seq<|aA<|qa u rfl fun a u=>aB<|t_n<|wp_ret<|t_r<|?_;exact bI Try.results37 u rfl ⟨(false,w16),rfl,h,rfl⟩
   refine wp_skip<|t_n<|wp_seq<|aA<|qm u rfl fun a u=>?_;refine jV (ι:=(Option Addr)×Int×World) (pk:=fun i=>(.tuple #[(pV i.1),(iV i.2.1)])) (wf:=fun i=>i.2.2) (xs:=[_,_,_]) (vs:=[(pV v1),(iV 1),(iV 3)]) u ⟨rfl,rfl,rfl,aLz⟩ Try.call32 (pZ (un3 h)) (fun i h a u=>?_);obtain⟨v39,v40,w41⟩:=i;refine qm u rfl fun a u=>q u (aW u rfl rfl) fun a u=>q u (aW u rfl rfl) fun a u=>qa u rfl fun a u=>qa u rfl fun a u=>aB<|t_n<|wp_seq<|?_;refine dD (n:=66) (ι:=Bool×World) (Lf:=fun i=>[(0,(bV i.1))]) (wf:=fun i=>i.2) (un2 h) (fun i h a u=>?_) (fun h hk46=>?_)
   .obtain⟨v43,w44⟩:=i;have u:Has 66 [(0,(bV v43))] a:=u;refine t_n<|wp_ret<|?_;exact bI Try.results37 u rfl ⟨(v43,w44),rfl,h,rfl⟩
   refine aA<|qm u rfl fun a u=>q u (gD u rfl rfl) fun a u=>qm u rfl fun a u=>?_;refine iE h (fun b47 h=>?_) (fun b47 h=>?_)
   .refine qg u 52 b47 (aC u rfl) fun a u=>?_;obtain⟨v48,w49,e50,h⟩:=h;refine qg u 52 b47 (dc1 u rfl Try.call38 (fU e50)) fun a u=>qg u 52 b47 (gD u rfl rfl) fun a u=>q u (aF u rfl b47 rfl) fun a u=>qm u rfl fun a u=>?_;refine iE h (fun b51 h=>?_) (fun b51 h=>?_)
    .refine qg u 57 b51 (aC u rfl) fun a u=>?_;obtain⟨v52,w53,e54,h⟩:=h;refine qg u 57 b51 (dc3 u rfl rfl rfl Try.call44 (jC e54)) fun a u=>?_;obtain⟨s55,w56,e57,h⟩:=h;refine qg u 57 b51 (iK (vs:=[(0,(.int .u8 97)),(1,(.int .u8 98))]) (ps:=[[(.int .u8 97)],[(.int .u8 98)]]) u ⟨rfl,rfl,rfl,rfl,aLz⟩ ⟨rfl,rfl,rfl,rfl,aLz⟩ rfl aGK aGT aHG (by decide) e57) fun a u=>?_;obtain⟨s58,w59,e60,h⟩:=h;refine qg u 57 b51 (aFu u rfl e60) fun a u=>qg u 57 b51 (dZ (vs:=[(0,(iV 5)),(1,(Sl.v s58))]) (pl:=#[(0,1),(1,1)]) (cs:=([.int .i64 5,Sl.v s58])) u ⟨rfl,rfl,rfl,rfl,aLz⟩ aHh aHa (by intro w;kernel_rfl) (by kernel_rfl)) fun a u=>?_;obtain⟨s61,w62,e63,h⟩:=h;refine qg u 57 b51 (iK (vs:=[(0,(.agg (List.toArray ([.int .i64 5,Sl.v s58]))))]) (ps:=[([.int .i64 5,Sl.v s58])]) u ⟨rfl,rfl,aLz⟩ ⟨rfl,rfl,aLz⟩ rfl aGY aHe aHh (by decide) e63) fun a u=>?_;obtain⟨v64,w65,e66,h⟩:=h;refine qg u 57 b51 (dc2 u rfl rfl Try.call48 (kU e66)) fun a u=>q u (aF u rfl b51 rfl) fun a u=>qa u rfl fun a u=>aB<|?_;exact hk46 (v64,w65) h _ (u.sb rfl)
    refine qn u 57 (nm b51) fun a u=>qn u 57 (nm b51) fun a u=>qn u 57 (nm b51) fun a u=>qn u 57 (nm b51) fun a u=>qn u 57 (nm b51) fun a u=>qn u 57 (nm b51) fun a u=>qn u 57 (nm b51) fun a u=>q u (aL u rfl b51 rfl) fun a u=>qa u rfl fun a u=>aB<|?_;exact hk46 (false,w49) h _ (u.sb rfl)
   refine qn u 52 (nm b47) fun a u=>qn u 52 (nm b47) fun a u=>qn u 52 (nm b47) fun a u=>q u (aL u rfl b47 rfl) fun a u=>qm u rfl fun a u=>qn u 57 (nm aIr) fun a u=>qn u 57 (nm aIr) fun a u=>qn u 57 (nm aIr) fun a u=>qn u 57 (nm aIr) fun a u=>qn u 57 (nm aIr) fun a u=>qn u 57 (nm aIr) fun a u=>qn u 57 (nm aIr) fun a u=>q u (aL u rfl aIr rfl) fun a u=>qa u rfl fun a u=>aB<|?_;exact hk46 (false,w41) h _ (u.sb rfl)
  refine aA<|qm u rfl fun a u=>q u (fJ u rfl rfl) fun a u=>qm u rfl fun a u=>?_;refine iE h (fun b19 h=>?_) (fun b19 h=>?_)
  .refine qn u 24 (tn b19) fun a u=>qn u 24 (tn b19) fun a u=>q u (aF u rfl b19 rfl) fun a u=>qm u rfl fun a u=>qn u 28 (tn rfl) fun a u=>qn u 28 (tn rfl) fun a u=>qn u 28 (tn rfl) fun a u=>qn u 28 (tn rfl) fun a u=>qn u 28 (tn rfl) fun a u=>q u (aF u rfl rfl rfl) fun a u=>qm u rfl fun a u=>qn u 35 (tn rfl) fun a u=>qn u 35 (tn rfl) fun a u=>qn u 35 (tn rfl) fun a u=>q u (aF u rfl rfl rfl) fun a u=>qm u rfl fun a u=>qn u 40 (tn rfl) fun a u=>qn u 40 (tn rfl) fun a u=>qn u 40 (tn rfl) fun a u=>q u (aF u rfl rfl rfl) fun a u=>aB<|?_;exact hk18 (true,w13) h _ (u.sb rfl)
  refine qg u 24 (nt b19) (aC u rfl) fun a u=>qg u 24 (nt b19) (jJ u rfl rfl aHL) fun a u=>q u (aL u rfl b19 rfl) fun a u=>qm u rfl fun a u=>?_;refine iE h (fun b20 h=>?_) (fun b20 h=>?_)
  .refine qn u 28 (tn b20) fun a u=>qn u 28 (tn b20) fun a u=>qn u 28 (tn b20) fun a u=>qn u 28 (tn b20) fun a u=>qn u 28 (tn b20) fun a u=>q u (aF u rfl b20 rfl) fun a u=>qm u rfl fun a u=>qn u 35 (tn rfl) fun a u=>qn u 35 (tn rfl) fun a u=>qn u 35 (tn rfl) fun a u=>q u (aF u rfl rfl rfl) fun a u=>qm u rfl fun a u=>qn u 40 (tn rfl) fun a u=>qn u 40 (tn rfl) fun a u=>qn u 40 (tn rfl) fun a u=>q u (aF u rfl rfl rfl) fun a u=>aB<|?_;exact hk18 (true,w13) h _ (u.sb rfl)
  refine qg u 28 (nt b20) (aC u rfl) fun a u=>?_;obtain⟨s21,w22,e23,h⟩:=h;refine qg u 28 (nt b20) (iK (vs:=[(0,(.int .u8 97)),(1,(.int .u8 98))]) (ps:=[[(.int .u8 97)],[(.int .u8 98)]]) u ⟨rfl,rfl,rfl,rfl,aLz⟩ ⟨rfl,rfl,rfl,rfl,aLz⟩ rfl aGK aGT aHG (by decide) e23) fun a u=>?_;obtain⟨s24,w25,e26,h⟩:=h;refine qg u 28 (nt b20) (aFu u rfl e26) fun a u=>?_;refine aDh (ι:=Int×World) (pk:=fun i=>(iV i.1)) (wf:=fun i=>i.2) (xs:=[_,_,_]) (vs:=[(pV v11),(iV 5),(Sl.v s24)]) rfl rfl u (rfl:List.lookup 28 _=_) (nt b20) ⟨rfl,rfl,rfl,aLz⟩ Try.call42 (mP (un2 h)) (fun i h a u=>?_);obtain⟨v27,w28⟩:=i;refine qg u 28 (nt b20) (fJ u rfl rfl) fun a u=>q u (aL u rfl b20 rfl) fun a u=>qm u rfl fun a u=>?_;refine iE h (fun b30 h=>?_) (fun b30 h=>?_)
  .refine qn u 35 (tn b30) fun a u=>qn u 35 (tn b30) fun a u=>qn u 35 (tn b30) fun a u=>q u (aF u rfl b30 rfl) fun a u=>qm u rfl fun a u=>qn u 40 (tn rfl) fun a u=>qn u 40 (tn rfl) fun a u=>qn u 40 (tn rfl) fun a u=>q u (aF u rfl rfl rfl) fun a u=>aB<|?_;exact hk18 (true,w28) h _ (u.sb rfl)
  refine qg u 35 (nt b30) (aC u rfl) fun a u=>?_;obtain⟨v31,w32,e33,h⟩:=h;refine qg u 35 (nt b30) (dc1 u rfl Try.call41 (pW e33)) fun a u=>qg u 35 (nt b30) (fJ u rfl rfl) fun a u=>q u (aL u rfl b30 rfl) fun a u=>qm u rfl fun a u=>?_;refine iE h (fun b34 h=>?_) (fun b34 h=>?_)
  .refine qn u 40 (tn b34) fun a u=>qn u 40 (tn b34) fun a u=>qn u 40 (tn b34) fun a u=>q u (aF u rfl b34 rfl) fun a u=>aB<|?_;exact hk18 (true,w32) h _ (u.sb rfl)
  refine qg u 40 (nt b34) (aC u rfl) fun a u=>?_;obtain⟨v35,w36,e37,h⟩:=h;refine qg u 40 (nt b34) (mO (xs:=[_,_]) (vs:=[(pV v1),(Sl.v Sl.nil)]) u ⟨rfl,rfl,aLz⟩ Try.call79 (lQ e37)) fun a u=>qg u 40 (nt b34) (fJ u rfl rfl) fun a u=>q u (aL u rfl b34 rfl) fun a u=>aB<|?_;exact hk18 ((v35 !=0),w36) h _ (u.sb rfl)
 refine aA<|qm u rfl fun a u=>q u (fJ u rfl rfl) fun a u=>qm u rfl fun a u=>?_;refine iE h (fun b9 h=>?_) (fun b9 h=>?_)
 .refine qn u 13 (tn b9) fun a u=>qn u 13 (tn b9) fun a u=>q u (aF u rfl b9 rfl) fun a u=>aB<|?_;exact hk8 (true,w3) h _ (u.sb rfl)
 refine qg u 13 (nt b9) (aC u rfl) fun a u=>qg u 13 (nt b9) (jJ u rfl rfl aHt) fun a u=>q u (aL u rfl b9 rfl) fun a u=>aB<|?_;exact hk8 ((v1.isNone),w3) h _ (u.sb rfl)
def lvL:Lg:=⟨1,3,0,0,0,[]⟩
def lvA:Int×Dk×Lg:=(Dk.new 52).appendL lvL 5 [97,98]
def lvD:Dk:=(lvA.2.1.syncL lvA.2.2).2.crash []
theorem lv1:(Dk.new 52).openL 1 3=(0,Dk.new 52,some lvL):=by kernel_rfl
theorem lv2:lvA.1=0:=by kernel_rfl
theorem lv3:(lvA.2.1.syncL lvA.2.2).1=0:=by kernel_rfl
theorem lv4:(lvD.openL 1 3).1=0:=by kernel_rfl
theorem lv5:(lvD.openL 1 3).2.2=some ⟨1,3,1,5,0,[⟨0,1,2,5,[(5,[97,98])]⟩]⟩:=by kernel_rfl
theorem aEM:lvL.Wf:=⟨by decide,by decide,by decide,by decide,by decide,by decide,by decide,(fun s hs=>by cases hs),(by simp[lvL]),(fun s hs=>by cases hs)⟩
theorem aDz:(Dk.new 52).To lvA.2.1 1000:=xE _ _ _ (by intro b hb;simp at hb;rcases hb with rfl | rfl<;>decide)
section
variable {F0 : Nat -> Prop} {g g0 : Gh} {w w0 : World} {L : List Rs}
theorem Hp.lit {xs:List Int} {ps:List (List Value)} (H:Hp F0 g0 w0 g w L) (hp:ps=xs.map fun x=>[.int .u8 x]):∃ z g' w1 w2,D.bsl w 5 1 ps=some (z,w1)/\cvS Try.prog 72 z w1=some (z,w2)/\Hp F0 g0 w0 g' w2 L/\Mo g w g' w2/\PR g' w2 z 1 (nums .u8 xs):=by
 obtain⟨w1,w2,e1,e2,r2,f2⟩:=aGe (w:=w) (t:=72) (T:=5) (P:=Try.prog) (m:=ps.length) rfl Try.underlying72 Try.underlying5 (by intro p h;rw[hp] at h;obtain⟨x,_,rfl⟩:=aIP.1 h;rfl);have hfl:ps.flatten=nums .u8 xs:=by
  rw[hp];clear hp
  induction xs with
  | nil=>rfl
  | cons x xs ih=>simpa[nums] using ih
 rw[hfl] at r2;have hlt:(0<ps.length->w.heap.size<w2.heap.size):=fun h0=>by
  obtain⟨a,ea,hc⟩:=r2.at_ h0;have hx:0<xs.length:=by rw[hp] at h0;simpa using h0
  have h1:=hc 0 (.int .u8 xs[0]) (by rw[lY,aIs hx];rfl);simp only[Option.some.injEq] at ea;subst ea;exact yW h1
 have n:Nw g w (fun k=>g k\/(0<ps.length/\k=w.heap.size)) w2:=⟨f2 _,fun k hk _=>⟨fun h=>h.elim id (fun h=>by omega),.inl⟩,⟨(f2 (fun _=>False)).size,fun k hk=>⟨.inl hk,(f2 (fun _=>False)).block k (H.lt k hk) id⟩⟩,
  fun k hk=>hk.elim (fun h'=>aIX (H.lt k h') (f2 (fun _=>False)).size) (fun h'=>by rw[h'.2];exact hlt h'.1)⟩
 exact⟨_,_,w1,w2,e1,e2,H.nw n,n.mo,r2,fun a ha h0=>.inr ⟨h0,by cases ha;rfl⟩⟩
theorem uD (H:Hp F0 g0 w0 g w L) {Φ:Bool×World->Prop} (hΦ:∀ g' w',Hp F0 g0 w0 g' w' L->Mo g w g' w'->Φ (true,w')):(fS w).t Φ:=by
 obtain⟨x,w1,e1,H1,m1⟩:=H.dnew (m:=52) (by decide) (by decide);unfold fS;refine Nd.b3 e1 (Nd.j2 (Ψ:=fun r=>r=(false,w1)) (Nd.f (by decide) (Nd.ret rfl)) ?_);rintro _ _ he;cases he;refine Nd.f (by simp) (Nd.j3 (Ψ:=fun r=>∃ p g',r.1=some ⟨p,0,none⟩/\r.2.1=0/\Hp F0 g0 w0 g' r.2.2 (lgR p x lvL::dkR x (Dk.new 52)::L)/\Mo g w g' r.2.2) (vX H1 (yI _) (by simp[Dk.new]) (by decide) fun g' w' o ho m'=>?_) ?_)
 .rw[show(52:Int).toNat=52 from rfl,lv1] at ho;obtain⟨p,rfl,H'⟩:=ho;exact⟨p,g',rfl,by rw[show(52:Int).toNat=52 from rfl,lv1],H',m1.t m'⟩
 rintro _ _ w2 ⟨p,g2,rfl,rfl,H2,m2⟩;simp only at H2 m2
 -- the record is appended,and the disk crashes
 refine Nd.j2 (Ψ:=fun r=>r.1=false/\∃ g',Hp F0 g0 w0 g' r.2 (dkR x lvD::L)/\Mo g w g' r.2) (Nd.f (by decide) (Nd.f (by simp) ?_)) ?_
 .obtain⟨z3,g3,w3,w4,e3,e4,H4,m4,p4⟩:=H2.lit (xs:=[97,98]) (ps:=[[.int .u8 97],[.int .u8 98]]) rfl;refine Nd.b2 e3 (Nd.b2 e4 (Nd.j2 (Ψ:=fun r=>r.1=0/\∃ g',Hp F0 g0 w0 g' r.2 (lgR p x lvA.2.2::dkR x lvA.2.1::L)/\Mo g w g' r.2) (uA aEM H4 (fun _ _ m=>(p4.mo m).rd) (by simp[Dk.new]) fun g' w' H' m'=>⟨lv2,g',H',m2.t (m4.t m')⟩) ?_));rintro _ w5 ⟨h5,g5,H5,m5⟩;simp only at h5 H5 m5;subst h5;have hW:=aDz.w;have hW0:(Dk.new 52).W.length=0:=rfl;obtain⟨w6,e6,H6,m6⟩:=zT H5 (by omega);rw[lv3] at e6;have hW6:=(vQ lvA.2.1 lvA.2.2).w;obtain⟨w7,e7,H7,m7⟩:=(H6.sw).dcrash (f:=Sl.nil) (fs:=[]) (PR.nil rfl) (by omega);exact Nd.f (by decide) (Nd.b2 e6 (Nd.f (by decide) (Nd.b2 e7 (Nd.ret ⟨rfl,g5,H7.sw.tl,m5.t (m6.t m7)⟩))))
 rintro _ w8 ⟨h8,g8,H8,m8⟩;simp only at h8 H8 m8;subst h8;have hbt:lvD.Bt:=((vQ _ _).b (aDz.b (yI _))).crash [];refine Nd.f (by simp) (Nd.j3 (Ψ:=fun r=>∃ p g',r.1=some ⟨p,0,none⟩/\r.2.1=0/\Hp F0 g0 w0 g' r.2.2 (lgR p x ⟨1,3,1,5,0,[⟨0,1,2,5,[(5,[97,98])]⟩]⟩::L)/\Mo g w g' r.2.2) (vX H8 hbt (by simp[lvD,Dk.crash]) (by decide) fun g' w' o ho m'=>?_) ?_)
 .rw[lv5] at ho;obtain⟨p,rfl,H'⟩:=ho;exact⟨p,g',rfl,lv4,H'.sw.tl,m8.t m'⟩
 rintro _ _ w9 ⟨q,g9,rfl,rfl,H9,m9⟩;simp only at H9 m9;refine Nd.j2 (Ψ:=fun r=>r.1=true/\∃ g',Hp F0 g0 w0 g' r.2 L/\Mo g w g' r.2) (Nd.t (by decide) (Nd.b2 (uY H9) (Nd.t (by decide) ?_))) ?_
 .obtain⟨z10,w10,e10,H10,m10⟩:=xI (a:=0) (b:=9) (by simp) (by simp) H9;obtain⟨z11,g11,w11,w12,e11,e12,H12,m12,p12⟩:=H10.lit (xs:=[97,98]) (ps:=[[.int .u8 97],[.int .u8 98]]) rfl;obtain⟨z13,w13,e13,n13,_,H13,m13⟩:=H12.bsl (T:=87) (sz:=2) (ps:=[rcC 5 z11]) (by intro v hv;simp at hv;subst hv;rfl) (by simp);have hev:Lg.events ⟨1,3,1,5,0,[⟨0,1,2,5,[(5,[97,98])]⟩]⟩ 0 9=[(5,[97,98])]:=by kernel_rfl
  rw[hev] at H13;have r1:RRd w13 z10 [(5,[97,98])]:=vC H13.sw;have r2:RRd w13 z13 [(5,[97,98])]:=⟨[(5,z11)],H13.ow.rd,rfl,fun j r q hr hq=>by
   cases j with
   | zero=>simp at hr hq;subst hr;subst hq;exact⟨rfl,(p12.mo m13).rd⟩
   | succ j=>simp at hr⟩
  obtain⟨w14,e14,-,f14⟩:=aBC r1 r2 (by simp);have H14:=H13.tl.tl.tl.old f14;exact Nd.b2 e10 (Nd.b2 e11 (Nd.b2 e12 (Nd.b2 e13 (Nd.b2 e14 (Nd.ret ⟨rfl,g11,H14,m9.t (m10.t (m12.t (m13.t (H13.mold f14))))⟩)))))
 rintro _ w15 ⟨h15,g15,H15,m15⟩;simp only at h15 H15 m15;subst h15;exact Nd.ret (hΦ g15 w15 H15 m15)
end
def dG (a0:Sl) (v1:Option Addr) (x5:Bool) (x6:Int) (w7:World):ND ((Bool×Int×World)⊕(Bool×World)) :=
 cb2 (if x5=true then
 (if (decide (x6<(a0.n:Int)))=true then
 (aU ((decide (x6<100)),w7))
 else
 (aU (false,w7)))
 else
 (aU (false,w7))) fun v14 w15 =>
 if v14=true then
 (cb2 (lb1 (ix a0 x6 4) fun p25 =>
 lb1 (ldI .i64 w15 (p25.add 0)) fun v27 =>
 if (v27 !=5)=true then
 (lb1 (ix a0 x6 4) fun p30 =>
 lb1 (ldA 4 w15 p30 0) fun c32 =>
 cb2 (gY v1 c32 w15) fun v34 w35 =>
 aU (v34,w35))
 else
 (aU (x5,w15))) fun v21 w22 =>
 aU (.inl (v21,(IntKind.wrap .i64 (x6+1)),w22)))
 else
 (aU (.inr (x5,w15)))
noncomputable def iL (a0:Sl) (a1:Sl) (w:World):ND (Bool×World) :=
 cb3 (iN Sl.nil w) fun v1 v2 w3 =>
 cb2 (fB (fun s:Bool×Int×World=>dG a0 v1 s.1 s.2.1 s.2.2) (v2,0,w3)) fun v10 w11 =>
 if (!v10)=true then
 (aU (false,w11))
 else
 (cb2 (lb1 (dr w11) fun w42 =>
 lb1 (v1) fun p44 =>
 lb1 (ldP w42 (p44.add 0)) fun v46 =>
 lb2 (dB v46 w42) fun v48 w49 =>
 if v48=true then
 (aU (true,w49))
 else
 (lb1 (ldP w49 (p44.add 1)) fun v52 =>
 lb1 (ldP w49 (p44.add 1)) fun v54 =>
 lb2 (iQ v54 w49) fun v56 w57 =>
 lb2 (kJ v52 v56 w57) fun v59 w60 =>
 nck (ldP w57 (p44.add 1)=some v52) <|
 aU ((v59 !=0),w60))) fun v38 w39 =>
 if v38=true then
 (cb2 (fS w39) fun v64 w65 =>
 aU (v64,w65))
 else
 (cb2 (lb1 (v1) fun p71 =>
 lb1 (ldP w39 (p71.add 1)) fun v73 =>
 lb2 (kI v73 w39) fun v75 w76 =>
 if (decide (1<v75))=true then
 (aU (true,w76))
 else
 (lb1 (ldP w76 (p71.add 1)) fun v79 =>
 lb2 (fG v79 0 1099511627776 w76) fun v81 w82 =>
 if ((v81.n:Int) !=0)=true then
 (aU (true,w82))
 else
 (lb1 (ldP w82 (p71.add 0)) fun v85 =>
 lb2 (gL v85 0 w82) fun v87 w88 =>
 aU ((v87 !=0),w88)))) fun v67 w68 =>
 if v67=true then
 (aU (false,w68))
 else
 (lb1 (v1) fun p91 =>
 lb1 (ldP w68 (p91.add 1)) fun v93 =>
 lb2 (iQ v93 w68) fun v95 w96 =>
 lb1 (ldP w96 (p91.add 1)) fun v98 =>
 cb2 (iJ v98 (IntKind.wrap .i64 (v95+1)) a1 w96) fun v100 w101 =>
 if (decide (400<(a1.n:Int)))=true then
 (cb2 (cb2 (fS w101) fun v108 w109 =>
 if v108=true then
 (aU ((v100==6),w109))
 else
 (aU (false,w109))) fun v104 w105 =>
 aU (v104,w105))
 else
 (cb2 (cb2 (fS w101) fun v116 w117 =>
 if v116=true then
 (if (v100==0)=true then
 (lb1 (ldP w117 (p91.add 1)) fun v121 =>
 lb2 (fG v121 (IntKind.wrap .i64 (v95+1)) (IntKind.wrap .i64 (v95+1)) w117) fun v123 w124 =>
 if ((v123.n:Int)==1)=true then
 (aU (true,w124))
 else
 (if (v100==14)=true then
 (aU ((decide (1099511627776<(IntKind.wrap .i64 (v95+1)))),w124))
 else
 (aU (false,w124))))
 else
 (if (v100==14)=true then
 (aU ((decide (1099511627776<(IntKind.wrap .i64 (v95+1)))),w117))
 else
 (aU (false,w117))))
 else
 (aU (false,w117))) fun v112 w113 =>
 aU (v112,w113)))))
theorem grapevinelaw11_EvlogRoom_ok {a0 a1 w Q} (h:(iL a0 a1 w).t Q):Calls Try.prog 12 #[(Sl.v a0),(Sl.v a1)] w fun e w''=>∃ i,e=.returned (.bool i.1)/\Q i/\w''=i.2:=by
 refine aP (n:=128) Try.func12 rfl Try.ntmps12 (by simp) fun a u=>?_;unfold iL at h;refine wp_seq<|aA<|qa u rfl fun a u=>aB<|t_n<|wp_seq<|aA<|?_;refine jV (ι:=(Option Addr)×Bool×World) (pk:=fun i=>(.tuple #[(pV i.1),(bV i.2.1)])) (wf:=fun i=>i.2.2) (xs:=[_]) (vs:=[(Sl.v Sl.nil)]) u ⟨rfl,aLz⟩ Try.call45 (qI (un3 h)) (fun i h a u=>?_);obtain⟨v1,v2,w3⟩:=i;refine qm u rfl fun a u=>q u (aW u rfl rfl) fun a u=>q u (aW u rfl rfl) fun a u=>qa u rfl fun a u=>qa u rfl fun a u=>aB<|t_n<|wp_seq<|wp_seq<|aA<|qa u rfl fun a u=>aB<|t_n<|wp_block<|?_;refine lE (n:=128) (Lr:=fun i=>[(6,(bV i.1)),(1,(Sl.v a1)),(5,(pV v1))]) (wr:=fun i=>i.2) (e:=.exit 0) (I:=fun (s:Bool×Int×World) a w=>Has 128 [(6,(bV s.1)),(7,(iV s.2.1)),(0,(Sl.v a0)),(1,(Sl.v a1)),(5,(pV v1))] a/\w=s.2.2) (un2 h) ⟨u.sub ⟨rfl,rfl,rfl,rfl,rfl,aLz⟩,rfl⟩ (fun i h a u=>?_) (fun hk12=>?_)
 .obtain⟨v10,w11⟩:=i;have u:Has 128 [(6,(bV v10)),(1,(Sl.v a1)),(5,(pV v1))] a:=u;refine eC<|t_n<|wp_seq<|wp_seq<|aA<|qm u rfl fun a u=>q u (pR u rfl) fun a u=>aB<|t_n<|?_;refine aX u rfl h (fun b37 h=>?_) (fun b37 h=>?_)
  .refine wp_seq<|aA<|qa u rfl fun a u=>aB<|t_n<|wp_ret<|t_r<|?_;exact bI Try.results12 u rfl ⟨(false,w11),rfl,h,rfl⟩
  refine wp_skip<|t_n<|wp_seq<|wp_seq<|?_;refine dD (n:=128) (ι:=Bool×World) (Lf:=fun i=>[(58,(bV i.1)),(1,(Sl.v a1)),(5,(pV v1))]) (wf:=fun i=>i.2) (un2 h) (fun i h a u=>?_) (fun h hk41=>?_)
  .obtain⟨v38,w39⟩:=i;have u:Has 128 [(58,(bV v38)),(1,(Sl.v a1)),(5,(pV v1))] a:=u;refine t_n<|?_;refine aX u rfl h (fun b63 h=>?_) (fun b63 h=>?_)
   .refine wp_seq<|aA<|?_;refine jV (ι:=Bool×World) (pk:=fun i=>(bV i.1)) (wf:=fun i=>i.2) (xs:=[]) (vs:=[]) u trivial Try.call37 (kS (un2 h)) (fun i h a u=>?_);obtain⟨v64,w65⟩:=i;refine qa u rfl fun a u=>aB<|t_n<|wp_ret<|t_r<|?_;exact bI Try.results12 u rfl ⟨(v64,w65),rfl,h,rfl⟩
   refine wp_skip<|t_n<|wp_seq<|wp_seq<|?_;refine dD (n:=128) (ι:=Bool×World) (Lf:=fun i=>[(82,(bV i.1)),(1,(Sl.v a1)),(5,(pV v1))]) (wf:=fun i=>i.2) (un2 h) (fun i h a u=>?_) (fun h hk70=>?_)
   .obtain⟨v67,w68⟩:=i;have u:Has 128 [(82,(bV v67)),(1,(Sl.v a1)),(5,(pV v1))] a:=u;refine t_n<|?_;refine aX u rfl h (fun b90 h=>?_) (fun b90 h=>?_)
    .refine wp_seq<|aA<|qa u rfl fun a u=>aB<|t_n<|wp_ret<|t_r<|?_;exact bI Try.results12 u rfl ⟨(false,w68),rfl,h,rfl⟩
    refine wp_skip<|t_n<|wp_seq<|aA<|qm u rfl fun a u=>?_;obtain⟨p91,e92,h⟩:=h;refine q u (aH u rfl e92) fun a u=>q u (aK u rfl aGQ rfl rfl aHr) fun a u=>?_;obtain⟨v93,e94,h⟩:=h;refine q u (aJ u rfl aHv (bA e94)) fun a u=>?_;obtain⟨v95,w96,e97,h⟩:=h;refine q u (dc1 u rfl Try.call38 (fU e97)) fun a u=>q u (bJ u rfl rfl) fun a u=>qa u rfl fun a u=>aB<|t_n<|wp_seq<|aA<|qm u rfl fun a u=>q u (aH u rfl e92) fun a u=>q u (aK u rfl aGQ rfl rfl aHr) fun a u=>?_;obtain⟨v98,e99,h⟩:=h;refine q u (aJ u rfl aHv (bA e99)) fun a u=>qm u rfl fun a u=>qm u rfl fun a u=>?_;refine jV (ι:=Int×World) (pk:=fun i=>(iV i.1)) (wf:=fun i=>i.2) (xs:=[_,_,_]) (vs:=[(pV v98),(iV (IntKind.wrap .i64 (v95+1))),(Sl.v a1)]) u ⟨rfl,rfl,rfl,aLz⟩ Try.call42 (mP (un2 h)) (fun i h a u=>?_);obtain⟨v100,w101⟩:=i;refine qa u rfl fun a u=>aB<|t_n<|wp_seq<|wp_seq<|aA<|qm u rfl fun a u=>q u (aZ u rfl aGK) fun a u=>q u (gF u rfl rfl) fun a u=>aB<|t_n<|?_;refine aX u rfl h (fun b103 h=>?_) (fun b103 h=>?_)
    .refine wp_seq<|?_;refine dD (n:=128) (ι:=Bool×World) (Lf:=fun i=>[(4,(bV i.1))]) (wf:=fun i=>i.2) (un2 h) (fun i h a u=>?_) (fun h hk107=>?_)
     .obtain⟨v104,w105⟩:=i;have u:Has 128 [(4,(bV v104))] a:=u;refine t_n<|wp_ret<|t_r<|?_;exact bI Try.results12 u rfl ⟨(v104,w105),rfl,h,rfl⟩
     refine aA<|?_;refine jV (ι:=Bool×World) (pk:=fun i=>(bV i.1)) (wf:=fun i=>i.2) (xs:=[]) (vs:=[]) u trivial Try.call37 (kS (un2 h)) (fun i h a u=>?_);obtain⟨v108,w109⟩:=i;refine qm u rfl fun a u=>?_;refine iE h (fun b111 h=>?_) (fun b111 h=>?_)
     .refine qg u 100 b111 (aC u rfl) fun a u=>qg u 100 b111 (gD u rfl rfl) fun a u=>q u (aF u rfl b111 rfl) fun a u=>qa u rfl fun a u=>aB<|?_;exact hk107 ((v100==6),w109) h _ (u.sb rfl)
     refine qn u 100 (nm b111) fun a u=>qn u 100 (nm b111) fun a u=>q u (aL u rfl b111 rfl) fun a u=>qa u rfl fun a u=>aB<|?_;exact hk107 (false,w109) h _ (u.sb rfl)
    refine wp_skip<|t_n<|wp_seq<|?_;refine dD (n:=128) (ι:=Bool×World) (Lf:=fun i=>[(4,(bV i.1))]) (wf:=fun i=>i.2) (un2 h) (fun i h a u=>?_) (fun h hk115=>?_)
    .obtain⟨v112,w113⟩:=i;have u:Has 128 [(4,(bV v112))] a:=u;refine t_n<|wp_ret<|?_;exact bI Try.results12 u rfl ⟨(v112,w113),rfl,h,rfl⟩
    refine aA<|?_;refine jV (ι:=Bool×World) (pk:=fun i=>(bV i.1)) (wf:=fun i=>i.2) (xs:=[]) (vs:=[]) u trivial Try.call37 (kS (un2 h)) (fun i h a u=>?_);obtain⟨v116,w117⟩:=i;refine qm u rfl fun a u=>?_;refine iE h (fun b119 h=>?_) (fun b119 h=>?_)
    .refine qg u 105 b119 (aC u rfl) fun a u=>qg u 105 b119 (gD u rfl rfl) fun a u=>qg u 105 b119 (aC u rfl) fun a u=>?_;refine iE h (fun b120 h=>?_) (fun b120 h=>?_)
     .refine qg u 108 b120 (aC u rfl) fun a u=>qg u 108 b120 (aH u rfl e92) fun a u=>qg u 108 b120 (aK u rfl aGQ rfl rfl aHr) fun a u=>?_;obtain⟨v121,e122,h⟩:=h;refine qg u 108 b120 (aJ u rfl aHv (bA e122)) fun a u=>qg u 108 b120 (aC u rfl) fun a u=>qg u 108 b120 (aC u rfl) fun a u=>?_;obtain⟨v123,w124,e125,h⟩:=h;refine qg u 108 b120 (dc3 u rfl rfl rfl Try.call44 (jC e125)) fun a u=>qg u 108 b120 (aZ u rfl aGY) fun a u=>qg u 108 b120 (gD u rfl rfl) fun a u=>qg u 105 b119 (aF u rfl b120 rfl) fun a u=>qg u 105 b119 (aC u rfl) fun a u=>?_;refine iE h (fun b126 h=>?_) (fun b126 h=>?_)
      .refine qn u 119 (tn b126) fun a u=>qn u 119 (tn b126) fun a u=>qn u 119 (tn b126) fun a u=>qu u 122 fun a u=>qu u 122 fun a u=>qn u 119 (tn b126) fun a u=>qg u 105 b119 (aF u rfl b126 rfl) fun a u=>q u (aF u rfl b119 rfl) fun a u=>qa u rfl fun a u=>aB<|?_;exact hk115 (true,w124) h _ (u.sb rfl)
      refine qg u 119 (nt b126) (aC u rfl) fun a u=>qg u 119 (nt b126) (gD u rfl rfl) fun a u=>qg u 119 (nt b126) (aC u rfl) fun a u=>?_;refine iE h (fun b127 h=>?_) (fun b127 h=>?_)
      .refine qg u 122 b127 (aC u rfl) fun a u=>qg u 122 b127 (gF u rfl rfl) fun a u=>qg u 119 (nt b126) (aF u rfl b127 rfl) fun a u=>qg u 105 b119 (aL u rfl b126 rfl) fun a u=>q u (aF u rfl b119 rfl) fun a u=>qa u rfl fun a u=>aB<|?_;exact hk115 ((decide (1099511627776<(IntKind.wrap .i64 (v95+1)))),w124) h _ (u.sb rfl)
      refine qn u 122 (nm b127) fun a u=>qn u 122 (nm b127) fun a u=>qg u 119 (nt b126) (aL u rfl b127 rfl) fun a u=>qg u 105 b119 (aL u rfl b126 rfl) fun a u=>q u (aF u rfl b119 rfl) fun a u=>qa u rfl fun a u=>aB<|?_;exact hk115 (false,w124) h _ (u.sb rfl)
     refine qn u 108 (nm b120) fun a u=>qn u 108 (nm b120) fun a u=>qn u 108 (nm b120) fun a u=>qn u 108 (nm b120) fun a u=>qn u 108 (nm b120) fun a u=>qn u 108 (nm b120) fun a u=>qn u 108 (nm b120) fun a u=>qn u 108 (nm b120) fun a u=>qn u 108 (nm b120) fun a u=>qg u 105 b119 (aL u rfl b120 rfl) fun a u=>qg u 105 b119 (aC u rfl) fun a u=>qg u 119 (nt aIr) (aC u rfl) fun a u=>qg u 119 (nt aIr) (gD u rfl rfl) fun a u=>qg u 119 (nt aIr) (aC u rfl) fun a u=>?_;refine iE h (fun b128 h=>?_) (fun b128 h=>?_)
     .refine qg u 122 b128 (aC u rfl) fun a u=>qg u 122 b128 (gF u rfl rfl) fun a u=>qg u 119 (nt aIr) (aF u rfl b128 rfl) fun a u=>qg u 105 b119 (aL u rfl aIr rfl) fun a u=>q u (aF u rfl b119 rfl) fun a u=>qa u rfl fun a u=>aB<|?_;exact hk115 ((decide (1099511627776<(IntKind.wrap .i64 (v95+1)))),w117) h _ (u.sb rfl)
     refine qn u 122 (nm b128) fun a u=>qn u 122 (nm b128) fun a u=>qg u 119 (nt aIr) (aL u rfl b128 rfl) fun a u=>qg u 105 b119 (aL u rfl aIr rfl) fun a u=>q u (aF u rfl b119 rfl) fun a u=>qa u rfl fun a u=>aB<|?_;exact hk115 (false,w117) h _ (u.sb rfl)
    refine qn u 105 (nm b119) fun a u=>qn u 105 (nm b119) fun a u=>qn u 105 (nm b119) fun a u=>qu u 108 fun a u=>qu u 108 fun a u=>qu u 108 fun a u=>qu u 108 fun a u=>qu u 108 fun a u=>qu u 108 fun a u=>qu u 108 fun a u=>qu u 108 fun a u=>qu u 108 fun a u=>qn u 105 (nm b119) fun a u=>qn u 105 (nm b119) fun a u=>qu u 119 fun a u=>qu u 119 fun a u=>qu u 119 fun a u=>qu u 122 fun a u=>qu u 122 fun a u=>qu u 119 fun a u=>qn u 105 (nm b119) fun a u=>q u (aL u rfl b119 rfl) fun a u=>qa u rfl fun a u=>aB<|?_;exact hk115 (false,w117) h _ (u.sb rfl)
   refine aA<|qm u rfl fun a u=>?_;obtain⟨p71,e72,h⟩:=h;refine q u (aH u rfl e72) fun a u=>q u (aK u rfl aGQ rfl rfl aHr) fun a u=>?_;obtain⟨v73,e74,h⟩:=h;refine q u (aJ u rfl aHv (bA e74)) fun a u=>?_;obtain⟨v75,w76,e77,h⟩:=h;refine q u (dc1 u rfl Try.call40 (lJ e77)) fun a u=>q u (gF u rfl rfl) fun a u=>qm u rfl fun a u=>?_;refine iE h (fun b78 h=>?_) (fun b78 h=>?_)
   .refine qn u 66 (tn b78) fun a u=>qn u 66 (tn b78) fun a u=>qn u 66 (tn b78) fun a u=>qn u 66 (tn b78) fun a u=>qn u 66 (tn b78) fun a u=>qn u 66 (tn b78) fun a u=>qn u 66 (tn b78) fun a u=>q u (aF u rfl b78 rfl) fun a u=>qm u rfl fun a u=>qn u 75 (tn rfl) fun a u=>qn u 75 (tn rfl) fun a u=>qn u 75 (tn rfl) fun a u=>qn u 75 (tn rfl) fun a u=>qn u 75 (tn rfl) fun a u=>qn u 75 (tn rfl) fun a u=>q u (aF u rfl rfl rfl) fun a u=>aB<|?_;exact hk70 (true,w76) h _ (u.sb rfl)
   refine qg u 66 (nt b78) (aC u rfl) fun a u=>qg u 66 (nt b78) (aH u rfl e72) fun a u=>qg u 66 (nt b78) (aK u rfl aGQ rfl rfl aHr) fun a u=>?_;obtain⟨v79,e80,h⟩:=h;refine qg u 66 (nt b78) (aJ u rfl aHv (bA e80)) fun a u=>?_;obtain⟨v81,w82,e83,h⟩:=h;refine qg u 66 (nt b78) (dc3 u rfl rfl rfl Try.call44 (jC e83)) fun a u=>qg u 66 (nt b78) (aZ u rfl aGY) fun a u=>qg u 66 (nt b78) (fJ u rfl rfl) fun a u=>q u (aL u rfl b78 rfl) fun a u=>qm u rfl fun a u=>?_;refine iE h (fun b84 h=>?_) (fun b84 h=>?_)
   .refine qn u 75 (tn b84) fun a u=>qn u 75 (tn b84) fun a u=>qn u 75 (tn b84) fun a u=>qn u 75 (tn b84) fun a u=>qn u 75 (tn b84) fun a u=>qn u 75 (tn b84) fun a u=>q u (aF u rfl b84 rfl) fun a u=>aB<|?_;exact hk70 (true,w82) h _ (u.sb rfl)
   refine qg u 75 (nt b84) (aC u rfl) fun a u=>qg u 75 (nt b84) (aH u rfl e72) fun a u=>qg u 75 (nt b84) (aK u rfl aGQ rfl rfl aHm) fun a u=>?_;obtain⟨v85,e86,h⟩:=h;refine qg u 75 (nt b84) (aJ u rfl aHj (bA e86)) fun a u=>?_;obtain⟨v87,w88,e89,h⟩:=h;refine qg u 75 (nt b84) (dc2 u rfl rfl Try.call35 (oJ e89)) fun a u=>qg u 75 (nt b84) (fJ u rfl rfl) fun a u=>q u (aL u rfl b84 rfl) fun a u=>aB<|?_;exact hk70 ((v87 !=0),w88) h _ (u.sb rfl)
  obtain⟨w42,e43,h⟩:=h;obtain⟨p44,e45,h⟩:=h;obtain⟨v46,e47,h⟩:=h;obtain⟨v48,w49,e50,h⟩:=h;refine iE h (fun b51 h=>?_) (fun b51 h=>?_)
  .have u:Has 128 [(1,(Sl.v a1)),(5,(pV v1))] a:=u.sb rfl;refine aM (n:=128) (ds:=(aS (pV v1) 0 [] 5::aG (pV (some p44)) 0 [0] 41 (pV v1)::aG (pV (some (p44.add 0))) 0 [0,1] 42 (pV (some p44))::aG (pV v46) 0 [0,1,2] 43 (pV (some (p44.add 0)))::aI (bV v48) true 0 0 (rn 0 4) [(44,(pV v46))]::aS (bV v48) 1 (rn 0 5) 45::aG (undef) 1 (rn 0 6) 46 (bV v48)::aG (undef) 1 (rn 0 7) 46 (bV v48)::aG (undef) 1 (rn 0 8) 46 (bV v48)::aG (undef) 1 (rn 0 9) 46 (bV v48)::aG (undef) 1 (rn 0 6) 46 (bV v48)::aG (undef) 1 (rn 0 6++[10]) 46 (bV v48)::aG (undef) 1 (rn 0 6++[10,11]) 46 (bV v48)::aG (undef) 1 (rn 0 6++[10,11,12]) 46 (bV v48)::aG (undef) 1 (rn 0 6++rn 10 4) 46 (bV v48)::aG (undef) 1 (rn 0 15) 46 (bV v48)::aG (undef) 1 (rn 0 16) 46 (bV v48)::aT (bV true) 1 (rn 0 17) [(46,(bV v48)),(57,undef)]::[])) (W:=(fun j=>match j with | 0=>w42 | 1=>w49 | _=>w49)) (by kernel_rfl) u (cY e43) (by kernel_rfl) ?_ (aR (by kernel_rfl)) (by kernel_rfl) (m:=1) (by kernel_rfl) (fun a u=>?_)
   .exact⟨oa (aC · rfl),oa (aH · rfl e45),oa (aK · rfl aGQ rfl rfl aHm),oc 0 (kd (aJ · rfl aHj (bA e47))),oc 0 (kd (dc1 · rfl Try.call47 (hJ e50))),oa (aC · rfl),on 46 (tn b51),on 46 (tn b51),on 46 (tn b51),on 46 (tn b51),on 46 (tn b51),on 46 (tn b51),on 46 (tn b51),on 46 (tn b51),on 46 (tn b51),on 46 (tn b51),on 46 (tn b51),oa (aF · rfl b51 rfl),aLz⟩
   have u:Has 128 [(1,(Sl.v a1)),(5,(pV v1)),(58,(bV true))] a:=u.sb rfl;exact hk41 (true,w49) h _ (u.sb rfl)
  obtain⟨v52,e53,h⟩:=h;obtain⟨v54,e55,h⟩:=h;obtain⟨v56,w57,e58,h⟩:=h;obtain⟨v59,w60,e61,h⟩:=h;obtain⟨e62,h⟩:=h;have u:Has 128 [(1,(Sl.v a1)),(5,(pV v1))] a:=u.sb rfl;refine aM (n:=128) (ds:=(aS (pV v1) 0 [] 5::aG (pV (some p44)) 0 [0] 41 (pV v1)::aG (pV (some (p44.add 0))) 0 [0,1] 42 (pV (some p44))::aG (pV v46) 0 [0,1,2] 43 (pV (some (p44.add 0)))::aI (bV v48) true 0 0 (rn 0 4) [(44,(pV v46))]::aS (bV v48) 1 (rn 0 5) 45::aI (pV v1) false 1 2 (rn 0 6) [(5,(pV v1)),(46,(bV v48))]::aI (pV (some p44)) false 1 2 (rn 0 7) [(47,(pV v1)),(46,(bV v48))]::aI (pV (some (p44.add 1))) false 1 2 (rn 0 8) [(48,(pV (some p44))),(46,(bV v48))]::aI (pV v52) false 1 2 (rn 0 9) [(49,(pV (some (p44.add 1)))),(46,(bV v48))]::aT (pV v1) 1 (rn 0 6) [(5,(pV v1)),(46,(bV v48))]::aT (pV (some p44)) 1 (rn 0 6++[10]) [(51,(pV v1)),(46,(bV v48))]::aT (pV (some (p44.add 1))) 1 (rn 0 6++[10,11]) [(52,(pV (some p44))),(46,(bV v48))]::aT (pV v54) 1 (rn 0 6++[10,11,12]) [(53,(pV (some (p44.add 1)))),(46,(bV v48))]::aI (iV v56) true 1 1 (rn 0 6++rn 10 4) [(54,(pV v54)),(46,(bV v48))]::aI (iV v59) true 2 2 (rn 0 15) [(50,(pV v52)),(55,(iV v56)),(46,(bV v48))]::aT (bV (v59 !=0)) 3 (rn 0 16) [(56,(iV v59)),(46,(bV v48))]::aT (bV (v59 !=0)) 3 (rn 0 17) [(46,(bV v48)),(57,(bV (v59 !=0)))]::[])) (W:=(fun j=>match j with | 0=>w42 | 1=>w49 | 2=>w57 | 3=>w60 | _=>w60)) (by kernel_rfl) u (cY e43) (by kernel_rfl) ?_ (aR (by kernel_rfl)) (by kernel_rfl) (m:=3) (by kernel_rfl) (fun a u=>?_)
  .refine⟨oa (aC · rfl),oa (aH · rfl e45),oa (aK · rfl aGQ rfl rfl aHm),oc 0 (kd (aJ · rfl aHj (bA e47))),oc 0 (kd (dc1 · rfl Try.call47 (hJ e50))),oa (aC · rfl),oag 46 (nt b51) (aC · rfl),oag 46 (nt b51) (aH · rfl e45),oag 46 (nt b51) (aK · rfl aGQ rfl rfl aHr),?_,oag 46 (nt b51) (aC · rfl),oag 46 (nt b51) (aH · rfl e45),oag 46 (nt b51) (aK · rfl aGQ rfl rfl aHr),oc 1 (kg 46 (nt b51) (aJ · rfl aHv (bA e55))),oc 1 (kg 46 (nt b51) (dc1 · rfl Try.call38 (fU e58))),oc 2 (kg 46 (nt b51) (dc2 · rfl rfl Try.call43 (pU e61))),oag 46 (nt b51) (fJ · rfl rfl),oa (aL · rfl b51 rfl),aLz⟩;intro j h1 h2;have h1:1<=j:=h1;have h2:j<=2:=h2;rcases(by omega:j=1\/j=2) with rfl | rfl
   .exact kg 46 (nt b51) (aJ · rfl aHv (bA e53))
   exact kg 46 (nt b51) (aJ · rfl aHv (bA e62))
  have u:Has 128 [(1,(Sl.v a1)),(5,(pV v1)),(58,(bV (v59 !=0)))] a:=u.sb rfl;exact hk41 ((v59 !=0),w60) h _ (u.sb rfl)
 clear h;intro hX129;rintro⟨x5,x6,w7⟩ a wq ⟨u,hwq⟩ h;obtain rfl:w7=wq:=hwq.symm;have u:Has 128 [(6,(bV x5)),(7,(iV x6)),(0,(Sl.v a0)),(1,(Sl.v a1)),(5,(pV v1))] a:=u;have h:(dG a0 v1 x5 x6 w7).t _:=h;unfold dG at h;refine wp_seq<|wp_seq<|?_;refine dD (n:=128) (ι:=Bool×World) (Lf:=fun i=>[(24,(bV i.1)),(0,(Sl.v a0)),(1,(Sl.v a1)),(5,(pV v1)),(6,(bV x5)),(7,(iV x6))]) (wf:=fun i=>i.2) (un2 h) (fun i h a u=>?_) (fun h hk17=>?_)
 .obtain⟨v14,w15⟩:=i;have u:Has 128 [(24,(bV v14)),(0,(Sl.v a0)),(1,(Sl.v a1)),(5,(pV v1)),(6,(bV x5)),(7,(iV x6))] a:=u;refine t_n<|?_;refine aX u rfl h (fun b20 h=>?_) (fun b20 h=>?_)
  .refine wp_skip<|t_n<|?_;refine gJ (n:=128) (ι:=Bool×World) (Lf:=fun i=>[(6,(bV i.1)),(0,(Sl.v a0)),(1,(Sl.v a1)),(5,(pV v1)),(7,(iV x6))]) (wf:=fun i=>i.2) (un2 h) (fun i h a u=>?_) (fun h hk24=>?_)
   .obtain⟨v21,w22⟩:=i;have u:Has 128 [(6,(bV v21)),(0,(Sl.v a0)),(1,(Sl.v a1)),(5,(pV v1)),(7,(iV x6))] a:=u;refine aA<|qm u rfl fun a u=>q u (bJ u rfl rfl) fun a u=>qa u rfl fun a u=>aB<|?_;exact⟨(v21,(IntKind.wrap .i64 (x6+1)),w22),⟨u.sb rfl,rfl⟩,h⟩
   refine wp_block<|wp_seq<|aA<|qm u rfl fun a u=>qm u rfl fun a u=>?_;obtain⟨p25,e26,h⟩:=h;refine q u (bZ u rfl rfl aHM aIj e26) fun a u=>q u (aK u rfl aHk rfl rfl aGL) fun a u=>?_;obtain⟨v27,e28,h⟩:=h;refine q u (aJ u rfl aGN (aQ e28)) fun a u=>q u (fJ u rfl rfl) fun a u=>aB<|t_n<|?_;refine aX u rfl h (fun b29 h=>?_) (fun b29 h=>?_)
   .refine aA<|qm u rfl fun a u=>qm u rfl fun a u=>qm u rfl fun a u=>?_;obtain⟨p30,e31,h⟩:=h;refine q u (bZ u rfl rfl aHM aIj e31) fun a u=>?_;obtain⟨c32,e33,h⟩:=h;refine q u (gC u rfl Try.isAgg82 aIj e33) fun a u=>?_;refine jV (ι:=Bool×World) (pk:=fun i=>(bV i.1)) (wf:=fun i=>i.2) (xs:=[_,_]) (vs:=[(pV v1),(.agg (List.toArray c32))]) u ⟨rfl,rfl,aLz⟩ Try.call46 (pQ (un2 h)) (fun i h a u=>?_);obtain⟨v34,w35⟩:=i;refine qa u rfl fun a u=>aB<|b_n<|?_;exact hk24 (v34,w35) h _ (u.sb rfl)
   refine wp_skip<|b_n<|?_;exact hk24 (x5,w15) h _ (u.sb rfl)
  refine wp_exit<|t_x<|t_x<|?_;exact hk12 (x5,w15) h _ (u.sb rfl)
 refine aA<|qm u rfl fun a u=>qm u rfl fun a u=>?_;refine iE h (fun b18 h=>?_) (fun b18 h=>?_)
 .refine qg u 15 b18 (aC u rfl) fun a u=>qg u 15 b18 (aC u rfl) fun a u=>qg u 15 b18 (aZ u rfl aHM) fun a u=>qg u 15 b18 (dK u rfl rfl) fun a u=>q u (aF u rfl b18 rfl) fun a u=>qm u rfl fun a u=>?_;refine iE h (fun b19 h=>?_) (fun b19 h=>?_)
  .refine qg u 21 b19 (aC u rfl) fun a u=>qg u 21 b19 (dK u rfl rfl) fun a u=>q u (aF u rfl b19 rfl) fun a u=>aB<|?_;exact hk17 ((decide (x6<100)),w7) h _ (u.sb rfl)
  refine qn u 21 (nm b19) fun a u=>qn u 21 (nm b19) fun a u=>q u (aL u rfl b19 rfl) fun a u=>aB<|?_;exact hk17 (false,w7) h _ (u.sb rfl)
 refine qn u 15 (nm b18) fun a u=>qn u 15 (nm b18) fun a u=>qn u 15 (nm b18) fun a u=>qn u 15 (nm b18) fun a u=>q u (aL u rfl b18 rfl) fun a u=>qm u rfl fun a u=>qn u 21 (nm aIr) fun a u=>qn u 21 (nm aIr) fun a u=>q u (aL u rfl aIr rfl) fun a u=>aB<|?_;exact hk17 (false,w7) h _ (u.sb rfl)
theorem aGv {D:Dk} {i:Int} {b:List Int} (h:(D.write i b).1=0):(D.write i b).2.down=false:=by
 unfold Dk.write at h ⊢;split at h;· cases h
 rename_i h1;split at h;· cases h
 rename_i h2;split at h;· cases h
 rename_i h3;split at h;· cases h
 rename_i h4;rw[if_neg h1,if_neg h2,if_neg h3,if_neg h4];show D.trips.2.down=false;unfold Dk.trips at h4 ⊢;split at h4
 .rename_i h5;rw[if_pos h5];simpa using h1
 rename_i h5;rw[if_neg h5];simpa using h4
theorem aFe {D:Dk} (h:D.sync.1=0):D.sync.2.down=false:=by
 unfold Dk.sync at h ⊢;split at h;· cases h
 rename_i h1;split at h;· cases h
 rename_i h4;rw[if_neg h1,if_neg h4];show D.trips.2.down=false;unfold Dk.trips at h4 ⊢;split at h4
 .rename_i h5;rw[if_pos h5];simpa using h1
 rename_i h5;rw[if_neg h5];simpa using h4
theorem aGo {D:Dk} {b c i v:Int} (h:(D.put b c i v).1=0):(D.put b c i v).2.down=false:=by
 unfold Dk.put at h ⊢;split at h;· cases h
 rename_i h1;split at h;· cases h
 rename_i h2;split at h;· cases h
 rename_i h3;rw[if_neg h1,if_neg h2,if_neg h3];split at h
 .rename_i h4;exact(h4 h).elim
 rename_i h4;rw[if_neg h4];exact aFe h
theorem aEo {base rel:Int}:∀ {us:List Sg} {D:Dk},D.down=false->(D.free base rel us).1=0->(D.free base rel us).2.1.down=false
 | [],D,h,_=>h
 | u::us,D,h,h0=>by
  rw[jG] at h0 ⊢;split at h0
  .rename_i h1;rw[if_pos h1];exact aEo h h0
  rename_i h1;rw[if_neg h1];split at h0
  .rename_i h2;rw[if_pos h2];exact aEo (aGv h2) h0
  rename_i h2;exact(h2 h0).elim
theorem aDe {c:Int} {D:Dk} {l:Lg} (hk:aCF D l) (h:RI c D l) (he:(D.chopL l l.high).1=0) :
  (D.chopL l l.high).2.1.down=false/\(D.chopL l l.high).2.1.age=(D.chopL l l.high).2.2.age/\(D.chopL l l.high).2.2.high=l.high/\(D.chopL l l.high).2.2.rel=l.high/\(D.chopL l l.high).2.2.used.length<=1/\∀ s∈(D.chopL l l.high).2.2.used,s.seq<=c:=by
 have ha:=(zB D l l.high hk.wf.len).age;have hb:=(zD (D:=D) (t:=l.high) hk.wf).2.2.2;rw[ha,hb];have hbd:D.badL l=0:=by
  by_cases h0:D.badL l=0
  .exact h0
  unfold Dk.chopL at he;rw[if_pos h0] at he;exact(h0 he).elim
 have hup:D.age=l.age/\D.down=false:=by
  unfold Dk.badL at hbd;split at hbd;· cases hbd
  split at hbd;· cases hbd
  rename_i h1 h2;exact⟨Decidable.not_not.1 h1,by simpa using h2⟩
 have hone:((D.put 1 1 0 l.high).2.free 1 l.high l.used).2.2.length<=1:=tH fun s hs=>hk.wf.hh s hs;have hsub:∀ s∈((D.put 1 1 0 l.high).2.free 1 l.high l.used).2.2,s.seq<=c:=fun s hs=>h.q s (nH hs);have hr0:=hk.wf.r0;have hr1:=hk.wf.r1;unfold Dk.chopL at he ⊢;rw[if_neg (by simp[hbd]),if_neg (by omega)] at he ⊢;rw[hk.b] at he ⊢;by_cases h3:l.high<=l.rel
 .rw[if_pos h3];exact⟨hup.2,hup.1,rfl,by show l.rel=l.high;omega,h.u (by omega),h.q⟩
 rw[if_neg h3] at he ⊢;by_cases h4:(D.put 1 1 0 l.high).1≠0
 .rw[if_pos h4] at he;exact(h4 he).elim
 rw[if_neg h4] at he ⊢;by_cases h5:((D.put 1 1 0 l.high).2.free 1 l.high l.used).1≠0
 .rw[if_pos h5] at he;exact(h5 he).elim
 rw[if_neg h5] at he ⊢;have u1:=aEo (aGo (Decidable.not_not.1 h4)) (Decidable.not_not.1 h5);by_cases h6:((D.put 1 1 0 l.high).2.free 1 l.high l.used).2.2.length<l.used.length
 .rw[if_pos h6] at he ⊢;by_cases h7:((D.put 1 1 0 l.high).2.free 1 l.high l.used).2.1.sync.1≠0
  .rw[if_pos h7] at he;exact(h7 he).elim
  rw[if_neg h7];exact⟨aFe (Decidable.not_not.1 h7),hup.1,rfl,rfl,hone,hsub⟩
 rw[if_neg h6];exact⟨u1,hup.1,rfl,rfl,hone,hsub⟩
theorem zH {c:Int} {D:Dk} {l:Lg} {t:Int} {body:List Int} (hc:D.Calm) (ha:D.age=l.age) (hw:l.Wf) (hb:l.base=1) (hs:l.segs=3) (hn:D.S.length=52) (hu:l.used.length<=1) (hq:∀ s∈l.used,s.seq<=c) (h0:0<=c) (h1:c<=255) (ht:l.high<t) :
  (D.appendL l t body).1=(if 400<body.length then 6 else if 1099511627776<t then 14 else 0)/\((D.appendL l t body).1=0->(D.appendL l t body).2.2=oF l t body):=by
 have hbd:D.badL l=0:=by unfold Dk.badL;rw[if_neg (by simp[ha]),if_neg (by simp[hc.d])]
 unfold Dk.appendL;rw[if_neg (by simp[hbd])];by_cases g1:400<body.length
 .rw[if_pos g1,if_pos g1];exact⟨rfl,fun h=>by cases h⟩
 rw[if_neg g1,if_neg g1];by_cases g2:1099511627776<t
 .rw[if_pos (.inr g2),if_pos g2];exact⟨rfl,fun h=>by cases h⟩
 rw[if_neg (by omega),if_neg g2];have hsq:=aBv h0 hq hw;obtain⟨e1,c1⟩:=aBr hc hw (by rw[hb,hs,hn];decide) (by rw[hs];omega) (by omega);rw[if_neg (by simp[e1])];have hsb:bN body<=7:=by unfold bN;omega
 have hcf:=zN hw (bN body) hsb;have hf:=nL (us:=l.used) (segs:=l.segs) (by omega) hw.nd (fun s hs=>⟨(hw.seg s hs).p0,(hw.seg s hs).p1⟩);have hp:0<=(iR l (bN body)).pos/\(iR l (bN body)).pos<=2:=by
  unfold iR;split
  .simp only;omega
  rename_i hbg
  cases hg:l.used.getLast? with
  | none=>unfold fY at hbg;rw[hg] at hbg;exact(hbg rfl).elim
  | some u=>have h1:=(hw.seg u (aIL hg)).p0;have h2:=(hw.seg u (aIL hg)).p1;simp only[aJb];omega
 have hE:∀ E:Dk,E.Calm->E.S.length=52->(E.puts l.base (iR l (bN body)).pos (bN body) (iR l (bN body)).fin 2 (fK t++body)).1=0:=fun E hE hn =>
  (wT (by omega) (bN body) E _ _ _ hE (by omega) (by omega) (by omega)).1
 have e2:((if fY l.used (bN body)=true then (D.fresh l).2 else D).puts l.base (iR l (bN body)).pos (bN body) (iR l (bN body)).fin 2 (fK t++body)).1=0:=by
  split
  .exact hE _ c1 (by have:=(vS D l).s;rw[this,hn])
  exact hE _ hc hn
 rw[if_neg (by simp[e2])];exact⟨rfl,fun _=>rfl⟩
theorem aCQ {l:Lg} {t:Int} {b:List Int} (hw:l.Wf) (h:l.high<t):((oF l t b).events t t).length=1:=by
 unfold Lg.events;rw[wS,aJB];have e:(oF l t b).rel=l.rel:=rfl;have hr:=hw.r1;rw[e,aJF.2 (fun r hr=>by have:=aCT hw hr;simp;omega)];have h1:l.rel<t:=by omega
 simp[h1]
section
variable {F0 : Nat -> Prop} {g g0 : Gh} {w w0 : World} {L : List Rs} {p x y : Nat} {s : Sl} {ds : List Dg}
theorem aCy (hs:PL dgR 4 g w s ds) {Φ:Bool×World->Prop}:∀ (m i:Nat) (w1:World) (g1:Gh) (c e:Nat) (S:Dk×Lg),i+m=min ds.length 100->S.1.W.length<=2000+1000*i->Mo g w g1 w1->Pg F0 g0 w0 g1 w1 p x c y e S L->RI i S.1 S.2 ->
  (∀ g' w' c' e' S',Pg F0 g0 w0 g' w' p x c' y e' S' L->RI 100 S'.1 S'.2->S'.1.W.length<=102000->Mo g w g' w'->Φ (true,w')) ->
  (fB (fun r:Bool×Int×World=>dG s (some ⟨p,0,none⟩) r.1 r.2.1 r.2.2) (true,(i:Int),w1)).t Φ:=by
 intro m
 induction m with
 | zero =>
  intro i w1 g1 c e S him hW hm h hI hΦ;have hln:=hs.len;refine Nd.next ?_
  unfold dG;refine Nd.j2 (Ψ:=fun r=>r=(false,w1)) (Nd.t rfl ?_) ?_
  .by_cases hl:(i:Int)<s.n
   .exact Nd.t (by simpa using hl) (Nd.ret (by show(decide ((i:Int)<100),w1)=(false,w1);rw[decide_eq_false (by omega)]))
   exact Nd.f (by simpa using hl) (Nd.ret rfl)
  rintro _ _ he;cases he;exact Nd.f (by simp) (Nd.ret (hΦ g1 w1 c e S h ⟨hI.d.mono (by omega),fun s hs=>by have:=hI.q s hs;omega,hI.u⟩ (by omega) hm))
 | succ m ih =>
  intro i w1 g1 c e S him hW hm h hI hΦ;have hi:i<ds.length:=by omega
  have hln:=hs.len;obtain⟨a,cs,ea,la,hR,ek,hby⟩:=aED hs hm hi;obtain⟨D,l⟩:=S;obtain⟨-,hk⟩:=xO h.ok hby;simp only at hW hk hI;have hWd:D.W.length<600000:=by omega
  have hW1:D.W.length<=2000+1000*(i+1):=by omega
  have him2:i+1+m=min ds.length 100:=by omega
  refine Nd.next ?_
  unfold dG;refine Nd.j2 (Ψ:=fun r=>r=(true,w1)) (Nd.t rfl (Nd.t (by simp;omega) (Nd.ret (by show(decide ((i:Int)<100),w1)=(true,w1);rw[decide_eq_true (by omega)])))) ?_;rintro _ _ he;cases he;refine Nd.t rfl (Nd.j2 (Ψ:=fun r=>r.1=true/\∃ g' c' e' S',Pg F0 g0 w0 g' r.2 p x c' y e' S' L/\Mo g1 w1 g' r.2/\RI ((i+1:Nat):Int) S'.1 S'.2/\S'.1.W.length<=2000+1000*(i+1)) (Nd.b1 ea (Nd.b1 ek ?_)) ?_)
  .by_cases h5:ds[i].k=5
   .exact Nd.f (by simp[h5]) (Nd.ret ⟨rfl,g1,c,e,(D,l),h,Mo.r,⟨hI.d.mono (by omega),fun s hs=>by have:=hI.q s hs;omega,hI.u⟩,hW1⟩)
   have hdo:=fun {Φ}=>aGd (Φ:=Φ) h hR hWd;have hri:=aEJ (d:=ds[i]) h.ok (by omega) (by omega) h5 hI;obtain⟨S2,hS2⟩:∃ S2,jK (D,l) ds[i]=S2:=⟨_,rfl⟩;rw[hS2] at hk hdo hri;refine Nd.t (by simpa using h5) (Nd.b1 ea (Nd.b1 la (Nd.j2 (Ψ:=fun r=>r.1=true/\∃ g' c' e',Pg F0 g0 w0 g' r.2 p x c' y e' S2 L/\Mo g1 w1 g' r.2) (hdo fun g' w' c' e' hP m'=>⟨rfl,g',c',e',hP,m'⟩) ?_)));rintro _ w2 ⟨rfl,g2,c2,e2,h2,m2⟩;simp only at h2 m2;refine Nd.ret ⟨rfl,g2,c2,e2,S2,h2,m2,hri,?_⟩;rw[Nat.mul_add,<-aKz];exact aJe hk (Nat.add_le_add_right hW _)
  rintro _ w2 ⟨rfl,g2,c2,e2,S2,h2,m2,hI2,hW2⟩;simp only at h2 m2;refine Nd.ret ?_;show(fB _ (true,IntKind.wrap .i64 ((i:Int)+1),w2)).t Φ;rw[cC (by omega)];exact ih (i+1) w2 g2 c2 e2 S2 him2 hW2 (hm.t m2) h2 hI2 hΦ
end
theorem aFw:DHB 0 (Dk.new 52):=⟨fun i hi=>fun j j1 j2=>HB.of0 (aIZ _) (by
 show((List.replicate 52 (List.replicate 64 (0:Int))).getD i []).getD j 0=0;rw[aIu (l:=List.replicate 52 _),aKF];split
 .rw[aJb,aIu,aKF];split<;>rfl
 simp),fun x hx=>(by cases hx),fun x hx=>(by cases hx)⟩
theorem EvlogRoom_law {w:World} (s1:Sl) (ds1:List Dg) (hs1:PL dgR 4 (old w) w s1 ds1) (z:Sl) (xs:List Int) (hz:Arg w.heap.size w z 1 (nums .u8 xs)) (wf:∀ n∈xs,(Lit.int .u8 n).wf=true) (hle:z.n<=z.c) (hmx:z.c<=maxLen):(iL s1 z w).t fun r=>r.1=true/\Fr (fun k=>w.heap.size<=k) w r.2:=by
 have H:Hp (fun _=>False) (old w) w (old w) w []:=Hp.beg (aFZ w);have hzr:=PR.of_arg hz;have hzn:xs.length=z.n:=by have:=hzr.rd.len;simpa using this
 unfold iL;refine Nd.j3 (Ψ:=fun r=>∃ g p x y c e S,r.1=some ⟨p,0,none⟩/\r.2.1=true/\Pg (fun _=>False) (old w) w g r.2.2 p x c y e S []/\S.1.W.length<=2000/\RI 0 S.1 S.2/\Mo (old w) w g r.2.2) (aDQ (ds:=[]) (PL.nil rfl) H fun g' w' p x c y e l hl hP hW m'=>?_) ?_
 .have e:(((([]:List Dg).take 200).foldl qY (Dk.new 52)).openL 1 3)=(0,Dk.new 52,some lvL):=lv1;rw[e] at hl hP hW;cases hl;exact⟨g',p,x,y,c,_,_,rfl,rfl,hP,hW,⟨aFw,fun s hs=>(by cases hs),fun _=>aLe _⟩,m'⟩
 rintro _ _ w1 ⟨g1,p,x,y,c,e,S,rfl,rfl,h1,hW1,hI1,m1⟩;simp only at h1 m1 hW1;refine Nd.j2 (Ψ:=fun r=>r.1=true/\∃ g c e D l,Pg (fun _=>False) (old w) w g r.2 p x c y e (D,l) []/\RI 100 D l/\D.W.length<=102000/\Mo (old w) w g r.2) (aCy hs1 (min ds1.length 100) 0 w1 g1 c e S (by omega) (by omega) m1 h1 hI1 fun g' w' c' e' S' hP hI hW m'=>⟨rfl,g',c',e',S'.1,S'.2,hP,hI,hW,m'⟩) ?_;rintro _ w2 ⟨rfl,g2,c2,e2,D,l,h2,hI,hW,m2⟩;simp only at h2 m2;have hok:=h2.ok;have H2:=h2.H;simp only at hok H2;obtain⟨w3,d3,H3,m3⟩:=H2.dr;refine Nd.f (by simp) ?_
 -- released,or not
 obtain⟨w4,e4,H4,m4⟩:=aBw (t:=l.high) hok.wf (Pg.lg H3) hok.bt (by omega) (by rw[hok.b,hok.n];decide);have hwf:=zD (D:=D) (t:=l.high) hok.wf;have hto:=zB D l l.high hok.wf.len;have hall:=aDe hok hI;obtain⟨E,hE⟩:∃ E,D.chopL l l.high=E:=⟨_,rfl⟩;rw[hE] at e4 H4 hwf hto hall;refine Nd.j2 (Ψ:=fun r=>(r.1=true/\∃ g',Hp (fun _=>False) (old w) w g' r.2 [])\/(r=(false,w4)/\E.1=0)) (Nd.b1 d3 (Nd.s1 (Nd.b1 (by rw[aD];exact Pg.p0 H3) (Nd.b2 H3.sw.ddown ?_)))) ?_
 .cases hd:D.down with
  | true=>exact Nd.t rfl (Nd.ret (.inl ⟨rfl,g2,H3.tl.tl.tl.tl.tl⟩))
  | false =>
   refine Nd.f (by simp) (Nd.b1 (by rw[aD];exact Pg.p1 H3) (Nd.b1 (by rw[aD];exact Pg.p1 H3) (Nd.b2 (uY H3.m3) (Nd.b2 e4 (Nd.ck (by rw[aD];exact Pg.p1 H3) (Nd.ret ?_))))));by_cases h0:E.1=0
   .exact .inr ⟨by rw[h0];rfl,h0⟩
   exact .inl ⟨by simpa using h0,g2,H4.tl.tl.tl.tl.tl⟩
 rintro a b (⟨rfl,g',H'⟩ | ⟨he,h0⟩)
 .exact Nd.t rfl (Nd.j2 (Ψ:=fun r=>r.1=true/\Fr (fun k=>w.heap.size<=k) w r.2) (uD H' fun g' w' H' _=>⟨rfl,H'.fin⟩) fun a b h=>Nd.ret h)
 cases he;obtain⟨a1,a2,a3,a4,a5,a6⟩:=hall h0;obtain⟨_,D',l'⟩:=E;simp only at a1 a2 a3 a4 a5 a6 hwf H4 hto h0;obtain⟨wf',b',s',-⟩:=hwf;have hvis:l'.events 0 1099511627776=[]:=by
  rw[aDm wf'];unfold Lg.vis;exact aJF.2 fun r hr=>by have:=aCT wf' hr;simp;omega
 have P4:ldP w4 ⟨p,0+1,none⟩=some (some ⟨c2,0,none⟩):=Pg.p1 H4.m2;obtain⟨z5,w5,e5,H5,m5⟩:=aDL (a:=0) (b:=1099511627776) wf' H4;have hz5:z5.n=0:=by have:=(vC H5).n;rw[hvis] at this;simpa using this.symm
 have H5':=H5.tl;have htr:D'.trip 0=(0,{ D' with left:=0 }):=by unfold Dk.trip;rw[if_neg (by simp[a1]),if_neg (by decide)]
 obtain⟨w6,e6,H6,m6⟩:=H5'.sw.dtrip (m:=0) (by decide);rw[htr] at e6 H6;have hused:=aBJ H4;refine Nd.f (by simp) (Nd.j2 (Ψ:=fun r=>r=(false,w6)) (Nd.s1 (Nd.b1 (by rw[aD];exact P4) (Nd.b2 hused (Nd.f (by simp;omega) (Nd.b1 (by rw[aD];exact P4) (Nd.b2 e5 (Nd.f (by simp[hz5]) (Nd.b1 (by rw[aD];exact Pg.p0 H5'.m2) (Nd.b2 e6 (Nd.ret rfl)))))))))) ?_);rintro _ _ he;cases he;obtain⟨D2,hD2⟩:∃ D2,({ D' with left:=0 }:Dk)=D2:=⟨_,rfl⟩;have hc2:D2.Calm:=by rw[<-hD2];exact⟨rfl,a1⟩
 have ha2:D2.age=l'.age:=by rw[<-hD2];exact a2
 have hn2:D2.S.length=52:=by rw[<-hD2];show D'.S.length=52;rw[hto.s,hok.n]
 have hw2:D2.W.length<700000:=by rw[<-hD2];have:=hto.w;show D'.W.length<700000;omega
 rw[hD2] at H6;have H6':=H6.sw;have hh1:=wf'.h1;have hr0:=wf'.r0;have hr1:=wf'.r1;have hwr:IntKind.wrap .i64 (l'.high+1)=l'.high+1:=by rw[aIy];omega
 have hroom:=zH (t:=l'.high+1) (body:=xs) hc2 ha2 wf' (by rw[b',hok.b]) (by rw[s',hok.s]) hn2 a5 a6 (by decide) (by decide) (by omega);have hbs:bU xs:=fun n hn=>aAy (wf n hn);have hwf2:=wZ (D:=D2) (t:=l'.high+1) wf' hbs;refine Nd.f (by simp) (Nd.s1 (Nd.b1 (by rw[aD];exact Pg.p1 H6'.m2) (Nd.b2 (uY H6') (Nd.b1 (by rw[aD];exact Pg.p1 H6'.m2) ?_))));rw[hwr];refine Nd.j2 (Ψ:=fun r=>r.1=(D2.appendL l' (l'.high+1) xs).1/\∃ g',Hp (fun _=>False) (old w) w g' r.2 (lgR c2 x (D2.appendL l' (l'.high+1) xs).2.2::dkR x (D2.appendL l' (l'.high+1) xs).2.1::pgR p x c2 y e2::rdR y D::rlR e2 y l::[])) (uA wf' H6' (fun L' H m=>(hzr.mo (m2.t (m3.t (m4.t (m5.t (m6.t m)))))).rd) hw2 fun g' w' H' m'=>⟨rfl,g',H'⟩) ?_;obtain⟨A,hA⟩:∃ A,D2.appendL l' (l'.high+1) xs=A:=⟨_,rfl⟩;rw[hA] at hroom hwf2 ⊢;rintro _ w7 ⟨rfl,g7,H7⟩;simp only at H7;by_cases hlen:400<xs.length
 .rw[if_pos hlen] at hroom;exact Nd.t (by simp;omega) (Nd.j2 (Ψ:=fun r=>r.1=true/\Fr (fun k=>w.heap.size<=k) w r.2) (Nd.j2 (Ψ:=fun r=>r.1=true/\Fr (fun k=>w.heap.size<=k) w r.2) (uD H7 fun g' w' H' _=>⟨rfl,H'.fin⟩) fun a b h=>by obtain⟨rfl,h⟩:=h;exact Nd.t rfl (Nd.ret ⟨by rw[hroom.1];rfl,h⟩)) fun a b h=>Nd.ret h)
 rw[if_neg hlen] at hroom;refine Nd.f (by simp;omega) (Nd.j2 (Ψ:=fun r=>r.1=true/\Fr (fun k=>w.heap.size<=k) w r.2) (Nd.j2 (Ψ:=fun r=>r.1=true/\∃ g',Hp (fun _=>False) (old w) w g' r.2 (lgR c2 x A.2.2::dkR x A.2.1::pgR p x c2 y e2::rdR y D::rlR e2 y l::[])) (uD H7 fun g' w' H' _=>⟨rfl,g',H'⟩) ?_) fun a b h=>Nd.ret h);rintro _ w8 ⟨rfl,g8,H8⟩;simp only at H8;refine Nd.t rfl ?_;by_cases hmax:1099511627776<l'.high+1
 .rw[if_pos hmax] at hroom;exact Nd.f (by rw[hroom.1];decide) (Nd.t (by rw[hroom.1];rfl) (Nd.ret ⟨by simpa using hmax,H8.fin⟩))
 rw[if_neg hmax] at hroom;have hg:=hroom.2 hroom.1;obtain⟨z9,w9,e9,H9,-⟩:=aDL (a:=l'.high+1) (b:=l'.high+1) hwf2.1 H8;have hz9:z9.n=1:=by have:=(vC H9).n;rw[hg,aCQ wf' (by omega)] at this;exact this.symm
 exact Nd.t (by rw[hroom.1];rfl) (Nd.b1 (by rw[aD];exact Pg.p1 H8.m2) (Nd.b2 e9 (Nd.t (by simp[hz9]) (Nd.ret ⟨rfl,H9.fin⟩))))
end
end Go.Proofs.Ytejkaciimmfgcaa.D
