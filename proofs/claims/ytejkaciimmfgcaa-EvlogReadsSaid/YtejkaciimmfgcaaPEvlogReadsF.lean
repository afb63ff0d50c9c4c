/- EvlogReads -/
import Derived.Test.YtejkaciimmfgcaaPEvlogReadsA
import Derived.Test.YtejkaciimmfgcaaPEvlogReadsB
import Derived.Test.YtejkaciimmfgcaaPEvlogReadsC
import Derived.Test.YtejkaciimmfgcaaPEvlogReadsD
import Derived.Test.YtejkaciimmfgcaaPEvlogReadsE
namespace Go.Proofs.Ytejkaciimmfgcaa.D
open Go
set_option linter.unusedVariables false
set_option linter.unusedSimpArgs false
set_option maxHeartbeats 1000000
set_option maxRecDepth 100000
noncomputable section
def eI (a0:Option Addr) (w:World):ND (Bool×World) :=
 lb1 (a0) fun p1 =>
 lb1 (ldP w (p1.add 0)) fun v3 =>
 cb3 (mW v3 1 3 w) fun v5 v6 w7 =>
 lb1 (ldP w7 (p1.add 2)) fun v9 =>
 cb3 (iT v9 1 3 w7) fun v11 v12 w13 =>
 cb2 (if (v6 !=v12)=true then
 (aS (true,w13))
 else
 (aS (((v5.isNone) !=(v12 !=0)),w13))) fun v15 w16 =>
 if v15=true then
 (aS (false,w16))
 else
 (cb1 (if (v12==0)=true then
 (lb1 (stV w16 (p1.add 1) (.pointer v5)) fun w25 =>
 lb1 (stV w25 (p1.add 3) (.pointer v11)) fun w27 =>
 aS w27)
 else
 (aS w16)) fun w21 =>
 aS (true,w21))
theorem lJ {a0 w Q} (h:(eI a0 w).t Q):Calls Try.prog 90 #[(.pointer a0)] w fun e w''=>∃ i,e=.returned (.bool i.1)∧Q i∧w''=i.2:=by
 refine aN (n:=43) Try.func90 rfl Try.ntmps90 (by simp) fun a u=>?_
 unfold eI at h
 refine wp_seq<|aA<|qa u rfl fun a u=>aB<|t_n<|wp_seq<|aA<|qm u rfl fun a u=>?_
 obtain⟨p1,e2,h⟩:=h
 refine q u (aG u rfl e2) fun a u=>q u (aI u rfl aGv rfl rfl aGU) fun a u=>?_
 obtain⟨v3,e4,h⟩:=h
 refine q u (aH u rfl aGR (bA e4)) fun a u=>?_
 refine lF (ι:=(Option Addr)×Int×World) (pk:=fun i=>(.tuple #[(pV i.1),(iV i.2.1)])) (wf:=fun i=>i.2.2) (xs:=[_,_,_]) (vs:=[(pV v3),(iV 1),(iV 3)]) u ⟨rfl,rfl,rfl,aHY⟩ Try.call32 (pW (un3 h)) (fun i h a u=>?_)
 obtain⟨v5,v6,w7⟩:=i
 refine qm u rfl fun a u=>q u (aQ u rfl rfl) fun a u=>q u (aQ u rfl rfl) fun a u=>qa u rfl fun a u=>qa u rfl fun a u=>aB<|t_n<|wp_seq<|aA<|qm u rfl fun a u=>q u (aG u rfl e2) fun a u=>q u (aI u rfl aGv rfl rfl aGQ) fun a u=>?_
 obtain⟨v9,e10,h⟩:=h
 refine q u (aH u rfl aGN (bA e10)) fun a u=>?_
 refine lF (ι:=(Option Addr)×Int×World) (pk:=fun i=>(.tuple #[(pV i.1),(iV i.2.1)])) (wf:=fun i=>i.2.2) (xs:=[_,_,_]) (vs:=[(pV v9),(iV 1),(iV 3)]) u ⟨rfl,rfl,rfl,aHY⟩ Try.call33 (qR (un3 h)) (fun i h a u=>?_)
 obtain⟨v11,v12,w13⟩:=i
 refine qm u rfl fun a u=>q u (aQ u rfl rfl) fun a u=>q u (aQ u rfl rfl) fun a u=>qa u rfl fun a u=>qa u rfl fun a u=>aB<|t_n<|wp_seq<|wp_seq<|?_
 refine dD (n:=43) (ι:=Bool×World) (Lf:=fun i=>[(32,(bV i.1)),(0,(pV a0)),(3,(pV v5)),(5,(pV v11)),(6,(iV v12))]) (wf:=fun i=>i.2) (un2 h) (fun i h a u=>?_) (fun h hk18=>?_)
 ·obtain⟨v15,w16⟩:=i
  have u:Has 43 [(32,(bV v15)),(0,(pV a0)),(3,(pV v5)),(5,(pV v11)),(6,(iV v12))] a:=u
  refine t_n<|?_
  refine aT u rfl h (fun b20 h=>?_) (fun b20 h=>?_)
  ·refine wp_seq<|aA<|qa u rfl fun a u=>aB<|t_n<|wp_ret<|t_r<|?_
   exact bE Try.results90 u rfl ⟨(false,w16),rfl,h,rfl⟩
  refine wp_skip<|t_n<|?_
  refine gX (n:=43) (ι:=World) (Lf:=fun i=>[]) (wf:=fun i=>i) (un1 h) (fun i h a u=>?_) (fun h hk23=>?_)
  ·obtain⟨w21,rfl⟩:∃ x,x=i:=⟨i,rfl⟩
   have u:Has 43 [] a:=u
   refine wp_seq<|aA<|qa u rfl fun a u=>aB<|t_n<|wp_ret<|?_
   exact bE Try.results90 u rfl ⟨(true,w21),rfl,h,rfl⟩
  refine wp_seq<|aA<|qm u rfl fun a u=>q u (gM u rfl rfl) fun a u=>aB<|t_n<|?_
  refine aT u rfl h (fun b24 h=>?_) (fun b24 h=>?_)
  ·refine aA<|qm u rfl fun a u=>qm u rfl fun a u=>qm u rfl fun a u=>qm u rfl fun a u=>q u (aG u rfl e2) fun a u=>q u (aI u rfl aGv rfl rfl aHf) fun a u=>?_
   obtain⟨w25,e26,h⟩:=h
   refine q u (fM u rfl rfl aHf e26) fun a u=>q u (aG u rfl e2) fun a u=>q u (aI u rfl aGv rfl rfl aHN) fun a u=>?_
   obtain⟨w27,e28,h⟩:=h
   refine q u (fM u rfl rfl aHN e28) fun a u=>aB<|?_
   exact hk23 w27 h _ (u.sb rfl)
  refine wp_skip<|?_
  exact hk23 w16 h _ (u.sb rfl)
 refine aA<|qm u rfl fun a u=>qm u rfl fun a u=>q u (fP u rfl rfl) fun a u=>qm u rfl fun a u=>?_
 refine jB h (fun b19 h=>?_) (fun b19 h=>?_)
 ·refine qn u 26 (tn b19) fun a u=>qn u 26 (tn b19) fun a u=>qn u 26 (tn b19) fun a u=>qn u 26 (tn b19) fun a u=>qn u 26 (tn b19) fun a u=>q u (aF u rfl b19 rfl) fun a u=>aB<|?_
  exact hk18 (true,w13) h _ (u.sb rfl)
 refine qg u 26 (nt b19) (aC u rfl) fun a u=>qg u 26 (nt b19) (iU u rfl rfl aHs) fun a u=>qg u 26 (nt b19) (aC u rfl) fun a u=>qg u 26 (nt b19) (fP u rfl rfl) fun a u=>qg u 26 (nt b19) (aFW u rfl rfl Try.runUnderlying4) fun a u=>q u (aJ u rfl b19 rfl) fun a u=>aB<|?_
 exact hk18 (((v5.isNone) !=(v12 !=0)),w13) h _ (u.sb rfl)
def eJ (a0:Option Addr) (w:World):Option (Bool×World) :=
 (a0).bind fun p1 =>
 (ldP w (p1.add 3)).bind fun v3 =>
 (v3).bind fun p5 =>
 (ldA 4 w (p5.add 4) 0).bind fun c7 =>
 aL (mk w 130 ([.int .i64 0,.int .i64 0,.slice none 0 0,.slice none 0 0])) fun p9 w10 =>
 (stA w10 p9 0 c7).bind fun w12 =>
 aL ((dr w12).bind fun w18 =>
 (ldP w18 (p1.add 1)).bind fun v20 =>
 aL (kJ v20 w18) fun v22 w23 =>
 (ldI .i64 w23 (p9.add 0)).bind fun v25 =>
 if (v22==v25)=true then
 ((ldP w23 (p1.add 1)).bind fun v28 =>
 aL (mO v28 w23) fun v30 w31 =>
 (ldI .i64 w31 (p9.add 1)).bind fun v33 =>
 if (v30==v33)=true then
 ((ldP w31 (p1.add 1)).bind fun v36 =>
 aL (lU v36 w31) fun v38 w39 =>
 (ldL w39 (p9.add 2)).bind fun v41 =>
 if (v38==(v41.n:Int))=true then
 ((ldP w39 (p1.add 1)).bind fun v44 =>
 aL (iD v44 0 1099511627776 w39) fun v46 w47 =>
 (ldL w47 (p9.add 3)).bind fun v49 =>
 aL (gT v46 v49 w47) fun v51 w52 =>
 if v51=true then
 ((ldP w52 (p1.add 0)).bind fun v55 =>
 aL (dN v55 w52) fun v57 w58 =>
 (ldP w58 (p1.add 2)).bind fun v60 =>
 (v60).bind fun p62 =>
 (ldB w58 (p62.add 3)).bind fun v64 =>
 chk (ldI .i64 w18 (p9.add 0)=some v25) <|
 chk (ldI .i64 w23 (p9.add 1)=some v33) <|
 chk (ldL w31 (p9.add 2)=some v41) <|
 chk (ldL w39 (p9.add 3)=some v49) <|
 chk (ldP w52 (p1.add 2)=some v60) <|
 chk (ldB w52 (p62.add 3)=some v64) <|
 some ((v57==v64),w58))
 else
 (chk (ldI .i64 w18 (p9.add 0)=some v25) <|
 chk (ldI .i64 w23 (p9.add 1)=some v33) <|
 chk (ldL w31 (p9.add 2)=some v41) <|
 chk (ldL w39 (p9.add 3)=some v49) <|
 some (false,w52)))
 else
 (chk (ldI .i64 w18 (p9.add 0)=some v25) <|
 chk (ldI .i64 w23 (p9.add 1)=some v33) <|
 chk (ldL w31 (p9.add 2)=some v41) <|
 some (false,w39)))
 else
 (chk (ldI .i64 w18 (p9.add 0)=some v25) <|
 chk (ldI .i64 w23 (p9.add 1)=some v33) <|
 some (false,w31)))
 else
 (chk (ldI .i64 w18 (p9.add 0)=some v25) <|
 some (false,w23))) fun v14 w15 =>
 some (v14,w15)
theorem lH {a0 w w' r0} (h:eJ a0 w=some (r0,w')):Calls Try.prog 51 #[(.pointer a0)] w fun e w''=>e=.returned (.bool r0)∧w''=w':=by
 refine aN (n:=65) Try.func51 rfl Try.ntmps51 (by simp) fun a u=>?_
 unfold eJ at h
 refine wp_seq<|aA<|qa u rfl fun a u=>aB<|t_n<|wp_seq<|aA<|qm u rfl fun a u=>?_
 have⟨p1,e2,h⟩:=bs1 h
 refine q u (aG u rfl e2) fun a u=>q u (aI u rfl aGv rfl rfl aHN) fun a u=>?_
 have⟨v3,e4,h⟩:=bs1 h
 refine q u (aH u rfl aHP (bA e4)) fun a u=>?_
 have⟨p5,e6,h⟩:=bs1 h
 refine q u (aG u rfl e6) fun a u=>q u (aI u rfl aGu rfl rfl aGI) fun a u=>?_
 have⟨c7,e8,h⟩:=bs1 h
 refine q u (fV u rfl aHU aGI e8) fun a u=>?_
 have⟨p9,w10,e11,h⟩:=bs2 h
 refine q u (eV aHI (by kernel_rfl) e11) fun a u=>?_
 have⟨w12,e13,h⟩:=bs1 h
 refine q u (eR u rfl rfl aGI ((kB e8).1) e13) fun a u=>aB<|t_n<|wp_seq<|?_
 have⟨v14,w15,e16,h⟩:=bs2 h
 refine bG (n:=65) (L:=[(2,(bV v14))]) (w':=w15) (fun a u=>?_) (fun hk17=>?_)
 ·refine t_n<|wp_ret<|?_
  have y:=u
  cases h
  exact bE Try.results51 y rfl ⟨rfl,rfl⟩
 clear h
 have h:=e16
 have⟨w18,e19,h⟩:=bs1 h
 have⟨v20,e21,h⟩:=bs1 h
 have⟨v22,w23,e24,h⟩:=bs2 h
 have⟨v25,e26,h⟩:=bs1 h
 refine bL h (fun b27 h=>?_) (fun b27 h=>?_)
 ·have⟨v28,e29,h⟩:=bs1 h
  have⟨v30,w31,e32,h⟩:=bs2 h
  have⟨v33,e34,h⟩:=bs1 h
  refine bL h (fun b35 h=>?_) (fun b35 h=>?_)
  ·have⟨v36,e37,h⟩:=bs1 h
   have⟨v38,w39,e40,h⟩:=bs2 h
   have⟨v41,e42,h⟩:=bs1 h
   refine bL h (fun b43 h=>?_) (fun b43 h=>?_)
   ·have⟨v44,e45,h⟩:=bs1 h
    have⟨v46,w47,e48,h⟩:=bs2 h
    have⟨v49,e50,h⟩:=bs1 h
    have⟨v51,w52,e53,h⟩:=bs2 h
    refine bL h (fun b54 h=>?_) (fun b54 h=>?_)
    ·have⟨v55,e56,h⟩:=bs1 h
     have⟨v57,w58,e59,h⟩:=bs2 h
     have⟨v60,e61,h⟩:=bs1 h
     have⟨p62,e63,h⟩:=bs1 h
     have⟨v64,e65,h⟩:=bs1 h
     obtain⟨e66,h⟩:=bK h
     obtain⟨e67,h⟩:=bK h
     obtain⟨e68,h⟩:=bK h
     obtain⟨e69,h⟩:=bK h
     obtain⟨e70,h⟩:=bK h
     obtain⟨e71,h⟩:=bK h
     have u:Has 65 [(0,(pV a0)),(3,(pV (some p9)))] a:=u.sb rfl
     refine aK (n:=65) (ds:=(⟨_,(pV a0),false,0,0,[],[(0,(pV a0))]⟩::⟨_,(pV (some p1)),false,0,0,[0],[(11,(pV a0))]⟩::⟨_,(pV (some (p1.add 1))),false,0,0,[0,1],[(12,(pV (some p1)))]⟩::⟨_,(pV v20),false,0,0,[0,1,2],[(13,(pV (some (p1.add 1))))]⟩::⟨_,(iV v22),true,0,0,(rn 0 4),[(14,(pV v20))]⟩::⟨_,(pV (some (p9.add 0))),false,0,1,[],[(3,(pV (some p9)))]⟩::⟨_,(iV v25),false,0,1,[5],[(16,(pV (some (p9.add 0))))]⟩::⟨_,(bV (v22==v25)),false,1,1,(rn 0 7),[(15,(iV v22)),(17,(iV v25))]⟩::⟨_,(bV (v22==v25)),false,1,1,(rn 0 8),[(18,(bV (v22==v25)))]⟩::⟨_,(pV a0),false,1,1,(rn 0 9),[(0,(pV a0)),(19,(bV (v22==v25)))]⟩::⟨_,(pV (some p1)),false,1,1,(rn 0 10),[(20,(pV a0)),(19,(bV (v22==v25)))]⟩::⟨_,(pV (some (p1.add 1))),false,1,1,(rn 0 11),[(21,(pV (some p1))),(19,(bV (v22==v25)))]⟩::⟨_,(pV v28),false,1,1,(rn 0 12),[(22,(pV (some (p1.add 1)))),(19,(bV (v22==v25)))]⟩::⟨_,(iV v30),true,1,1,(rn 0 13),[(23,(pV v28)),(19,(bV (v22==v25)))]⟩::⟨_,(pV (some (p9.add 1))),false,1,2,(rn 0 9),[(3,(pV (some p9))),(19,(bV (v22==v25)))]⟩::⟨_,(iV v33),false,1,2,(rn 0 9++[14]),[(25,(pV (some (p9.add 1)))),(19,(bV (v22==v25)))]⟩::⟨_,(bV (v30==v33)),false,2,2,(rn 0 16),[(24,(iV v30)),(26,(iV v33)),(19,(bV (v22==v25)))]⟩::⟨_,(bV (v30==v33)),false,2,2,(rn 0 17),[(19,(bV (v22==v25))),(27,(bV (v30==v33)))]⟩::⟨_,(bV (v30==v33)),false,2,2,(rn 0 18),[(28,(bV (v30==v33)))]⟩::⟨_,(pV a0),false,2,2,(rn 0 19),[(0,(pV a0)),(29,(bV (v30==v33)))]⟩::⟨_,(pV (some p1)),false,2,2,(rn 0 20),[(30,(pV a0)),(29,(bV (v30==v33)))]⟩::⟨_,(pV (some (p1.add 1))),false,2,2,(rn 0 21),[(31,(pV (some p1))),(29,(bV (v30==v33)))]⟩::⟨_,(pV v36),false,2,2,(rn 0 22),[(32,(pV (some (p1.add 1)))),(29,(bV (v30==v33)))]⟩::⟨_,(iV v38),true,2,2,(rn 0 23),[(33,(pV v36)),(29,(bV (v30==v33)))]⟩::⟨_,(pV (some (p9.add 2))),false,2,3,(rn 0 19),[(3,(pV (some p9))),(29,(bV (v30==v33)))]⟩::⟨_,(Sl.v v41),false,2,3,(rn 0 19++[24]),[(35,(pV (some (p9.add 2)))),(29,(bV (v30==v33)))]⟩::⟨_,(iV (v41.n:Int)),false,2,3,(rn 0 19++[24,25]),[(36,(Sl.v v41)),(29,(bV (v30==v33)))]⟩::⟨_,(bV (v38==(v41.n:Int))),false,3,3,(rn 0 27),[(34,(iV v38)),(37,(iV (v41.n:Int))),(29,(bV (v30==v33)))]⟩::⟨_,(bV (v38==(v41.n:Int))),false,3,3,(rn 0 28),[(29,(bV (v30==v33))),(38,(bV (v38==(v41.n:Int))))]⟩::⟨_,(bV (v38==(v41.n:Int))),false,3,3,(rn 0 29),[(39,(bV (v38==(v41.n:Int))))]⟩::⟨_,(pV a0),false,3,3,(rn 0 30),[(0,(pV a0)),(40,(bV (v38==(v41.n:Int))))]⟩::⟨_,(pV (some p1)),false,3,3,(rn 0 31),[(41,(pV a0)),(40,(bV (v38==(v41.n:Int))))]⟩::⟨_,(pV (some (p1.add 1))),false,3,3,(rn 0 32),[(42,(pV (some p1))),(40,(bV (v38==(v41.n:Int))))]⟩::⟨_,(pV v44),false,3,3,(rn 0 33),[(43,(pV (some (p1.add 1)))),(40,(bV (v38==(v41.n:Int))))]⟩::⟨_,(Sl.v v46),true,3,3,(rn 0 34),[(44,(pV v44)),(40,(bV (v38==(v41.n:Int))))]⟩::⟨_,(pV (some (p9.add 3))),false,3,4,(rn 0 30),[(3,(pV (some p9))),(40,(bV (v38==(v41.n:Int))))]⟩::⟨_,(Sl.v v49),false,3,4,(rn 0 30++[35]),[(46,(pV (some (p9.add 3)))),(40,(bV (v38==(v41.n:Int))))]⟩::⟨_,(bV v51),true,4,4,(rn 0 37),[(45,(Sl.v v46)),(47,(Sl.v v49)),(40,(bV (v38==(v41.n:Int))))]⟩::⟨_,(bV v51),false,5,5,(rn 0 38),[(40,(bV (v38==(v41.n:Int)))),(48,(bV v51))]⟩::⟨_,(bV v51),false,5,5,(rn 0 39),[(49,(bV v51))]⟩::⟨_,(pV a0),false,5,5,(rn 0 40),[(0,(pV a0)),(50,(bV v51))]⟩::⟨_,(pV (some p1)),false,5,5,(rn 0 41),[(51,(pV a0)),(50,(bV v51))]⟩::⟨_,(pV (some (p1.add 0))),false,5,5,(rn 0 42),[(52,(pV (some p1))),(50,(bV v51))]⟩::⟨_,(pV v55),false,5,5,(rn 0 43),[(53,(pV (some (p1.add 0)))),(50,(bV v51))]⟩::⟨_,(bV v57),true,5,5,(rn 0 44),[(54,(pV v55)),(50,(bV v51))]⟩::⟨_,(pV a0),false,5,6,(rn 0 40),[(0,(pV a0)),(50,(bV v51))]⟩::⟨_,(pV (some p1)),false,5,6,(rn 0 40++[45]),[(56,(pV a0)),(50,(bV v51))]⟩::⟨_,(pV (some (p1.add 2))),false,5,6,(rn 0 40++[45,46]),[(57,(pV (some p1))),(50,(bV v51))]⟩::⟨_,(pV v60),false,5,6,(rn 0 40++[45,46,47]),[(58,(pV (some (p1.add 2)))),(50,(bV v51))]⟩::⟨_,(pV (some p62)),false,5,6,(rn 0 40++rn 45 4),[(59,(pV v60)),(50,(bV v51))]⟩::⟨_,(pV (some (p62.add 3))),false,5,6,(rn 0 40++rn 45 5),[(60,(pV (some p62))),(50,(bV v51))]⟩::⟨_,(bV v64),false,5,6,(rn 0 40++rn 45 6),[(61,(pV (some (p62.add 3)))),(50,(bV v51))]⟩::⟨_,(bV (v57==v64)),false,6,6,(rn 0 52),[(55,(bV v57)),(62,(bV v64)),(50,(bV v51))]⟩::⟨_,(bV (v57==v64)),false,6,6,(rn 0 53),[(50,(bV v51)),(63,(bV (v57==v64)))]⟩::⟨_,(bV (v57==v64)),false,6,6,(rn 0 54),[(64,(bV (v57==v64)))]⟩::[])) (W:=(fun j=>match j with | 0=>w18 | 1=>w23 | 2=>w31 | 3=>w39 | 4=>w47 | 5=>w52 | 6=>w58 | _=>w58)) (by kernel_rfl) u (cY e19) (by kernel_rfl) ?_ (aP (by kernel_rfl)) (by kernel_rfl) (m:=6) (by kernel_rfl) (fun a u=>?_)
     ·refine⟨oa (aC · rfl),oa (aG · rfl e2),oa (aI · rfl aGv rfl rfl aHf),oc 0 (kd (aH · rfl aHp (bA e21))),oc 0 (kd (dc1 · rfl Try.call38 (iO e24))),oa (aI · rfl aGr rfl rfl aGq),?_,oa (gM · rfl rfl),oa (aC · rfl),oag 19 b27 (aC · rfl),oag 19 b27 (aG · rfl e2),oag 19 b27 (aI · rfl aGv rfl rfl aHf),oc 1 (kg 19 b27 (aH · rfl aHp (bA e29))),oc 1 (kg 19 b27 (dc1 · rfl Try.call39 (mF e32))),oag 19 b27 (aI · rfl aGr rfl rfl aGq),?_,oag 19 b27 (gM · rfl rfl),oa (aF · rfl b27 rfl),oa (aC · rfl),oag 29 b35 (aC · rfl),oag 29 b35 (aG · rfl e2),oag 29 b35 (aI · rfl aGv rfl rfl aHf),oc 2 (kg 29 b35 (aH · rfl aHp (bA e37))),oc 2 (kg 29 b35 (dc1 · rfl Try.call40 (nG e40))),oag 29 b35 (aI · rfl aGr rfl rfl aGG),?_,oag 29 b35 (aV · rfl aGx),oag 29 b35 (gM · rfl rfl),oa (aF · rfl b35 rfl),oa (aC · rfl),oag 40 b43 (aC · rfl),oag 40 b43 (aG · rfl e2),
       oag 40 b43 (aI · rfl aGv rfl rfl aHf),oc 3 (kg 40 b43 (aH · rfl aHp (bA e45))),oc 3 (kg 40 b43 (dc3 · rfl rfl rfl Try.call44 (mK e48))),oag 40 b43 (aI · rfl aGr rfl rfl aHc),?_,oc 4 (kg 40 b43 (dc2 · rfl rfl Try.call48 (kP e53))),oa (aF · rfl b43 rfl),oa (aC · rfl),oag 50 b54 (aC · rfl),oag 50 b54 (aG · rfl e2),oag 50 b54 (aI · rfl aGv rfl rfl aGU),oc 5 (kg 50 b54 (aH · rfl aGR (bA e56))),oc 5 (kg 50 b54 (dc1 · rfl Try.call47 (kA e59))),oag 50 b54 (aC · rfl),oag 50 b54 (aG · rfl e2),oag 50 b54 (aI · rfl aGv rfl rfl aGQ),?_,oag 50 b54 (aG · rfl e63),oag 50 b54 (aI · rfl aGw rfl rfl aHd),?_,oag 50 b54 (aFQ · rfl rfl Try.runUnderlying4),oa (aF · rfl b54 rfl),oa (aY · rfl),aHY⟩
      ·intro j h1 h2;have h1:0≤j:=h1;have h2:j≤1:=h2;rcases(by omega:j=0∨j=1) with rfl | rfl
       ·exact kd (aH · rfl aGs (aO e66))
       exact kd (aH · rfl aGs (aO e26))
      ·intro j h1 h2;have h1:1≤j:=h1;have h2:j≤2:=h2;rcases(by omega:j=1∨j=2) with rfl | rfl
       ·exact kg 19 b27 (aH · rfl aGs (aO e67))
       exact kg 19 b27 (aH · rfl aGs (aO e34))
      ·intro j h1 h2;have h1:2≤j:=h1;have h2:j≤3:=h2;rcases(by omega:j=2∨j=3) with rfl | rfl
       ·exact kg 29 b35 (aH · rfl aGH (aR e68))
       exact kg 29 b35 (aH · rfl aGH (aR e42))
      ·intro j h1 h2;have h1:3≤j:=h1;have h2:j≤4:=h2;rcases(by omega:j=3∨j=4) with rfl | rfl
       ·exact kg 40 b43 (aH · rfl aHo (aR e69))
       exact kg 40 b43 (aH · rfl aHo (aR e50))
      ·intro j h1 h2;have h1:5≤j:=h1;have h2:j≤6:=h2;rcases(by omega:j=5∨j=6) with rfl | rfl
       ·exact kg 50 b54 (aH · rfl aGN (bA e70))
       exact kg 50 b54 (aH · rfl aGN (bA e61))
      intro j h1 h2;have h1:5≤j:=h1;have h2:j≤6:=h2;rcases(by omega:j=5∨j=6) with rfl | rfl
      ·exact kg 50 b54 (aH · rfl aHw (oD e71))
      exact kg 50 b54 (aH · rfl aHw (oD e65))
     have u:Has 65 [(2,(bV (v57==v64)))] a:=u.sb rfl
     have y:=u
     cases h
     exact hk17 _ (y.sb rfl)
    obtain⟨e72,h⟩:=bK h
    obtain⟨e73,h⟩:=bK h
    obtain⟨e74,h⟩:=bK h
    obtain⟨e75,h⟩:=bK h
    have u:Has 65 [(0,(pV a0)),(3,(pV (some p9)))] a:=u.sb rfl
    refine aK (n:=65) (ds:=(⟨_,(pV a0),false,0,0,[],[(0,(pV a0))]⟩::⟨_,(pV (some p1)),false,0,0,[0],[(11,(pV a0))]⟩::⟨_,(pV (some (p1.add 1))),false,0,0,[0,1],[(12,(pV (some p1)))]⟩::⟨_,(pV v20),false,0,0,[0,1,2],[(13,(pV (some (p1.add 1))))]⟩::⟨_,(iV v22),true,0,0,(rn 0 4),[(14,(pV v20))]⟩::⟨_,(pV (some (p9.add 0))),false,0,1,[],[(3,(pV (some p9)))]⟩::⟨_,(iV v25),false,0,1,[5],[(16,(pV (some (p9.add 0))))]⟩::⟨_,(bV (v22==v25)),false,1,1,(rn 0 7),[(15,(iV v22)),(17,(iV v25))]⟩::⟨_,(bV (v22==v25)),false,1,1,(rn 0 8),[(18,(bV (v22==v25)))]⟩::⟨_,(pV a0),false,1,1,(rn 0 9),[(0,(pV a0)),(19,(bV (v22==v25)))]⟩::⟨_,(pV (some p1)),false,1,1,(rn 0 10),[(20,(pV a0)),(19,(bV (v22==v25)))]⟩::⟨_,(pV (some (p1.add 1))),false,1,1,(rn 0 11),[(21,(pV (some p1))),(19,(bV (v22==v25)))]⟩::⟨_,(pV v28),false,1,1,(rn 0 12),[(22,(pV (some (p1.add 1)))),(19,(bV (v22==v25)))]⟩::⟨_,(iV v30),true,1,1,(rn 0 13),[(23,(pV v28)),(19,(bV (v22==v25)))]⟩::⟨_,(pV (some (p9.add 1))),false,1,2,(rn 0 9),[(3,(pV (some p9))),(19,(bV (v22==v25)))]⟩::⟨_,(iV v33),false,1,2,(rn 0 9++[14]),[(25,(pV (some (p9.add 1)))),(19,(bV (v22==v25)))]⟩::⟨_,(bV (v30==v33)),false,2,2,(rn 0 16),[(24,(iV v30)),(26,(iV v33)),(19,(bV (v22==v25)))]⟩::⟨_,(bV (v30==v33)),false,2,2,(rn 0 17),[(19,(bV (v22==v25))),(27,(bV (v30==v33)))]⟩::⟨_,(bV (v30==v33)),false,2,2,(rn 0 18),[(28,(bV (v30==v33)))]⟩::⟨_,(pV a0),false,2,2,(rn 0 19),[(0,(pV a0)),(29,(bV (v30==v33)))]⟩::⟨_,(pV (some p1)),false,2,2,(rn 0 20),[(30,(pV a0)),(29,(bV (v30==v33)))]⟩::⟨_,(pV (some (p1.add 1))),false,2,2,(rn 0 21),[(31,(pV (some p1))),(29,(bV (v30==v33)))]⟩::⟨_,(pV v36),false,2,2,(rn 0 22),[(32,(pV (some (p1.add 1)))),(29,(bV (v30==v33)))]⟩::⟨_,(iV v38),true,2,2,(rn 0 23),[(33,(pV v36)),(29,(bV (v30==v33)))]⟩::⟨_,(pV (some (p9.add 2))),false,2,3,(rn 0 19),[(3,(pV (some p9))),(29,(bV (v30==v33)))]⟩::⟨_,(Sl.v v41),false,2,3,(rn 0 19++[24]),[(35,(pV (some (p9.add 2)))),(29,(bV (v30==v33)))]⟩::⟨_,(iV (v41.n:Int)),false,2,3,(rn 0 19++[24,25]),[(36,(Sl.v v41)),(29,(bV (v30==v33)))]⟩::⟨_,(bV (v38==(v41.n:Int))),false,3,3,(rn 0 27),[(34,(iV v38)),(37,(iV (v41.n:Int))),(29,(bV (v30==v33)))]⟩::⟨_,(bV (v38==(v41.n:Int))),false,3,3,(rn 0 28),[(29,(bV (v30==v33))),(38,(bV (v38==(v41.n:Int))))]⟩::⟨_,(bV (v38==(v41.n:Int))),false,3,3,(rn 0 29),[(39,(bV (v38==(v41.n:Int))))]⟩::⟨_,(pV a0),false,3,3,(rn 0 30),[(0,(pV a0)),(40,(bV (v38==(v41.n:Int))))]⟩::⟨_,(pV (some p1)),false,3,3,(rn 0 31),[(41,(pV a0)),(40,(bV (v38==(v41.n:Int))))]⟩::⟨_,(pV (some (p1.add 1))),false,3,3,(rn 0 32),[(42,(pV (some p1))),(40,(bV (v38==(v41.n:Int))))]⟩::⟨_,(pV v44),false,3,3,(rn 0 33),[(43,(pV (some (p1.add 1)))),(40,(bV (v38==(v41.n:Int))))]⟩::⟨_,(Sl.v v46),true,3,3,(rn 0 34),[(44,(pV v44)),(40,(bV (v38==(v41.n:Int))))]⟩::⟨_,(pV (some (p9.add 3))),false,3,4,(rn 0 30),[(3,(pV (some p9))),(40,(bV (v38==(v41.n:Int))))]⟩::⟨_,(Sl.v v49),false,3,4,(rn 0 30++[35]),[(46,(pV (some (p9.add 3)))),(40,(bV (v38==(v41.n:Int))))]⟩::⟨_,(bV v51),true,4,4,(rn 0 37),[(45,(Sl.v v46)),(47,(Sl.v v49)),(40,(bV (v38==(v41.n:Int))))]⟩::⟨_,(bV v51),false,5,5,(rn 0 38),[(40,(bV (v38==(v41.n:Int)))),(48,(bV v51))]⟩::⟨_,(bV v51),false,5,5,(rn 0 39),[(49,(bV v51))]⟩::⟨_,undef,false,5,5,(rn 0 40),[(50,(bV v51))]⟩::⟨_,undef,false,5,5,(rn 0 41),[(50,(bV v51))]⟩::⟨_,undef,false,5,5,(rn 0 42),[(50,(bV v51))]⟩::⟨_,undef,false,5,5,(rn 0 43),[(50,(bV v51))]⟩::⟨_,undef,false,5,5,(rn 0 44),[(50,(bV v51))]⟩::⟨_,undef,false,5,5,(rn 0 40),[(50,(bV v51))]⟩::⟨_,undef,false,5,5,(rn 0 40++[45]),[(50,(bV v51))]⟩::⟨_,undef,false,5,5,(rn 0 40++[45,46]),[(50,(bV v51))]⟩::⟨_,undef,false,5,5,(rn 0 40++[45,46,47]),[(50,(bV v51))]⟩::⟨_,undef,false,5,5,(rn 0 40++rn 45 4),[(50,(bV v51))]⟩::⟨_,undef,false,5,5,(rn 0 40++rn 45 5),[(50,(bV v51))]⟩::⟨_,undef,false,5,5,(rn 0 40++rn 45 6),[(50,(bV v51))]⟩::⟨_,undef,false,5,5,(rn 0 52),[(50,(bV v51))]⟩::⟨_,(bV false),false,5,5,(rn 0 53),[(50,(bV v51)),(63,undef)]⟩::⟨_,(bV false),false,5,5,(rn 0 54),[(64,(bV false))]⟩::[])) (W:=(fun j=>match j with | 0=>w18 | 1=>w23 | 2=>w31 | 3=>w39 | 4=>w47 | 5=>w52 | _=>w52)) (by kernel_rfl) u (cY e19) (by kernel_rfl) ?_ (aP (by kernel_rfl)) (by kernel_rfl) (m:=5) (by kernel_rfl) (fun a u=>?_)
    ·refine⟨oa (aC · rfl),oa (aG · rfl e2),oa (aI · rfl aGv rfl rfl aHf),oc 0 (kd (aH · rfl aHp (bA e21))),oc 0 (kd (dc1 · rfl Try.call38 (iO e24))),oa (aI · rfl aGr rfl rfl aGq),?_,oa (gM · rfl rfl),oa (aC · rfl),oag 19 b27 (aC · rfl),oag 19 b27 (aG · rfl e2),oag 19 b27 (aI · rfl aGv rfl rfl aHf),oc 1 (kg 19 b27 (aH · rfl aHp (bA e29))),oc 1 (kg 19 b27 (dc1 · rfl Try.call39 (mF e32))),oag 19 b27 (aI · rfl aGr rfl rfl aGq),?_,oag 19 b27 (gM · rfl rfl),oa (aF · rfl b27 rfl),oa (aC · rfl),oag 29 b35 (aC · rfl),oag 29 b35 (aG · rfl e2),oag 29 b35 (aI · rfl aGv rfl rfl aHf),oc 2 (kg 29 b35 (aH · rfl aHp (bA e37))),oc 2 (kg 29 b35 (dc1 · rfl Try.call40 (nG e40))),oag 29 b35 (aI · rfl aGr rfl rfl aGG),?_,oag 29 b35 (aV · rfl aGx),oag 29 b35 (gM · rfl rfl),oa (aF · rfl b35 rfl),oa (aC · rfl),oag 40 b43 (aC · rfl),oag 40 b43 (aG · rfl e2),
      oag 40 b43 (aI · rfl aGv rfl rfl aHf),oc 3 (kg 40 b43 (aH · rfl aHp (bA e45))),oc 3 (kg 40 b43 (dc3 · rfl rfl rfl Try.call44 (mK e48))),oag 40 b43 (aI · rfl aGr rfl rfl aHc),?_,oc 4 (kg 40 b43 (dc2 · rfl rfl Try.call48 (kP e53))),oa (aF · rfl b43 rfl),oa (aC · rfl),on 50 (nm b54),on 50 (nm b54),on 50 (nm b54),on 50 (nm b54),on 50 (nm b54),on 50 (nm b54),on 50 (nm b54),on 50 (nm b54),on 50 (nm b54),on 50 (nm b54),on 50 (nm b54),on 50 (nm b54),on 50 (nm b54),oa (aJ · rfl b54 rfl),oa (aY · rfl),aHY⟩
     ·intro j h1 h2;have h1:0≤j:=h1;have h2:j≤1:=h2;rcases(by omega:j=0∨j=1) with rfl | rfl
      ·exact kd (aH · rfl aGs (aO e72))
      exact kd (aH · rfl aGs (aO e26))
     ·intro j h1 h2;have h1:1≤j:=h1;have h2:j≤2:=h2;rcases(by omega:j=1∨j=2) with rfl | rfl
      ·exact kg 19 b27 (aH · rfl aGs (aO e73))
      exact kg 19 b27 (aH · rfl aGs (aO e34))
     ·intro j h1 h2;have h1:2≤j:=h1;have h2:j≤3:=h2;rcases(by omega:j=2∨j=3) with rfl | rfl
      ·exact kg 29 b35 (aH · rfl aGH (aR e74))
      exact kg 29 b35 (aH · rfl aGH (aR e42))
     intro j h1 h2;have h1:3≤j:=h1;have h2:j≤4:=h2;rcases(by omega:j=3∨j=4) with rfl | rfl
     ·exact kg 40 b43 (aH · rfl aHo (aR e75))
     exact kg 40 b43 (aH · rfl aHo (aR e50))
    have u:Has 65 [(2,(bV false))] a:=u.sb rfl
    have y:=u
    cases h
    exact hk17 _ (y.sb rfl)
   obtain⟨e76,h⟩:=bK h
   obtain⟨e77,h⟩:=bK h
   obtain⟨e78,h⟩:=bK h
   have u:Has 65 [(0,(pV a0)),(3,(pV (some p9)))] a:=u.sb rfl
   refine aK (n:=65) (ds:=(⟨_,(pV a0),false,0,0,[],[(0,(pV a0))]⟩::⟨_,(pV (some p1)),false,0,0,[0],[(11,(pV a0))]⟩::⟨_,(pV (some (p1.add 1))),false,0,0,[0,1],[(12,(pV (some p1)))]⟩::⟨_,(pV v20),false,0,0,[0,1,2],[(13,(pV (some (p1.add 1))))]⟩::⟨_,(iV v22),true,0,0,(rn 0 4),[(14,(pV v20))]⟩::⟨_,(pV (some (p9.add 0))),false,0,1,[],[(3,(pV (some p9)))]⟩::⟨_,(iV v25),false,0,1,[5],[(16,(pV (some (p9.add 0))))]⟩::⟨_,(bV (v22==v25)),false,1,1,(rn 0 7),[(15,(iV v22)),(17,(iV v25))]⟩::⟨_,(bV (v22==v25)),false,1,1,(rn 0 8),[(18,(bV (v22==v25)))]⟩::⟨_,(pV a0),false,1,1,(rn 0 9),[(0,(pV a0)),(19,(bV (v22==v25)))]⟩::⟨_,(pV (some p1)),false,1,1,(rn 0 10),[(20,(pV a0)),(19,(bV (v22==v25)))]⟩::⟨_,(pV (some (p1.add 1))),false,1,1,(rn 0 11),[(21,(pV (some p1))),(19,(bV (v22==v25)))]⟩::⟨_,(pV v28),false,1,1,(rn 0 12),[(22,(pV (some (p1.add 1)))),(19,(bV (v22==v25)))]⟩::⟨_,(iV v30),true,1,1,(rn 0 13),[(23,(pV v28)),(19,(bV (v22==v25)))]⟩::⟨_,(pV (some (p9.add 1))),false,1,2,(rn 0 9),[(3,(pV (some p9))),(19,(bV (v22==v25)))]⟩::⟨_,(iV v33),false,1,2,(rn 0 9++[14]),[(25,(pV (some (p9.add 1)))),(19,(bV (v22==v25)))]⟩::⟨_,(bV (v30==v33)),false,2,2,(rn 0 16),[(24,(iV v30)),(26,(iV v33)),(19,(bV (v22==v25)))]⟩::⟨_,(bV (v30==v33)),false,2,2,(rn 0 17),[(19,(bV (v22==v25))),(27,(bV (v30==v33)))]⟩::⟨_,(bV (v30==v33)),false,2,2,(rn 0 18),[(28,(bV (v30==v33)))]⟩::⟨_,(pV a0),false,2,2,(rn 0 19),[(0,(pV a0)),(29,(bV (v30==v33)))]⟩::⟨_,(pV (some p1)),false,2,2,(rn 0 20),[(30,(pV a0)),(29,(bV (v30==v33)))]⟩::⟨_,(pV (some (p1.add 1))),false,2,2,(rn 0 21),[(31,(pV (some p1))),(29,(bV (v30==v33)))]⟩::⟨_,(pV v36),false,2,2,(rn 0 22),[(32,(pV (some (p1.add 1)))),(29,(bV (v30==v33)))]⟩::⟨_,(iV v38),true,2,2,(rn 0 23),[(33,(pV v36)),(29,(bV (v30==v33)))]⟩::⟨_,(pV (some (p9.add 2))),false,2,3,(rn 0 19),[(3,(pV (some p9))),(29,(bV (v30==v33)))]⟩::⟨_,(Sl.v v41),false,2,3,(rn 0 19++[24]),[(35,(pV (some (p9.add 2)))),(29,(bV (v30==v33)))]⟩::⟨_,(iV (v41.n:Int)),false,2,3,(rn 0 19++[24,25]),[(36,(Sl.v v41)),(29,(bV (v30==v33)))]⟩::⟨_,(bV (v38==(v41.n:Int))),false,3,3,(rn 0 27),[(34,(iV v38)),(37,(iV (v41.n:Int))),(29,(bV (v30==v33)))]⟩::⟨_,(bV (v38==(v41.n:Int))),false,3,3,(rn 0 28),[(29,(bV (v30==v33))),(38,(bV (v38==(v41.n:Int))))]⟩::⟨_,(bV (v38==(v41.n:Int))),false,3,3,(rn 0 29),[(39,(bV (v38==(v41.n:Int))))]⟩::⟨_,undef,false,3,3,(rn 0 30),[(40,(bV (v38==(v41.n:Int))))]⟩::⟨_,undef,false,3,3,(rn 0 31),[(40,(bV (v38==(v41.n:Int))))]⟩::⟨_,undef,false,3,3,(rn 0 32),[(40,(bV (v38==(v41.n:Int))))]⟩::⟨_,undef,false,3,3,(rn 0 33),[(40,(bV (v38==(v41.n:Int))))]⟩::⟨_,undef,false,3,3,(rn 0 34),[(40,(bV (v38==(v41.n:Int))))]⟩::⟨_,undef,false,3,3,(rn 0 30),[(40,(bV (v38==(v41.n:Int))))]⟩::⟨_,undef,false,3,3,(rn 0 30++[35]),[(40,(bV (v38==(v41.n:Int))))]⟩::⟨_,undef,false,3,3,(rn 0 37),[(40,(bV (v38==(v41.n:Int))))]⟩::⟨_,(bV false),false,3,3,(rn 0 38),[(40,(bV (v38==(v41.n:Int)))),(48,undef)]⟩::⟨_,(bV false),false,3,3,(rn 0 39),[(49,(bV false))]⟩::⟨_,undef,false,3,3,(rn 0 40),[(50,(bV false))]⟩::⟨_,undef,false,3,3,(rn 0 41),[(50,(bV false))]⟩::⟨_,undef,false,3,3,(rn 0 42),[(50,(bV false))]⟩::⟨_,undef,false,3,3,(rn 0 43),[(50,(bV false))]⟩::⟨_,undef,false,3,3,(rn 0 44),[(50,(bV false))]⟩::⟨_,undef,false,3,3,(rn 0 40),[(50,(bV false))]⟩::⟨_,undef,false,3,3,(rn 0 40++[45]),[(50,(bV false))]⟩::⟨_,undef,false,3,3,(rn 0 40++[45,46]),[(50,(bV false))]⟩::⟨_,undef,false,3,3,(rn 0 40++[45,46,47]),[(50,(bV false))]⟩::⟨_,undef,false,3,3,(rn 0 40++rn 45 4),[(50,(bV false))]⟩::⟨_,undef,false,3,3,(rn 0 40++rn 45 5),[(50,(bV false))]⟩::⟨_,undef,false,3,3,(rn 0 40++rn 45 6),[(50,(bV false))]⟩::⟨_,undef,false,3,3,(rn 0 52),[(50,(bV false))]⟩::⟨_,(bV false),false,3,3,(rn 0 53),[(50,(bV false)),(63,undef)]⟩::⟨_,(bV false),false,3,3,(rn 0 54),[(64,(bV false))]⟩::[])) (W:=(fun j=>match j with | 0=>w18 | 1=>w23 | 2=>w31 | 3=>w39 | _=>w39)) (by kernel_rfl) u (cY e19) (by kernel_rfl) ?_ (aP (by kernel_rfl)) (by kernel_rfl) (m:=3) (by kernel_rfl) (fun a u=>?_)
   ·refine⟨oa (aC · rfl),oa (aG · rfl e2),oa (aI · rfl aGv rfl rfl aHf),oc 0 (kd (aH · rfl aHp (bA e21))),oc 0 (kd (dc1 · rfl Try.call38 (iO e24))),oa (aI · rfl aGr rfl rfl aGq),?_,oa (gM · rfl rfl),oa (aC · rfl),oag 19 b27 (aC · rfl),oag 19 b27 (aG · rfl e2),oag 19 b27 (aI · rfl aGv rfl rfl aHf),oc 1 (kg 19 b27 (aH · rfl aHp (bA e29))),oc 1 (kg 19 b27 (dc1 · rfl Try.call39 (mF e32))),oag 19 b27 (aI · rfl aGr rfl rfl aGq),?_,oag 19 b27 (gM · rfl rfl),oa (aF · rfl b27 rfl),oa (aC · rfl),oag 29 b35 (aC · rfl),oag 29 b35 (aG · rfl e2),oag 29 b35 (aI · rfl aGv rfl rfl aHf),oc 2 (kg 29 b35 (aH · rfl aHp (bA e37))),oc 2 (kg 29 b35 (dc1 · rfl Try.call40 (nG e40))),oag 29 b35 (aI · rfl aGr rfl rfl aGG),?_,oag 29 b35 (aV · rfl aGx),oag 29 b35 (gM · rfl rfl),oa (aF · rfl b35 rfl),oa (aC · rfl),on 40 (nm b43),on 40 (nm b43),on 40 (nm b43),
     on 40 (nm b43),on 40 (nm b43),on 40 (nm b43),on 40 (nm b43),on 40 (nm b43),oa (aJ · rfl b43 rfl),oa (aC · rfl),on 50 (nm Bool.false_ne_true),on 50 (nm Bool.false_ne_true),on 50 (nm Bool.false_ne_true),on 50 (nm Bool.false_ne_true),on 50 (nm Bool.false_ne_true),on 50 (nm Bool.false_ne_true),on 50 (nm Bool.false_ne_true),on 50 (nm Bool.false_ne_true),on 50 (nm Bool.false_ne_true),on 50 (nm Bool.false_ne_true),on 50 (nm Bool.false_ne_true),on 50 (nm Bool.false_ne_true),on 50 (nm Bool.false_ne_true),oa (aJ · rfl Bool.false_ne_true rfl),oa (aY · rfl),aHY⟩
    ·intro j h1 h2;have h1:0≤j:=h1;have h2:j≤1:=h2;rcases(by omega:j=0∨j=1) with rfl | rfl
     ·exact kd (aH · rfl aGs (aO e76))
     exact kd (aH · rfl aGs (aO e26))
    ·intro j h1 h2;have h1:1≤j:=h1;have h2:j≤2:=h2;rcases(by omega:j=1∨j=2) with rfl | rfl
     ·exact kg 19 b27 (aH · rfl aGs (aO e77))
     exact kg 19 b27 (aH · rfl aGs (aO e34))
    intro j h1 h2;have h1:2≤j:=h1;have h2:j≤3:=h2;rcases(by omega:j=2∨j=3) with rfl | rfl
    ·exact kg 29 b35 (aH · rfl aGH (aR e78))
    exact kg 29 b35 (aH · rfl aGH (aR e42))
   have u:Has 65 [(2,(bV false))] a:=u.sb rfl
   have y:=u
   cases h
   exact hk17 _ (y.sb rfl)
  obtain⟨e79,h⟩:=bK h
  obtain⟨e80,h⟩:=bK h
  have u:Has 65 [(0,(pV a0)),(3,(pV (some p9)))] a:=u.sb rfl
  refine aK (n:=65) (ds:=(⟨_,(pV a0),false,0,0,[],[(0,(pV a0))]⟩::⟨_,(pV (some p1)),false,0,0,[0],[(11,(pV a0))]⟩::⟨_,(pV (some (p1.add 1))),false,0,0,[0,1],[(12,(pV (some p1)))]⟩::⟨_,(pV v20),false,0,0,[0,1,2],[(13,(pV (some (p1.add 1))))]⟩::⟨_,(iV v22),true,0,0,(rn 0 4),[(14,(pV v20))]⟩::⟨_,(pV (some (p9.add 0))),false,0,1,[],[(3,(pV (some p9)))]⟩::⟨_,(iV v25),false,0,1,[5],[(16,(pV (some (p9.add 0))))]⟩::⟨_,(bV (v22==v25)),false,1,1,(rn 0 7),[(15,(iV v22)),(17,(iV v25))]⟩::⟨_,(bV (v22==v25)),false,1,1,(rn 0 8),[(18,(bV (v22==v25)))]⟩::⟨_,(pV a0),false,1,1,(rn 0 9),[(0,(pV a0)),(19,(bV (v22==v25)))]⟩::⟨_,(pV (some p1)),false,1,1,(rn 0 10),[(20,(pV a0)),(19,(bV (v22==v25)))]⟩::⟨_,(pV (some (p1.add 1))),false,1,1,(rn 0 11),[(21,(pV (some p1))),(19,(bV (v22==v25)))]⟩::⟨_,(pV v28),false,1,1,(rn 0 12),[(22,(pV (some (p1.add 1)))),(19,(bV (v22==v25)))]⟩::⟨_,(iV v30),true,1,1,(rn 0 13),[(23,(pV v28)),(19,(bV (v22==v25)))]⟩::⟨_,(pV (some (p9.add 1))),false,1,2,(rn 0 9),[(3,(pV (some p9))),(19,(bV (v22==v25)))]⟩::⟨_,(iV v33),false,1,2,(rn 0 9++[14]),[(25,(pV (some (p9.add 1)))),(19,(bV (v22==v25)))]⟩::⟨_,(bV (v30==v33)),false,2,2,(rn 0 16),[(24,(iV v30)),(26,(iV v33)),(19,(bV (v22==v25)))]⟩::⟨_,(bV (v30==v33)),false,2,2,(rn 0 17),[(19,(bV (v22==v25))),(27,(bV (v30==v33)))]⟩::⟨_,(bV (v30==v33)),false,2,2,(rn 0 18),[(28,(bV (v30==v33)))]⟩::⟨_,undef,false,2,2,(rn 0 19),[(29,(bV (v30==v33)))]⟩::⟨_,undef,false,2,2,(rn 0 20),[(29,(bV (v30==v33)))]⟩::⟨_,undef,false,2,2,(rn 0 21),[(29,(bV (v30==v33)))]⟩::⟨_,undef,false,2,2,(rn 0 22),[(29,(bV (v30==v33)))]⟩::⟨_,undef,false,2,2,(rn 0 23),[(29,(bV (v30==v33)))]⟩::⟨_,undef,false,2,2,(rn 0 19),[(29,(bV (v30==v33)))]⟩::⟨_,undef,false,2,2,(rn 0 19++[24]),[(29,(bV (v30==v33)))]⟩::⟨_,undef,false,2,2,(rn 0 19++[24,25]),[(29,(bV (v30==v33)))]⟩::⟨_,undef,false,2,2,(rn 0 27),[(29,(bV (v30==v33)))]⟩::⟨_,(bV false),false,2,2,(rn 0 28),[(29,(bV (v30==v33))),(38,undef)]⟩::⟨_,(bV false),false,2,2,(rn 0 29),[(39,(bV false))]⟩::⟨_,undef,false,2,2,(rn 0 30),[(40,(bV false))]⟩::⟨_,undef,false,2,2,(rn 0 31),[(40,(bV false))]⟩::⟨_,undef,false,2,2,(rn 0 32),[(40,(bV false))]⟩::⟨_,undef,false,2,2,(rn 0 33),[(40,(bV false))]⟩::⟨_,undef,false,2,2,(rn 0 34),[(40,(bV false))]⟩::⟨_,undef,false,2,2,(rn 0 30),[(40,(bV false))]⟩::⟨_,undef,false,2,2,(rn 0 30++[35]),[(40,(bV false))]⟩::⟨_,undef,false,2,2,(rn 0 37),[(40,(bV false))]⟩::⟨_,(bV false),false,2,2,(rn 0 38),[(40,(bV false)),(48,undef)]⟩::⟨_,(bV false),false,2,2,(rn 0 39),[(49,(bV false))]⟩::⟨_,undef,false,2,2,(rn 0 40),[(50,(bV false))]⟩::⟨_,undef,false,2,2,(rn 0 41),[(50,(bV false))]⟩::⟨_,undef,false,2,2,(rn 0 42),[(50,(bV false))]⟩::⟨_,undef,false,2,2,(rn 0 43),[(50,(bV false))]⟩::⟨_,undef,false,2,2,(rn 0 44),[(50,(bV false))]⟩::⟨_,undef,false,2,2,(rn 0 40),[(50,(bV false))]⟩::⟨_,undef,false,2,2,(rn 0 40++[45]),[(50,(bV false))]⟩::⟨_,undef,false,2,2,(rn 0 40++[45,46]),[(50,(bV false))]⟩::⟨_,undef,false,2,2,(rn 0 40++[45,46,47]),[(50,(bV false))]⟩::⟨_,undef,false,2,2,(rn 0 40++rn 45 4),[(50,(bV false))]⟩::⟨_,undef,false,2,2,(rn 0 40++rn 45 5),[(50,(bV false))]⟩::⟨_,undef,false,2,2,(rn 0 40++rn 45 6),[(50,(bV false))]⟩::⟨_,undef,false,2,2,(rn 0 52),[(50,(bV false))]⟩::⟨_,(bV false),false,2,2,(rn 0 53),[(50,(bV false)),(63,undef)]⟩::⟨_,(bV false),false,2,2,(rn 0 54),[(64,(bV false))]⟩::[])) (W:=(fun j=>match j with | 0=>w18 | 1=>w23 | 2=>w31 | _=>w31)) (by kernel_rfl) u (cY e19) (by kernel_rfl) ?_ (aP (by kernel_rfl)) (by kernel_rfl) (m:=2) (by kernel_rfl) (fun a u=>?_)
  ·refine⟨oa (aC · rfl),oa (aG · rfl e2),oa (aI · rfl aGv rfl rfl aHf),oc 0 (kd (aH · rfl aHp (bA e21))),oc 0 (kd (dc1 · rfl Try.call38 (iO e24))),oa (aI · rfl aGr rfl rfl aGq),?_,oa (gM · rfl rfl),oa (aC · rfl),oag 19 b27 (aC · rfl),oag 19 b27 (aG · rfl e2),oag 19 b27 (aI · rfl aGv rfl rfl aHf),oc 1 (kg 19 b27 (aH · rfl aHp (bA e29))),oc 1 (kg 19 b27 (dc1 · rfl Try.call39 (mF e32))),oag 19 b27 (aI · rfl aGr rfl rfl aGq),?_,oag 19 b27 (gM · rfl rfl),oa (aF · rfl b27 rfl),oa (aC · rfl),on 29 (nm b35),on 29 (nm b35),on 29 (nm b35),on 29 (nm b35),on 29 (nm b35),on 29 (nm b35),on 29 (nm b35),on 29 (nm b35),on 29 (nm b35),oa (aJ · rfl b35 rfl),oa (aC · rfl),on 40 (nm Bool.false_ne_true),on 40 (nm Bool.false_ne_true),on 40 (nm Bool.false_ne_true),on 40 (nm Bool.false_ne_true),on 40 (nm Bool.false_ne_true),on 40 (nm Bool.false_ne_true),on 40 (nm Bool.false_ne_true),on 40 (nm Bool.false_ne_true),oa (aJ · rfl Bool.false_ne_true rfl),oa (aC · rfl),
    on 50 (nm Bool.false_ne_true),on 50 (nm Bool.false_ne_true),on 50 (nm Bool.false_ne_true),on 50 (nm Bool.false_ne_true),on 50 (nm Bool.false_ne_true),on 50 (nm Bool.false_ne_true),on 50 (nm Bool.false_ne_true),on 50 (nm Bool.false_ne_true),on 50 (nm Bool.false_ne_true),on 50 (nm Bool.false_ne_true),on 50 (nm Bool.false_ne_true),on 50 (nm Bool.false_ne_true),on 50 (nm Bool.false_ne_true),oa (aJ · rfl Bool.false_ne_true rfl),oa (aY · rfl),aHY⟩
   ·intro j h1 h2;have h1:0≤j:=h1;have h2:j≤1:=h2;rcases(by omega:j=0∨j=1) with rfl | rfl
    ·exact kd (aH · rfl aGs (aO e79))
    exact kd (aH · rfl aGs (aO e26))
   intro j h1 h2;have h1:1≤j:=h1;have h2:j≤2:=h2;rcases(by omega:j=1∨j=2) with rfl | rfl
   ·exact kg 19 b27 (aH · rfl aGs (aO e80))
   exact kg 19 b27 (aH · rfl aGs (aO e34))
  have u:Has 65 [(2,(bV false))] a:=u.sb rfl
  have y:=u
  cases h
  exact hk17 _ (y.sb rfl)
 obtain⟨e81,h⟩:=bK h
 have u:Has 65 [(0,(pV a0)),(3,(pV (some p9)))] a:=u.sb rfl
 refine aK (n:=65) (ds:=(⟨_,(pV a0),false,0,0,[],[(0,(pV a0))]⟩::⟨_,(pV (some p1)),false,0,0,[0],[(11,(pV a0))]⟩::⟨_,(pV (some (p1.add 1))),false,0,0,[0,1],[(12,(pV (some p1)))]⟩::⟨_,(pV v20),false,0,0,[0,1,2],[(13,(pV (some (p1.add 1))))]⟩::⟨_,(iV v22),true,0,0,(rn 0 4),[(14,(pV v20))]⟩::⟨_,(pV (some (p9.add 0))),false,0,1,[],[(3,(pV (some p9)))]⟩::⟨_,(iV v25),false,0,1,[5],[(16,(pV (some (p9.add 0))))]⟩::⟨_,(bV (v22==v25)),false,1,1,(rn 0 7),[(15,(iV v22)),(17,(iV v25))]⟩::⟨_,(bV (v22==v25)),false,1,1,(rn 0 8),[(18,(bV (v22==v25)))]⟩::⟨_,undef,false,1,1,(rn 0 9),[(19,(bV (v22==v25)))]⟩::⟨_,undef,false,1,1,(rn 0 10),[(19,(bV (v22==v25)))]⟩::⟨_,undef,false,1,1,(rn 0 11),[(19,(bV (v22==v25)))]⟩::⟨_,undef,false,1,1,(rn 0 12),[(19,(bV (v22==v25)))]⟩::⟨_,undef,false,1,1,(rn 0 13),[(19,(bV (v22==v25)))]⟩::⟨_,undef,false,1,1,(rn 0 9),[(19,(bV (v22==v25)))]⟩::⟨_,undef,false,1,1,(rn 0 9++[14]),[(19,(bV (v22==v25)))]⟩::⟨_,undef,false,1,1,(rn 0 16),[(19,(bV (v22==v25)))]⟩::⟨_,(bV false),false,1,1,(rn 0 17),[(19,(bV (v22==v25))),(27,undef)]⟩::⟨_,(bV false),false,1,1,(rn 0 18),[(28,(bV false))]⟩::⟨_,undef,false,1,1,(rn 0 19),[(29,(bV false))]⟩::⟨_,undef,false,1,1,(rn 0 20),[(29,(bV false))]⟩::⟨_,undef,false,1,1,(rn 0 21),[(29,(bV false))]⟩::⟨_,undef,false,1,1,(rn 0 22),[(29,(bV false))]⟩::⟨_,undef,false,1,1,(rn 0 23),[(29,(bV false))]⟩::⟨_,undef,false,1,1,(rn 0 19),[(29,(bV false))]⟩::⟨_,undef,false,1,1,(rn 0 19++[24]),[(29,(bV false))]⟩::⟨_,undef,false,1,1,(rn 0 19++[24,25]),[(29,(bV false))]⟩::⟨_,undef,false,1,1,(rn 0 27),[(29,(bV false))]⟩::⟨_,(bV false),false,1,1,(rn 0 28),[(29,(bV false)),(38,undef)]⟩::⟨_,(bV false),false,1,1,(rn 0 29),[(39,(bV false))]⟩::⟨_,undef,false,1,1,(rn 0 30),[(40,(bV false))]⟩::⟨_,undef,false,1,1,(rn 0 31),[(40,(bV false))]⟩::⟨_,undef,false,1,1,(rn 0 32),[(40,(bV false))]⟩::⟨_,undef,false,1,1,(rn 0 33),[(40,(bV false))]⟩::⟨_,undef,false,1,1,(rn 0 34),[(40,(bV false))]⟩::⟨_,undef,false,1,1,(rn 0 30),[(40,(bV false))]⟩::⟨_,undef,false,1,1,(rn 0 30++[35]),[(40,(bV false))]⟩::⟨_,undef,false,1,1,(rn 0 37),[(40,(bV false))]⟩::⟨_,(bV false),false,1,1,(rn 0 38),[(40,(bV false)),(48,undef)]⟩::⟨_,(bV false),false,1,1,(rn 0 39),[(49,(bV false))]⟩::⟨_,undef,false,1,1,(rn 0 40),[(50,(bV false))]⟩::⟨_,undef,false,1,1,(rn 0 41),[(50,(bV false))]⟩::⟨_,undef,false,1,1,(rn 0 42),[(50,(bV false))]⟩::⟨_,undef,false,1,1,(rn 0 43),[(50,(bV false))]⟩::⟨_,undef,false,1,1,(rn 0 44),[(50,(bV false))]⟩::⟨_,undef,false,1,1,(rn 0 40),[(50,(bV false))]⟩::⟨_,undef,false,1,1,(rn 0 40++[45]),[(50,(bV false))]⟩::⟨_,undef,false,1,1,(rn 0 40++[45,46]),[(50,(bV false))]⟩::⟨_,undef,false,1,1,(rn 0 40++[45,46,47]),[(50,(bV false))]⟩::⟨_,undef,false,1,1,(rn 0 40++rn 45 4),[(50,(bV false))]⟩::⟨_,undef,false,1,1,(rn 0 40++rn 45 5),[(50,(bV false))]⟩::⟨_,undef,false,1,1,(rn 0 40++rn 45 6),[(50,(bV false))]⟩::⟨_,undef,false,1,1,(rn 0 52),[(50,(bV false))]⟩::⟨_,(bV false),false,1,1,(rn 0 53),[(50,(bV false)),(63,undef)]⟩::⟨_,(bV false),false,1,1,(rn 0 54),[(64,(bV false))]⟩::[])) (W:=(fun j=>match j with | 0=>w18 | 1=>w23 | _=>w23)) (by kernel_rfl) u (cY e19) (by kernel_rfl) ?_ (aP (by kernel_rfl)) (by kernel_rfl) (m:=1) (by kernel_rfl) (fun a u=>?_)
 ·refine⟨oa (aC · rfl),oa (aG · rfl e2),oa (aI · rfl aGv rfl rfl aHf),oc 0 (kd (aH · rfl aHp (bA e21))),oc 0 (kd (dc1 · rfl Try.call38 (iO e24))),oa (aI · rfl aGr rfl rfl aGq),?_,oa (gM · rfl rfl),oa (aC · rfl),on 19 (nm b27),on 19 (nm b27),on 19 (nm b27),on 19 (nm b27),on 19 (nm b27),on 19 (nm b27),on 19 (nm b27),on 19 (nm b27),oa (aJ · rfl b27 rfl),oa (aC · rfl),on 29 (nm Bool.false_ne_true),on 29 (nm Bool.false_ne_true),on 29 (nm Bool.false_ne_true),on 29 (nm Bool.false_ne_true),on 29 (nm Bool.false_ne_true),on 29 (nm Bool.false_ne_true),on 29 (nm Bool.false_ne_true),on 29 (nm Bool.false_ne_true),on 29 (nm Bool.false_ne_true),oa (aJ · rfl Bool.false_ne_true rfl),oa (aC · rfl),on 40 (nm Bool.false_ne_true),on 40 (nm Bool.false_ne_true),on 40 (nm Bool.false_ne_true),on 40 (nm Bool.false_ne_true),on 40 (nm Bool.false_ne_true),on 40 (nm Bool.false_ne_true),on 40 (nm Bool.false_ne_true),on 40 (nm Bool.false_ne_true),oa (aJ · rfl Bool.false_ne_true rfl),oa (aC · rfl),on 50 (nm Bool.false_ne_true),on 50 (nm Bool.false_ne_true),
   on 50 (nm Bool.false_ne_true),on 50 (nm Bool.false_ne_true),on 50 (nm Bool.false_ne_true),on 50 (nm Bool.false_ne_true),on 50 (nm Bool.false_ne_true),on 50 (nm Bool.false_ne_true),on 50 (nm Bool.false_ne_true),on 50 (nm Bool.false_ne_true),on 50 (nm Bool.false_ne_true),on 50 (nm Bool.false_ne_true),on 50 (nm Bool.false_ne_true),oa (aJ · rfl Bool.false_ne_true rfl),oa (aY · rfl),aHY⟩
  intro j h1 h2;have h1:0≤j:=h1;have h2:j≤1:=h2;rcases(by omega:j=0∨j=1) with rfl | rfl
  ·exact kd (aH · rfl aGs (aO e81))
  exact kd (aH · rfl aGs (aO e26))
 have u:Has 65 [(2,(bV false))] a:=u.sb rfl
 have y:=u
 cases h
 exact hk17 _ (y.sb rfl)
def eX (a0:Sl) (p1:Addr) (x25:Int) (w26:World):ND ((Int×World)⊕((World)⊕(Addr×Bool×World))) :=
 cb2 (if (decide (x25<(a0.n:Int)))=true then
 (aS ((decide (x25<200)),w26))
 else
 (aS (false,w26))) fun v36 w37 =>
 if v36=true then
 (lb1 (dr w37) fun w42 =>
 lb1 (ldP w42 (p1.add 0)) fun v44 =>
 lb1 (ix a0 x25 4) fun p46 =>
 lb1 (ldI .i64 w42 (p46.add 1)) fun v48 =>
 lb1 (ix a0 x25 4) fun p50 =>
 lb1 (ldL w42 (p50.add 2)) fun v52 =>
 lb2 (bY v44 v48 v52 w42) fun v54 w55 =>
 lb1 (ldP w55 (p1.add 2)) fun v57 =>
 lb1 (ix a0 x25 4) fun p59 =>
 lb1 (ldI .i64 w55 (p59.add 1)) fun v61 =>
 lb1 (ix a0 x25 4) fun p63 =>
 lb1 (ldL w55 (p63.add 2)) fun v65 =>
 lb2 (aZ v57 v61 v65 w55) fun v67 w68 =>
 nck (ldP w42 (p1.add 2)=some v57) <|
 nck (ldI .i64 w42 (p59.add 1)=some v61) <|
 nck (ldL w42 (p63.add 2)=some v65) <|
 if (v54 !=v67)=true then
 (aS (.inr (.inr (p1,false,w68))))
 else
 (aS (.inl ((IntKind.wrap .i64 (x25+1)),w68))))
 else
 (aS (.inr (.inl w37)))
def iI (a0:Sl) (w:World):ND ((Option Addr)×Bool×World) :=
 lb2 (mk w 85 (List.replicate 4 (.pointer none))) fun p1 w2 =>
 lb3 (lQ 52 w2) fun v4 v5 w6 =>
 lb1 (stV w6 (p1.add 0) (.pointer v4)) fun w8 =>
 lb3 (gA 52 w8) fun v10 v11 w12 =>
 lb1 (stV w12 (p1.add 2) (.pointer v10)) fun w14 =>
 cb2 (if (v5 !=0)=true then
 (aS (true,w14))
 else
 (if (v11 !=0)=true then
 (aS (true,w14))
 else
 (lb1 (ldP w14 (p1.add 0)) fun v22 =>
 aS ((v22.isNone),w14)))) fun v16 w17 =>
 if v16=true then
 (aS ((some p1),false,w17))
 else
 (cb1 (fA (fun s:Int×World=>eX a0 p1 s.1 s.2) (0,w17)) fun r27=>Sum.elim (fun (i:World)=>u1 i fun w29 =>
 cb3 (cb2 (eI (some p1) w29) fun v79 w80 =>
 if v79=true then
 (lb1 (ldP w80 (p1.add 1)) fun v83 =>
 if (!(v83.isNone))=true then
 (lb2 (eJ (some p1) w80) fun v86 w87 =>
 aS (p1,v86,w87))
 else
 (aS (p1,false,w80)))
 else
 (aS (p1,false,w80))) fun v74 v75 w76 =>
 aS ((some v74),v75,w76)) (fun (i:Addr×Bool×World)=>u3 i fun v30 v31 w32 =>
 aS ((some v30),v31,w32)) r27)
theorem pY {a0 w Q} (h:(iI a0 w).t Q):Calls Try.prog 45 #[(Sl.v a0)] w fun e w''=>∃ i,e=.returned (.tuple #[(.pointer i.1),(.bool i.2.1)])∧Q i∧w''=i.2.2:=by
 refine aN (n:=94) Try.func45 rfl Try.ntmps45 (by simp) fun a u=>?_
 unfold iI at h
 refine wp_seq<|aA<|qa u rfl fun a u=>qa u rfl fun a u=>aB<|t_n<|wp_seq<|aA<|q u (dY (vs:=[]) (pl:=#[(0,1),(1,1),(2,1),(3,1)]) (cs:=(List.replicate 4 (pV none))) u trivial Try.zeroValue85 aGv (by intro w;kernel_rfl) (by kernel_rfl)) fun a u=>?_
 obtain⟨p1,w2,e3,h⟩:=h
 refine q u (rA u rfl rfl e3) fun a u=>qa u rfl fun a u=>aB<|t_n<|wp_seq<|aA<|qa u rfl fun a u=>qa u rfl fun a u=>aB<|t_n<|wp_seq<|aA<|qm u rfl fun a u=>?_
 obtain⟨v4,v5,w6,e7,h⟩:=h
 refine q u (dc1 u rfl Try.call30 (sC e7)) fun a u=>qm u rfl fun a u=>q u (aQ u rfl rfl) fun a u=>q u (aQ u rfl rfl) fun a u=>q u (lK u rfl) fun a u=>q u (aI u rfl aGv rfl rfl aGU) fun a u=>?_
 obtain⟨w8,e9,h⟩:=h
 refine q u (fM u rfl rfl aGU e9) fun a u=>qa u rfl fun a u=>aB<|t_n<|wp_seq<|aA<|qm u rfl fun a u=>?_
 obtain⟨v10,v11,w12,e13,h⟩:=h
 refine q u (dc1 u rfl Try.call31 (rC e13)) fun a u=>qm u rfl fun a u=>q u (aQ u rfl rfl) fun a u=>q u (aQ u rfl rfl) fun a u=>q u (lK u rfl) fun a u=>q u (aI u rfl aGv rfl rfl aGQ) fun a u=>?_
 obtain⟨w14,e15,h⟩:=h
 refine q u (fM u rfl rfl aGQ e15) fun a u=>qa u rfl fun a u=>aB<|t_n<|wp_seq<|wp_seq<|?_
 refine dD (n:=94) (ι:=Bool×World) (Lf:=fun i=>[(36,(bV i.1)),(0,(Sl.v a0)),(4,(pV (some p1)))]) (wf:=fun i=>i.2) (un2 h) (fun i h a u=>?_) (fun h hk19=>?_)
 ·obtain⟨v16,w17⟩:=i
  have u:Has 94 [(36,(bV v16)),(0,(Sl.v a0)),(4,(pV (some p1)))] a:=u
  refine t_n<|?_
  refine aT u rfl h (fun b24 h=>?_) (fun b24 h=>?_)
  ·refine wp_seq<|aA<|qm u rfl fun a u=>qa u rfl fun a u=>qa u rfl fun a u=>aB<|t_n<|wp_ret<|t_r<|?_
   exact iB Try.results45 u rfl rfl ⟨((some p1),false,w17),rfl,h,rfl⟩
  refine wp_skip<|t_n<|wp_seq<|wp_seq<|aA<|qa u rfl fun a u=>aB<|t_n<|wp_block<|?_
  refine tI (n:=94) (L1:=fun i=>[(4,(pV (some p1)))]) (w1:=fun i=>i) (L2:=fun i=>[(2,(pV (some i.1))),(3,(bV i.2.1))]) (w2:=fun i=>i.2.2) (e1:=.exit 0) (e2:=.ret) (I:=fun (s:Int×World) a w=>Has 94 [(7,(iV s.1)),(0,(Sl.v a0)),(4,(pV (some p1)))] a∧w=s.2) (un1 h) ⟨u.sub ⟨rfl,rfl,rfl,aHY⟩,rfl⟩ (fun i h a u=>?_) (fun i h a u=>?_) (fun hk33 hk34=>?_)
  ·obtain⟨w29,rfl⟩:∃ x,x=i:=⟨i,rfl⟩
   try dsimp only[Sum.elim_inl,Sum.elim_inr,u1,u2,u3,u4,u5,u6] at h
   have u:Has 94 [(4,(pV (some p1)))] a:=u
   refine dS<|t_n<|wp_seq<|?_
   refine dD (n:=94) (ι:=Addr×Bool×World) (Lf:=fun i=>[(2,(pV (some i.1))),(3,(bV i.2.1))]) (wf:=fun i=>i.2.2) (un3 h) (fun i h a u=>?_) (fun h hk78=>?_)
   ·obtain⟨v74,v75,w76⟩:=i
    have u:Has 94 [(2,(pV (some v74))),(3,(bV v75))] a:=u
    refine t_n<|wp_ret<|?_
    exact iB Try.results45 u rfl rfl ⟨((some v74),v75,w76),rfl,h,rfl⟩
   refine aA<|qm u rfl fun a u=>qm u rfl fun a u=>?_
   refine lF (ι:=Bool×World) (pk:=fun i=>(bV i.1)) (wf:=fun i=>i.2) (xs:=[_]) (vs:=[(pV (some p1))]) u ⟨rfl,aHY⟩ Try.call90 (lJ (un2 h)) (fun i h a u=>?_)
   obtain⟨v79,w80⟩:=i
   refine qm u rfl fun a u=>?_
   refine jB h (fun b82 h=>?_) (fun b82 h=>?_)
   ·refine qg u 83 b82 (aC u rfl) fun a u=>qg u 83 b82 (lK u rfl) fun a u=>qg u 83 b82 (aI u rfl aGv rfl rfl aHf) fun a u=>?_
    obtain⟨v83,e84,h⟩:=h
    refine qg u 83 b82 (aH u rfl aHp (bA e84)) fun a u=>qg u 83 b82 (aEZ u rfl rfl aHs) fun a u=>q u (aF u rfl b82 rfl) fun a u=>qm u rfl fun a u=>?_
    refine jB h (fun b85 h=>?_) (fun b85 h=>?_)
    ·refine qg u 90 b85 (aC u rfl) fun a u=>?_
     obtain⟨v86,w87,e88,h⟩:=h
     refine qg u 90 b85 (dc1 u rfl Try.call51 (lH e88)) fun a u=>q u (aF u rfl b85 rfl) fun a u=>qa u rfl fun a u=>qa u rfl fun a u=>aB<|?_
     exact hk78 (p1,v86,w87) h _ (u.sb rfl)
    refine qn u 90 (nm b85) fun a u=>qn u 90 (nm b85) fun a u=>q u (aJ u rfl b85 rfl) fun a u=>qa u rfl fun a u=>qa u rfl fun a u=>aB<|?_
    exact hk78 (p1,false,w80) h _ (u.sb rfl)
   refine qn u 83 (nm b82) fun a u=>qn u 83 (nm b82) fun a u=>qn u 83 (nm b82) fun a u=>qn u 83 (nm b82) fun a u=>qn u 83 (nm b82) fun a u=>q u (aJ u rfl b82 rfl) fun a u=>qm u rfl fun a u=>qn u 90 (nm Bool.false_ne_true) fun a u=>qn u 90 (nm Bool.false_ne_true) fun a u=>q u (aJ u rfl Bool.false_ne_true rfl) fun a u=>qa u rfl fun a u=>qa u rfl fun a u=>aB<|?_
   exact hk78 (p1,false,w80) h _ (u.sb rfl)
  ·obtain⟨v30,v31,w32⟩:=i
   try dsimp only[Sum.elim_inl,Sum.elim_inr,u1,u2,u3,u4,u5,u6] at h
   have u:Has 94 [(2,(pV (some v30))),(3,(bV v31))] a:=u
   refine b_r<|t_r<|?_
   exact iB Try.results45 u rfl rfl ⟨((some v30),v31,w32),rfl,h,rfl⟩
  clear h
  intro hX89
  rintro⟨x25,w26⟩ a wq ⟨u,hwq⟩ h
  obtain rfl:w26=wq:=hwq.symm
  have u:Has 94 [(7,(iV x25)),(0,(Sl.v a0)),(4,(pV (some p1)))] a:=u
  have h:(eX a0 p1 x25 w26).t _:=h
  unfold eX at h
  refine wp_seq<|wp_seq<|?_
  refine dD (n:=94) (ι:=Bool×World) (Lf:=fun i=>[(45,(bV i.1)),(0,(Sl.v a0)),(4,(pV (some p1))),(7,(iV x25))]) (wf:=fun i=>i.2) (un2 h) (fun i h a u=>?_) (fun h hk39=>?_)
  ·obtain⟨v36,w37⟩:=i
   have u:Has 94 [(45,(bV v36)),(0,(Sl.v a0)),(4,(pV (some p1))),(7,(iV x25))] a:=u
   refine t_n<|?_
   refine aT u rfl h (fun b41 h=>?_) (fun b41 h=>?_)
   ·refine wp_skip<|t_n<|wp_seq<|wp_block<|wp_seq<|?_
    obtain⟨w42,e43,h⟩:=h
    obtain⟨v44,e45,h⟩:=h
    obtain⟨p46,e47,h⟩:=h
    obtain⟨v48,e49,h⟩:=h
    obtain⟨p50,e51,h⟩:=h
    obtain⟨v52,e53,h⟩:=h
    obtain⟨v54,w55,e56,h⟩:=h
    obtain⟨v57,e58,h⟩:=h
    obtain⟨p59,e60,h⟩:=h
    obtain⟨v61,e62,h⟩:=h
    obtain⟨p63,e64,h⟩:=h
    obtain⟨v65,e66,h⟩:=h
    obtain⟨v67,w68,e69,h⟩:=h
    obtain⟨e70,h⟩:=h
    obtain⟨e71,h⟩:=h
    obtain⟨e72,h⟩:=h
    have u:Has 94 [(0,(Sl.v a0)),(4,(pV (some p1))),(7,(iV x25))] a:=u.sb rfl
    refine aK (n:=94) (ds:=(⟨_,(pV (some p1)),false,0,0,[],[(4,(pV (some p1)))]⟩::⟨_,(pV (some p1)),false,0,0,[0],[(48,(pV (some p1)))]⟩::⟨_,(pV (some (p1.add 0))),false,0,0,[0,1],[(49,(pV (some p1)))]⟩::⟨_,(pV v44),false,0,0,[0,1,2],[(50,(pV (some (p1.add 0))))]⟩::⟨_,(Sl.v a0),false,0,0,[],[(0,(Sl.v a0))]⟩::⟨_,(iV x25),false,0,0,[],[(7,(iV x25))]⟩::⟨_,(pV (some p46)),false,0,0,[4,5],[(52,(Sl.v a0)),(53,(iV x25))]⟩::⟨_,(pV (some (p46.add 1))),false,0,0,[4,5,6],[(54,(pV (some p46)))]⟩::⟨_,(iV v48),false,0,0,(rn 4 4),[(55,(pV (some (p46.add 1))))]⟩::⟨_,(Sl.v a0),false,0,0,[],[(0,(Sl.v a0))]⟩::⟨_,(iV x25),false,0,0,[],[(7,(iV x25))]⟩::⟨_,(pV (some p50)),false,0,0,[9,10],[(57,(Sl.v a0)),(58,(iV x25))]⟩::⟨_,(pV (some (p50.add 2))),false,0,0,[9,10,11],[(59,(pV (some p50)))]⟩::⟨_,(Sl.v v52),false,0,0,(rn 9 4),[(60,(pV (some (p50.add 2))))]⟩::⟨_,(iV v54),true,0,0,(rn 0 14),[(51,(pV v44)),(56,(iV v48)),(61,(Sl.v v52))]⟩::⟨_,(pV (some p1)),false,0,1,[],[(4,(pV (some p1)))]⟩::⟨_,(pV (some p1)),false,0,1,[15],[(63,(pV (some p1)))]⟩::⟨_,(pV (some (p1.add 2))),false,0,1,[15,16],[(64,(pV (some p1)))]⟩::⟨_,(pV v57),false,0,1,[15,16,17],[(65,(pV (some (p1.add 2))))]⟩::⟨_,(Sl.v a0),false,0,1,[],[(0,(Sl.v a0))]⟩::⟨_,(iV x25),false,0,1,[],[(7,(iV x25))]⟩::⟨_,(pV (some p59)),false,0,1,[19,20],[(67,(Sl.v a0)),(68,(iV x25))]⟩::⟨_,(pV (some (p59.add 1))),false,0,1,[19,20,21],[(69,(pV (some p59)))]⟩::⟨_,(iV v61),false,0,1,(rn 19 4),[(70,(pV (some (p59.add 1))))]⟩::⟨_,(Sl.v a0),false,0,1,[],[(0,(Sl.v a0))]⟩::⟨_,(iV x25),false,0,1,[],[(7,(iV x25))]⟩::⟨_,(pV (some p63)),false,0,1,[24,25],[(72,(Sl.v a0)),(73,(iV x25))]⟩::⟨_,(pV (some (p63.add 2))),false,0,1,[24,25,26],[(74,(pV (some p63)))]⟩::⟨_,(Sl.v v65),false,0,1,(rn 24 4),[(75,(pV (some (p63.add 2))))]⟩::⟨_,(iV v67),true,1,1,(rn 0 29),[(66,(pV v57)),(71,(iV v61)),(76,(Sl.v v65))]⟩::⟨_,(bV (v54 !=v67)),false,2,2,(rn 0 30),[(62,(iV v54)),(77,(iV v67))]⟩::[])) (W:=(fun j=>match j with | 0=>w42 | 1=>w55 | 2=>w68 | _=>w68)) (by kernel_rfl) u (cY e43) (by kernel_rfl) ?_ (aP (by kernel_rfl)) (by kernel_rfl) (m:=2) (by kernel_rfl) (fun a u=>?_)
    ·refine⟨oa (aC · rfl),oa (lK · rfl),oa (aI · rfl aGv rfl rfl aGU),oc 0 (kd (aH · rfl aGR (bA e45))),oa (aC · rfl),oa (aC · rfl),oa (bT · rfl rfl aHx aHQ e47),oa (aI · rfl aGT rfl rfl aGq),oc 0 (kd (aH · rfl aGs (aO e49))),oa (aC · rfl),oa (aC · rfl),oa (bT · rfl rfl aHx aHQ e51),oa (aI · rfl aGT rfl rfl aHn),oc 0 (kd (aH · rfl aHt (aR e53))),oc 0 (kd (dc3 · rfl rfl rfl Try.call84 (fD e56))),oa (aC · rfl),oa (lK · rfl),oa (aI · rfl aGv rfl rfl aGQ),?_,oa (aC · rfl),oa (aC · rfl),oa (bT · rfl rfl aHx aHQ e60),oa (aI · rfl aGT rfl rfl aGq),?_,oa (aC · rfl),oa (aC · rfl),oa (bT · rfl rfl aHx aHQ e64),oa (aI · rfl aGT rfl rfl aHn),?_,oc 1 (kd (dc3 · rfl rfl rfl Try.call89 (cG e69))),oa (fP · rfl rfl),aHY⟩
     ·intro j h1 h2;have h1:0≤j:=h1;have h2:j≤1:=h2;rcases(by omega:j=0∨j=1) with rfl | rfl
      ·exact kd (aH · rfl aGN (bA e70))
      exact kd (aH · rfl aGN (bA e58))
     ·intro j h1 h2;have h1:0≤j:=h1;have h2:j≤1:=h2;rcases(by omega:j=0∨j=1) with rfl | rfl
      ·exact kd (aH · rfl aGs (aO e71))
      exact kd (aH · rfl aGs (aO e62))
     intro j h1 h2;have h1:0≤j:=h1;have h2:j≤1:=h2;rcases(by omega:j=0∨j=1) with rfl | rfl
     ·exact kd (aH · rfl aHt (aR e72))
     exact kd (aH · rfl aHt (aR e66))
    have u:Has 94 [(0,(Sl.v a0)),(4,(pV (some p1))),(7,(iV x25)),(78,(bV (v54 !=v67)))] a:=u.sb rfl
    refine t_n<|?_
    refine aT u rfl h (fun b73 h=>?_) (fun b73 h=>?_)
    ·refine wp_seq<|aA<|qm u rfl fun a u=>qa u rfl fun a u=>qa u rfl fun a u=>aB<|t_n<|wp_ret<|b_r<|t_r<|t_r<|?_
     exact hk34 (p1,false,w68) h _ (u.sb rfl)
    refine wp_skip<|b_n<|t_n<|aA<|qm u rfl fun a u=>q u (bF u rfl rfl) fun a u=>qa u rfl fun a u=>aB<|?_
    exact⟨((IntKind.wrap .i64 (x25+1)),w68),⟨u.sb rfl,rfl⟩,h⟩
   refine wp_exit<|t_x<|t_x<|?_
   exact hk33 w37 h _ (u.sb rfl)
  refine aA<|qm u rfl fun a u=>qm u rfl fun a u=>q u (aV u rfl aHx) fun a u=>q u (cZ u rfl rfl) fun a u=>qm u rfl fun a u=>?_
  refine jB h (fun b40 h=>?_) (fun b40 h=>?_)
  ·refine qg u 42 b40 (aC u rfl) fun a u=>qg u 42 b40 (cZ u rfl rfl) fun a u=>q u (aF u rfl b40 rfl) fun a u=>aB<|?_
   exact hk39 ((decide (x25<200)),w26) h _ (u.sb rfl)
  refine qn u 42 (nm b40) fun a u=>qn u 42 (nm b40) fun a u=>q u (aJ u rfl b40 rfl) fun a u=>aB<|?_
  exact hk39 (false,w26) h _ (u.sb rfl)
 refine aA<|qm u rfl fun a u=>q u (fP u rfl rfl) fun a u=>qm u rfl fun a u=>?_
 refine jB h (fun b20 h=>?_) (fun b20 h=>?_)
 ·refine qn u 26 (tn b20) fun a u=>qn u 26 (tn b20) fun a u=>q u (aF u rfl b20 rfl) fun a u=>qm u rfl fun a u=>qn u 30 (tn rfl) fun a u=>qn u 30 (tn rfl) fun a u=>qn u 30 (tn rfl) fun a u=>qn u 30 (tn rfl) fun a u=>qn u 30 (tn rfl) fun a u=>q u (aF u rfl rfl rfl) fun a u=>aB<|?_
  exact hk19 (true,w14) h _ (u.sb rfl)
 refine qg u 26 (nt b20) (aC u rfl) fun a u=>qg u 26 (nt b20) (fP u rfl rfl) fun a u=>q u (aJ u rfl b20 rfl) fun a u=>qm u rfl fun a u=>?_
 refine jB h (fun b21 h=>?_) (fun b21 h=>?_)
 ·refine qn u 30 (tn b21) fun a u=>qn u 30 (tn b21) fun a u=>qn u 30 (tn b21) fun a u=>qn u 30 (tn b21) fun a u=>qn u 30 (tn b21) fun a u=>q u (aF u rfl b21 rfl) fun a u=>aB<|?_
  exact hk19 (true,w14) h _ (u.sb rfl)
 refine qg u 30 (nt b21) (aC u rfl) fun a u=>qg u 30 (nt b21) (lK u rfl) fun a u=>qg u 30 (nt b21) (aI u rfl aGv rfl rfl aGU) fun a u=>?_
 obtain⟨v22,e23,h⟩:=h
 refine qg u 30 (nt b21) (aH u rfl aGR (bA e23)) fun a u=>qg u 30 (nt b21) (iU u rfl rfl aGX) fun a u=>q u (aJ u rfl b21 rfl) fun a u=>aB<|?_
 exact hk19 ((v22.isNone),w14) h _ (u.sb rfl)
def iL (a0:Int) (a1:Int) (w:World):Option (Int×World) :=
 (rmI (IntKind.wrap .u64 a1) 1000).bind fun v1 =>
 some ((IntKind.wrap .i64 ((IntKind.wrap .i64 (a0+1))+(IntKind.wrap .i64 v1))),w)
theorem qH {a0 a1 w w' r0} (h:iL a0 a1 w=some (r0,w')):Calls Try.prog 91 #[(.int .i64 a0),(.int .i64 a1)] w fun e w''=>e=.returned (.int .i64 r0)∧w''=w':=by
 refine aN (n:=12) Try.func91 rfl Try.ntmps91 (by simp) fun a u=>?_
 unfold iL at h
 refine wp_seq<|aA<|qa u rfl fun a u=>aB<|t_n<|wp_seq<|aA<|qm u rfl fun a u=>q u (bF u rfl rfl) fun a u=>qm u rfl fun a u=>q u (iK u rfl aGP aGY) fun a u=>?_
 have⟨v1,e2,h⟩:=bs1 h
 refine q u (sE u rfl rfl e2) fun a u=>q u (iK u rfl aGY aGP) fun a u=>q u (bF u rfl rfl) fun a u=>qa u rfl fun a u=>aB<|t_n<|wp_ret<|?_
 have y:=u
 cases h
 exact bE Try.results91 y rfl ⟨rfl,rfl⟩
def dW (s41:Sl) (x60:Int) (w61:World):ND ((Int×World)⊕(World)) :=
 if (decide (x60<(s41.n:Int)))=true then
 (lb1 (ix s41 x60 1) fun p68 =>
 lb1 (ldI .u8 w61 p68) fun v70 =>
 lb1 (ix s41 x60 1) fun p72 =>
 lb1 (stV w61 p72 (.int .u8 (tY .u8 v70 65))) fun w74 =>
 aS (.inl ((IntKind.wrap .i64 (x60+1)),w74)))
 else
 (aS (.inr w61))
def gS (a0:Option Addr) (a1:List Value) (w:World):ND (Bool×World) :=
 lb2 (mk w 82 a1) fun p1 w2 =>
 lb1 (ldI .i64 w2 (p1.add 1)) fun v4 =>
 lb1 (ldI .i64 w2 (p1.add 0)) fun v6 =>
 cb2 (if (v6==0)=true then
 (aS ((v6==0),w2))
 else
 (aS ((v6==6),w2))) fun v8 w9 =>
 if v8=true then
 (cb2 (lb1 (ldI .i64 w9 (p1.add 0)) fun v18 =>
 if (v18==6)=true then
 (lb1 (dr w9) fun w21 =>
 lb1 (a0) fun p23 =>
 lb1 (ldP w21 (p23.add 3)) fun v25 =>
 lb1 (v25) fun p27 =>
 lb1 (ldI .i64 w21 ((p27.add 4).add 0)) fun v29 =>
 lb1 (ldI .i64 w21 (p1.add 1)) fun v31 =>
 lb2 (iL v29 v31 w21) fun v33 w34 =>
 aS (v33,w34))
 else
 (aS (v4,w9))) fun v14 w15 =>
 lb2 (bsl w15 5 1 []) fun s36 w37 =>
 lb1 (ldL w37 (p1.add 2)) fun v39 =>
 lb2 (apS Try.prog 72 s36 v39 w37) fun s41 w42 =>
 lb1 (a0) fun p44 =>
 lb1 (ldP w42 (p44.add 1)) fun v46 =>
 cb2 (jD v46 v14 s41 w42) fun v48 w49 =>
 lb1 (dr w49) fun w51 =>
 lb1 (ldP w51 (p44.add 3)) fun v53 =>
 lb1 (ldL w51 (p1.add 2)) fun v55 =>
 cb2 (fO v53 v14 v55 w51) fun v57 w58 =>
 cb1 (fA (fun s:Int×World=>dW s41 s.1 s.2) (0,w58)) fun w64 =>
 aS ((v48==v57),w64))
 else
 (if (v6==1)=true then
 (lb1 (dr w9) fun w78 =>
 lb1 (a0) fun p80 =>
 lb1 (ldP w78 (p80.add 1)) fun v82 =>
 lb2 (kC v82 w78) fun v84 w85 =>
 lb1 (ldP w85 (p80.add 3)) fun v87 =>
 lb2 (gD v87 w85) fun v89 w90 =>
 nck (ldP w78 (p80.add 3)=some v87) <|
 aS ((v84==v89),w90))
 else
 (if (v6==2)=true then
 (lb1 (dr w9) fun w94 =>
 lb1 (a0) fun p96 =>
 lb1 (ldP w94 (p96.add 1)) fun v98 =>
 lb2 (lN v98 v4 w94) fun v100 w101 =>
 lb1 (ldP w101 (p96.add 3)) fun v103 =>
 lb2 (gJ v103 v4 w101) fun v105 w106 =>
 nck (ldP w94 (p96.add 3)=some v103) <|
 aS ((v100==v105),w106))
 else
 (if (v6==3)=true then
 (lb1 (dr w9) fun w110 =>
 lb1 (a0) fun p112 =>
 lb1 (ldP w110 (p112.add 0)) fun v114 =>
 lb2 (iE v114 v4 w110) fun v116 w117 =>
 lb1 (ldP w117 (p112.add 2)) fun v119 =>
 lb2 (dB v119 v4 w117) fun v121 w122 =>
 nck (ldP w110 (p112.add 2)=some v119) <|
 aS ((v116==v121),w122))
 else
 (if (v6==4)=true then
 (cb2 (lb1 (dr w9) fun w130 =>
 lb1 (a0) fun p132 =>
 lb1 (ldP w130 (p132.add 0)) fun v134 =>
 lb1 (ldL w130 (p1.add 3)) fun v136 =>
 lb2 (fT v134 v136 w130) fun v138 w139 =>
 lb1 (ldP w139 (p132.add 2)) fun v141 =>
 lb1 (ldL w139 (p1.add 3)) fun v143 =>
 lb2 (cU v141 v143 w139) fun v145 w146 =>
 if (v138==v145)=true then
 (nck (ldP w130 (p132.add 2)=some v141) <|
 nck (ldL w130 (p1.add 3)=some v143) <|
 cb2 (eI a0 w146) fun v149 w150 =>
 aS (v149,w150))
 else
 (nck (ldP w130 (p132.add 2)=some v141) <|
 nck (ldL w130 (p1.add 3)=some v143) <|
 aS (false,w146))) fun v126 w127 =>
 aS (v126,w127))
 else
 (if (v6==5)=true then
 (lb1 (dr w9) fun w157 =>
 lb1 (a0) fun p159 =>
 lb1 (ldP w157 (p159.add 0)) fun v161 =>
 lb1 (ldL w157 (p1.add 2)) fun v163 =>
 lb2 (bY v161 v4 v163 w157) fun v165 w166 =>
 lb1 (ldP w166 (p159.add 2)) fun v168 =>
 lb1 (ldL w166 (p1.add 2)) fun v170 =>
 lb2 (aZ v168 v4 v170 w166) fun v172 w173 =>
 nck (ldP w157 (p159.add 2)=some v168) <|
 nck (ldL w157 (p1.add 2)=some v170) <|
 aS ((v165==v172),w173))
 else
 (lb1 (dr w9) fun w177 =>
 lb1 (a0) fun p179 =>
 lb1 (ldP w177 (p179.add 0)) fun v181 =>
 lb2 (gQ v181 w177) fun v183 w184 =>
 lb1 (ldP w184 (p179.add 2)) fun v186 =>
 lb1 (v186) fun p188 =>
 lb1 (ldL w184 (p188.add 1)) fun v190 =>
 nck (ldP w177 (p179.add 2)=some v186) <|
 nck (ldL w177 (p188.add 1)=some v190) <|
 aS ((v183==(v190.n:Int)),w184)))))))
theorem pL {a0 a1 w Q} (h:(gS a0 a1 w).t Q):Calls Try.prog 46 #[(.pointer a0),(.agg (List.toArray a1))] w fun e w''=>∃ i,e=.returned (.bool i.1)∧Q i∧w''=i.2:=by
 refine aN (n:=162) Try.func46 rfl Try.ntmps46 (by simp) fun a u=>?_
 unfold gS at h
 refine wp_seq<|aA<|?_
 obtain⟨p1,w2,e3,h⟩:=h
 refine q u (rA u rfl rfl e3) fun a u=>qa u rfl fun a u=>aB<|t_n<|wp_seq<|aA<|q u (aI u rfl aGT rfl rfl aGq) fun a u=>?_
 obtain⟨v4,e5,h⟩:=h
 refine q u (aH u rfl aGs (aO e5)) fun a u=>qa u rfl fun a u=>aB<|t_n<|wp_seq<|wp_seq<|aA<|q u (aI u rfl aGT rfl rfl aGq) fun a u=>?_
 obtain⟨v6,e7,h⟩:=h
 refine q u (aH u rfl aGs (aO e7)) fun a u=>aB<|t_n<|wp_block<|?_
 refine gX (n:=162) (ι:=Bool×World) (Lf:=fun i=>[(14,(bV i.1)),(0,(pV a0)),(3,(pV (some p1))),(5,(iV v4)),(13,(iV v6))]) (wf:=fun i=>i.2) (un2 h) (fun i h a u=>?_) (fun h hk11=>?_)
 ·obtain⟨v8,w9⟩:=i
  have u:Has 162 [(14,(bV v8)),(0,(pV a0)),(3,(pV (some p1))),(5,(iV v4)),(13,(iV v6))] a:=u
  refine aT u rfl h (fun b13 h=>?_) (fun b13 h=>?_)
  ·refine gX (n:=162) (ι:=Int×World) (Lf:=fun i=>[(5,(iV i.1)),(0,(pV a0)),(3,(pV (some p1)))]) (wf:=fun i=>i.2) (un2 h) (fun i h a u=>?_) (fun h hk17=>?_)
   ·obtain⟨v14,w15⟩:=i
    have u:Has 162 [(5,(iV v14)),(0,(pV a0)),(3,(pV (some p1)))] a:=u
    refine wp_seq<|aA<|?_
    obtain⟨s36,w37,e38,h⟩:=h
    refine q u (iC (vs:=[]) (ps:=[]) u trivial trivial rfl aGp aGy aHj (by decide) e38) fun a u=>q u (aI u rfl aGT rfl rfl aHn) fun a u=>?_
    obtain⟨v39,e40,h⟩:=h
    refine q u (aH u rfl aHt (aR e40)) fun a u=>?_
    obtain⟨s41,w42,e43,h⟩:=h
    refine q u (gZ u rfl rfl e43) fun a u=>qa u rfl fun a u=>aB<|t_n<|wp_seq<|aA<|qm u rfl fun a u=>?_
    obtain⟨p44,e45,h⟩:=h
    refine q u (aG u rfl e45) fun a u=>q u (aI u rfl aGv rfl rfl aHf) fun a u=>?_
    obtain⟨v46,e47,h⟩:=h
    refine q u (aH u rfl aHp (bA e47)) fun a u=>qm u rfl fun a u=>qm u rfl fun a u=>?_
    refine lF (ι:=Int×World) (pk:=fun i=>(iV i.1)) (wf:=fun i=>i.2) (xs:=[_,_,_]) (vs:=[(pV v46),(iV v14),(Sl.v s41)]) u ⟨rfl,rfl,rfl,aHY⟩ Try.call42 (oE (un2 h)) (fun i h a u=>?_)
    obtain⟨v48,w49⟩:=i
    refine qa u rfl fun a u=>aB<|t_n<|wp_seq<|?_
    obtain⟨w51,e52,h⟩:=h
    obtain⟨v53,e54,h⟩:=h
    obtain⟨v55,e56,h⟩:=h
    have u:Has 162 [(0,(pV a0)),(3,(pV (some p1))),(5,(iV v14)),(6,(Sl.v s41)),(7,(iV v48))] a:=u.sb rfl
    refine vY (n:=162) (ds:=(⟨_,(pV a0),false,0,0,[],[(0,(pV a0))]⟩::⟨_,(pV (some p44)),false,0,0,[0],[(42,(pV a0))]⟩::⟨_,(pV (some (p44.add 3))),false,0,0,[0,1],[(43,(pV (some p44)))]⟩::⟨_,(pV v53),false,0,0,[0,1,2],[(44,(pV (some (p44.add 3))))]⟩::⟨_,(iV v14),false,0,0,[],[(5,(iV v14))]⟩::⟨_,(pV (some (p1.add 2))),false,0,0,[],[(3,(pV (some p1)))]⟩::⟨_,(Sl.v v55),false,0,0,[5],[(47,(pV (some (p1.add 2))))]⟩::[])) (B:=(_::_::[])) (W:=(fun _=>w51)) (m:=0) (by kernel_rfl) u (cY e52) (by kernel_rfl) (by kernel_rfl) ?_ (aP (by kernel_rfl)) (by kernel_rfl) (by kernel_rfl) (fun a u=>?_)
    ·exact⟨oa (aC · rfl),oa (aG · rfl e45),oa (aI · rfl aGv rfl rfl aHN),oc (e:=false) 0 (kd (aH · rfl aHP (bA e54))),oa (aC · rfl),oa (aI · rfl aGT rfl rfl aHn),oc (e:=false) 0 (kd (aH · rfl aHt (aR e56))),aHY⟩
    have u:Has 162 [(48,(Sl.v v55)),(47,(pV (some (p1.add 2)))),(46,(iV v14)),(45,(pV v53)),(44,(pV (some (p44.add 3)))),(43,(pV (some p44))),(42,(pV a0)),(0,(pV a0)),(3,(pV (some p1))),(5,(iV v14)),(6,(Sl.v s41)),(7,(iV v48))] a:=u.sb rfl
    refine aBz (p:=7) (by kernel_rfl)<|?_
    refine zR (ι:=Int×World) (pk:=fun i=>(iV i.1)) (wf:=fun i=>i.2) (xs:=[_,_,_]) (vs:=[(pV v53),(iV v14),(Sl.v v55)]) rfl (.inl rfl) u ⟨rfl,rfl,rfl,aHY⟩ Try.call92 (oA (un2 h)) (fun i h a u=>?_)
    obtain⟨v57,w58⟩:=i
    refine uR (n:=162) (L0:=[(0,(pV a0)),(3,(pV (some p1))),(5,(iV v14)),(6,(Sl.v s41)),(7,(iV v48))]) (ds:=(⟨_,(pV a0),false,0,9,[],[(0,(pV a0))]⟩::⟨_,(pV (some p44)),false,0,9,[0],[(42,(pV a0))]⟩::⟨_,(pV (some (p44.add 3))),false,0,9,[0,1],[(43,(pV (some p44)))]⟩::⟨_,(pV v53),false,0,9,[0,1,2],[(44,(pV (some (p44.add 3))))]⟩::⟨_,(iV v14),false,0,9,[],[(5,(iV v14))]⟩::⟨_,(pV (some (p1.add 2))),false,0,9,[],[(3,(pV (some p1)))]⟩::⟨_,(Sl.v v55),false,0,9,[5],[(47,(pV (some (p1.add 2))))]⟩::⟨_,(iV v57),false,0,9,(rn 0 7),[(45,(pV v53)),(46,(iV v14)),(48,(Sl.v v55))]⟩::⟨_,(iV v57),false,0,0,(rn 0 8),[(49,(iV v57))]⟩::[])) (W:=(fun _=>w58)) (p:=8) (q:=1) (m:=0) (by kernel_rfl) (by kernel_rfl) (by kernel_rfl) (by kernel_rfl) (by kernel_rfl) ?_ (aP (by kernel_rfl)) (by kernel_rfl) (by kernel_rfl) (u.sub ⟨rfl,rfl,rfl,rfl,rfl,rfl,rfl,rfl,rfl,rfl,rfl,rfl,rfl,aHY⟩) (fun a u=>?_)
    ·refine aAr (p:=8)<|?_
     exact⟨oa (aY · rfl),aHY⟩
    have u:Has 162 [(6,(Sl.v s41)),(7,(iV v48)),(8,(iV v57))] a:=u.sb rfl
    refine t_n<|wp_seq<|wp_seq<|aA<|qa u rfl fun a u=>aB<|t_n<|wp_block<|?_
    refine kY (n:=162) (Lr:=fun i=>[(7,(iV v48)),(8,(iV v57))]) (wr:=fun i=>i) (e:=.exit 1) (I:=fun (s:Int×World) a w=>Has 162 [(9,(iV s.1)),(6,(Sl.v s41)),(7,(iV v48)),(8,(iV v57))] a∧w=s.2) (un1 h) ⟨u.sub ⟨rfl,rfl,rfl,rfl,aHY⟩,rfl⟩ (fun i h a u=>?_) (fun hk65=>?_)
    ·obtain⟨w64,rfl⟩:∃ x,x=i:=⟨i,rfl⟩
     have u:Has 162 [(7,(iV v48)),(8,(iV v57))] a:=u
     refine dS<|t_n<|wp_seq<|aA<|qm u rfl fun a u=>qm u rfl fun a u=>q u (gM u rfl rfl) fun a u=>qa u rfl fun a u=>aB<|t_n<|wp_ret<|b_r<|t_r<|?_
     exact bE Try.results46 u rfl ⟨((v48==v57),w64),rfl,h,rfl⟩
    clear h
    intro hX76
    rintro⟨x60,w61⟩ a wq ⟨u,hwq⟩ h
    obtain rfl:w61=wq:=hwq.symm
    have u:Has 162 [(9,(iV x60)),(6,(Sl.v s41)),(7,(iV v48)),(8,(iV v57))] a:=u
    have h:(dW s41 x60 w61).t _:=h
    unfold dW at h
    refine wp_seq<|wp_seq<|aA<|qm u rfl fun a u=>qm u rfl fun a u=>q u (aV u rfl aGp) fun a u=>q u (cZ u rfl rfl) fun a u=>aB<|t_n<|?_
    refine aT u rfl h (fun b67 h=>?_) (fun b67 h=>?_)
    ·refine wp_skip<|t_n<|wp_seq<|wp_block<|aA<|qm u rfl fun a u=>qm u rfl fun a u=>?_
     obtain⟨p68,e69,h⟩:=h
     refine q u (bT u rfl rfl aGp aGy e69) fun a u=>?_
     obtain⟨v70,e71,h⟩:=h
     refine q u (aH u rfl aGW (aO e71)) fun a u=>q u (aDl u rfl rfl) fun a u=>?_
     obtain⟨p72,e73,h⟩:=h
     refine q u (bT u rfl rfl aGp aGy e73) fun a u=>?_
     obtain⟨w74,e75,h⟩:=h
     refine q u (fM u rfl rfl aGy e75) fun a u=>aB<|b_n<|t_n<|aA<|qm u rfl fun a u=>q u (bF u rfl rfl) fun a u=>qa u rfl fun a u=>aB<|?_
     exact⟨((IntKind.wrap .i64 (x60+1)),w74),⟨u.sb rfl,rfl⟩,h⟩
    refine wp_exit<|t_x<|t_x<|?_
    exact hk65 w61 h _ (u.sb rfl)
   refine wp_seq<|aA<|q u (aI u rfl aGT rfl rfl aGq) fun a u=>?_
   obtain⟨v18,e19,h⟩:=h
   refine q u (aH u rfl aGs (aO e19)) fun a u=>q u (gM u rfl rfl) fun a u=>aB<|t_n<|?_
   refine aT u rfl h (fun b20 h=>?_) (fun b20 h=>?_)
   ·obtain⟨w21,e22,h⟩:=h
    obtain⟨p23,e24,h⟩:=h
    obtain⟨v25,e26,h⟩:=h
    obtain⟨p27,e28,h⟩:=h
    obtain⟨v29,e30,h⟩:=h
    obtain⟨v31,e32,h⟩:=h
    obtain⟨v33,w34,e35,h⟩:=h
    have u:Has 162 [(0,(pV a0)),(3,(pV (some p1))),(5,(iV v4)),(19,(bV (v18==6)))] a:=u.sb rfl
    refine aK (n:=162) (ds:=(⟨_,(pV a0),false,0,0,[],[(0,(pV a0))]⟩::⟨_,(pV (some p23)),false,0,0,[0],[(20,(pV a0))]⟩::⟨_,(pV (some (p23.add 3))),false,0,0,[0,1],[(21,(pV (some p23)))]⟩::⟨_,(pV v25),false,0,0,[0,1,2],[(22,(pV (some (p23.add 3))))]⟩::⟨_,(pV (some p27)),false,0,0,(rn 0 4),[(23,(pV v25))]⟩::⟨_,(pV (some (p27.add 4))),false,0,0,(rn 0 5),[(24,(pV (some p27)))]⟩::⟨_,(pV (some ((p27.add 4).add 0))),false,0,0,(rn 0 6),[(25,(pV (some (p27.add 4))))]⟩::⟨_,(iV v29),false,0,0,(rn 0 7),[(26,(pV (some ((p27.add 4).add 0))))]⟩::⟨_,(pV (some (p1.add 1))),false,0,0,[],[(3,(pV (some p1)))]⟩::⟨_,(iV v31),false,0,0,[8],[(28,(pV (some (p1.add 1))))]⟩::⟨_,(iV v33),true,0,0,(rn 0 10),[(27,(iV v29)),(29,(iV v31))]⟩::⟨_,(iV v33),false,1,1,(rn 0 11),[(30,(iV v33))]⟩::[])) (W:=(fun j=>match j with | 0=>w21 | 1=>w34 | _=>w34)) (by kernel_rfl) u (cY e22) (by kernel_rfl) ?_ (aP (by kernel_rfl)) (by kernel_rfl) (m:=1) (by kernel_rfl) (fun a u=>?_)
    ·exact⟨oa (aC · rfl),oa (aG · rfl e24),oa (aI · rfl aGv rfl rfl aHN),oc 0 (kd (aH · rfl aHP (bA e26))),oa (aG · rfl e28),oa (aI · rfl aGu rfl rfl aGI),oa (aI · rfl aGr rfl rfl aGq),oc 0 (kd (aH · rfl aGs (aO e30))),oa (aI · rfl aGT rfl rfl aGq),oc 0 (kd (aH · rfl aGs (aO e32))),oc 0 (kd (dc2 · rfl rfl Try.call91 (qH e35))),oa (aY · rfl),aHY⟩
    have u:Has 162 [(0,(pV a0)),(3,(pV (some p1))),(5,(iV v33))] a:=u.sb rfl
    exact hk17 (v33,w34) h _ (u.sb rfl)
   refine wp_skip<|?_
   exact hk17 (v4,w9) h _ (u.sb rfl)
  refine wp_seq<|aA<|q u (gM u rfl rfl) fun a u=>qa u rfl fun a u=>aB<|t_n<|?_
  refine aT u rfl h (fun b77 h=>?_) (fun b77 h=>?_)
  ·refine wp_seq<|?_
   obtain⟨w78,e79,h⟩:=h
   obtain⟨p80,e81,h⟩:=h
   obtain⟨v82,e83,h⟩:=h
   obtain⟨v84,w85,e86,h⟩:=h
   obtain⟨v87,e88,h⟩:=h
   obtain⟨v89,w90,e91,h⟩:=h
   obtain⟨e92,h⟩:=h
   have u:Has 162 [(0,(pV a0)),(3,(pV (some p1))),(5,(iV v4)),(13,(iV v6)),(65,(bV (v6==1)))] a:=u.sb rfl
   refine aK (n:=162) (ds:=(⟨_,(pV a0),false,0,0,[],[(0,(pV a0))]⟩::⟨_,(pV (some p80)),false,0,0,[0],[(67,(pV a0))]⟩::⟨_,(pV (some (p80.add 1))),false,0,0,[0,1],[(68,(pV (some p80)))]⟩::⟨_,(pV v82),false,0,0,[0,1,2],[(69,(pV (some (p80.add 1))))]⟩::⟨_,(iV v84),true,0,0,(rn 0 4),[(70,(pV v82))]⟩::⟨_,(pV a0),false,0,1,[],[(0,(pV a0))]⟩::⟨_,(pV (some p80)),false,0,1,[5],[(72,(pV a0))]⟩::⟨_,(pV (some (p80.add 3))),false,0,1,[5,6],[(73,(pV (some p80)))]⟩::⟨_,(pV v87),false,0,1,[5,6,7],[(74,(pV (some (p80.add 3))))]⟩::⟨_,(iV v89),true,1,1,(rn 0 9),[(75,(pV v87))]⟩::⟨_,(bV (v84==v89)),false,2,2,(rn 0 10),[(71,(iV v84)),(76,(iV v89))]⟩::⟨_,(bV (v84==v89)),false,2,2,(rn 0 11),[(77,(bV (v84==v89)))]⟩::[])) (W:=(fun j=>match j with | 0=>w78 | 1=>w85 | 2=>w90 | _=>w90)) (by kernel_rfl) u (cY e79) (by kernel_rfl) ?_ (aP (by kernel_rfl)) (by kernel_rfl) (m:=2) (by kernel_rfl) (fun a u=>?_)
   ·refine⟨oa (aC · rfl),oa (aG · rfl e81),oa (aI · rfl aGv rfl rfl aHf),oc 0 (kd (aH · rfl aHp (bA e83))),oc 0 (kd (dc1 · rfl Try.call41 (pO e86))),oa (aC · rfl),oa (aG · rfl e81),oa (aI · rfl aGv rfl rfl aHN),?_,oc 1 (kd (dc1 · rfl Try.call93 (oY e91))),oa (gM · rfl rfl),oa (aY · rfl),aHY⟩
    intro j h1 h2;have h1:0≤j:=h1;have h2:j≤1:=h2;rcases(by omega:j=0∨j=1) with rfl | rfl
    ·exact kd (aH · rfl aHP (bA e92))
    exact kd (aH · rfl aHP (bA e88))
   have u:Has 162 [(4,(bV (v84==v89)))] a:=u.sb rfl
   refine t_n<|wp_ret<|b_r<|t_r<|?_
   exact bE Try.results46 u rfl ⟨((v84==v89),w90),rfl,h,rfl⟩
  refine wp_seq<|aA<|q u (gM u rfl rfl) fun a u=>qa u rfl fun a u=>aB<|t_n<|?_
  refine aT u rfl h (fun b93 h=>?_) (fun b93 h=>?_)
  ·refine wp_seq<|?_
   obtain⟨w94,e95,h⟩:=h
   obtain⟨p96,e97,h⟩:=h
   obtain⟨v98,e99,h⟩:=h
   obtain⟨v100,w101,e102,h⟩:=h
   obtain⟨v103,e104,h⟩:=h
   obtain⟨v105,w106,e107,h⟩:=h
   obtain⟨e108,h⟩:=h
   have u:Has 162 [(0,(pV a0)),(3,(pV (some p1))),(5,(iV v4)),(13,(iV v6)),(78,(bV (v6==2)))] a:=u.sb rfl
   refine aK (n:=162) (ds:=(⟨_,(pV a0),false,0,0,[],[(0,(pV a0))]⟩::⟨_,(pV (some p96)),false,0,0,[0],[(80,(pV a0))]⟩::⟨_,(pV (some (p96.add 1))),false,0,0,[0,1],[(81,(pV (some p96)))]⟩::⟨_,(pV v98),false,0,0,[0,1,2],[(82,(pV (some (p96.add 1))))]⟩::⟨_,(iV v4),false,0,0,[],[(5,(iV v4))]⟩::⟨_,(iV v100),true,0,0,(rn 0 5),[(83,(pV v98)),(84,(iV v4))]⟩::⟨_,(pV a0),false,0,1,[],[(0,(pV a0))]⟩::⟨_,(pV (some p96)),false,0,1,[6],[(86,(pV a0))]⟩::⟨_,(pV (some (p96.add 3))),false,0,1,[6,7],[(87,(pV (some p96)))]⟩::⟨_,(pV v103),false,0,1,[6,7,8],[(88,(pV (some (p96.add 3))))]⟩::⟨_,(iV v4),false,0,1,[],[(5,(iV v4))]⟩::⟨_,(iV v105),true,1,1,(rn 0 11),[(89,(pV v103)),(90,(iV v4))]⟩::⟨_,(bV (v100==v105)),false,2,2,(rn 0 12),[(85,(iV v100)),(91,(iV v105))]⟩::⟨_,(bV (v100==v105)),false,2,2,(rn 0 13),[(92,(bV (v100==v105)))]⟩::[])) (W:=(fun j=>match j with | 0=>w94 | 1=>w101 | 2=>w106 | _=>w106)) (by kernel_rfl) u (cY e95) (by kernel_rfl) ?_ (aP (by kernel_rfl)) (by kernel_rfl) (m:=2) (by kernel_rfl) (fun a u=>?_)
   ·refine⟨oa (aC · rfl),oa (aG · rfl e97),oa (aI · rfl aGv rfl rfl aHf),oc 0 (kd (aH · rfl aHp (bA e99))),oa (aC · rfl),oc 0 (kd (dc2 · rfl rfl Try.call43 (tJ e102))),oa (aC · rfl),oa (aG · rfl e97),oa (aI · rfl aGv rfl rfl aHN),?_,oa (aC · rfl),oc 1 (kd (dc2 · rfl rfl Try.call94 (pA e107))),oa (gM · rfl rfl),oa (aY · rfl),aHY⟩
    intro j h1 h2;have h1:0≤j:=h1;have h2:j≤1:=h2;rcases(by omega:j=0∨j=1) with rfl | rfl
    ·exact kd (aH · rfl aHP (bA e108))
    exact kd (aH · rfl aHP (bA e104))
   have u:Has 162 [(4,(bV (v100==v105)))] a:=u.sb rfl
   refine t_n<|wp_ret<|b_r<|t_r<|?_
   exact bE Try.results46 u rfl ⟨((v100==v105),w106),rfl,h,rfl⟩
  refine wp_seq<|aA<|q u (gM u rfl rfl) fun a u=>qa u rfl fun a u=>aB<|t_n<|?_
  refine aT u rfl h (fun b109 h=>?_) (fun b109 h=>?_)
  ·refine wp_seq<|?_
   obtain⟨w110,e111,h⟩:=h
   obtain⟨p112,e113,h⟩:=h
   obtain⟨v114,e115,h⟩:=h
   obtain⟨v116,w117,e118,h⟩:=h
   obtain⟨v119,e120,h⟩:=h
   obtain⟨v121,w122,e123,h⟩:=h
   obtain⟨e124,h⟩:=h
   have u:Has 162 [(0,(pV a0)),(3,(pV (some p1))),(5,(iV v4)),(13,(iV v6)),(93,(bV (v6==3)))] a:=u.sb rfl
   refine aK (n:=162) (ds:=(⟨_,(pV a0),false,0,0,[],[(0,(pV a0))]⟩::⟨_,(pV (some p112)),false,0,0,[0],[(95,(pV a0))]⟩::⟨_,(pV (some (p112.add 0))),false,0,0,[0,1],[(96,(pV (some p112)))]⟩::⟨_,(pV v114),false,0,0,[0,1,2],[(97,(pV (some (p112.add 0))))]⟩::⟨_,(iV v4),false,0,0,[],[(5,(iV v4))]⟩::⟨_,(iV v116),true,0,0,(rn 0 5),[(98,(pV v114)),(99,(iV v4))]⟩::⟨_,(pV a0),false,0,1,[],[(0,(pV a0))]⟩::⟨_,(pV (some p112)),false,0,1,[6],[(101,(pV a0))]⟩::⟨_,(pV (some (p112.add 2))),false,0,1,[6,7],[(102,(pV (some p112)))]⟩::⟨_,(pV v119),false,0,1,[6,7,8],[(103,(pV (some (p112.add 2))))]⟩::⟨_,(iV v4),false,0,1,[],[(5,(iV v4))]⟩::⟨_,(iV v121),true,1,1,(rn 0 11),[(104,(pV v119)),(105,(iV v4))]⟩::⟨_,(bV (v116==v121)),false,2,2,(rn 0 12),[(100,(iV v116)),(106,(iV v121))]⟩::⟨_,(bV (v116==v121)),false,2,2,(rn 0 13),[(107,(bV (v116==v121)))]⟩::[])) (W:=(fun j=>match j with | 0=>w110 | 1=>w117 | 2=>w122 | _=>w122)) (by kernel_rfl) u (cY e111) (by kernel_rfl) ?_ (aP (by kernel_rfl)) (by kernel_rfl) (m:=2) (by kernel_rfl) (fun a u=>?_)
   ·refine⟨oa (aC · rfl),oa (aG · rfl e113),oa (aI · rfl aGv rfl rfl aGU),oc 0 (kd (aH · rfl aGR (bA e115))),oa (aC · rfl),oc 0 (kd (dc2 · rfl rfl Try.call35 (rY e118))),oa (aC · rfl),oa (aG · rfl e113),oa (aI · rfl aGv rfl rfl aGQ),?_,oa (aC · rfl),oc 1 (kd (dc2 · rfl rfl Try.call95 (oM e123))),oa (gM · rfl rfl),oa (aY · rfl),aHY⟩
    intro j h1 h2;have h1:0≤j:=h1;have h2:j≤1:=h2;rcases(by omega:j=0∨j=1) with rfl | rfl
    ·exact kd (aH · rfl aGN (bA e124))
    exact kd (aH · rfl aGN (bA e120))
   have u:Has 162 [(4,(bV (v116==v121)))] a:=u.sb rfl
   refine t_n<|wp_ret<|b_r<|t_r<|?_
   exact bE Try.results46 u rfl ⟨((v116==v121),w122),rfl,h,rfl⟩
  refine wp_seq<|aA<|q u (gM u rfl rfl) fun a u=>qa u rfl fun a u=>aB<|t_n<|?_
  refine aT u rfl h (fun b125 h=>?_) (fun b125 h=>?_)
  ·refine wp_seq<|?_
   refine dD (n:=162) (ι:=Bool×World) (Lf:=fun i=>[(4,(bV i.1))]) (wf:=fun i=>i.2) (un2 h) (fun i h a u=>?_) (fun h hk129=>?_)
   ·obtain⟨v126,w127⟩:=i
    have u:Has 162 [(4,(bV v126))] a:=u
    refine t_n<|wp_ret<|b_r<|t_r<|?_
    exact bE Try.results46 u rfl ⟨(v126,w127),rfl,h,rfl⟩
   obtain⟨w130,e131,h⟩:=h
   obtain⟨p132,e133,h⟩:=h
   obtain⟨v134,e135,h⟩:=h
   obtain⟨v136,e137,h⟩:=h
   obtain⟨v138,w139,e140,h⟩:=h
   obtain⟨v141,e142,h⟩:=h
   obtain⟨v143,e144,h⟩:=h
   obtain⟨v145,w146,e147,h⟩:=h
   refine jB h (fun b148 h=>?_) (fun b148 h=>?_)
   ·obtain⟨e152,h⟩:=h
    obtain⟨e153,h⟩:=h
    have u:Has 162 [(0,(pV a0)),(3,(pV (some p1))),(5,(iV v4)),(13,(iV v6)),(108,(bV (v6==4)))] a:=u.sb rfl
    refine vY (n:=162) (ds:=(⟨_,(pV a0),false,0,0,[],[(0,(pV a0))]⟩::⟨_,(pV (some p132)),false,0,0,[0],[(110,(pV a0))]⟩::⟨_,(pV (some (p132.add 0))),false,0,0,[0,1],[(111,(pV (some p132)))]⟩::⟨_,(pV v134),false,0,0,[0,1,2],[(112,(pV (some (p132.add 0))))]⟩::⟨_,(pV (some (p1.add 3))),false,0,0,[],[(3,(pV (some p1)))]⟩::⟨_,(Sl.v v136),false,0,0,[4],[(114,(pV (some (p1.add 3))))]⟩::⟨_,(iV v138),true,0,0,(rn 0 6),[(113,(pV v134)),(115,(Sl.v v136))]⟩::⟨_,(pV a0),false,0,1,[],[(0,(pV a0))]⟩::⟨_,(pV (some p132)),false,0,1,[7],[(117,(pV a0))]⟩::⟨_,(pV (some (p132.add 2))),false,0,1,[7,8],[(118,(pV (some p132)))]⟩::⟨_,(pV v141),false,0,1,[7,8,9],[(119,(pV (some (p132.add 2))))]⟩::⟨_,(pV (some (p1.add 3))),false,0,1,[],[(3,(pV (some p1)))]⟩::⟨_,(Sl.v v143),false,0,1,[11],[(121,(pV (some (p1.add 3))))]⟩::⟨_,(iV v145),true,1,1,(rn 0 13),[(120,(pV v141)),(122,(Sl.v v143))]⟩::⟨_,(bV (v138==v145)),false,2,2,(rn 0 14),[(116,(iV v138)),(123,(iV v145))]⟩::⟨_,(bV (v138==v145)),false,2,2,(rn 0 15),[(124,(bV (v138==v145)))]⟩::⟨_,(pV a0),false,2,2,(rn 0 16),[(0,(pV a0)),(125,(bV (v138==v145)))]⟩::[])) (B:=(_::_::_::[])) (W:=(fun j=>match j with | 0=>w130 | 1=>w139 | 2=>w146 | _=>w146)) (m:=2) (by kernel_rfl) u (cY e131) (by kernel_rfl) (by kernel_rfl) ?_ (aP (by kernel_rfl)) (by kernel_rfl) (by kernel_rfl) (fun a u=>?_)
    ·refine⟨oa (aC · rfl),oa (aG · rfl e133),oa (aI · rfl aGv rfl rfl aGU),oc 0 (kd (aH · rfl aGR (bA e135))),oa (aI · rfl aGT rfl rfl aHV),oc 0 (kd (aH · rfl aHR (aR e137))),oc 0 (kd (dc2 · rfl rfl Try.call79 (lS e140))),oa (aC · rfl),oa (aG · rfl e133),oa (aI · rfl aGv rfl rfl aGQ),?_,oa (aI · rfl aGT rfl rfl aHV),?_,oc 1 (kd (dc2 · rfl rfl Try.call96 (kX e147))),oa (gM · rfl rfl),oa (aC · rfl),oag 125 b148 (aC · rfl),aHY⟩
     ·intro j h1 h2;have h1:0≤j:=h1;have h2:j≤1:=h2;rcases(by omega:j=0∨j=1) with rfl | rfl
      ·exact kd (aH · rfl aGN (bA e152))
      exact kd (aH · rfl aGN (bA e142))
     intro j h1 h2;have h1:0≤j:=h1;have h2:j≤1:=h2;rcases(by omega:j=0∨j=1) with rfl | rfl
     ·exact kd (aH · rfl aHR (aR e153))
     exact kd (aH · rfl aHR (aR e144))
    have u:Has 162 [(126,(pV a0)),(125,(bV (v138==v145))),(124,(bV (v138==v145))),(123,(iV v145)),(122,(Sl.v v143)),(121,(pV (some (p1.add 3)))),(120,(pV v141)),(119,(pV (some (p132.add 2)))),(118,(pV (some p132))),(117,(pV a0)),(116,(iV v138)),(115,(Sl.v v136)),(114,(pV (some (p1.add 3)))),(113,(pV v134)),(112,(pV (some (p132.add 0)))),(111,(pV (some p132))),(110,(pV a0)),(0,(pV a0)),(3,(pV (some p1))),(5,(iV v4)),(13,(iV v6)),(108,(bV (v6==4)))] a:=u.sb rfl
    refine aBz (p:=17) (by kernel_rfl)<|?_
    refine zR (ι:=Bool×World) (pk:=fun i=>(bV i.1)) (wf:=fun i=>i.2) (xs:=[_]) (vs:=[(pV a0)]) rfl (.inr ⟨_,_,125,_,rfl,rfl,rfl,b148⟩) u ⟨rfl,aHY⟩ Try.call90 (lJ (un2 h)) (fun i h a u=>?_)
    obtain⟨v149,w150⟩:=i
    refine uR (n:=162) (L0:=[(0,(pV a0)),(3,(pV (some p1))),(5,(iV v4)),(13,(iV v6)),(108,(bV (v6==4)))]) (ds:=(⟨_,(pV a0),false,0,20,[],[(0,(pV a0))]⟩::⟨_,(pV (some p132)),false,0,20,[0],[(110,(pV a0))]⟩::⟨_,(pV (some (p132.add 0))),false,0,20,[0,1],[(111,(pV (some p132)))]⟩::⟨_,(pV v134),false,0,20,[0,1,2],[(112,(pV (some (p132.add 0))))]⟩::⟨_,(pV (some (p1.add 3))),false,0,20,[],[(3,(pV (some p1)))]⟩::⟨_,(Sl.v v136),false,0,20,[4],[(114,(pV (some (p1.add 3))))]⟩::⟨_,(iV v138),false,0,20,(rn 0 6),[(113,(pV v134)),(115,(Sl.v v136))]⟩::⟨_,(pV a0),false,0,20,[],[(0,(pV a0))]⟩::⟨_,(pV (some p132)),false,0,20,[7],[(117,(pV a0))]⟩::⟨_,(pV (some (p132.add 2))),false,0,20,[7,8],[(118,(pV (some p132)))]⟩::⟨_,(pV v141),false,0,20,[7,8,9],[(119,(pV (some (p132.add 2))))]⟩::⟨_,(pV (some (p1.add 3))),false,0,20,[],[(3,(pV (some p1)))]⟩::⟨_,(Sl.v v143),false,0,20,[11],[(121,(pV (some (p1.add 3))))]⟩::⟨_,(iV v145),false,0,20,(rn 0 13),[(120,(pV v141)),(122,(Sl.v v143))]⟩::⟨_,(bV (v138==v145)),false,0,20,(rn 0 14),[(116,(iV v138)),(123,(iV v145))]⟩::⟨_,(bV (v138==v145)),false,0,20,(rn 0 15),[(124,(bV (v138==v145)))]⟩::⟨_,(pV a0),false,0,20,(rn 0 16),[(0,(pV a0)),(125,(bV (v138==v145)))]⟩::⟨_,(bV v149),false,0,20,(rn 0 17),[(126,(pV a0)),(125,(bV (v138==v145)))]⟩::⟨_,(bV v149),false,0,0,(rn 0 18),[(125,(bV (v138==v145))),(127,(bV v149))]⟩::⟨_,(bV v149),false,0,0,(rn 0 19),[(128,(bV v149))]⟩::[])) (W:=(fun _=>w150)) (p:=18) (q:=2) (m:=0) (by kernel_rfl) (by kernel_rfl) (by kernel_rfl) (by kernel_rfl) (by kernel_rfl) ?_ (aP (by kernel_rfl)) (by kernel_rfl) (by kernel_rfl) (u.sub ⟨rfl,rfl,rfl,rfl,rfl,rfl,rfl,rfl,rfl,rfl,rfl,rfl,rfl,rfl,rfl,rfl,rfl,rfl,rfl,rfl,rfl,rfl,rfl,aHY⟩) (fun a u=>?_)
    ·refine aAr (p:=18)<|?_
     exact⟨oa (aF · rfl b148 rfl),oa (aY · rfl),aHY⟩
    have u:Has 162 [(4,(bV v149))] a:=u.sb rfl
    exact hk129 (v149,w150) h _ (u.sb rfl)
   obtain⟨e154,h⟩:=h
   obtain⟨e155,h⟩:=h
   have u:Has 162 [(0,(pV a0)),(3,(pV (some p1))),(5,(iV v4)),(13,(iV v6)),(108,(bV (v6==4)))] a:=u.sb rfl
   refine aK (n:=162) (ds:=(⟨_,(pV a0),false,0,0,[],[(0,(pV a0))]⟩::⟨_,(pV (some p132)),false,0,0,[0],[(110,(pV a0))]⟩::⟨_,(pV (some (p132.add 0))),false,0,0,[0,1],[(111,(pV (some p132)))]⟩::⟨_,(pV v134),false,0,0,[0,1,2],[(112,(pV (some (p132.add 0))))]⟩::⟨_,(pV (some (p1.add 3))),false,0,0,[],[(3,(pV (some p1)))]⟩::⟨_,(Sl.v v136),false,0,0,[4],[(114,(pV (some (p1.add 3))))]⟩::⟨_,(iV v138),true,0,0,(rn 0 6),[(113,(pV v134)),(115,(Sl.v v136))]⟩::⟨_,(pV a0),false,0,1,[],[(0,(pV a0))]⟩::⟨_,(pV (some p132)),false,0,1,[7],[(117,(pV a0))]⟩::⟨_,(pV (some (p132.add 2))),false,0,1,[7,8],[(118,(pV (some p132)))]⟩::⟨_,(pV v141),false,0,1,[7,8,9],[(119,(pV (some (p132.add 2))))]⟩::⟨_,(pV (some (p1.add 3))),false,0,1,[],[(3,(pV (some p1)))]⟩::⟨_,(Sl.v v143),false,0,1,[11],[(121,(pV (some (p1.add 3))))]⟩::⟨_,(iV v145),true,1,1,(rn 0 13),[(120,(pV v141)),(122,(Sl.v v143))]⟩::⟨_,(bV (v138==v145)),false,2,2,(rn 0 14),[(116,(iV v138)),(123,(iV v145))]⟩::⟨_,(bV (v138==v145)),false,2,2,(rn 0 15),[(124,(bV (v138==v145)))]⟩::⟨_,undef,false,2,2,(rn 0 16),[(125,(bV (v138==v145)))]⟩::⟨_,undef,false,2,2,(rn 0 17),[(125,(bV (v138==v145)))]⟩::⟨_,(bV false),false,2,2,(rn 0 18),[(125,(bV (v138==v145))),(127,undef)]⟩::⟨_,(bV false),false,2,2,(rn 0 19),[(128,(bV false))]⟩::[])) (W:=(fun j=>match j with | 0=>w130 | 1=>w139 | 2=>w146 | _=>w146)) (by kernel_rfl) u (cY e131) (by kernel_rfl) ?_ (aP (by kernel_rfl)) (by kernel_rfl) (m:=2) (by kernel_rfl) (fun a u=>?_)
   ·refine⟨oa (aC · rfl),oa (aG · rfl e133),oa (aI · rfl aGv rfl rfl aGU),oc 0 (kd (aH · rfl aGR (bA e135))),oa (aI · rfl aGT rfl rfl aHV),oc 0 (kd (aH · rfl aHR (aR e137))),oc 0 (kd (dc2 · rfl rfl Try.call79 (lS e140))),oa (aC · rfl),oa (aG · rfl e133),oa (aI · rfl aGv rfl rfl aGQ),?_,oa (aI · rfl aGT rfl rfl aHV),?_,oc 1 (kd (dc2 · rfl rfl Try.call96 (kX e147))),oa (gM · rfl rfl),oa (aC · rfl),on 125 (nm b148),on 125 (nm b148),oa (aJ · rfl b148 rfl),oa (aY · rfl),aHY⟩
    ·intro j h1 h2;have h1:0≤j:=h1;have h2:j≤1:=h2;rcases(by omega:j=0∨j=1) with rfl | rfl
     ·exact kd (aH · rfl aGN (bA e154))
     exact kd (aH · rfl aGN (bA e142))
    intro j h1 h2;have h1:0≤j:=h1;have h2:j≤1:=h2;rcases(by omega:j=0∨j=1) with rfl | rfl
    ·exact kd (aH · rfl aHR (aR e155))
    exact kd (aH · rfl aHR (aR e144))
   have u:Has 162 [(4,(bV false))] a:=u.sb rfl
   exact hk129 (false,w146) h _ (u.sb rfl)
  refine wp_seq<|aA<|q u (gM u rfl rfl) fun a u=>qa u rfl fun a u=>aB<|t_n<|?_
  refine aT u rfl h (fun b156 h=>?_) (fun b156 h=>?_)
  ·refine wp_seq<|?_
   obtain⟨w157,e158,h⟩:=h
   obtain⟨p159,e160,h⟩:=h
   obtain⟨v161,e162,h⟩:=h
   obtain⟨v163,e164,h⟩:=h
   obtain⟨v165,w166,e167,h⟩:=h
   obtain⟨v168,e169,h⟩:=h
   obtain⟨v170,e171,h⟩:=h
   obtain⟨v172,w173,e174,h⟩:=h
   obtain⟨e175,h⟩:=h
   obtain⟨e176,h⟩:=h
   have u:Has 162 [(0,(pV a0)),(3,(pV (some p1))),(5,(iV v4)),(129,(bV (v6==5)))] a:=u.sb rfl
   refine aK (n:=162) (ds:=(⟨_,(pV a0),false,0,0,[],[(0,(pV a0))]⟩::⟨_,(pV (some p159)),false,0,0,[0],[(131,(pV a0))]⟩::⟨_,(pV (some (p159.add 0))),false,0,0,[0,1],[(132,(pV (some p159)))]⟩::⟨_,(pV v161),false,0,0,[0,1,2],[(133,(pV (some (p159.add 0))))]⟩::⟨_,(iV v4),false,0,0,[],[(5,(iV v4))]⟩::⟨_,(pV (some (p1.add 2))),false,0,0,[],[(3,(pV (some p1)))]⟩::⟨_,(Sl.v v163),false,0,0,[5],[(136,(pV (some (p1.add 2))))]⟩::⟨_,(iV v165),true,0,0,(rn 0 7),[(134,(pV v161)),(135,(iV v4)),(137,(Sl.v v163))]⟩::⟨_,(pV a0),false,0,1,[],[(0,(pV a0))]⟩::⟨_,(pV (some p159)),false,0,1,[8],[(139,(pV a0))]⟩::⟨_,(pV (some (p159.add 2))),false,0,1,[8,9],[(140,(pV (some p159)))]⟩::⟨_,(pV v168),false,0,1,[8,9,10],[(141,(pV (some (p159.add 2))))]⟩::⟨_,(iV v4),false,0,1,[],[(5,(iV v4))]⟩::⟨_,(pV (some (p1.add 2))),false,0,1,[],[(3,(pV (some p1)))]⟩::⟨_,(Sl.v v170),false,0,1,[13],[(144,(pV (some (p1.add 2))))]⟩::⟨_,(iV v172),true,1,1,(rn 0 15),[(142,(pV v168)),(143,(iV v4)),(145,(Sl.v v170))]⟩::⟨_,(bV (v165==v172)),false,2,2,(rn 0 16),[(138,(iV v165)),(146,(iV v172))]⟩::⟨_,(bV (v165==v172)),false,2,2,(rn 0 17),[(147,(bV (v165==v172)))]⟩::[])) (W:=(fun j=>match j with | 0=>w157 | 1=>w166 | 2=>w173 | _=>w173)) (by kernel_rfl) u (cY e158) (by kernel_rfl) ?_ (aP (by kernel_rfl)) (by kernel_rfl) (m:=2) (by kernel_rfl) (fun a u=>?_)
   ·refine⟨oa (aC · rfl),oa (aG · rfl e160),oa (aI · rfl aGv rfl rfl aGU),oc 0 (kd (aH · rfl aGR (bA e162))),oa (aC · rfl),oa (aI · rfl aGT rfl rfl aHn),oc 0 (kd (aH · rfl aHt (aR e164))),oc 0 (kd (dc3 · rfl rfl rfl Try.call84 (fD e167))),oa (aC · rfl),oa (aG · rfl e160),oa (aI · rfl aGv rfl rfl aGQ),?_,oa (aC · rfl),oa (aI · rfl aGT rfl rfl aHn),?_,oc 1 (kd (dc3 · rfl rfl rfl Try.call89 (cG e174))),oa (gM · rfl rfl),oa (aY · rfl),aHY⟩
    ·intro j h1 h2;have h1:0≤j:=h1;have h2:j≤1:=h2;rcases(by omega:j=0∨j=1) with rfl | rfl
     ·exact kd (aH · rfl aGN (bA e175))
     exact kd (aH · rfl aGN (bA e169))
    intro j h1 h2;have h1:0≤j:=h1;have h2:j≤1:=h2;rcases(by omega:j=0∨j=1) with rfl | rfl
    ·exact kd (aH · rfl aHt (aR e176))
    exact kd (aH · rfl aHt (aR e171))
   have u:Has 162 [(4,(bV (v165==v172)))] a:=u.sb rfl
   refine t_n<|wp_ret<|b_r<|t_r<|?_
   exact bE Try.results46 u rfl ⟨((v165==v172),w173),rfl,h,rfl⟩
  refine wp_skip<|b_n<|t_n<|wp_seq<|?_
  obtain⟨w177,e178,h⟩:=h
  obtain⟨p179,e180,h⟩:=h
  obtain⟨v181,e182,h⟩:=h
  obtain⟨v183,w184,e185,h⟩:=h
  obtain⟨v186,e187,h⟩:=h
  obtain⟨p188,e189,h⟩:=h
  obtain⟨v190,e191,h⟩:=h
  obtain⟨e192,h⟩:=h
  obtain⟨e193,h⟩:=h
  have u:Has 162 [(0,(pV a0))] a:=u.sb rfl
  refine aK (n:=162) (ds:=(⟨_,(pV a0),false,0,0,[],[(0,(pV a0))]⟩::⟨_,(pV (some p179)),false,0,0,[0],[(148,(pV a0))]⟩::⟨_,(pV (some (p179.add 0))),false,0,0,[0,1],[(149,(pV (some p179)))]⟩::⟨_,(pV v181),false,0,0,[0,1,2],[(150,(pV (some (p179.add 0))))]⟩::⟨_,(iV v183),true,0,0,(rn 0 4),[(151,(pV v181))]⟩::⟨_,(pV a0),false,0,1,[],[(0,(pV a0))]⟩::⟨_,(pV (some p179)),false,0,1,[5],[(153,(pV a0))]⟩::⟨_,(pV (some (p179.add 2))),false,0,1,[5,6],[(154,(pV (some p179)))]⟩::⟨_,(pV v186),false,0,1,[5,6,7],[(155,(pV (some (p179.add 2))))]⟩::⟨_,(pV (some p188)),false,0,1,(rn 5 4),[(156,(pV v186))]⟩::⟨_,(pV (some (p188.add 1))),false,0,1,(rn 5 5),[(157,(pV (some p188)))]⟩::⟨_,(Sl.v v190),false,0,1,(rn 5 6),[(158,(pV (some (p188.add 1))))]⟩::⟨_,(iV (v190.n:Int)),false,0,1,(rn 5 7),[(159,(Sl.v v190))]⟩::⟨_,(bV (v183==(v190.n:Int))),false,1,1,(rn 0 13),[(152,(iV v183)),(160,(iV (v190.n:Int)))]⟩::⟨_,(bV (v183==(v190.n:Int))),false,1,1,(rn 0 14),[(161,(bV (v183==(v190.n:Int))))]⟩::[])) (W:=(fun j=>match j with | 0=>w177 | 1=>w184 | _=>w184)) (by kernel_rfl) u (cY e178) (by kernel_rfl) ?_ (aP (by kernel_rfl)) (by kernel_rfl) (m:=1) (by kernel_rfl) (fun a u=>?_)
  ·refine⟨oa (aC · rfl),oa (aG · rfl e180),oa (aI · rfl aGv rfl rfl aGU),oc 0 (kd (aH · rfl aGR (bA e182))),oc 0 (kd (dc1 · rfl Try.call34 (rG e185))),oa (aC · rfl),oa (aG · rfl e180),oa (aI · rfl aGv rfl rfl aGQ),?_,oa (aG · rfl e189),oa (aI · rfl aGw rfl rfl aHk),?_,oa (aV · rfl aHi),oa (gM · rfl rfl),oa (aY · rfl),aHY⟩
   ·intro j h1 h2;have h1:0≤j:=h1;have h2:j≤1:=h2;rcases(by omega:j=0∨j=1) with rfl | rfl
    ·exact kd (aH · rfl aGN (bA e192))
    exact kd (aH · rfl aGN (bA e187))
   intro j h1 h2;have h1:0≤j:=h1;have h2:j≤1:=h2;rcases(by omega:j=0∨j=1) with rfl | rfl
   ·exact kd (aH · rfl aHC (aR e193))
   exact kd (aH · rfl aHC (aR e191))
  have u:Has 162 [(4,(bV (v183==(v190.n:Int))))] a:=u.sb rfl
  refine t_n<|wp_ret<|?_
  exact bE Try.results46 u rfl ⟨((v183==(v190.n:Int)),w184),rfl,h,rfl⟩
 refine wp_seq<|aA<|q u (gM u rfl rfl) fun a u=>qa u rfl fun a u=>aB<|t_n<|?_
 refine aT u rfl h (fun b12 h=>?_) (fun b12 h=>?_)
 ·refine wp_skip<|?_
  exact hk11 ((v6==0),w2) h _ (u.sb rfl)
 refine aA<|q u (gM u rfl rfl) fun a u=>qa u rfl fun a u=>aB<|?_
 exact hk11 ((v6==6),w2) h _ (u.sb rfl)
def eD (a0:Option Addr) (x1:Int) (w2:World):Option ((Int×World)⊕((World)⊕(Bool×World))) :=
 if (decide (x1<52))=true then
 ((a0).bind fun p12 =>
 (ldP w2 (p12.add 0)).bind fun v14 =>
 nA (iF v14 x1 w2) fun v16 v17 w18 =>
 (ldP w18 (p12.add 2)).bind fun v20 =>
 nA (dC v20 x1 w18) fun v22 v23 w24 =>
 (ldP w24 (p12.add 0)).bind fun v26 =>
 nA (dL v26 x1 w24) fun v28 v29 w30 =>
 (ldP w30 (p12.add 2)).bind fun v32 =>
 nA (bI v32 x1 w30) fun v34 v35 w36 =>
 aL (if (v17 !=v23)=true then
 (some (true,w36))
 else
 (if (v29 !=v35)=true then
 (some (true,w36))
 else
 ((b2s v16 w36).bind fun s44 =>
 (b2s v22 w36).bind fun s46 =>
 if (!sEq s44 s46)=true then
 (some (true,w36))
 else
 ((b2s v28 w36).bind fun s49 =>
 (b2s v34 w36).bind fun s51 =>
 some ((!sEq s49 s51),w36))))) fun v38 w39 =>
 if v38=true then
 (some (.inr (.inr (false,w39))))
 else
 (some (.inl ((IntKind.wrap .i64 (x1+1)),w39))))
 else
 (some (.inr (.inl w2)))
def dV (a0:Option Addr) (w:World):Option (Bool×World) :=
 (bH (fun s:Int×World=>eD a0 s.1 s.2) (0,w)).bind fun r3=>Sum.elim (fun (i:World)=>u1 i fun w5 =>
 some (true,w5)) (fun (i:Bool×World)=>u2 i fun v6 w7 =>
 some (v6,w7)) r3
theorem kW {a0 w w' r0} (h:dV a0 w=some (r0,w')):Calls Try.prog 50 #[(.pointer a0)] w fun e w''=>e=.returned (.bool r0)∧w''=w':=by
 refine aN (n:=74) Try.func50 rfl Try.ntmps50 (by simp) fun a u=>?_
 unfold dV at h
 refine wp_seq<|aA<|qa u rfl fun a u=>aB<|t_n<|wp_seq<|wp_seq<|aA<|qa u rfl fun a u=>aB<|t_n<|wp_block<|?_
 have⟨r3,e4,h⟩:=bs1 h
 refine nU (n:=74) (L1:=fun i=>[]) (w1:=fun i=>i) (L2:=fun i=>[(2,(bV i.1))]) (w2:=fun i=>i.2) (e1:=.exit 0) (e2:=.ret) (I:=fun (s:Int×World) a w=>Has 74 [(3,(iV s.1)),(0,(pV a0))] a∧w=s.2) ⟨u.sub ⟨rfl,rfl,aHY⟩,rfl⟩ e4 (fun i hi a u=>?_) (fun i hi a u=>?_) (fun hk8 hk9=>?_)
 ·subst hi
  obtain⟨w5,rfl⟩:∃ x,x=i:=⟨i,rfl⟩
  dsimp only[Sum.elim_inl,Sum.elim_inr,u1,u2,u3,u4,u5,u6] at h
  have u:Has 74 [] a:=u
  refine dS<|t_n<|wp_seq<|aA<|qa u rfl fun a u=>aB<|t_n<|wp_ret<|?_
  have y:=u
  cases h
  exact bE Try.results50 y rfl ⟨rfl,rfl⟩
 ·subst hi
  obtain⟨v6,w7⟩:=i
  dsimp only[Sum.elim_inl,Sum.elim_inr,u1,u2,u3,u4,u5,u6] at h
  have u:Has 74 [(2,(bV v6))] a:=u
  refine b_r<|t_r<|?_
  have y:=u
  cases h
  exact bE Try.results50 y rfl ⟨rfl,rfl⟩
 clear h
 rintro⟨x1,w2⟩ a wq o ⟨u,hwq⟩ h hr10
 obtain rfl:w2=wq:=hwq.symm
 have u:Has 74 [(3,(iV x1)),(0,(pV a0))] a:=u
 have h:eD a0 x1 w2=some o:=h
 unfold eD at h
 refine wp_seq<|wp_seq<|aA<|qm u rfl fun a u=>q u (cZ u rfl rfl) fun a u=>aB<|t_n<|?_
 refine aM u rfl h (fun b11 h=>?_) (fun b11 h=>?_)
 ·refine wp_skip<|t_n<|wp_seq<|wp_block<|wp_seq<|aA<|qm u rfl fun a u=>?_
  have⟨p12,e13,h⟩:=bs1 h
  refine q u (aG u rfl e13) fun a u=>q u (aI u rfl aGv rfl rfl aGU) fun a u=>?_
  have⟨v14,e15,h⟩:=bs1 h
  refine q u (aH u rfl aGR (bA e15)) fun a u=>qm u rfl fun a u=>?_
  have⟨v16,v17,w18,e19,h⟩:=bs3 h
  refine q u (dc2 u rfl rfl Try.call97 (rZ e19)) fun a u=>qm u rfl fun a u=>q u (aQ u rfl rfl) fun a u=>q u (aQ u rfl rfl) fun a u=>qa u rfl fun a u=>qa u rfl fun a u=>aB<|t_n<|wp_seq<|aA<|qm u rfl fun a u=>q u (aG u rfl e13) fun a u=>q u (aI u rfl aGv rfl rfl aGQ) fun a u=>?_
  have⟨v20,e21,h⟩:=bs1 h
  refine q u (aH u rfl aGN (bA e21)) fun a u=>qm u rfl fun a u=>?_
  have⟨v22,v23,w24,e25,h⟩:=bs3 h
  refine q u (dc2 u rfl rfl Try.call98 (oR e25)) fun a u=>qm u rfl fun a u=>q u (aQ u rfl rfl) fun a u=>q u (aQ u rfl rfl) fun a u=>qa u rfl fun a u=>qa u rfl fun a u=>aB<|t_n<|wp_seq<|aA<|qm u rfl fun a u=>q u (aG u rfl e13) fun a u=>q u (aI u rfl aGv rfl rfl aGU) fun a u=>?_
  have⟨v26,e27,h⟩:=bs1 h
  refine q u (aH u rfl aGR (bA e27)) fun a u=>qm u rfl fun a u=>?_
  have⟨v28,v29,w30,e31,h⟩:=bs3 h
  refine q u (dc2 u rfl rfl Try.call99 (jZ e31)) fun a u=>qm u rfl fun a u=>q u (aQ u rfl rfl) fun a u=>q u (aQ u rfl rfl) fun a u=>qa u rfl fun a u=>qa u rfl fun a u=>aB<|t_n<|wp_seq<|aA<|qm u rfl fun a u=>q u (aG u rfl e13) fun a u=>q u (aI u rfl aGv rfl rfl aGQ) fun a u=>?_
  have⟨v32,e33,h⟩:=bs1 h
  refine q u (aH u rfl aGN (bA e33)) fun a u=>qm u rfl fun a u=>?_
  have⟨v34,v35,w36,e37,h⟩:=bs3 h
  refine q u (dc2 u rfl rfl Try.call100 (eT e37)) fun a u=>qm u rfl fun a u=>q u (aQ u rfl rfl) fun a u=>q u (aQ u rfl rfl) fun a u=>qa u rfl fun a u=>qa u rfl fun a u=>aB<|t_n<|wp_seq<|?_
  have⟨v38,w39,e40,h⟩:=bs2 h
  refine bG (n:=74) (L:=[(73,(bV v38)),(0,(pV a0)),(3,(iV x1))]) (w':=w39) (fun a u=>?_) (fun hk41=>?_)
  ·refine t_n<|?_
   refine aM u rfl h (fun b53 h=>?_) (fun b53 h=>?_)
   ·refine wp_seq<|aA<|qa u rfl fun a u=>aB<|t_n<|wp_ret<|b_r<|t_r<|?_
    have y:=u
    cases h
    cases hr10 _ rfl
    refine uT<|?_
    exact hk9 _ rfl _ (y.sb rfl)
   refine wp_skip<|b_n<|t_n<|aA<|qm u rfl fun a u=>q u (bF u rfl rfl) fun a u=>qa u rfl fun a u=>aB<|?_
   have y:=u
   cases h
   exact dI ⟨y.sb rfl,rfl⟩
  clear h
  have h:=e40
  refine aA<|qm u rfl fun a u=>qm u rfl fun a u=>q u (fP u rfl rfl) fun a u=>qm u rfl fun a u=>?_
  refine bL h (fun b42 h=>?_) (fun b42 h=>?_)
  ·refine qn u 55 (tn b42) fun a u=>qn u 55 (tn b42) fun a u=>qn u 55 (tn b42) fun a u=>q u (aF u rfl b42 rfl) fun a u=>qm u rfl fun a u=>qn u 60 (tn rfl) fun a u=>qn u 60 (tn rfl) fun a u=>qn u 60 (tn rfl) fun a u=>qn u 60 (tn rfl) fun a u=>qn u 60 (tn rfl) fun a u=>q u (aF u rfl rfl rfl) fun a u=>qm u rfl fun a u=>qn u 67 (tn rfl) fun a u=>qn u 67 (tn rfl) fun a u=>qn u 67 (tn rfl) fun a u=>qn u 67 (tn rfl) fun a u=>qn u 67 (tn rfl) fun a u=>q u (aF u rfl rfl rfl) fun a u=>aB<|?_
   have y:=u
   cases h
   exact hk41 _ (y.sb rfl)
  refine qg u 55 (nt b42) (aC u rfl) fun a u=>qg u 55 (nt b42) (aC u rfl) fun a u=>qg u 55 (nt b42) (fP u rfl rfl) fun a u=>q u (aJ u rfl b42 rfl) fun a u=>qm u rfl fun a u=>?_
  refine bL h (fun b43 h=>?_) (fun b43 h=>?_)
  ·refine qn u 60 (tn b43) fun a u=>qn u 60 (tn b43) fun a u=>qn u 60 (tn b43) fun a u=>qn u 60 (tn b43) fun a u=>qn u 60 (tn b43) fun a u=>q u (aF u rfl b43 rfl) fun a u=>qm u rfl fun a u=>qn u 67 (tn rfl) fun a u=>qn u 67 (tn rfl) fun a u=>qn u 67 (tn rfl) fun a u=>qn u 67 (tn rfl) fun a u=>qn u 67 (tn rfl) fun a u=>q u (aF u rfl rfl rfl) fun a u=>aB<|?_
   have y:=u
   cases h
   exact hk41 _ (y.sb rfl)
  refine qg u 60 (nt b43) (aC u rfl) fun a u=>?_
  have⟨s44,e45,h⟩:=bs1 h
  refine qg u 60 (nt b43) (mQ u rfl aGp aGO aGC e45) fun a u=>qg u 60 (nt b43) (aC u rfl) fun a u=>?_
  have⟨s46,e47,h⟩:=bs1 h
  refine qg u 60 (nt b43) (mQ u rfl aGp aGO aGC e47) fun a u=>qg u 60 (nt b43) (uM u rfl rfl) fun a u=>q u (aJ u rfl b43 rfl) fun a u=>qm u rfl fun a u=>?_
  refine bL h (fun b48 h=>?_) (fun b48 h=>?_)
  ·refine qn u 67 (tn b48) fun a u=>qn u 67 (tn b48) fun a u=>qn u 67 (tn b48) fun a u=>qn u 67 (tn b48) fun a u=>qn u 67 (tn b48) fun a u=>q u (aF u rfl b48 rfl) fun a u=>aB<|?_
   have y:=u
   cases h
   exact hk41 _ (y.sb rfl)
  refine qg u 67 (nt b48) (aC u rfl) fun a u=>?_
  have⟨s49,e50,h⟩:=bs1 h
  refine qg u 67 (nt b48) (mQ u rfl aGp aGO aGC e50) fun a u=>qg u 67 (nt b48) (aC u rfl) fun a u=>?_
  have⟨s51,e52,h⟩:=bs1 h
  refine qg u 67 (nt b48) (mQ u rfl aGp aGO aGC e52) fun a u=>qg u 67 (nt b48) (uM u rfl rfl) fun a u=>q u (aJ u rfl b48 rfl) fun a u=>aB<|?_
  have y:=u
  cases h
  exact hk41 _ (y.sb rfl)
 refine wp_exit<|t_x<|?_
 have y:=u
 cases h
 cases hr10 _ rfl
 refine lD<|?_
 exact hk8 _ rfl _ (y.sb rfl)
structure Dg where
 k:Int
 n:Int
 bs:List Int
 fs:List Int
def dgR (g:Gh) (w:World) (cs:List Value) (d:Dg):Prop:=∃ b f:Sl,cs=[.int .i64 d.k,.int .i64 d.n,b.v,f.v]∧PR g w b 1 (nums .u8 d.bs)∧PR g w f 1 (nums .i64 d.fs)∧bR d.bs∧-9223372036854775808≤d.n∧d.n≤9223372036854775807∧b.n≤140737488351232
theorem aAL {g g':Gh} {w w':World} {cs:List Value} {d:Dg} (h:dgR g w cs d) (m:Mo g w g' w'):dgR g' w' cs d:=by
 obtain⟨b,f,e,h1,h2,h3⟩:=h
 exact⟨b,f,e,h1.mo m,h2.mo m,h3⟩
def aBb (a n:Int):Int:=IntKind.wrap .i64 (IntKind.wrap .i64 (a+1)+IntKind.wrap .i64 ((IntKind.wrap .u64 n).tmod 1000))
def vO (l:Lg) (d:Dg):Int:=if d.k=6 then aBb l.high d.n else d.n
def kF (s:Dk×Lg) (d:Dg):Dk×Lg :=
 if d.k=0∨d.k=6 then (s.1.appendL s.2 (vO s.2 d) d.bs).2 else if d.k=1 then ((s.1.syncL s.2).2,s.2) else if d.k=2 then (s.1.chopL s.2 d.n).2 else if d.k=3 then ((s.1.trip d.n).2,s.2) else
 if d.k=4 then (((s.1.crash d.fs).openL 1 3).2.1,((s.1.crash d.fs).openL 1 3).2.2.getD s.2) else if d.k=5 then ((s.1.write d.n d.bs).2,s.2) else s
structure aEl (D:Dk) (l:Lg):Prop where
 bt:D.Bt
 n:D.S.length=52
 wf:l.Wf
 b:l.base=1
 s:l.segs=3
theorem aFN {D:Dk} (h:D.S.length=52):mR D.S.length 1 3=true:=by rw[h];rfl
theorem sP {D:Dk} {fs:List Int}:(D.crash fs).Calm:=⟨rfl,rfl⟩
theorem xV {D:Dk} (hb:D.Bt) (hn:D.S.length=52) (hc:D.Calm):∃ l,(D.openL 1 3).2.2=some l∧(D.openL 1 3).1=0∧aEl (D.openL 1 3).2.1 l∧(D.openL 1 3).2.1.Calm∧(D.openL 1 3).2.1.W.length≤D.W.length+1000∧l.age=D.age:=by
 obtain⟨e,c,l,hl⟩:=aCE hc (aFN hn)
 obtain⟨h1,h2,h3,h4,h5⟩:=aEb hb (by omega) hl
 have ht:=aEr (D:=D) (base:=1) (segs:=3)
 exact⟨l,hl,e,⟨ht.b hb,by rw[ht.s,hn],h1,h2,h3⟩,c,ht.w,h4⟩
theorem wW {D:Dk} {l:Lg} (h:aEl D l) {d:Dg} (hb:bR d.bs):aEl (kF (D,l) d).1 (kF (D,l) d).2∧(kF (D,l) d).1.W.length≤D.W.length+1000:=by
 unfold kF
 simp only
 split
 ·have h1:=xL D l (vO l d) hb
  have h2:=aCB (D:=D) (t:=vO l d) h.wf hb
  exact⟨⟨h1.b h.bt,by rw[h1.s,h.n],h2.1,by rw[h2.2.1,h.b],by rw[h2.2.2.1,h.s]⟩,h1.w⟩
 split
 ·have h1:=wB D l
  exact⟨⟨h1.b h.bt,by rw[h1.s,h.n],h.wf,h.b,h.s⟩,by have:=h1.w;simp only;omega⟩
 split
 ·have h1:=aEJ D l d.n h.wf.len
  have h2:=aEE (D:=D) (t:=d.n) h.wf
  exact⟨⟨h1.b h.bt,by rw[h1.s,h.n],h2.1,by rw[h2.2.1,h.b],by rw[h2.2.2.1,h.s]⟩,h1.w⟩
 split
 ·obtain⟨h1,h2⟩:=aFt D d.n
  exact⟨⟨⟨by rw[h1];exact h.bt.s,by rw[h2];exact h.bt.w⟩,by rw[h1,h.n],h.wf,h.b,h.s⟩,by simp only;rw[h2];omega⟩
 split
 ·obtain⟨k,hk,-,ho,-,hw,-⟩:=xV (h.bt.crash d.fs) (by rw[xQ h.bt,h.n]) (sP (D:=D) (fs:=d.fs))
  rw[hk]
  have:(D.crash d.fs).W.length=0:=rfl
  exact⟨ho,by simp only;omega⟩
 split
 ·have h1:=mP D d.n hb
  exact⟨⟨h1.b h.bt,by rw[h1.s,h.n],h.wf,h.b,h.s⟩,by have:=h1.w;simp only;omega⟩
 exact⟨h,by simp only;omega⟩
def pgC (x c y e:Nat):List Value:=[.pointer (some ⟨x,0,none⟩),.pointer (some ⟨c,0,none⟩),.pointer (some ⟨y,0,none⟩),.pointer (some ⟨e,0,none⟩)]
abbrev pgR (p x c y e:Nat):Rs:=bxR p (pgC x c y e) 85
structure Pg (F0:Nat→Prop) (g0:Gh) (w0:World) (g:Gh) (w:World) (p x c y e:Nat) (s:Dk×Lg) (L:List Rs):Prop where
 H:Hp F0 g0 w0 g w (pgR p x c y e::dkR x s.1::rdR y s.1::lgR c x s.2::rlR e y s.2::L)
 ok:aEl s.1 s.2
section
variable {F0 : Nat → Prop} {g g' g0 : Gh} {w w' w0 : World} {L : List Rs} {p x y c e : Nat} {D : Dk} {l : Lg} {a b r s t : Rs}
theorem Hp.s2 (H:Hp F0 g0 w0 g w (a::b::r::L)):Hp F0 g0 w0 g w (a::r::b::L):=⟨H.sp,H.sep.cons fun _ h=>h.sw⟩
theorem Hp.t2 (H:Hp F0 g0 w0 g w (a::b::r::s::t::L)):Hp F0 g0 w0 g w (a::b::s::t::r::L):=⟨H.sp,H.sep.cons fun _ h=>h.cons fun _ h=>h.sw.cons fun _ h=>h.sw⟩
theorem Hp.mem (H:Hp F0 g0 w0 g w L) (h:r∈L):∃ F,r.h g w F:=by
 obtain⟨A,B,rfl⟩:=List.append_of_mem h
 exact H.app_cons.hd
theorem aBq {q1 q2:Option Addr} (H:Hp F0 g0 w0 g w (bxR p [.pointer (some ⟨x,0,none⟩),.pointer q1,.pointer (some ⟨y,0,none⟩),.pointer q2] 85::dkR x D::rdR y D::L)) (hb:D.Bt) (hn:D.S.length=52) (hc:D.Calm) (hW:D.W.length<700000) {Φ:Bool×World→Prop}
  (hΦ:∀ g' w' c e l,(D.openL 1 3).2.2=some l→Pg F0 g0 w0 g' w' p x c y e ((D.openL 1 3).2.1,l) L→Mo g w g' w'→Φ (true,w')):(eI (some ⟨p,0,none⟩) w).t Φ:=by
 obtain⟨l,hl,h0,hok,-,hWo,-⟩:=xV hb hn hc
 unfold eI
 refine Nd.s1 (Nd.b1 (qB H.bx rfl) (Nd.j3 (Ψ:=fun r=>∃ c g',r.1=some ⟨c,0,none⟩∧r.2.1=0∧Hp F0 g0 w0 g' r.2.2 (lgR c x l::dkR x (D.openL 1 3).2.1::bxR p [.pointer (some ⟨x,0,none⟩),.pointer q1,.pointer (some ⟨y,0,none⟩),.pointer q2] 85::rdR y D::L)∧Mo g w g' r.2.2) (vN H.sw hb (by omega) (by decide) fun g' w' o ho m'=>?_) ?_))
 ·rw[hl] at ho
  obtain⟨c,rfl,H'⟩:=ho
  exact⟨c,g',rfl,h0,H',m'⟩
 rintro _ _ w1 ⟨c,g1,rfl,rfl,H1,m1⟩
 simp only at H1 m1
 refine Nd.b1 (qB H1.m2.bx rfl) (Nd.j3 (Ψ:=fun r=>∃ e g',r.1=some ⟨e,0,none⟩∧r.2.1=0∧Hp F0 g0 w0 g' r.2.2 (rlR e y l::rdR y (D.openL 1 3).2.1::lgR c x l::dkR x (D.openL 1 3).2.1::bxR p [.pointer (some ⟨x,0,none⟩),.pointer q1,.pointer (some ⟨y,0,none⟩),.pointer q2] 85::L)∧Mo g w g' r.2.2) (aCp H1.m3 hb (by omega) (by decide) fun g' w' o ho m'=>?_) ?_)
 ·rw[hl] at ho
  obtain⟨c,rfl,H'⟩:=ho
  exact⟨c,g',rfl,h0,H',m1.t m'⟩
 rintro _ _ w2 ⟨e,g2,rfl,rfl,H2,m2⟩
 simp only at H2 m2
 obtain⟨w3,e3,H3,m3⟩:=H2.m4.stV (o:=1) (x:=.pointer (some ⟨c,0,none⟩)) (by simp) rfl
 obtain⟨w4,e4,H4,m4⟩:=H3.stV (o:=3) (x:=.pointer (some ⟨e,0,none⟩)) (by simp) rfl
 have H4:Hp F0 g0 w0 g2 w4 (pgR p x c y e::rlR e y l::rdR y (D.openL 1 3).2.1::lgR c x l::dkR x (D.openL 1 3).2.1::L):=H4
 refine Nd.j2 (Ψ:=fun r=>r=(false,w2)) (Nd.f (by simp) (Nd.ret rfl)) ?_
 rintro _ _ he;cases he
 refine Nd.f (by simp) (Nd.j1 (Ψ:=fun r=>r=w4) (Nd.t (by simp) (Nd.b1 (by rw[aD];exact e3) (Nd.b1 (by rw[aD];exact e4) (Nd.ret rfl)))) ?_)
 rintro _ rfl
 exact Nd.ret (hΦ g2 _ c e l hl ⟨H4.m4.sw.t2,hok⟩ (m2.t (m3.t m4)))
end
section
variable {F0 : Nat → Prop} {g g' g0 : Gh} {w w' w0 : World} {L : List Rs} {p x y c e : Nat} {D : Dk} {l : Lg} {z : Sl} {T : TypeId}
theorem aDm (hz:z.n≤140737488351232) {Φ:World→Prop}:∀ (m j:Nat) (xs:List Int) (w:World),m+j=xs.length→Hp F0 g0 w0 g w (owR T 1 z (nums .u8 xs)::L)→(∀ w' xs',Hp F0 g0 w0 g w' (owR T 1 z (nums .u8 xs')::L)→Mo g w g w'→Φ w') →
  (fA (fun s:Int×World=>dW z s.1 s.2) ((j:Int),w)).t Φ:=by
 intro m
 induction m with
 | zero =>
  intro j xs w hm H hΦ
  have hn:xs.length=z.n:=by have:=H.ow.len;simpa using this
  refine Nd.next ?_
  unfold dW
  exact Nd.f (by simp;omega) (Nd.ret (hΦ w xs H Mo.r))
 | succ m ih =>
  intro j xs w hm H hΦ
  have hn:xs.length=z.n:=by have:=H.ow.len;simpa using this
  have hj:j<xs.length:=by omega
  obtain⟨b,rest,hp,-,-⟩:=H.ow.at_ (by omega)
  obtain⟨a,ea,la⟩:=H.ow.ixI (i:=j) (k:=.u8) (x:=xs[j]) (by rw[lL,List.getElem?_eq_getElem hj];rfl)
  have ei:ix z (j:Int) 1=some ⟨b,j,none⟩:=by unfold D.ix;rw[hp,aHW,if_pos ⟨by omega,by omega⟩,aD];simp
  rw[ei] at ea
  cases ea
  obtain⟨w2,e2,H2,m2⟩:=H.oset (o:=j) (x:=.int .u8 (tY .u8 xs[j] 65)) hp (by omega) (by simpa using hj) rfl
  rw[show(nums .u8 xs).set j (.int .u8 (tY .u8 xs[j] 65))=nums .u8 (xs.set j (tY .u8 xs[j] 65)) by simp[nums,List.map_set]] at H2
  refine Nd.next ?_
  unfold dW
  refine Nd.t (by simp;omega) (Nd.b1 ei (Nd.b1 la (Nd.b1 ei (Nd.b1 e2 (Nd.ret ?_)))))
  show(fA _ (IntKind.wrap .i64 ((j:Int)+1),w2)).t Φ
  rw[bX (by omega)]
  exact ih (j+1) _ w2 (by simp;omega) H2 (fun w' xs' H' m'=>hΦ w' xs' H' (m2.t m'))
theorem aDp (a n:Int) (w:World):iL a n w=some (aBb a n,w):=by
 unfold iL rmI aBb
 rw[if_neg (by decide),aHW]
theorem yP (h:l.Wf):l.vis.length≤10000:=by
 have h1:=h.len
 have key:∀ us:List Sg,(∀ s∈us,s.recs.length≤16)→(us.flatMap fun s=>s.recs).length≤16*us.length:=by
  intro us
  induction us with
  | nil=>intro _;simp
  | cons u us ih =>
   intro hu
   have a1:=hu u (by simp)
   have a2:=ih fun s hs=>hu s (by simp[hs])
   rw[List.flatMap_cons,List.length_append,List.length_cons]
   omega
 have h2:=key l.used fun s hs=>by have:=(h.seg s hs).rn;have:=(h.seg s hs).f1;omega
 have h3:l.vis.length≤l.all.length:=List.length_filter_le _ _
 have h4:l.all.length=(l.used.flatMap fun s=>s.recs).length:=rfl
 omega
theorem Pg.p0 (h:Hp F0 g0 w0 g w (pgR p x c y e::L)):ldP w ⟨p,0,none⟩=some (some ⟨x,0,none⟩):=qB h.bx rfl
theorem Pg.p1 (h:Hp F0 g0 w0 g w (pgR p x c y e::L)):ldP w ⟨p,1,none⟩=some (some ⟨c,0,none⟩):=qB h.bx rfl
theorem Pg.p2 (h:Hp F0 g0 w0 g w (pgR p x c y e::L)):ldP w ⟨p,2,none⟩=some (some ⟨y,0,none⟩):=qB h.bx rfl
theorem Pg.p3 (h:Hp F0 g0 w0 g w (pgR p x c y e::L)):ldP w ⟨p,3,none⟩=some (some ⟨e,0,none⟩):=qB h.bx rfl
theorem Pg.lg (H:Hp F0 g0 w0 g w (pgR p x c y e::dkR x D::rdR y D::lgR c x l::rlR e y l::L)):Hp F0 g0 w0 g w (lgR c x l::dkR x D::pgR p x c y e::rdR y D::rlR e y l::L):=H.m3.s2
theorem Pg.rl {l':Lg} {D':Dk} (H:Hp F0 g0 w0 g w (lgR c x l'::dkR x D'::pgR p x c y e::rdR y D::rlR e y l::L)):Hp F0 g0 w0 g w (rlR e y l::rdR y D::lgR c x l'::dkR x D'::pgR p x c y e::L):=H.m4.m4.sw
theorem Pg.back (H:Hp F0 g0 w0 g w (rlR e y l::rdR y D::lgR c x l::dkR x D::pgR p x c y e::L)):Hp F0 g0 w0 g w (pgR p x c y e::dkR x D::rdR y D::lgR c x l::rlR e y l::L):=H.m4.m4.sw.t2
theorem aFG {cs:List Value} {d:Dg} (h:Pg F0 g0 w0 g w p x c y e (D,l) L) (hd:dgR g w cs d) (hW:D.W.length<600000) {Φ:Bool×World→Prop}
  (hΦ:∀ g' w' c' e',Pg F0 g0 w0 g' w' p x c' y e' (kF (D,l) d) L→Mo g w g' w'→Φ (true,w')):(gS (some ⟨p,0,none⟩) cs w).t Φ:=by
 obtain⟨b,f,rfl,hb,hf,hby,hn0,hn1,hbz⟩:=hd
 obtain⟨hok',-⟩:=wW h.ok hby
 have hok:=h.ok
 simp only at hok
 have hbn:=hok.b
 have hsn:=hok.s
 have hSn:=hok.n
 obtain⟨q,g1,w1,e1,H1,m1,b1⟩:=h.H.boxK 82 [.int .i64 d.k,.int .i64 d.n,b.v,f.v]
 simp only at H1
 have rk:∀ {g' w'},Mo g1 w1 g' w'→ldI .i64 w' ⟨q,0,none⟩=some d.k∧ldI .i64 w' ⟨q,1,none⟩=some d.n∧ldL w' ⟨q,2,none⟩=some b∧ldL w' ⟨q,3,none⟩=some f :=
  fun m=>⟨lM (b1.mo m).at_ rfl,lM (b1.mo m).at_ rfl,oX (b1.mo m).at_ rfl,oX (b1.mo m).at_ rfl⟩
 have r1:=rk Mo.r
 unfold gS
 refine Nd.b2 e1 (Nd.b1 (by rw[aD];exact r1.2.1) (Nd.b1 (by rw[aD];exact r1.1) (Nd.j2 (Ψ:=fun r=>r=(decide (d.k=0∨d.k=6),w1)) ?_ ?_)))
 ·by_cases h0:d.k=0
  ·exact Nd.t (by simpa using h0) (Nd.ret (by simp[h0]))
  exact Nd.f (by simpa using h0) (Nd.ret (by simp[h0];rfl))
 rintro _ _ he;cases he
 by_cases t0:d.k=0∨d.k=6
 ·have hD:kF (D,l) d=(D.appendL l (vO l d) d.bs).2:=by unfold kF;rw[if_pos t0]
  rw[hD] at hΦ hok'
  refine Nd.t (by simpa using t0) (Nd.j2 (Ψ:=fun r=>r.1=vO l d∧Hp F0 g0 w0 g1 r.2 (pgR p x c y e::dkR x D::rdR y D::lgR c x l::rlR e y l::L)∧Mo g1 w1 g1 r.2) (Nd.b1 (by rw[aD];exact r1.1) ?_) ?_)
  ·unfold vO
   by_cases h6:d.k=6
   ·obtain⟨w2,e2,H2,m2⟩:=H1.dr
    obtain⟨su,sr,rz,hz,H3⟩:=(H2.m4).rlo
    have lh:ldI .i64 w2 ⟨e,4,none⟩=some l.high:=H3.ldI rfl
    exact Nd.t (by simpa using h6) (Nd.b1 e2 (Nd.s1 (Nd.b1 (by rw[aD];exact Pg.p3 H2) (Nd.s1 (Nd.b1 (by rw[aD,aD];exact lh) (Nd.b1 (by rw[aD];exact(rk m2).2.1) (Nd.b2 (aDp _ _ _) (Nd.ret ⟨by rw[if_pos h6],H2,m2⟩))))))))
   exact Nd.f (by simpa using h6) (Nd.ret ⟨by rw[if_neg h6],H1,Mo.r⟩)
  rintro _ w2 ⟨rfl,H2,m2⟩
  simp only at H2 m2 ⊢
  obtain⟨s3,w3,e3,n3,_,H3,m3⟩:=H2.bsl (T:=5) (sz:=1) (ps:=[]) (by intro p hp;cases hp) (by simp)
  have hbr:=hb.mo (m1.t (m2.t m3))
  have hbl:d.bs.length=b.n:=by have:=hbr.rd.len;simpa using this
  obtain⟨s4,w4,e4,n4,H4,m4⟩:=H3.apS mS hbr.rd dR (by rw[n3];simp;omega)
  have H4:Hp F0 g0 w0 g1 w4 (owR 5 1 s4 (nums .u8 d.bs)::pgR p x c y e::dkR x D::rdR y D::lgR c x l::rlR e y l::L):=by simpa using H4
  have hs4:s4.n≤140737488351232:=by rw[n4,n3];simp;omega
  have H5:Hp F0 g0 w0 g1 w4 (pgR p x c y e::dkR x D::rdR y D::lgR c x l::rlR e y l::owR 5 1 s4 (nums .u8 d.bs)::L):=Hp.cons_app (L:=[pgR p x c y e,dkR x D,rdR y D,lgR c x l,rlR e y l]) H4
  have mA:=m2.t (m3.t m4)
  obtain⟨A,hA⟩:∃ A,D.appendL l (vO l d) d.bs=A:=⟨_,rfl⟩
  rw[hA] at hΦ hok'
  refine Nd.b2 e3 (Nd.b1 (by rw[aD];exact(rk (m2.t m3)).2.2.1) (Nd.b2 e4 (Nd.s1 (Nd.b1 (by rw[aD];exact Pg.p1 H5) (Nd.j2 (Ψ:=fun r=>r.1=A.1∧∃ g',Hp F0 g0 w0 g' r.2 (lgR c x A.2.2::dkR x A.2.1::pgR p x c y e::rdR y D::rlR e y l::owR 5 1 s4 (nums .u8 d.bs)::L)∧Mo g1 w4 g' r.2) ?_ ?_)))))
  ·refine xK hok.wf (Pg.lg H5) (fun L' H m=>by obtain⟨F,hF⟩:=H.mem (r:=owR 5 1 s4 (nums .u8 d.bs)) (by simp);exact hF.1.rd) (by omega) fun g' w' H' m'=>?_
   rw[hA] at H' ⊢
   exact⟨rfl,g',H',m'⟩
  rintro _ w6 ⟨rfl,g6,H6,m6⟩
  simp only at H6 m6 ⊢
  obtain⟨w7,e7,H7,m7⟩:=H6.dr
  have mB:=mA.t (m6.t m7)
  refine Nd.b1 e7 (Nd.b1 (by rw[aD];exact Pg.p3 H7.m2) (Nd.b1 (by rw[aD];exact(rk mB).2.2.1) (Nd.j2 (Ψ:=fun r=>r.1=A.1∧∃ g',Hp F0 g0 w0 g' r.2 (rlR e y A.2.2::rdR y A.2.1::lgR c x A.2.2::dkR x A.2.1::pgR p x c y e::owR 5 1 s4 (nums .u8 d.bs)::L)∧Mo g6 w7 g' r.2) ?_ ?_)))
  ·refine aBc hok.wf (Pg.rl H7) (hb.mo (m1.t mB)) hok.bt (by omega) (by omega) (yP hok.wf) fun g' w' H' m'=>?_
   rw[hA] at H' ⊢
   exact⟨rfl,g',H',m'⟩
  rintro _ w8 ⟨rfl,g8,H8,m8⟩
  simp only at H8 m8 ⊢
  have H9:Hp F0 g0 w0 g8 w8 (owR 5 1 s4 (nums .u8 d.bs)::rlR e y A.2.2::rdR y A.2.1::lgR c x A.2.2::dkR x A.2.1::pgR p x c y e::L):=Hp.app_cons (L:=[rlR e y A.2.2,rdR y A.2.1,lgR c x A.2.2,dkR x A.2.1,pgR p x c y e]) H8
  refine Nd.j1 (Ψ:=fun w'=>Φ (true,w')) (aDm hs4 d.bs.length 0 d.bs w8 (by omega) H9 fun w' xs' H' m'=>hΦ g8 w' c e ⟨Pg.back H'.tl,hok'⟩ (m1.t (mB.t (m8.t m')))) (fun w' hw'=>Nd.ret ?_)
  rw[show(A.1==A.1)=true by simp]
  exact hw'
 refine Nd.f (by simpa using t0) ?_
 obtain⟨w2,e2,H2,m2⟩:=H1.dr
 have r2:=rk m2
 by_cases t1:d.k=1
 ·have hD:kF (D,l) d=((D.syncL l).2,l):=by unfold kF;rw[if_neg t0,if_pos t1]
  rw[hD] at hΦ hok'
  obtain⟨w3,e3,H3,m3⟩:=aAy (Pg.lg H2) (by omega)
  obtain⟨g4,w4,e4,H4,m4⟩:=aCv (Pg.rl H3) (by omega)
  refine Nd.t (by simpa using t1) (Nd.b1 e2 (Nd.s1 (Nd.b1 (by rw[aD];exact Pg.p1 H2) (Nd.b2 e3 (Nd.b1 (by rw[aD];exact Pg.p3 H3.m2) (Nd.b2 e4 (Nd.ck (by rw[aD];exact Pg.p3 H2) (Nd.ret ?_))))))))
  rw[show((D.syncL l).1==(D.syncL l).1)=true by simp]
  exact hΦ g4 w4 c e ⟨Pg.back H4,hok'⟩ (m1.t (m2.t (m3.t m4)))
 refine Nd.f (by simpa using t1) ?_
 by_cases t2:d.k=2
 ·have hD:kF (D,l) d=(D.chopL l d.n).2:=by unfold kF;rw[if_neg t0,if_neg t1,if_pos t2]
  rw[hD] at hΦ hok'
  obtain⟨w3,e3,H3,m3⟩:=aEm (t:=d.n) hok.wf (Pg.lg H2) hok.bt (by omega) (by omega)
  obtain⟨⟨v4,w4⟩,e4,g4,rfl,H4,m4⟩:=aDr (t:=d.n) hok.wf (Pg.rl H3) hok.bt (by omega) (by omega) (by omega) (yP hok.wf)
  simp only at H4 m4
  refine Nd.t (by simpa using t2) (Nd.b1 e2 (Nd.s1 (Nd.b1 (by rw[aD];exact Pg.p1 H2) (Nd.b2 e3 (Nd.b1 (by rw[aD];exact Pg.p3 H3.m2) (Nd.b2 e4 (Nd.ck (by rw[aD];exact Pg.p3 H2) (Nd.ret ?_))))))))
  rw[show((D.chopL l d.n).1==(D.chopL l d.n).1)=true by simp]
  exact hΦ g4 w4 c e ⟨Pg.back H4,hok'⟩ (m1.t (m2.t (m3.t m4)))
 refine Nd.f (by simpa using t2) ?_
 by_cases t3:d.k=3
 ·have hD:kF (D,l) d=((D.trip d.n).2,l):=by unfold kF;rw[if_neg t0,if_neg t1,if_neg t2,if_pos t3]
  rw[hD] at hΦ hok'
  obtain⟨w3,e3,H3,m3⟩:=H2.sw.dtrip (m:=d.n) hn1
  obtain⟨g4,w4,e4,H4,m4⟩:=H3.m2.rtrip (m:=d.n) hn1
  refine Nd.t (by simpa using t3) (Nd.b1 e2 (Nd.s1 (Nd.b1 (by rw[aD];exact Pg.p0 H2) (Nd.b2 e3 (Nd.b1 (by rw[aD];exact Pg.p2 H3.sw) (Nd.b2 e4 (Nd.ck (by rw[aD];exact Pg.p2 H2) (Nd.ret ?_))))))))
  rw[show((D.trip d.n).1==(D.trip d.n).1)=true by simp]
  exact hΦ g4 w4 c e ⟨H4.b2.sw,hok'⟩ (m1.t (m2.t (m3.t m4)))
 refine Nd.f (by simpa using t3) ?_
 by_cases t4:d.k=4
 ·obtain⟨k,hk,-,-⟩:=xV (hok.bt.crash d.fs) (by rw[xQ hok.bt,hok.n]) (sP (D:=D) (fs:=d.fs))
  have hD:kF (D,l) d=(((D.crash d.fs).openL 1 3).2.1,k):=by unfold kF;rw[if_neg t0,if_neg t1,if_neg t2,if_neg t3,if_pos t4,hk];rfl
  rw[hD] at hΦ
  obtain⟨w3,e3,H3,m3⟩:=H2.sw.dcrash (hf.mo (m1.t m2)) (by omega)
  obtain⟨g4,w4,e4,H4,m4⟩:=H3.m2.rcrash (hf.mo (m1.t (m2.t m3))) (by omega)
  have H5:=(H4.b2.sw).m3.tl.m3.tl
  have mA:=m1.t (m2.t (m3.t m4))
  refine Nd.t (by simpa using t4) (Nd.j2 (Ψ:=Φ) (Nd.b1 e2 (Nd.s1 (Nd.b1 (by rw[aD];exact Pg.p0 H2) (Nd.b1 (by rw[aD];exact r2.2.2.2) (Nd.b2 e3 (Nd.b1 (by rw[aD];exact Pg.p2 H3.sw) (Nd.b1 (by rw[aD];exact(rk (m2.t m3)).2.2.2) (Nd.b2 e4 (Nd.t (by decide) (Nd.ck (by rw[aD];exact Pg.p2 H2) (Nd.ck (by rw[aD];exact r2.2.2.2) (Nd.j2 (Ψ:=Φ) ?_ (fun a b h=>Nd.ret h))))))))))))) (fun a b h=>Nd.ret h))
  refine aBq H5 (hok.bt.crash d.fs) (by rw[xQ hok.bt,hok.n]) sP (by simp[Dk.crash]) fun g' w' c' e' k' hk' hP m'=>?_
  rw[hk] at hk'
  cases hk'
  exact hΦ g' w' c' e' hP (mA.t m')
 refine Nd.f (by simpa using t4) ?_
 by_cases t5:d.k=5
 ·have hD:kF (D,l) d=((D.write d.n d.bs).2,l):=by unfold kF;rw[if_neg t0,if_neg t1,if_neg t2,if_neg t3,if_neg t4,if_pos t5]
  rw[hD] at hΦ hok'
  obtain⟨w3,e3,H3,m3⟩:=H2.sw.dwrite (i:=d.n) (hb.mo (m1.t m2)).rd (by omega)
  obtain⟨g4,w4,e4,H4,m4⟩:=H3.m2.rwrite (i:=d.n) (hb.mo (m1.t (m2.t m3))).rd (by omega)
  refine Nd.t (by simpa using t5) (Nd.b1 e2 (Nd.s1 (Nd.b1 (by rw[aD];exact Pg.p0 H2) (Nd.b1 (by rw[aD];exact r2.2.2.1) (Nd.b2 e3 (Nd.b1 (by rw[aD];exact Pg.p2 H3.sw) (Nd.b1 (by rw[aD];exact(rk (m2.t m3)).2.2.1) (Nd.b2 e4 (Nd.ck (by rw[aD];exact Pg.p2 H2) (Nd.ck (by rw[aD];exact r2.2.2.1) (Nd.ret ?_)))))))))))
  rw[show((D.write d.n d.bs).1==(D.write d.n d.bs).1)=true by simp]
  exact hΦ g4 w4 c e ⟨H4.b2.sw,hok'⟩ (m1.t (m2.t (m3.t m4)))
 have hD:kF (D,l) d=(D,l):=by unfold kF;rw[if_neg t0,if_neg t1,if_neg t2,if_neg t3,if_neg t4,if_neg t5]
 rw[hD] at hΦ
 obtain⟨s,l1,ls⟩:=H2.m2.rd1
 refine Nd.f (by simpa using t5) (Nd.b1 e2 (Nd.s1 (Nd.b1 (by rw[aD];exact Pg.p0 H2) (Nd.b2 H2.sw.dwaits (Nd.b1 (by rw[aD];exact Pg.p2 H2) (Nd.s1 (Nd.b1 (by rw[aD];exact l1) (Nd.ck (by rw[aD];exact Pg.p2 H2) (Nd.ck (by rw[aD];exact l1) (Nd.ret ?_))))))))))
 rw[ls,show((D.W.length:Int)==(D.W.length:Int))=true by simp]
 exact hΦ g1 w2 c e ⟨H2,hok⟩ (m1.t m2)
end
section
variable {F0 : Nat → Prop} {g g' g0 : Gh} {w w' w0 : World} {L : List Rs} {p x y c e : Nat} {D : Dk} {l : Lg} {s : Sl}
theorem aFe (h:l.Wf):l.events 0 1099511627776=l.vis:=by
 unfold Lg.events Lg.vis
 refine List.filter_congr fun r hr=>?_
 obtain⟨u,hu,hr'⟩:=List.mem_flatMap.1 (show r∈l.used.flatMap fun s=>s.recs from hr)
 have h1:=((h.seg u hu).rb r hr').2.2
 have h2:=(h.seg u hu).h1
 have h3:=h.r0
 by_cases h4:l.rel<r.1
 ·rw[decide_eq_true h4,decide_eq_true (by omega),decide_eq_true (by omega)];rfl
 rw[decide_eq_false h4];simp
theorem aFY (h:l.Wf) {a b:Int} (H:Hp F0 g0 w0 g w (lgR c x l::L)):∃ z w',iD (some ⟨c,0,none⟩) a b w=some (z,w')∧Hp F0 g0 w0 g w' (wG z (l.events a b)::lgR c x l::L)∧Mo g w g w':=by
 refine xJ (fun q hq=>⟨?_,fun r hr=>?_⟩) (by have:=h.len;omega) H
 ·have:=(h.seg q hq).rn;have:=(h.seg q hq).f1;omega
 have:=((h.seg q hq).rb r hr).1;omega
theorem aBF (h:Pg F0 g0 w0 g w p x c y e (D,l) L):Ex (eJ (some ⟨p,0,none⟩) w) fun r=>r.1=true∧Pg F0 g0 w0 g r.2 p x c y e (D,l) L∧Mo g w g r.2:=by
 have hok:=h.ok
 have H:=h.H
 simp only at H hok
 have hw:=hok.wf
 obtain⟨su,sr,rz,hz,H0⟩:=(H.m4).rlo
 -- H0: log of the document,its segments,its records,pair,disks,log
 have hA:ldA 4 w ⟨e,4,none⟩ 0=some [.int .i64 l.high,.int .i64 l.rel,su.v,sr.v]:=by rw[nJ H0.bx (by exact Nat.le_refl _)];rfl
 obtain⟨b9,w1,e1,H1,m1⟩:=H0.box (T:=130) (cs:=[.int .i64 0,.int .i64 0,.slice none 0 0,.slice none 0 0])
 obtain⟨w2,e2,H2,m2,l2⟩:=H1.stA' (vs:=[.int .i64 l.high,.int .i64 l.rel,su.v,sr.v]) rfl (by intro v hv;simp at hv;rcases hv with rfl | rfl | rfl | rfl<;>rfl)
 obtain⟨w3,e3,H3,m3⟩:=H2.dr
 have hsu:l.used.length=su.n:=by have:=H3.m2.ow.len;rw[cL cN] at this;omega
 -- the log of the program first
 have H4:Hp F0 g0 w0 g w3 (lgR c x l::bxR b9 [.int .i64 l.high,.int .i64 l.rel,su.v,sr.v] 130::cA e (rlC y l.base l.segs l.age l.high l.rel su sr)::rsR su l.used::rcR sr rz::pgR p x c y e::dkR x D::rdR y D::L):=Hp.app_cons (L:=[bxR b9 [.int .i64 l.high,.int .i64 l.rel,su.v,sr.v] 130,cA e (rlC y l.base l.segs l.age l.high l.rel su sr),rsR su l.used,rcR sr rz,pgR p x c y e,dkR x D,rdR y D]) H3
 have hp:∀ {w'},Hp F0 g0 w0 g w' (lgR c x l::bxR b9 [.int .i64 l.high,.int .i64 l.rel,su.v,sr.v] 130::cA e (rlC y l.base l.segs l.age l.high l.rel su sr)::rsR su l.used::rcR sr rz::pgR p x c y e::dkR x D::rdR y D::L)→Hp F0 g0 w0 g w' (pgR p x c y e::lgR c x l::bxR b9 [.int .i64 l.high,.int .i64 l.rel,su.v,sr.v] 130::cA e (rlC y l.base l.segs l.age l.high l.rel su sr)::rsR su l.used::rcR sr rz::dkR x D::rdR y D::L) :=
  fun H=>Hp.app_cons (L:=[lgR c x l,bxR b9 [.int .i64 l.high,.int .i64 l.rel,su.v,sr.v] 130,cA e (rlC y l.base l.segs l.age l.high l.rel su sr),rsR su l.used,rcR sr rz]) H
 obtain⟨z,w5,e5,H5,m5⟩:=aFY (a:=0) (b:=1099511627776) hw H4
 rw[aFe hw] at H5
 have r5:=aBG H5
 have mA:=m1.t (m2.t (m3.t m5))
 have q5:=(hz.mo mA).rrd H5.tl.m4
 obtain⟨w6,e6,c6,f6⟩:=aBy r5 q5 (by have:=yP hw;omega)
 have H6:=H5.tl.old f6
 have m6:=H5.tl.mold f6
 have hd:∀ {w'},Hp F0 g0 w0 g w' (lgR c x l::bxR b9 [.int .i64 l.high,.int .i64 l.rel,su.v,sr.v] 130::cA e (rlC y l.base l.segs l.age l.high l.rel su sr)::rsR su l.used::rcR sr rz::pgR p x c y e::dkR x D::rdR y D::L)→dN (some ⟨x,0,none⟩) w'=some (D.down,w')∧ldB w' ⟨y,3,none⟩=some D.down:=fun H =>
  ⟨(Hp.app_cons (L:=[lgR c x l,bxR b9 [.int .i64 l.high,.int .i64 l.rel,su.v,sr.v] 130,cA e (rlC y l.base l.segs l.age l.high l.rel su sr),rsR su l.used,rcR sr rz,pgR p x c y e]) H).ddown,(Hp.app_cons (L:=[lgR c x l,bxR b9 [.int .i64 l.high,.int .i64 l.rel,su.v,sr.v] 130,cA e (rlC y l.base l.segs l.age l.high l.rel su sr),rsR su l.used,rcR sr rz,pgR p x c y e,dkR x D]) H).rd3⟩
 have l9:∀ {w'},Hp F0 g0 w0 g w' (lgR c x l::bxR b9 [.int .i64 l.high,.int .i64 l.rel,su.v,sr.v] 130::cA e (rlC y l.base l.segs l.age l.high l.rel su sr)::rsR su l.used::rcR sr rz::pgR p x c y e::dkR x D::rdR y D::L)→ldI .i64 w' ⟨b9,0,none⟩=some l.high∧ldI .i64 w' ⟨b9,1,none⟩=some l.rel∧ldL w' ⟨b9,2,none⟩=some su∧ldL w' ⟨b9,3,none⟩=some sr:=fun H=>⟨H.sw.ldI rfl,H.sw.ldI rfl,H.sw.ldL rfl,H.sw.ldL rfl⟩
 have p1:∀ {w'},Hp F0 g0 w0 g w' (lgR c x l::bxR b9 [.int .i64 l.high,.int .i64 l.rel,su.v,sr.v] 130::cA e (rlC y l.base l.segs l.age l.high l.rel su sr)::rsR su l.used::rcR sr rz::pgR p x c y e::dkR x D::rdR y D::L)→ldP w' ⟨p,0+1,none⟩=some (some ⟨c,0,none⟩)∧ldP w' ⟨p,0+0,none⟩=some (some ⟨x,0,none⟩)∧ldP w' ⟨p,0+2,none⟩=some (some ⟨y,0,none⟩):=fun H=>⟨Pg.p1 (hp H),Pg.p0 (hp H),Pg.p2 (hp H)⟩
 have k3:=l9 H4
 have k5:=l9 H5.tl
 have j3:=p1 H4
 have j5:=p1 H5.tl
 have j6:=p1 H6
 have d6:=hd H6
 unfold eJ
 refine Ex.s1 (Ex.b1 (by rw[aD];exact Pg.p3 H) (Ex.s1 (Ex.b1 (by rw[aD];exact hA) (Ex.b2 e1 (Ex.b1 e2 (Ex.j2 (Ψ:=fun r=>r.1=true∧Pg F0 g0 w0 g r.2 p x c y e (D,l) L∧Mo g w g r.2) ?_ (fun a b h=>Ex.ret h)))))))
 refine Ex.b1 e3 (Ex.b1 (by rw[aD];exact j3.1) (Ex.b2 (aBf H4) (Ex.b1 (by rw[aD];exact k3.1) (Ex.t (by simp) (Ex.b1 (by rw[aD];exact j3.1) (Ex.b2 (aFp H4) (Ex.b1 (by rw[aD];exact k3.2.1) (Ex.t (by simp) (Ex.b1 (by rw[aD];exact j3.1) (Ex.b2 (aEs H4) (Ex.b1 (by rw[aD];exact k3.2.2.1) (Ex.t (by simp;omega)
  (Ex.b1 (by rw[aD];exact j3.1) (Ex.b2 e5 (Ex.b1 (by rw[aD];exact k5.2.2.2) (Ex.b2 e6 (Ex.t rfl (Ex.b1 (by rw[aD];exact j6.2.1) (Ex.b2 d6.1 (Ex.b1 (by rw[aD];exact j6.2.2) (Ex.s1 (Ex.b1 (by rw[aD];exact d6.2) (Ex.ck (by rw[aD];exact k3.1) (Ex.ck (by rw[aD];exact k3.2.1) (Ex.ck (by rw[aD];exact k3.2.2.1) (Ex.ck (by rw[aD];exact k3.2.2.2) (Ex.ck (by rw[aD];exact j6.2.2) (Ex.ck (by rw[aD];exact d6.2) (Ex.ret ⟨by simp,⟨?_,hok⟩,mA.t m6⟩)))))))))))))))))))))))))))))
 -- H6: log,box,document's log (3),pair,disks
 have H7:=H6.sw.tl
 -- log,block,segments,records,pair,disks
 have H8:=Hp.rli (hz.mo (mA.t m6)) H7.b3
 exact H8.sw.m4.m4.m4
theorem aAn (h:Pg F0 g0 w0 g w p x c y e (D,l) L) (hW:D.W.length<900000):Ex (dV (some ⟨p,0,none⟩) w) fun r=>r.1=true∧Pg F0 g0 w0 g r.2 p x c y e (D,l) L∧Mo g w g r.2:=by
 unfold dV
 have l1:Ex (bH (fun s:Int×World=>eD (some ⟨p,0,none⟩) s.1 s.2) (0,w)) fun r=>∃ w',r = .inl w'∧Pg F0 g0 w0 g w' p x c y e (D,l) L∧Mo g w g w':=by
  refine Ex.loop (fun (m:Nat) (s:Int×World)=>s.1+(m:Int)=52∧0≤s.1∧Pg F0 g0 w0 g s.2 p x c y e (D,l) L∧Mo g w g s.2) ?_ 52 _ ⟨rfl,by simp,h,Mo.r⟩
  rintro m ⟨i,w1⟩ ⟨hm,hi,h1,m1⟩
  have H1:=h1.H
  simp only at hm hi H1 m1 ⊢
  unfold eD
  by_cases hc:i<52
  ·obtain⟨o2,w2,T2,e2,H2,m2⟩:=H1.sw.dsure i
   obtain⟨o3,w3,T3,e3,H3,m3⟩:=(H2.m3).rsure i
   -- o3,second disk,o2,first disk,pair
   obtain⟨o4,w4,T4,e4,H4,m4⟩:=(H3.m3).dread i (by omega)
   -- o4,first disk,o3,second disk,o2,pair
   obtain⟨o5,w5,T5,e5,H5,m5⟩:=(H4.m3).rread i (by omega)
   -- o5,second disk,o4,first disk,o3,o2,pair
   have b5:b2s o5 w5=some (strOfNums (D.read i).1):=mU H5.ow.rd
   have b4:b2s o4 w5=some (strOfNums (D.read i).1):=mU H5.m2.ow.rd
   have b3:b2s o3 w5=some (strOfNums (D.sure i).1):=mU H5.m4.ow.rd
   have b2:b2s o2 w5=some (strOfNums (D.sure i).1):=mU (Hp.ow (Hp.app_cons (L:=[owR T5 1 o5 (nums .u8 (D.read i).1),rdR y D,owR T4 1 o4 (nums .u8 (D.read i).1),dkR x D,owR T3 1 o3 (nums .u8 (D.sure i).1)]) H5)).rd
   have P3:ldP w3 ⟨p,0+0,none⟩=some (some ⟨x,0,none⟩):=Pg.p0 (H3.m4)
   have P4:ldP w4 ⟨p,0+2,none⟩=some (some ⟨y,0,none⟩):=Pg.p2 (Hp.app_cons (L:=[owR T4 1 o4 (nums .u8 (D.read i).1),dkR x D,owR T3 1 o3 (nums .u8 (D.sure i).1),rdR y D,owR T2 1 o2 (nums .u8 (D.sure i).1)]) H4)
   refine Ex.t (by simpa using hc) (Ex.s1 (Ex.b1 (by rw[aD];exact Pg.p0 H1) (Ex.b3 e2 (Ex.b1 (by rw[aD];exact Pg.p2 H2.m2) (Ex.b3 e3 (Ex.b1 (by rw[aD];exact P3) (Ex.b3 e4 (Ex.b1 (by rw[aD];exact P4) (Ex.b3 e5 (Ex.b2 (a:=false) (b:=w5) ?_ (Ex.f (by simp) (Ex.ret ?_))))))))))))
   ·rw[if_neg (by simp),if_neg (by simp),b2,aHW,b3,aHW,if_neg (by simp[vK]),b4,aHW,b5,aHW,vK];rfl
   have hw:IntKind.wrap .i64 (i+1)=i+1:=by rw[IntKind.wrap_i64];omega
   have H6:=H5.tl.sw.tl
   -- first disk ..: second,first,o3,o2,pair
   have H7:Hp F0 g0 w0 g w5 (rdR y D::dkR x D::pgR p x c y e::lgR c x l::rlR e y l::L):=H6.m2.tl.m2.tl
   exact⟨m-1,by omega,by simp only[hw];omega,by simp only[hw];omega,⟨H7.b2.sw,h1.ok⟩,m1.t (m2.t (m3.t (m4.t m5)))⟩
  exact Ex.f (by simpa using hc) (Ex.ret ⟨w1,rfl,h1,m1⟩)
 refine Ex.j1 l1 ?_
 rintro r ⟨w1,rfl,h1,m1⟩
 simp only[Sum.elim_inl,u1]
 exact Ex.ret ⟨rfl,h1,m1⟩
def rB (D:Dk) (d:Dg):Dk:=(D.write d.n d.bs).2
theorem aBt {D:Dk} (hb:D.Bt) (hn:D.S.length=52) (hc:D.Calm) {d:Dg} (hd:bR d.bs):(rB D d).Bt∧(rB D d).S.length=52∧(rB D d).Calm∧(rB D d).W.length≤D.W.length+1:=by
 have h:=mP D d.n hd
 exact⟨h.b hb,by unfold rB;rw[rU,hn],zB hc _ _,h.w⟩
theorem aFA {ds:List Dg} {v:List Value} (hs:PL dgR 4 g w s ds) (hv:v[0]?=some (.pointer (some ⟨x,0,none⟩))∧v[2]?=some (.pointer (some ⟨y,0,none⟩))) {Φ:(World⊕(Addr×Bool×World))→Prop}:∀ (m i:Nat) (w1:World) (g1:Gh) (D:Dk),i+m=min ds.length 200→D.Bt→D.S.length=52→D.Calm→D.W.length≤i→Mo g w g1 w1 →
  Hp F0 g0 w0 g1 w1 (bxR p v 85::dkR x D::rdR y D::L) →
  (∀ g' w',Hp F0 g0 w0 g' w' (bxR p v 85::dkR x (((ds.take 200).drop i).foldl rB D)::rdR y (((ds.take 200).drop i).foldl rB D)::L)→Mo g1 w1 g' w'→Φ (.inl w')) →
  (fA (fun r:Int×World=>eX s ⟨p,0,none⟩ r.1 r.2) ((i:Int),w1)).t Φ:=by
 intro m
 induction m with
 | zero =>
  intro i w1 g1 D him hb hn hc hW hm H hΦ
  have hd:(ds.take 200).drop i=[]:=List.drop_of_length_le (by rw[List.length_take];omega)
  have hln:=hs.len
  rw[hd] at hΦ
  refine Nd.next ?_
  unfold eX
  refine Nd.j2 (Ψ:=fun r=>r=(false,w1)) ?_ ?_
  ·by_cases hl:(i:Int)<s.n
   ·exact Nd.t (by simpa using hl) (Nd.ret (by rw[decide_eq_false (by omega)]))
   exact Nd.f (by simpa using hl) (Nd.ret rfl)
  rintro _ _ he;cases he
  exact Nd.f (by simp) (Nd.ret (hΦ g1 w1 H Mo.r))
 | succ m ih =>
  intro i w1 g1 D him hb hn hc hW hm H hΦ
  have hi:i<ds.length:=by omega
  have hln:=hs.len
  obtain⟨a,cs,ea,ga,hl4,hR,hcl⟩:=hs.at_ i ds[i] (List.getElem?_eq_getElem hi)
  obtain⟨b,f,rfl,pb,pf,hby,-,-,hbz⟩:=hR
  have hcell:∀ {g' w'} (j:Nat) (v:Value),Mo g1 w1 g' w'→[Value.int .i64 ds[i].k,.int .i64 ds[i].n,b.v,f.v][j]?=some v→w'.cell? (a.add j)=some v:=fun j v m hv=>by
   have hb':(a.add j).block=a.block:=by unfold Addr.add;split<;>rfl
   exact(hm.t m).cell (by rw[hb'];exact ga) (hcl j v hv)
  have hwk:=aBt hb hn hc hby
  have hdrop:(ds.take 200).drop i=ds[i]::(ds.take 200).drop (i+1):=by
   have hlt:i<(ds.take 200).length:=by rw[List.length_take];omega
   rw[List.drop_eq_getElem_cons hlt,List.getElem_take]
  rw[hdrop] at hΦ
  obtain⟨w2,e2,H2,m2⟩:=H.dr
  obtain⟨w3,e3,H3,m3⟩:=H2.sw.dwrite (i:=ds[i].n) (pb.mo (hm.t m2)).rd (by omega)
  obtain⟨g4,w4,e4,H4,m4⟩:=H3.m2.rwrite (i:=ds[i].n) (pb.mo (hm.t (m2.t m3))).rd (by omega)
  have n2:∀ {g' w'},Mo g1 w1 g' w'→ldI .i64 w' (a.add 1)=some ds[i].n:=fun m=>kT (hcell 1 _ m rfl)
  have b2:∀ {g' w'},Mo g1 w1 g' w'→ldL w' (a.add 2)=some b:=fun m=>rI (hcell 2 _ m rfl)
  have P0:ldP w2 ⟨p,0+0,none⟩=some (some ⟨x,0,none⟩):=qB H2.bx hv.1
  have P2:ldP w2 ⟨p,0+2,none⟩=some (some ⟨y,0,none⟩):=qB H2.bx hv.2
  have P3:ldP w3 ⟨p,0+2,none⟩=some (some ⟨y,0,none⟩):=qB H3.sw.bx hv.2
  refine Nd.next ?_
  unfold eX
  refine Nd.j2 (Ψ:=fun r=>r=(true,w1)) (Nd.t (by simp;omega) (Nd.ret (by rw[decide_eq_true (by omega)]))) ?_
  rintro _ _ he;cases he
  refine Nd.t rfl (Nd.b1 e2 (Nd.b1 (by rw[aD];exact P0) (Nd.b1 ea (Nd.b1 (n2 m2) (Nd.b1 ea (Nd.b1 (b2 m2) (Nd.b2 e3 (Nd.b1 (by rw[aD];exact P3) (Nd.b1 ea (Nd.b1 (n2 (m2.t m3)) (Nd.b1 ea (Nd.b1 (b2 (m2.t m3)) (Nd.b2 e4 (Nd.ck (by rw[aD];exact P2) (Nd.ck (n2 m2) (Nd.ck (b2 m2) (Nd.f (by simp) (Nd.ret ?_))))))))))))))))))
  show(fA _ (IntKind.wrap .i64 ((i:Int)+1),w4)).t Φ
  rw[bX (by omega)]
  exact ih (i+1) w4 g4 (rB D ds[i]) (by omega) hwk.1 hwk.2.1 hwk.2.2.1 (by omega) (hm.t (m2.t (m3.t m4))) H4.b2.sw (fun g' w' H' m'=>hΦ g' w' H' (m2.t (m3.t (m4.t m'))))
theorem aFn {ds:List Dg} (hd:∀ d∈ds,bR d.bs):∀ {D:Dk},D.Bt→D.S.length=52→D.Calm→(ds.foldl rB D).Bt∧(ds.foldl rB D).S.length=52∧(ds.foldl rB D).Calm∧(ds.foldl rB D).W.length≤D.W.length+ds.length:=by
 induction ds with
 | nil=>exact fun h1 h2 h3=>⟨h1,h2,h3,Nat.le_refl _⟩
 | cons d ds ih =>
  intro D h1 h2 h3
  obtain⟨k1,k2,k3,k4⟩:=aBt h1 h2 h3 (hd d (by simp))
  obtain⟨j1,j2,j3,j4⟩:=ih (fun d hd'=>hd d (by simp[hd'])) k1 k2 k3
  exact⟨j1,j2,j3,by rw[List.foldl_cons,List.length_cons];omega⟩
theorem aCV {ds:List Dg} (hs:PL dgR 4 g w s ds) (H:Hp F0 g0 w0 g w L) {Φ:Option Addr×Bool×World→Prop}
  (hΦ:∀ g' w' p x c y e l,(((ds.take 200).foldl rB (Dk.new 52)).openL 1 3).2.2=some l→Pg F0 g0 w0 g' w' p x c y e ((((ds.take 200).foldl rB (Dk.new 52)).openL 1 3).2.1,l) L→(((ds.take 200).foldl rB (Dk.new 52)).openL 1 3).2.1.W.length≤2000→Mo g w g' w'→Φ (some ⟨p,0,none⟩,true,w')):(iI s w).t Φ:=by
 obtain⟨p,w1,e1,H1,m1⟩:=H.box (T:=85) (cs:=List.replicate 4 (.pointer none))
 obtain⟨x,w2,e2,H2,m2⟩:=H1.dnew (m:=52) (by omega) (by omega)
 obtain⟨w3,e3,H3,m3⟩:=H2.sw.stV (o:=0) (x:=.pointer (some ⟨x,0,none⟩)) (by simp) rfl
 obtain⟨y,g4,w4,e4,H4,m4⟩:=H3.rnew (m:=52) (by omega) (by omega)
 obtain⟨w5,e5,H5,m5⟩:=H4.sw.stV (o:=2) (x:=.pointer (some ⟨y,0,none⟩)) (by simp) rfl
 have H6:Hp F0 g0 w0 g4 w5 (bxR p [.pointer (some ⟨x,0,none⟩),.pointer none,.pointer (some ⟨y,0,none⟩),.pointer none] 85::dkR x (Dk.new 52)::rdR y (Dk.new 52)::L):=H5.s2
 have mA:=m1.t (m2.t (m3.t (m4.t m5)))
 have hdb:∀ d∈ds.take 200,bR d.bs:=fun d hd=>by
  obtain⟨i,hi,he⟩:=List.getElem_of_mem (List.mem_of_mem_take hd)
  obtain⟨_,_,_,_,_,hR,_⟩:=hs.at_ i d (by rw[List.getElem?_eq_getElem hi,he])
  obtain⟨_,_,_,_,_,hby,_⟩:=hR
  exact hby
 have hn52:(Dk.new 52).S.length=52:=by simp[Dk.new]
 obtain⟨k1,k2,k3,k4⟩:=aFn hdb (yB 52) hn52 (⟨rfl,rfl⟩:(Dk.new 52).Calm)
 have hW0:(Dk.new 52).W.length=0:=rfl
 have hlt:(ds.take 200).length≤200:=by rw[List.length_take];omega
 unfold iI
 refine Nd.b2 e1 (Nd.b3 e2 (Nd.b1 (by rw[aD];exact e3) (Nd.b3 e4 (Nd.b1 (by rw[aD];exact e5) (Nd.j2 (Ψ:=fun r=>r=(false,w5)) (Nd.f (by decide) (Nd.f (by decide) (Nd.b1 (qB H6.bx rfl) (Nd.ret rfl)))) ?_)))))
 rintro _ _ he;cases he
 refine Nd.f (by simp) (Nd.j1 (Ψ:=fun o=>∃ w' g',o = .inl w'∧Hp F0 g0 w0 g' w' (bxR p [.pointer (some ⟨x,0,none⟩),.pointer none,.pointer (some ⟨y,0,none⟩),.pointer none] 85::dkR x ((ds.take 200).foldl rB (Dk.new 52))::rdR y ((ds.take 200).foldl rB (Dk.new 52))::L)∧Mo g w g' w')
  (aFA (PL.mo (R:=dgR) aAL hs mA) ⟨rfl,rfl⟩ (min ds.length 200) 0 w5 g4 (Dk.new 52) (by omega) (yB 52) hn52 ⟨rfl,rfl⟩ (by simp[hW0]) Mo.r H6 fun g' w' H' m'=>⟨w',g',rfl,by rw[List.drop_zero] at H';exact H',mA.t m'⟩) ?_)
 rintro _ ⟨w6,g6,rfl,H7,m7⟩
 simp only[Sum.elim_inl,u1]
 obtain⟨l0,hl0,-,ho,-,hWo,-⟩:=xV k1 k2 k3
 refine Nd.j3 (Ψ:=fun r=>r.1=⟨p,0,none⟩∧r.2.1=true∧Φ (some ⟨p,0,none⟩,true,r.2.2)) (Nd.j2 (Ψ:=fun r=>r.1=true∧∃ g' c e,Pg F0 g0 w0 g' r.2 p x c y e ((((ds.take 200).foldl rB (Dk.new 52)).openL 1 3).2.1,l0) L∧Mo g w g' r.2) (aBq H7 k1 k2 k3 (by omega) fun g' w' c e l hl hP m'=>?_) ?_) ?_
 ·rw[hl0] at hl;cases hl
  exact⟨rfl,g',c,e,hP,m7.t m'⟩
 ·rintro _ w8 ⟨rfl,g8,c,e,hP,m8⟩
  simp only at hP m8
  obtain⟨⟨v9,w9⟩,e9,rfl,hP9,m9⟩:=aBF hP
  simp only at hP9 m9
  exact Nd.t rfl (Nd.b1 (by rw[aD];exact Pg.p1 hP.H) (Nd.t (by simp) (Nd.b2 e9 (Nd.ret ⟨rfl,rfl,hΦ g8 w9 p x c y e l0 hl0 hP9 (by omega) (m8.t m9)⟩))))
 rintro a b w8 ⟨rfl,rfl,h8⟩
 exact Nd.ret h8
end
section
variable {H : Type} {enc : TypeId × Value → H} {w : World} {base fuel : Nat} {spare : Nat → Bool} {held : Bool} {cs : List Value} {x : DataW H × List MemPlace}
theorem aFZ {α:Type} {l:List α} (h:l.length=4):∃ a b c d,l=[a,b,c,d]:=by
 match l,h with
 | [a,b,c,d],_=>exact⟨a,b,c,d,rfl⟩
theorem aEo {m:Nat} {c:List Value} {y:DataW H×List MemPlace} (h:DataW.trod enc Try.prog w base spare held m 82 c=some y) (hx:∀ v∈y.1.weights Try.prog 82,v≤140737488351232):∃ d,dgR (old w) w c d:=by
 obtain⟨xs,m',_,hy,hl,hlen,hf⟩:=DataW.trod_struct Try.underlying82 h
 have hl4:c.length=4:=hl.trans (by kernel_rfl)
 have c1:Try.prog.cellsOf 3=1:=by kernel_rfl
 have c2:Try.prog.cellsOf 72=1:=by kernel_rfl
 have c3:Try.prog.cellsOf 34=1:=by kernel_rfl
 have hlen4:xs.length=4:=hlen
 clear hlen hl
 obtain⟨v0,v1,v2,v3,rfl⟩:=aFZ hl4
 obtain⟨y0,y1,y2,y3,rfl⟩:=aFZ hlen4
 have h0:DataW.trod enc Try.prog w base spare held m' 3 (([v0,v1,v2,v3].drop 0).take (Try.prog.cellsOf 3))=some y0:=hf 0 _ rfl
 have h1:DataW.trod enc Try.prog w base spare held m' 3 (([v0,v1,v2,v3].drop 1).take (Try.prog.cellsOf 3))=some y1:=hf 1 _ rfl
 have h2:DataW.trod enc Try.prog w base spare held m' 72 (([v0,v1,v2,v3].drop 2).take (Try.prog.cellsOf 72))=some y2:=hf 2 _ rfl
 have h3:DataW.trod enc Try.prog w base spare held m' 34 (([v0,v1,v2,v3].drop 3).take (Try.prog.cellsOf 34))=some y3:=hf 3 _ rfl
 simp only[c1,c2,c3,List.drop_zero,List.take_succ_cons,List.take_zero,List.drop_succ_cons,List.getElem?_cons_zero,List.getElem?_cons_succ] at h0 h1 h2 h3
 obtain⟨k,e0,_,_⟩:=DataW.trod_int Try.underlying3 h0
 obtain⟨i,e1,_,wi⟩:=DataW.trod_int Try.underlying3 h1
 rw[hy] at hx
 have w2:∀ v∈y2.1.weights Try.prog 72,v≤140737488351232:=vI Try.underlying82 hx 2 _ y2.1 rfl rfl
 have w3:∀ v∈y3.1.weights Try.prog 34,v≤140737488351232:=vI Try.underlying82 hx 3 _ y3.1 rfl rfl
 obtain⟨b,bs,e2,r2,n2,_,wb⟩:=vD Try.underlying72 Try.underlying5 (by kernel_rfl) (of_decide_eq_true (by kernel_rfl)) h2 w2
 obtain⟨f,fs,e3,r3,n3,_,wf⟩:=vD Try.underlying34 Try.underlying3 (by kernel_rfl) (of_decide_eq_true (by kernel_rfl)) h3 w3
 obtain rfl:=(List.cons.inj e0).1
 obtain rfl:=(List.cons.inj e1).1
 obtain rfl:=(List.cons.inj e2).1
 obtain rfl:=(List.cons.inj e3).1
 exact⟨⟨k,i,bs,fs⟩,b,f,rfl,r2,r3,fun n hn=>aCL (wb n hn),(xC wi).1,(xC wi).2,n2⟩
theorem open_dgs (h:DataW.trod enc Try.prog w base spare held fuel 77 cs=some x) (hx:∀ v∈x.1.weights Try.prog 77,v≤140737488351232):∃ (s:Sl) (ds:List Dg),cs=[Sl.v s]∧PL dgR 4 (old w) w s ds :=
 aCC Try.underlying77 (by kernel_rfl) (by decide) (fun m c y h hx=>aEo h hx) h hx
end
theorem aEH {g g1:Gh} {w w1:World} {s:Sl} {ds:List Dg} (hs:PL dgR 4 g w s ds) (m:Mo g w g1 w1) {i:Nat} (hi:i<ds.length):∃ a cs,ix s (i:Int) 4=some a∧ldA 4 w1 a 0=some cs∧dgR g1 w1 cs ds[i]∧ldI .i64 w1 (a.add 0)=some ds[i].k∧bR ds[i].bs:=by
 obtain⟨a,cs,ea,ga,hl4,hR,hcl⟩:=hs.at_ i ds[i] (List.getElem?_eq_getElem hi)
 have hcell:∀ (j:Nat) (v:Value),cs[j]?=some v→w1.cell? (a.add j)=some v:=fun j v hv=>by
  have hb':(a.add j).block=a.block:=by unfold Addr.add;split<;>rfl
  exact m.cell (by rw[hb'];exact ga) (hcl j v hv)
 refine⟨a,cs,ea,oU 4 w1 a 0 cs hl4 fun j v hv=>by rw[aHX];exact hcell j v hv,aAL hR m,?_,?_⟩
 ·obtain⟨b,f,rfl,_⟩:=hR
  exact kT (hcell 0 _ rfl)
 obtain⟨b,f,_,_,_,hby,_⟩:=hR
 exact hby
def iX (w:World):ND (Bool×World) :=
 lb3 (lQ 52 w) fun v1 v2 w3 =>
 cb2 (if (v2 !=0)=true then
 (aS (true,w3))
 else
 (aS ((v1.isNone),w3))) fun v5 w6 =>
 if v5=true then
 (aS (false,w6))
 else
 (cb3 (mW v1 1 3 w6) fun v11 v12 w13 =>
 cb2 (if (v12 !=0)=true then
 (aS (true,w13))
 else
 (if (v11.isNone)=true then
 (aS (true,w13))
 else
 (lb2 (bsl w13 5 1 [[(.int .u8 97)],[(.int .u8 98)]]) fun s21 w22 =>
 lb2 (cvS Try.prog 72 s21 w22) fun s24 w25 =>
 cb2 (jD v11 5 s24 w25) fun v27 w28 =>
 if (v27 !=0)=true then
 (aS (true,w28))
 else
 (lb2 (kC v11 w28) fun v31 w32 =>
 if (v31 !=0)=true then
 (aS (true,w32))
 else
 (lb2 (fT v1 Sl.nil w32) fun v35 w36 =>
 aS ((v35 !=0),w36)))))) fun v15 w16 =>
 if v15=true then
 (aS (false,w16))
 else
 (cb3 (mW v1 1 3 w16) fun v39 v40 w41 =>
 cb2 (if (v40==0)=true then
 (lb2 (kJ v39 w41) fun v48 w49 =>
 if (v48==5)=true then
 (lb2 (iD v39 0 9 w49) fun v52 w53 =>
 lb2 (bsl w53 5 1 [[(.int .u8 97)],[(.int .u8 98)]]) fun s55 w56 =>
 lb2 (cvS Try.prog 72 s55 w56) fun s58 w59 =>
 lb2 (bsl w59 87 2 [([.int .i64 5,Sl.v s58])]) fun s61 w62 =>
 lb2 (gT v52 s61 w62) fun v64 w65 =>
 aS (v64,w65))
 else
 (aS (false,w49)))
 else
 (aS (false,w41))) fun v43 w44 =>
 aS (v43,w44)))
theorem qW {w Q} (h:(iX w).t Q):Calls Try.prog 37 #[] w fun e w''=>∃ i,e=.returned (.bool i.1)∧Q i∧w''=i.2:=by
 refine aN (n:=66) Try.func37 rfl Try.ntmps37 (by simp) fun a u=>?_
 unfold iX at h
 refine wp_seq<|aA<|qa u rfl fun a u=>aB<|t_n<|wp_seq<|aA<|?_
 obtain⟨v1,v2,w3,e4,h⟩:=h
 refine q u (dc1 u rfl Try.call30 (sC e4)) fun a u=>qm u rfl fun a u=>q u (aQ u rfl rfl) fun a u=>q u (aQ u rfl rfl) fun a u=>qa u rfl fun a u=>qa u rfl fun a u=>aB<|t_n<|wp_seq<|wp_seq<|?_
 refine dD (n:=66) (ι:=Bool×World) (Lf:=fun i=>[(16,(bV i.1)),(1,(pV v1))]) (wf:=fun i=>i.2) (un2 h) (fun i h a u=>?_) (fun h hk8=>?_)
 ·obtain⟨v5,w6⟩:=i
  have u:Has 66 [(16,(bV v5)),(1,(pV v1))] a:=u
  refine t_n<|?_
  refine aT u rfl h (fun b10 h=>?_) (fun b10 h=>?_)
  ·refine wp_seq<|aA<|qa u rfl fun a u=>aB<|t_n<|wp_ret<|t_r<|?_
   exact bE Try.results37 u rfl ⟨(false,w6),rfl,h,rfl⟩
  refine wp_skip<|t_n<|wp_seq<|aA<|qm u rfl fun a u=>?_
  refine lF (ι:=(Option Addr)×Int×World) (pk:=fun i=>(.tuple #[(pV i.1),(iV i.2.1)])) (wf:=fun i=>i.2.2) (xs:=[_,_,_]) (vs:=[(pV v1),(iV 1),(iV 3)]) u ⟨rfl,rfl,rfl,aHY⟩ Try.call32 (pW (un3 h)) (fun i h a u=>?_)
  obtain⟨v11,v12,w13⟩:=i
  refine qm u rfl fun a u=>q u (aQ u rfl rfl) fun a u=>q u (aQ u rfl rfl) fun a u=>qa u rfl fun a u=>qa u rfl fun a u=>aB<|t_n<|wp_seq<|wp_seq<|?_
  refine dD (n:=66) (ι:=Bool×World) (Lf:=fun i=>[(44,(bV i.1)),(1,(pV v1))]) (wf:=fun i=>i.2) (un2 h) (fun i h a u=>?_) (fun h hk18=>?_)
  ·obtain⟨v15,w16⟩:=i
   have u:Has 66 [(44,(bV v15)),(1,(pV v1))] a:=u
   refine t_n<|?_
   refine aT u rfl h (fun b38 h=>?_) (fun b38 h=>?_)
   ·refine wp_seq<|aA<|qa u rfl fun a u=>aB<|t_n<|wp_ret<|t_r<|?_
    exact bE Try.results37 u rfl ⟨(false,w16),rfl,h,rfl⟩
   refine wp_skip<|t_n<|wp_seq<|aA<|qm u rfl fun a u=>?_
   refine lF (ι:=(Option Addr)×Int×World) (pk:=fun i=>(.tuple #[(pV i.1),(iV i.2.1)])) (wf:=fun i=>i.2.2) (xs:=[_,_,_]) (vs:=[(pV v1),(iV 1),(iV 3)]) u ⟨rfl,rfl,rfl,aHY⟩ Try.call32 (pW (un3 h)) (fun i h a u=>?_)
   obtain⟨v39,v40,w41⟩:=i
   refine qm u rfl fun a u=>q u (aQ u rfl rfl) fun a u=>q u (aQ u rfl rfl) fun a u=>qa u rfl fun a u=>qa u rfl fun a u=>aB<|t_n<|wp_seq<|?_
   refine dD (n:=66) (ι:=Bool×World) (Lf:=fun i=>[(0,(bV i.1))]) (wf:=fun i=>i.2) (un2 h) (fun i h a u=>?_) (fun h hk46=>?_)
   ·obtain⟨v43,w44⟩:=i
    have u:Has 66 [(0,(bV v43))] a:=u
    refine t_n<|wp_ret<|?_
    exact bE Try.results37 u rfl ⟨(v43,w44),rfl,h,rfl⟩
   refine aA<|qm u rfl fun a u=>q u (gM u rfl rfl) fun a u=>qm u rfl fun a u=>?_
   refine jB h (fun b47 h=>?_) (fun b47 h=>?_)
   ·refine qg u 52 b47 (aC u rfl) fun a u=>?_
    obtain⟨v48,w49,e50,h⟩:=h
    refine qg u 52 b47 (dc1 u rfl Try.call38 (iO e50)) fun a u=>qg u 52 b47 (gM u rfl rfl) fun a u=>q u (aF u rfl b47 rfl) fun a u=>qm u rfl fun a u=>?_
    refine jB h (fun b51 h=>?_) (fun b51 h=>?_)
    ·refine qg u 57 b51 (aC u rfl) fun a u=>?_
     obtain⟨v52,w53,e54,h⟩:=h
     refine qg u 57 b51 (dc3 u rfl rfl rfl Try.call44 (mK e54)) fun a u=>?_
     obtain⟨s55,w56,e57,h⟩:=h
     refine qg u 57 b51 (iC (vs:=[(0,(.int .u8 97)),(1,(.int .u8 98))]) (ps:=[[(.int .u8 97)],[(.int .u8 98)]]) u ⟨rfl,rfl,rfl,rfl,aHY⟩ ⟨rfl,rfl,rfl,rfl,aHY⟩ rfl aGp aGy aHj (by decide) e57) fun a u=>?_
     obtain⟨s58,w59,e60,h⟩:=h
     refine qg u 57 b51 (aEQ u rfl e60) fun a u=>qg u 57 b51 (dY (vs:=[(0,(iV 5)),(1,(Sl.v s58))]) (pl:=#[(0,1),(1,1)]) (cs:=([.int .i64 5,Sl.v s58])) u ⟨rfl,rfl,rfl,rfl,aHY⟩ aGM aGE (by intro w;kernel_rfl) (by kernel_rfl)) fun a u=>?_
     obtain⟨s61,w62,e63,h⟩:=h
     refine qg u 57 b51 (iC (vs:=[(0,(.agg (List.toArray ([.int .i64 5,Sl.v s58]))))]) (ps:=[([.int .i64 5,Sl.v s58])]) u ⟨rfl,rfl,aHY⟩ ⟨rfl,rfl,aHY⟩ rfl aGF aGJ aGM (by decide) e63) fun a u=>?_
     obtain⟨v64,w65,e66,h⟩:=h
     refine qg u 57 b51 (dc2 u rfl rfl Try.call48 (kP e66)) fun a u=>q u (aF u rfl b51 rfl) fun a u=>qa u rfl fun a u=>aB<|?_
     exact hk46 (v64,w65) h _ (u.sb rfl)
    refine qn u 57 (nm b51) fun a u=>qn u 57 (nm b51) fun a u=>qn u 57 (nm b51) fun a u=>qn u 57 (nm b51) fun a u=>qn u 57 (nm b51) fun a u=>qn u 57 (nm b51) fun a u=>qn u 57 (nm b51) fun a u=>q u (aJ u rfl b51 rfl) fun a u=>qa u rfl fun a u=>aB<|?_
    exact hk46 (false,w49) h _ (u.sb rfl)
   refine qn u 52 (nm b47) fun a u=>qn u 52 (nm b47) fun a u=>qn u 52 (nm b47) fun a u=>q u (aJ u rfl b47 rfl) fun a u=>qm u rfl fun a u=>qn u 57 (nm Bool.false_ne_true) fun a u=>qn u 57 (nm Bool.false_ne_true) fun a u=>qn u 57 (nm Bool.false_ne_true) fun a u=>qn u 57 (nm Bool.false_ne_true) fun a u=>qn u 57 (nm Bool.false_ne_true) fun a u=>qn u 57 (nm Bool.false_ne_true) fun a u=>qn u 57 (nm Bool.false_ne_true) fun a u=>q u (aJ u rfl Bool.false_ne_true rfl) fun a u=>qa u rfl fun a u=>aB<|?_
   exact hk46 (false,w41) h _ (u.sb rfl)
  refine aA<|qm u rfl fun a u=>q u (fP u rfl rfl) fun a u=>qm u rfl fun a u=>?_
  refine jB h (fun b19 h=>?_) (fun b19 h=>?_)
  ·refine qn u 24 (tn b19) fun a u=>qn u 24 (tn b19) fun a u=>q u (aF u rfl b19 rfl) fun a u=>qm u rfl fun a u=>qn u 28 (tn rfl) fun a u=>qn u 28 (tn rfl) fun a u=>qn u 28 (tn rfl) fun a u=>qn u 28 (tn rfl) fun a u=>qn u 28 (tn rfl) fun a u=>q u (aF u rfl rfl rfl) fun a u=>qm u rfl fun a u=>qn u 35 (tn rfl) fun a u=>qn u 35 (tn rfl) fun a u=>qn u 35 (tn rfl) fun a u=>q u (aF u rfl rfl rfl) fun a u=>qm u rfl fun a u=>qn u 40 (tn rfl) fun a u=>qn u 40 (tn rfl) fun a u=>qn u 40 (tn rfl) fun a u=>q u (aF u rfl rfl rfl) fun a u=>aB<|?_
   exact hk18 (true,w13) h _ (u.sb rfl)
  refine qg u 24 (nt b19) (aC u rfl) fun a u=>qg u 24 (nt b19) (iU u rfl rfl aHs) fun a u=>q u (aJ u rfl b19 rfl) fun a u=>qm u rfl fun a u=>?_
  refine jB h (fun b20 h=>?_) (fun b20 h=>?_)
  ·refine qn u 28 (tn b20) fun a u=>qn u 28 (tn b20) fun a u=>qn u 28 (tn b20) fun a u=>qn u 28 (tn b20) fun a u=>qn u 28 (tn b20) fun a u=>q u (aF u rfl b20 rfl) fun a u=>qm u rfl fun a u=>qn u 35 (tn rfl) fun a u=>qn u 35 (tn rfl) fun a u=>qn u 35 (tn rfl) fun a u=>q u (aF u rfl rfl rfl) fun a u=>qm u rfl fun a u=>qn u 40 (tn rfl) fun a u=>qn u 40 (tn rfl) fun a u=>qn u 40 (tn rfl) fun a u=>q u (aF u rfl rfl rfl) fun a u=>aB<|?_
   exact hk18 (true,w13) h _ (u.sb rfl)
  refine qg u 28 (nt b20) (aC u rfl) fun a u=>?_
  obtain⟨s21,w22,e23,h⟩:=h
  refine qg u 28 (nt b20) (iC (vs:=[(0,(.int .u8 97)),(1,(.int .u8 98))]) (ps:=[[(.int .u8 97)],[(.int .u8 98)]]) u ⟨rfl,rfl,rfl,rfl,aHY⟩ ⟨rfl,rfl,rfl,rfl,aHY⟩ rfl aGp aGy aHj (by decide) e23) fun a u=>?_
  obtain⟨s24,w25,e26,h⟩:=h
  refine qg u 28 (nt b20) (aEQ u rfl e26) fun a u=>?_
  refine aCU (ι:=Int×World) (pk:=fun i=>(iV i.1)) (wf:=fun i=>i.2) (xs:=[_,_,_]) (vs:=[(pV v11),(iV 5),(Sl.v s24)]) rfl rfl u (rfl:List.lookup 28 _=_) (nt b20) ⟨rfl,rfl,rfl,aHY⟩ Try.call42 (oE (un2 h)) (fun i h a u=>?_)
  obtain⟨v27,w28⟩:=i
  refine qg u 28 (nt b20) (fP u rfl rfl) fun a u=>q u (aJ u rfl b20 rfl) fun a u=>qm u rfl fun a u=>?_
  refine jB h (fun b30 h=>?_) (fun b30 h=>?_)
  ·refine qn u 35 (tn b30) fun a u=>qn u 35 (tn b30) fun a u=>qn u 35 (tn b30) fun a u=>q u (aF u rfl b30 rfl) fun a u=>qm u rfl fun a u=>qn u 40 (tn rfl) fun a u=>qn u 40 (tn rfl) fun a u=>qn u 40 (tn rfl) fun a u=>q u (aF u rfl rfl rfl) fun a u=>aB<|?_
   exact hk18 (true,w28) h _ (u.sb rfl)
  refine qg u 35 (nt b30) (aC u rfl) fun a u=>?_
  obtain⟨v31,w32,e33,h⟩:=h
  refine qg u 35 (nt b30) (dc1 u rfl Try.call41 (pO e33)) fun a u=>qg u 35 (nt b30) (fP u rfl rfl) fun a u=>q u (aJ u rfl b30 rfl) fun a u=>qm u rfl fun a u=>?_
  refine jB h (fun b34 h=>?_) (fun b34 h=>?_)
  ·refine qn u 40 (tn b34) fun a u=>qn u 40 (tn b34) fun a u=>qn u 40 (tn b34) fun a u=>q u (aF u rfl b34 rfl) fun a u=>aB<|?_
   exact hk18 (true,w32) h _ (u.sb rfl)
  refine qg u 40 (nt b34) (aC u rfl) fun a u=>?_
  obtain⟨v35,w36,e37,h⟩:=h
  refine qg u 40 (nt b34) (mM (xs:=[_,_]) (vs:=[(pV v1),(Sl.v Sl.nil)]) u ⟨rfl,rfl,aHY⟩ Try.call79 (lS e37)) fun a u=>qg u 40 (nt b34) (fP u rfl rfl) fun a u=>q u (aJ u rfl b34 rfl) fun a u=>aB<|?_
  exact hk18 ((v35 !=0),w36) h _ (u.sb rfl)
 refine aA<|qm u rfl fun a u=>q u (fP u rfl rfl) fun a u=>qm u rfl fun a u=>?_
 refine jB h (fun b9 h=>?_) (fun b9 h=>?_)
 ·refine qn u 13 (tn b9) fun a u=>qn u 13 (tn b9) fun a u=>q u (aF u rfl b9 rfl) fun a u=>aB<|?_
  exact hk8 (true,w3) h _ (u.sb rfl)
 refine qg u 13 (nt b9) (aC u rfl) fun a u=>qg u 13 (nt b9) (iU u rfl rfl aGX) fun a u=>q u (aJ u rfl b9 rfl) fun a u=>aB<|?_
 exact hk8 ((v1.isNone),w3) h _ (u.sb rfl)
def lvL:Lg:=⟨1,3,0,0,0,[]⟩
def lvA:Int×Dk×Lg:=(Dk.new 52).appendL lvL 5 [97,98]
def lvD:Dk:=(lvA.2.1.syncL lvA.2.2).2.crash []
theorem lv1:(Dk.new 52).openL 1 3=(0,Dk.new 52,some lvL):=by kernel_rfl
theorem lv2:lvA.1=0:=by kernel_rfl
theorem lv3:(lvA.2.1.syncL lvA.2.2).1=0:=by kernel_rfl
theorem lv4:(lvD.openL 1 3).1=0:=by kernel_rfl
theorem lv5:(lvD.openL 1 3).2.2=some ⟨1,3,1,5,0,[⟨0,1,2,5,[(5,[97,98])]⟩]⟩:=by kernel_rfl
theorem aEu:lvL.Wf:=⟨by decide,by decide,by decide,by decide,by decide,by decide,by decide,(fun s hs=>by cases hs),(by simp[lvL]),(fun s hs=>by cases hs)⟩
theorem aCW:(Dk.new 52).To lvA.2.1 1000:=xL _ _ _ (by intro b hb;simp at hb;rcases hb with rfl | rfl<;>decide)
section
variable {F0 : Nat → Prop} {g g0 : Gh} {w w0 : World} {L : List Rs}
theorem Hp.lit {xs:List Int} {ps:List (List Value)} (H:Hp F0 g0 w0 g w L) (hp:ps=xs.map fun x=>[.int .u8 x]):∃ z g' w1 w2,D.bsl w 5 1 ps=some (z,w1)∧cvS Try.prog 72 z w1=some (z,w2)∧Hp F0 g0 w0 g' w2 L∧Mo g w g' w2∧PR g' w2 z 1 (nums .u8 xs):=by
 obtain⟨w1,w2,e1,e2,r2,f2⟩:=aFV (w:=w) (t:=72) (T:=5) (P:=Try.prog) (m:=ps.length) rfl Try.underlying72 Try.underlying5 (by intro p h;rw[hp] at h;obtain⟨x,_,rfl⟩:=List.mem_map.1 h;rfl)
 have hfl:ps.flatten=nums .u8 xs:=by
  rw[hp]
  clear hp
  induction xs with
  | nil=>rfl
  | cons x xs ih=>simpa[nums] using ih
 rw[hfl] at r2
 have hlt:(0<ps.length→w.heap.size<w2.heap.size):=fun h0=>by
  obtain⟨a,ea,hc⟩:=r2.at_ h0
  have hx:0<xs.length:=by rw[hp] at h0;simpa using h0
  have h1:=hc 0 (.int .u8 xs[0]) (by rw[lL,List.getElem?_eq_getElem hx];rfl)
  simp only[Option.some.injEq] at ea
  subst ea
  exact xT h1
 have n:Nw g w (fun k=>g k∨(0<ps.length∧k=w.heap.size)) w2:=⟨f2 _,fun k hk _=>⟨fun h=>h.elim id (fun h=>by omega),.inl⟩,⟨(f2 (fun _=>False)).size,fun k hk=>⟨.inl hk,(f2 (fun _=>False)).block k (H.lt k hk) id⟩⟩,
  fun k hk=>hk.elim (fun h'=>Nat.lt_of_lt_of_le (H.lt k h') (f2 (fun _=>False)).size) (fun h'=>by rw[h'.2];exact hlt h'.1)⟩
 exact⟨_,_,w1,w2,e1,e2,H.nw n,n.mo,r2,fun a ha h0=>.inr ⟨h0,by cases ha;rfl⟩⟩
theorem aCx (H:Hp F0 g0 w0 g w L) {Φ:Bool×World→Prop} (hΦ:∀ g' w',Hp F0 g0 w0 g' w' L→Mo g w g' w'→Φ (true,w')):(iX w).t Φ:=by
 obtain⟨x,w1,e1,H1,m1⟩:=H.dnew (m:=52) (by decide) (by decide)
 unfold iX
 refine Nd.b3 e1 (Nd.j2 (Ψ:=fun r=>r=(false,w1)) (Nd.f (by decide) (Nd.ret rfl)) ?_)
 rintro _ _ he;cases he
 refine Nd.f (by simp) (Nd.j3 (Ψ:=fun r=>∃ p g',r.1=some ⟨p,0,none⟩∧r.2.1=0∧Hp F0 g0 w0 g' r.2.2 (lgR p x lvL::dkR x (Dk.new 52)::L)∧Mo g w g' r.2.2) (vN H1 (yB _) (by simp[Dk.new]) (by decide) fun g' w' o ho m'=>?_) ?_)
 ·rw[show(52:Int).toNat=52 from rfl,lv1] at ho
  obtain⟨p,rfl,H'⟩:=ho
  exact⟨p,g',rfl,by rw[show(52:Int).toNat=52 from rfl,lv1],H',m1.t m'⟩
 rintro _ _ w2 ⟨p,g2,rfl,rfl,H2,m2⟩
 simp only at H2 m2
 -- the record is appended,and the disk crashes
 refine Nd.j2 (Ψ:=fun r=>r.1=false∧∃ g',Hp F0 g0 w0 g' r.2 (dkR x lvD::L)∧Mo g w g' r.2) (Nd.f (by decide) (Nd.f (by simp) ?_)) ?_
 ·obtain⟨z3,g3,w3,w4,e3,e4,H4,m4,p4⟩:=H2.lit (xs:=[97,98]) (ps:=[[.int .u8 97],[.int .u8 98]]) rfl
  refine Nd.b2 e3 (Nd.b2 e4 (Nd.j2 (Ψ:=fun r=>r.1=0∧∃ g',Hp F0 g0 w0 g' r.2 (lgR p x lvA.2.2::dkR x lvA.2.1::L)∧Mo g w g' r.2) (xK aEu H4 (fun _ _ m=>(p4.mo m).rd) (by simp[Dk.new]) fun g' w' H' m'=>⟨lv2,g',H',m2.t (m4.t m')⟩) ?_))
  rintro _ w5 ⟨h5,g5,H5,m5⟩
  simp only at h5 H5 m5
  subst h5
  have hW:=aCW.w
  have hW0:(Dk.new 52).W.length=0:=rfl
  obtain⟨w6,e6,H6,m6⟩:=aAy H5 (by omega)
  rw[lv3] at e6
  have hW6:=(wB lvA.2.1 lvA.2.2).w
  obtain⟨w7,e7,H7,m7⟩:=(H6.sw).dcrash (f:=Sl.nil) (fs:=[]) (PR.nil rfl) (by omega)
  exact Nd.f (by decide) (Nd.b2 e6 (Nd.f (by decide) (Nd.b2 e7 (Nd.ret ⟨rfl,g5,H7.sw.tl,m5.t (m6.t m7)⟩))))
 rintro _ w8 ⟨h8,g8,H8,m8⟩
 simp only at h8 H8 m8
 subst h8
 have hbt:lvD.Bt:=((wB _ _).b (aCW.b (yB _))).crash []
 refine Nd.f (by simp) (Nd.j3 (Ψ:=fun r=>∃ p g',r.1=some ⟨p,0,none⟩∧r.2.1=0∧Hp F0 g0 w0 g' r.2.2 (lgR p x ⟨1,3,1,5,0,[⟨0,1,2,5,[(5,[97,98])]⟩]⟩::L)∧Mo g w g' r.2.2) (vN H8 hbt (by simp[lvD,Dk.crash]) (by decide) fun g' w' o ho m'=>?_) ?_)
 ·rw[lv5] at ho
  obtain⟨p,rfl,H'⟩:=ho
  exact⟨p,g',rfl,lv4,H'.sw.tl,m8.t m'⟩
 rintro _ _ w9 ⟨q,g9,rfl,rfl,H9,m9⟩
 simp only at H9 m9
 refine Nd.j2 (Ψ:=fun r=>r.1=true∧∃ g',Hp F0 g0 w0 g' r.2 L∧Mo g w g' r.2) (Nd.t (by decide) (Nd.b2 (aBf H9) (Nd.t (by decide) ?_))) ?_
 ·obtain⟨z10,w10,e10,H10,m10⟩:=xJ (a:=0) (b:=9) (by simp) (by simp) H9
  obtain⟨z11,g11,w11,w12,e11,e12,H12,m12,p12⟩:=H10.lit (xs:=[97,98]) (ps:=[[.int .u8 97],[.int .u8 98]]) rfl
  obtain⟨z13,w13,e13,n13,_,H13,m13⟩:=H12.bsl (T:=87) (sz:=2) (ps:=[rcC 5 z11]) (by intro v hv;simp at hv;subst hv;rfl) (by simp)
  have hev:Lg.events ⟨1,3,1,5,0,[⟨0,1,2,5,[(5,[97,98])]⟩]⟩ 0 9=[(5,[97,98])]:=by kernel_rfl
  rw[hev] at H13
  have r1:RRd w13 z10 [(5,[97,98])]:=aBG H13.sw
  have r2:RRd w13 z13 [(5,[97,98])]:=⟨[(5,z11)],H13.ow.rd,rfl,fun j r q hr hq=>by
   cases j with
   | zero=>simp at hr hq;subst hr;subst hq;exact⟨rfl,(p12.mo m13).rd⟩
   | succ j=>simp at hr⟩
  obtain⟨w14,e14,-,f14⟩:=aBy r1 r2 (by simp)
  have H14:=H13.tl.tl.tl.old f14
  exact Nd.b2 e10 (Nd.b2 e11 (Nd.b2 e12 (Nd.b2 e13 (Nd.b2 e14 (Nd.ret ⟨rfl,g11,H14,m9.t (m10.t (m12.t (m13.t (H13.mold f14))))⟩)))))
 rintro _ w15 ⟨h15,g15,H15,m15⟩
 simp only at h15 H15 m15
 subst h15
 exact Nd.ret (hΦ g15 w15 H15 m15)
end
def cV (a1:Sl) (v1:Option Addr) (x13:Bool) (x14:Int) (w15:World):ND ((Bool×Int×World)⊕(Bool×World)) :=
 cb2 (if x13=true then
 (if (decide (x14<(a1.n:Int)))=true then
 (aS ((decide (x14<40)),w15))
 else
 (aS (false,w15)))
 else
 (aS (false,w15))) fun v22 w23 =>
 if v22=true then
 (cb2 (lb1 (ix a1 x14 4) fun p33 =>
 lb1 (ldA 4 w23 p33 0) fun c35 =>
 cb2 (gS v1 c35 w23) fun v37 w38 =>
 if v37=true then
 (lb2 (eJ v1 w38) fun v41 w42 =>
 aS (v41,w42))
 else
 (aS (false,w38))) fun v29 w30 =>
 aS (.inl (v29,(IntKind.wrap .i64 (x14+1)),w30)))
 else
 (aS (.inr (x13,w23)))
def hU (a0:Sl) (a1:Sl) (w:World):ND (Bool×World) :=
 cb3 (iI a0 w) fun v1 v2 w3 =>
 cb2 (if v2=true then
 (lb2 (dV v1 w3) fun v10 w11 =>
 aS (v10,w11))
 else
 (aS (false,w3))) fun v5 w6 =>
 cb2 (fA (fun s:Bool×Int×World=>cV a1 v1 s.1 s.2.1 s.2.2) (v5,0,w6)) fun v18 w19 =>
 cb2 (cb2 (iX w19) fun v48 w49 =>
 if v48=true then
 (if v18=true then
 (lb2 (dV v1 w49) fun v53 w54 =>
 aS (v53,w54))
 else
 (aS (false,w49)))
 else
 (aS (false,w49))) fun v44 w45 =>
 aS (v44,w45)
theorem grapevinelaw11_EvlogReads_ok {a0 a1 w Q} (h:(hU a0 a1 w).t Q):Calls Try.prog 14 #[(Sl.v a0),(Sl.v a1)] w fun e w''=>∃ i,e=.returned (.bool i.1)∧Q i∧w''=i.2:=by
 refine aN (n:=49) Try.func14 rfl Try.ntmps14 (by simp) fun a u=>?_
 unfold hU at h
 refine wp_seq<|aA<|qa u rfl fun a u=>aB<|t_n<|wp_seq<|aA<|qm u rfl fun a u=>?_
 refine lF (ι:=(Option Addr)×Bool×World) (pk:=fun i=>(.tuple #[(pV i.1),(bV i.2.1)])) (wf:=fun i=>i.2.2) (xs:=[_]) (vs:=[(Sl.v a0)]) u ⟨rfl,aHY⟩ Try.call45 (pY (un3 h)) (fun i h a u=>?_)
 obtain⟨v1,v2,w3⟩:=i
 refine qm u rfl fun a u=>q u (aQ u rfl rfl) fun a u=>q u (aQ u rfl rfl) fun a u=>qa u rfl fun a u=>qa u rfl fun a u=>aB<|t_n<|wp_seq<|?_
 refine dD (n:=49) (ι:=Bool×World) (Lf:=fun i=>[(6,(bV i.1)),(1,(Sl.v a1)),(5,(pV v1))]) (wf:=fun i=>i.2) (un2 h) (fun i h a u=>?_) (fun h hk8=>?_)
 ·obtain⟨v5,w6⟩:=i
  have u:Has 49 [(6,(bV v5)),(1,(Sl.v a1)),(5,(pV v1))] a:=u
  refine t_n<|wp_seq<|wp_seq<|aA<|qa u rfl fun a u=>aB<|t_n<|wp_block<|?_
  refine kY (n:=49) (Lr:=fun i=>[(6,(bV i.1)),(5,(pV v1))]) (wr:=fun i=>i.2) (e:=.exit 0) (I:=fun (s:Bool×Int×World) a w=>Has 49 [(6,(bV s.1)),(7,(iV s.2.1)),(1,(Sl.v a1)),(5,(pV v1))] a∧w=s.2.2) (un2 h) ⟨u.sub ⟨rfl,rfl,rfl,rfl,aHY⟩,rfl⟩ (fun i h a u=>?_) (fun hk20=>?_)
  ·obtain⟨v18,w19⟩:=i
   have u:Has 49 [(6,(bV v18)),(5,(pV v1))] a:=u
   refine dS<|t_n<|wp_seq<|?_
   refine dD (n:=49) (ι:=Bool×World) (Lf:=fun i=>[(4,(bV i.1))]) (wf:=fun i=>i.2) (un2 h) (fun i h a u=>?_) (fun h hk47=>?_)
   ·obtain⟨v44,w45⟩:=i
    have u:Has 49 [(4,(bV v44))] a:=u
    refine t_n<|wp_ret<|?_
    exact bE Try.results14 u rfl ⟨(v44,w45),rfl,h,rfl⟩
   refine aA<|?_
   refine lF (ι:=Bool×World) (pk:=fun i=>(bV i.1)) (wf:=fun i=>i.2) (xs:=[]) (vs:=[]) u trivial Try.call37 (qW (un2 h)) (fun i h a u=>?_)
   obtain⟨v48,w49⟩:=i
   refine qm u rfl fun a u=>?_
   refine jB h (fun b51 h=>?_) (fun b51 h=>?_)
   ·refine qg u 42 b51 (aC u rfl) fun a u=>q u (aF u rfl b51 rfl) fun a u=>qm u rfl fun a u=>?_
    refine jB h (fun b52 h=>?_) (fun b52 h=>?_)
    ·refine qg u 45 b52 (aC u rfl) fun a u=>?_
     obtain⟨v53,w54,e55,h⟩:=h
     refine qg u 45 b52 (dc1 u rfl Try.call50 (kW e55)) fun a u=>q u (aF u rfl b52 rfl) fun a u=>qa u rfl fun a u=>aB<|?_
     exact hk47 (v53,w54) h _ (u.sb rfl)
    refine qn u 45 (nm b52) fun a u=>qn u 45 (nm b52) fun a u=>q u (aJ u rfl b52 rfl) fun a u=>qa u rfl fun a u=>aB<|?_
    exact hk47 (false,w49) h _ (u.sb rfl)
   refine qn u 42 (nm b51) fun a u=>q u (aJ u rfl b51 rfl) fun a u=>qm u rfl fun a u=>qn u 45 (nm Bool.false_ne_true) fun a u=>qn u 45 (nm Bool.false_ne_true) fun a u=>q u (aJ u rfl Bool.false_ne_true rfl) fun a u=>qa u rfl fun a u=>aB<|?_
   exact hk47 (false,w49) h _ (u.sb rfl)
  clear h
  intro hX56
  rintro⟨x13,x14,w15⟩ a wq ⟨u,hwq⟩ h
  obtain rfl:w15=wq:=hwq.symm
  have u:Has 49 [(6,(bV x13)),(7,(iV x14)),(1,(Sl.v a1)),(5,(pV v1))] a:=u
  have h:(cV a1 v1 x13 x14 w15).t _:=h
  unfold cV at h
  refine wp_seq<|wp_seq<|?_
  refine dD (n:=49) (ι:=Bool×World) (Lf:=fun i=>[(28,(bV i.1)),(1,(Sl.v a1)),(5,(pV v1)),(6,(bV x13)),(7,(iV x14))]) (wf:=fun i=>i.2) (un2 h) (fun i h a u=>?_) (fun h hk25=>?_)
  ·obtain⟨v22,w23⟩:=i
   have u:Has 49 [(28,(bV v22)),(1,(Sl.v a1)),(5,(pV v1)),(6,(bV x13)),(7,(iV x14))] a:=u
   refine t_n<|?_
   refine aT u rfl h (fun b28 h=>?_) (fun b28 h=>?_)
   ·refine wp_skip<|t_n<|wp_seq<|wp_block<|?_
    refine dD (n:=49) (ι:=Bool×World) (Lf:=fun i=>[(6,(bV i.1)),(1,(Sl.v a1)),(5,(pV v1)),(7,(iV x14))]) (wf:=fun i=>i.2) (un2 h) (fun i h a u=>?_) (fun h hk32=>?_)
    ·obtain⟨v29,w30⟩:=i
     have u:Has 49 [(6,(bV v29)),(1,(Sl.v a1)),(5,(pV v1)),(7,(iV x14))] a:=u
     refine b_n<|t_n<|aA<|qm u rfl fun a u=>q u (bF u rfl rfl) fun a u=>qa u rfl fun a u=>aB<|?_
     exact⟨(v29,(IntKind.wrap .i64 (x14+1)),w30),⟨u.sb rfl,rfl⟩,h⟩
    refine aA<|qm u rfl fun a u=>qm u rfl fun a u=>qm u rfl fun a u=>?_
    obtain⟨p33,e34,h⟩:=h
    refine q u (bT u rfl rfl aHx aHQ e34) fun a u=>?_
    obtain⟨c35,e36,h⟩:=h
    refine q u (fV u rfl Try.isAgg82 aHQ e36) fun a u=>?_
    refine lF (ι:=Bool×World) (pk:=fun i=>(bV i.1)) (wf:=fun i=>i.2) (xs:=[_,_]) (vs:=[(pV v1),(.agg (List.toArray c35))]) u ⟨rfl,rfl,aHY⟩ Try.call46 (pL (un2 h)) (fun i h a u=>?_)
    obtain⟨v37,w38⟩:=i
    refine qm u rfl fun a u=>?_
    refine jB h (fun b40 h=>?_) (fun b40 h=>?_)
    ·refine qg u 37 b40 (aC u rfl) fun a u=>?_
     obtain⟨v41,w42,e43,h⟩:=h
     refine qg u 37 b40 (dc1 u rfl Try.call51 (lH e43)) fun a u=>q u (aF u rfl b40 rfl) fun a u=>qa u rfl fun a u=>aB<|?_
     exact hk32 (v41,w42) h _ (u.sb rfl)
    refine qn u 37 (nm b40) fun a u=>qn u 37 (nm b40) fun a u=>q u (aJ u rfl b40 rfl) fun a u=>qa u rfl fun a u=>aB<|?_
    exact hk32 (false,w38) h _ (u.sb rfl)
   refine wp_exit<|t_x<|t_x<|?_
   exact hk20 (x13,w23) h _ (u.sb rfl)
  refine aA<|qm u rfl fun a u=>qm u rfl fun a u=>?_
  refine jB h (fun b26 h=>?_) (fun b26 h=>?_)
  ·refine qg u 19 b26 (aC u rfl) fun a u=>qg u 19 b26 (aC u rfl) fun a u=>qg u 19 b26 (aV u rfl aHx) fun a u=>qg u 19 b26 (cZ u rfl rfl) fun a u=>q u (aF u rfl b26 rfl) fun a u=>qm u rfl fun a u=>?_
   refine jB h (fun b27 h=>?_) (fun b27 h=>?_)
   ·refine qg u 25 b27 (aC u rfl) fun a u=>qg u 25 b27 (cZ u rfl rfl) fun a u=>q u (aF u rfl b27 rfl) fun a u=>aB<|?_
    exact hk25 ((decide (x14<40)),w15) h _ (u.sb rfl)
   refine qn u 25 (nm b27) fun a u=>qn u 25 (nm b27) fun a u=>q u (aJ u rfl b27 rfl) fun a u=>aB<|?_
   exact hk25 (false,w15) h _ (u.sb rfl)
  refine qn u 19 (nm b26) fun a u=>qn u 19 (nm b26) fun a u=>qn u 19 (nm b26) fun a u=>qn u 19 (nm b26) fun a u=>q u (aJ u rfl b26 rfl) fun a u=>qm u rfl fun a u=>qn u 25 (nm Bool.false_ne_true) fun a u=>qn u 25 (nm Bool.false_ne_true) fun a u=>q u (aJ u rfl Bool.false_ne_true rfl) fun a u=>aB<|?_
  exact hk25 (false,w15) h _ (u.sb rfl)
 refine aA<|qm u rfl fun a u=>qm u rfl fun a u=>?_
 refine jB h (fun b9 h=>?_) (fun b9 h=>?_)
 ·refine qg u 14 b9 (aC u rfl) fun a u=>?_
  obtain⟨v10,w11,e12,h⟩:=h
  refine qg u 14 b9 (dc1 u rfl Try.call50 (kW e12)) fun a u=>q u (aF u rfl b9 rfl) fun a u=>qa u rfl fun a u=>aB<|?_
  exact hk8 (v10,w11) h _ (u.sb rfl)
 refine qn u 14 (nm b9) fun a u=>qn u 14 (nm b9) fun a u=>q u (aJ u rfl b9 rfl) fun a u=>qa u rfl fun a u=>aB<|?_
 exact hk8 (false,w3) h _ (u.sb rfl)
section
variable {F0 : Nat → Prop} {g g0 : Gh} {w w0 : World} {L : List Rs} {p x y : Nat} {s : Sl} {ds : List Dg}
theorem aAM (hs:PL dgR 4 g w s ds) {Φ:Bool×World→Prop}:∀ (m i:Nat) (w1:World) (g1:Gh) (c e:Nat) (S:Dk×Lg),i+m=min ds.length 40→S.1.W.length≤2000+1000*i→Mo g w g1 w1→Pg F0 g0 w0 g1 w1 p x c y e S L →
  (∀ g' w' c' e' S',Pg F0 g0 w0 g' w' p x c' y e' S' L→S'.1.W.length≤42000→Mo g1 w1 g' w'→Φ (true,w')) →
  (fA (fun r:Bool×Int×World=>cV s (some ⟨p,0,none⟩) r.1 r.2.1 r.2.2) (true,(i:Int),w1)).t Φ:=by
 intro m
 induction m with
 | zero =>
  intro i w1 g1 c e S him hW hm h hΦ
  have hln:=hs.len
  refine Nd.next ?_
  unfold cV
  refine Nd.j2 (Ψ:=fun r=>r=(false,w1)) (Nd.t rfl ?_) ?_
  ·by_cases hl:(i:Int)<s.n
   ·exact Nd.t (by simpa using hl) (Nd.ret (by show(decide ((i:Int)<40),w1)=(false,w1);rw[decide_eq_false (by omega)]))
   exact Nd.f (by simpa using hl) (Nd.ret rfl)
  rintro _ _ he;cases he
  exact Nd.f (by simp) (Nd.ret (hΦ g1 w1 c e S h (by omega) Mo.r))
 | succ m ih =>
  intro i w1 g1 c e S him hW hm h hΦ
  have hi:i<ds.length:=by omega
  have hln:=hs.len
  obtain⟨a,cs,ea,la,hR,-,hby⟩:=aEH hs hm hi
  obtain⟨D,l⟩:=S
  obtain⟨-,hk⟩:=wW h.ok hby
  simp only at hW hk
  have hdo:=fun {Φ}=>aFG (Φ:=Φ) h hR (by omega)
  obtain⟨S2,hS2⟩:∃ S2,kF (D,l) ds[i]=S2:=⟨_,rfl⟩
  rw[hS2] at hk hdo
  refine Nd.next ?_
  unfold cV
  refine Nd.j2 (Ψ:=fun r=>r=(true,w1)) (Nd.t rfl (Nd.t (by simp;omega) (Nd.ret (by show(decide ((i:Int)<40),w1)=(true,w1);rw[decide_eq_true (by omega)])))) ?_
  rintro _ _ he;cases he
  refine Nd.t rfl (Nd.j2 (Ψ:=fun r=>r.1=true∧∃ g' c' e',Pg F0 g0 w0 g' r.2 p x c' y e' S2 L∧Mo g1 w1 g' r.2) (Nd.b1 ea (Nd.b1 la (Nd.j2 (Ψ:=fun r=>r.1=true∧∃ g' c' e',Pg F0 g0 w0 g' r.2 p x c' y e' S2 L∧Mo g1 w1 g' r.2) (hdo fun g' w' c' e' hP m'=>⟨rfl,g',c',e',hP,m'⟩) ?_))) ?_)
  ·rintro _ w2 ⟨rfl,g2,c2,e2,h2,m2⟩
   simp only at h2 m2
   obtain⟨⟨v3,w3⟩,e3,rfl,h3,m3⟩:=aBF h2
   exact Nd.t rfl (Nd.b2 e3 (Nd.ret ⟨rfl,g2,c2,e2,h3,m2.t m3⟩))
  rintro _ w2 ⟨rfl,g2,c2,e2,h2,m2⟩
  simp only at h2 m2
  refine Nd.ret ?_
  show(fA _ (true,IntKind.wrap .i64 ((i:Int)+1),w2)).t Φ
  rw[bX (by omega)]
  have hW2:S2.1.W.length≤2000+1000*(i+1):=by
   rw[Nat.mul_add,←Nat.add_assoc]
   exact Nat.le_trans hk (Nat.add_le_add_right hW _)
  have him2:i+1+m=min ds.length 40:=by clear hdo ih hΦ;omega
  exact ih (i+1) w2 g2 c2 e2 S2 him2 hW2 (hm.t m2) h2 (fun g' w' c' e' S' hP hW' m'=>hΦ g' w' c' e' S' hP hW' (m2.t m'))
end
theorem EvlogReads_law {w:World} (s1:Sl) (ds1:List Dg) (hs1:PL dgR 4 (old w) w s1 ds1) (s2:Sl) (ds2:List Dg) (hs2:PL dgR 4 (old w) w s2 ds2):(hU s1 s2 w).t fun r=>r.1=true∧Fr (fun k=>w.heap.size≤k) w r.2:=by
 have H:Hp (fun _=>False) (old w) w (old w) w []:=Hp.beg (aFz w)
 unfold hU
 refine Nd.j3 (Ψ:=fun r=>∃ g p x c y e S,r.1=some ⟨p,0,none⟩∧r.2.1=true∧Pg (fun _=>False) (old w) w g r.2.2 p x c y e S []∧S.1.W.length≤2000∧Mo (old w) w g r.2.2) (aCV hs1 H fun g' w' p x c y e l _ hP hW m'=>⟨g',p,x,c,y,e,_,rfl,rfl,hP,hW,m'⟩) ?_
 rintro _ _ w1 ⟨g1,p,x,c,y,e,⟨D,l⟩,rfl,rfl,h1,hW1,m1⟩
 simp only at h1 m1 hW1
 obtain⟨⟨v2,w2⟩,e2,rfl,h2,m2⟩:=aAn h1 (by omega)
 simp only at h2 m2
 refine Nd.j2 (Ψ:=fun r=>r=(true,w2)) (Nd.t rfl (Nd.b2 e2 (Nd.ret rfl))) ?_
 rintro _ _ he;cases he
 refine Nd.j2 (Ψ:=fun r=>r.1=true∧∃ g c e S,Pg (fun _=>False) (old w) w g r.2 p x c y e S []∧S.1.W.length≤42000) (aAM (PL.mo (R:=dgR) aAL hs2 (m1.t m2)) (min ds2.length 40) 0 w2 g1 c e (D,l) (by omega) (by simp only;omega) Mo.r h2 fun g' w' c' e' S' hP hW' _=>⟨rfl,g',c',e',S',hP,hW'⟩) ?_
 rintro _ w3 ⟨rfl,g3,c3,e3,⟨D3,l3⟩,h3,hW3⟩
 simp only at h3 hW3
 refine Nd.j2 (Ψ:=fun r=>r.1=true∧Fr (fun k=>w.heap.size≤k) w r.2) (Nd.j2 (Ψ:=fun r=>r.1=true∧∃ g,Pg (fun _=>False) (old w) w g r.2 p x c3 y e3 (D3,l3) []) (aCx h3.H fun g' w' H' _=>⟨rfl,g',H',h3.ok⟩) ?_) (fun a b h=>Nd.ret h)
 rintro _ w4 ⟨rfl,g4,h4⟩
 simp only at h4
 obtain⟨⟨v5,w5⟩,e5,rfl,h5,m5⟩:=aAn h4 (by omega)
 exact Nd.t rfl (Nd.t rfl (Nd.b2 e5 (Nd.ret ⟨rfl,h5.H.fin⟩)))
end
end Go.Proofs.Ytejkaciimmfgcaa.D
