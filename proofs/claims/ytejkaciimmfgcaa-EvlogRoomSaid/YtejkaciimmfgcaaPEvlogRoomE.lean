/- EvlogRoom -/
import Derived.Test.YtejkaciimmfgcaaPEvlogRoomA
import Derived.Test.YtejkaciimmfgcaaPEvlogRoomB
import Derived.Test.YtejkaciimmfgcaaPEvlogRoomC
import Derived.Test.YtejkaciimmfgcaaPEvlogRoomD
namespace Go.Proofs.Ytejkaciimmfgcaa.D
open Go
set_option linter.unusedVariables false
set_option linter.unusedSimpArgs false
set_option maxHeartbeats 1000000
set_option maxRecDepth 100000
noncomputable section
theorem aEg:∀ {a b:List Int},bU a->bU b->a.map (fun n=>UInt8.ofNat n.toNat)=b.map (fun n=>UInt8.ofNat n.toNat)->a=b
 | [],[],_,_,_=>rfl
 | [],_::_,_,_,h=>by simp at h
 | _::_,[],_,_,h=>by simp at h
 | x::a,y::b,ha,hb,h=>by
  simp only[aKf,List.cons.injEq] at h;have hx:=ha x (by simp);have hy:=hb y (by simp);have h3:=congrArg UInt8.toNat h.1;simp only[UInt8.toNat_ofNat'] at h3;have h4:x=y:=by omega
  rw[h4,aEg (fun v hv=>ha v (by simp[hv])) (fun v hv=>hb v (by simp[hv])) h.2]
theorem aAU {a b:List Int} (ha:bU a) (hb:bU b):sEq (strOfNums a) (strOfNums b)=decide (a=b):=by
 unfold sEq;rw[ByteArray.toList_eq,ByteArray.toList_eq,strOfNums_data,strOfNums_data];by_cases h:a=b
 .subst h;simp
 rw[decide_eq_false h,beq_eq_false_iff_ne];exact fun e=>h (aEg ha hb e)
theorem aEd {b:List Int} (hb:bU b) (hl:b.length=64) (h2:b.getD 2 0<=59):(lL (b.getD 1 0) ((b.drop 4).take (b.getD 2 0).toNat) (b.getD 3 0==1)=b)↔(b.getD 0 0=231/\b.getD 63 0=231/\b.getD 3 0<=1/\mK ((b.take 63).drop (4+(b.getD 2 0).toNat))=true):=by
 have r2:=tY (j:=2) hb;have r3:=tY (j:=3) hb;obtain⟨m,hm⟩:∃ m,(b.getD 2 0).toNat=m:=⟨_,rfl⟩;rw[hm];have hm59:m<=59:=by omega
 have hpl:((b.drop 4).take m).length=m:=by rw[aIN,aIY];omega
 have hgd:∀ j,j<64->b[j]?=some (b.getD j 0):=fun j hj=>by rw[aIu,aIs (by omega)];rfl
 -- the sector,in parts
 have hparts:b=[b.getD 0 0,b.getD 1 0,b.getD 2 0,b.getD 3 0]++(b.drop 4).take m++(b.take 63).drop (4+m)++[b.getD 63 0]:=by
  have e1:b=b.take 4++b.drop 4:=(aKL 4 b).symm;have e2:b.take 4=[b.getD 0 0,b.getD 1 0,b.getD 2 0,b.getD 3 0]:=by
   apply List.ext_getElem?;intro j;rw[aIV];by_cases hj:j<4
   .rw[if_pos hj,hgd j (by omega)];rcases(by omega:j=0\/j=1\/j=2\/j=3) with rfl | rfl | rfl | rfl<;>rfl
   rw[if_neg hj,aKl (by simp;omega)]
  have e3:b.drop 4=(b.drop 4).take m++b.drop (4+m):=by rw[<-List.drop_drop];exact(aKL m (b.drop 4)).symm
  have e4:b.drop (4+m)=(b.take 63).drop (4+m)++[b.getD 63 0]:=by
   have e5:b=b.take 63++[b.getD 63 0]:=by
    have e6:b.drop 63=[b.getD 63 0]:=by
     rw[aJa (by omega),aIU (by omega),aIu,aIs (by omega)];rfl
    rw[<-e6];exact(aKL 63 b).symm
   conv=>lhs;rw[e5]
   rw[aJo (by rw[aIN];omega)]
  conv=>lhs;rw[e1,e2,e3,e4]
  simp[aIK]
 have hzl:((b.take 63).drop (4+m)).length=59-m:=by rw[aIY,aIN];omega
 obtain⟨Z,hZ⟩:∃ Z,(b.take 63).drop (4+m)=Z:=⟨_,rfl⟩;obtain⟨Pd,hP⟩:∃ Pd,(b.drop 4).take m=Pd:=⟨_,rfl⟩;rw[hZ] at hparts hzl ⊢;rw[hP] at hparts hpl ⊢;have hzr:mK Z=true↔Z=List.replicate (59-m) 0:=by
  unfold mK;rw[aIw];constructor
  .intro h;rw[<-hzl];exact aLd fun x hx=>by simpa using h x hx
  rintro h x hx;rw[h] at hx;simpa using(aJk.1 hx).2
 have h2m:b.getD 2 0=(m:Int):=by omega
 unfold lL;rw[hpl];constructor
 .intro h;rw[hparts] at h;have hlen:∀ (u v:List Int),u.length=v.length->∀ (x y:List Int),u++x=v++y->u=v/\x=y:=fun u v huv x y h=>aKR h huv;obtain⟨h1,h4⟩:=aKR h (by simp[hpl,hzl]);obtain⟨h1,h3⟩:=aKR h1 (by simp[hpl]);obtain⟨h1,_⟩:=aKR h1 (by simp);simp only[List.cons.injEq,and_true] at h1 h4;obtain⟨k0,k1,k2,k3⟩:=h1;refine⟨?_,?_,?_,hzr.2 ?_⟩
  .have:∀ (a c d e:Int) (X:List Int),([a,c,d,e]++X).getD 0 0=a:=fun _ _ _ _ _=>rfl;exact k0.symm
  .exact h4.symm
  .have k3':=k3;split at k3'<;>omega
  exact h3.symm
 rintro⟨k0,k63,k3,kz⟩;rw[hzr] at kz;have k3':(if (b.getD 3 0==1)=true then (1:Int) else 0)=b.getD 3 0:=by
  split
  .rename_i h;have h':b.getD 3 0=1:=by simpa only[beq_iff_eq] using h
   omega
  rename_i h;have h':¬ b.getD 3 0=1:=by simpa only[beq_iff_eq] using h
  omega
 rw[k3']
 conv=>rhs;rw[hparts]
 rw[k0,k63,h2m,kz]
section
variable {F0 : Nat -> Prop} {g g0 g' : Gh} {w w0 w' : World} {L : List Rs} {s z y : Sl} {xs p : List Int}
theorem wH:∀ (m:Nat) (xs:List Int) (z:Sl) (w:World),xs.length+m=63->Hp F0 g0 w0 g w (owR 5 1 z (nums .u8 xs)::L) ->
  ∃ z' w',bM (fun r:Sl×World=>fI r.1 r.2) (z,w)=some (z',w')/\z'.n=63/\Hp F0 g0 w0 g w' (owR 5 1 z' (nums .u8 (xs++List.replicate m 0))::L)/\Mo g w g w'
 | 0,xs,z,w,hm,H=>by
  have hn:xs.length=z.n:=by have:=H.ow.len;simpa using this
  refine⟨z,w,bS ?_,by omega,by simpa using H,Mo.r⟩;unfold fI;rw[if_neg (by simp;omega)]
 | m+1,xs,z,w,hm,H=>by
  have hn:xs.length=z.n:=by have:=H.ow.len;simpa using this
  obtain⟨z1,w1,e1,n1,_,H1,m1⟩:=H.bsl (T:=5) (sz:=1) (ps:=[[.int .u8 0]]) (by simp) (by simp);obtain⟨z2,w2,e2,n2,H2,m2⟩:=H1.tl.apS mS H1.ow.rd (by intro v hv;simp at hv;subst hv;rfl) (by rw[n1];simp;omega);rw[show nums .u8 xs++[[Value.int .u8 0]].flatten=nums .u8 (xs++[0]) by simp[nums]] at H2;obtain⟨z',w',e3,n3,H3,m3⟩:=wH m (xs++[0]) z2 w2 (by simp;omega) H2;refine⟨z',w',?_,n3,?_,m1.t (m2.t m3)⟩
  .rw[<-e3];refine cH ?_;unfold fI;rw[if_pos (by simp;omega),e1,aE,e2,aE]
  rw[aIK] at H3;exact H3
theorem vG (H:Hp F0 g0 w0 g w L) (h:PR g w y 1 (nums .u8 p)) (hp:p.length<=59) {kind:Int} (k0:0<=kind) (k1:kind<256) (l:Bool) :
  ∃ z w',eN kind y l w=some (z,w')/\Hp F0 g0 w0 g w' (owR 5 1 z (nums .u8 (lL kind p l))::L)/\Mo g w g w':=by
 have hn:p.length=y.n:=by have:=h.rd.len;simpa using this
 have w8n:IntKind.wrap .u8 (y.n:Int)=(p.length:Int):=by rw[hn];exact wr8 (by omega) (by omega)
 obtain⟨z1,w1,e1,n1,_,H1,m1⟩:=H.bsl (T:=5) (sz:=1) (ps:=[[.int .u8 231],[.int .u8 kind],[.int .u8 (p.length:Int)],[.int .u8 0]]) (by simp) (by simp);rw[show([[Value.int .u8 231],[.int .u8 kind],[.int .u8 (p.length:Int)],[.int .u8 0]]:List (List Value)).flatten=nums .u8 [231,kind,(p.length:Int),0] by simp[nums]] at H1;obtain⟨z2,w2,e2,n2,H2,m2⟩:=H1.apS mS (h.mo m1).rd dU (by rw[n1];simp;omega);rw[show nums .u8 [231,kind,(p.length:Int),0]++nums .u8 p=nums .u8 ([231,kind,(p.length:Int),0]++p) by simp[nums]] at H2;obtain⟨b,rest,hpz,-,-⟩:=H2.ow.at_ (by rw[n2,n1];simp;omega);obtain⟨w3,e3,H3,m3⟩:∃ w3,(if l=true then ((ix z2 3 1).bind fun p11=>(stV w2 p11 (.int .u8 1)).bind fun w13=>some w13) else (some w2))=some w3/\Hp F0 g0 w0 g w3 (owR 5 1 z2 (nums .u8 ([231,kind,(p.length:Int),if l=true then 1 else 0]++p))::L)/\Mo g w2 g w3:=by
  cases l with
  | false=>exact⟨w2,by simp,H2,Mo.r⟩
  | true =>
   obtain⟨w3,e3,H3,m3⟩:=H2.oput hpz (j:=3) (by decide) (by simp) 1 (f:=fun w26=>some w26);exact⟨w3,by rw[if_pos rfl,e3],H3,m3⟩
 obtain⟨z4,w4,e4,n4,H4,m4⟩:=wH (59-p.length) _ z2 w3 (by simp;omega) H3;obtain⟨z5,w5,e5,n5,_,H5,m5⟩:=H4.bsl (T:=5) (sz:=1) (ps:=[[.int .u8 231]]) (by simp) (by simp);obtain⟨z6,w6,e6,n6,H6,m6⟩:=H5.tl.apS mS H5.ow.rd (by intro v hv;simp at hv;subst hv;rfl) (by rw[n5,n4];decide);refine⟨z6,w6,?_,?_,m1.t (m2.t (m3.t (m4.t (m5.t m6))))⟩
 .unfold eN;rw[wr8 k0 k1,w8n,e1,aE,e2,aE,e3,aLx,e4,aE,e5,aE,e6,aE]
 rw[show nums .u8 ([231,kind,(p.length:Int),if l=true then 1 else 0]++p++List.replicate (59-p.length) 0)++[[Value.int .u8 231]].flatten=nums .u8 (lL kind p l) by simp[nums,lL]] at H6;exact H6
theorem aAr (H:Hp F0 g0 w0 g w L) (h:PR g w s 1 (nums .u8 xs)) (hb:bU xs) (hc:s.n<=s.c) (hm:s.n<=1000) :
  ∃ z w',iA s w=some ((bL xs).1,z,(bL xs).2.2,w')/\Hp F0 g0 w0 g w' L/\Mo g w g w'/\PR g w' z 1 (nums .u8 (bL xs).2.1)/\z.n<=z.c:=by
 have hn:xs.length=s.n:=by have:=h.rd.len;simpa using this
 have none:sD xs=false->∀ {w1:World},Hp F0 g0 w0 g w1 L->Mo g w g w1->∀ T,T=some (0,Sl.nil,false,w1)->∃ z w',T=some ((bL xs).1,z,(bL xs).2.2,w')/\Hp F0 g0 w0 g w' L/\Mo g w g w'/\PR g w' z 1 (nums .u8 (bL xs).2.1)/\z.n<=z.c:=fun hg w1 H1 m1 T hT=>by
  have:bL xs=(0,[],false):=by unfold bL;rw[hg,if_neg (by simp)]
  rw[this];exact⟨Sl.nil,w1,hT,H1,m1,PR.nil rfl,aIv _⟩
 unfold iA;by_cases hl:xs.length=64
 rotate_left
 .refine none (by rw[sX];simp[sY,hl]) H Mo.r _ ?_;rw[if_pos (by simp;omega),aE,if_pos rfl]
 have hlt:∀ j:Int,0<=j->j<64->j.toNat<xs.length:=fun j h0 h1=>by omega
 have t1:(if ((s.n:Int) !=64)=true then (some (true,w)) else ((ix s 1 1).bind fun p6=>(ldI .u8 w p6).bind fun v8=>if (decide (v8<1))=true then (some (true,w)) else ((ix s 1 1).bind fun p11=>(ldI .u8 w p11).bind fun v13=>if (decide (3<v13))=true then (some (true,w)) else ((ix s 2 1).bind fun p16=>(ldI .u8 w p16).bind fun v18=>some ((decide (59<v18)),w)))))=some (!(decide (1<=xs.getD 1 0)&&decide (xs.getD 1 0<=3)&&decide (xs.getD 2 0<=59)),w):=by
  rw[if_neg (by simp;omega),ld1 h.rd (by decide) (hlt _ (by decide) (by decide)),ld1 h.rd (by decide) (hlt _ (by decide) (by decide)),ld1 h.rd (by decide) (hlt _ (by decide) (by decide)),ifO,ifO];simp only[aKy,<-decide_not,aLw,aKO];rfl
 rw[t1,aE]
 cases h3:(decide (1<=xs.getD 1 0)&&decide (xs.getD 1 0<=3)&&decide (xs.getD 2 0<=59)) with
 | false =>
  refine none ?_ H Mo.r _ (by rw[if_pos (by simp)])
  cases hg:sD xs with
  | false=>rfl
  | true =>
   rw[sX] at hg;simp only[aIz] at hg;obtain⟨_,k1,k3,k2,_⟩:=xX hg.1;rw[decide_eq_true k1,decide_eq_true k3,decide_eq_true k2] at h3;cases h3
 | true =>
  simp only[aIz,decide_eq_true_eq] at h3;obtain⟨⟨k1,k3⟩,k2⟩:=h3;have r1:=tY (j:=1) hb;have r2:=tY (j:=2) hb;have r3:=tY (j:=3) hb;obtain⟨m,hm2⟩:∃ m:Nat,xs.getD 2 0=m:=⟨(xs.getD 2 0).toNat,by omega⟩;have hw:IntKind.wrap .i64 (4+IntKind.wrap .i64 (xs.getD (2:Int).toNat 0))=((4+m:Nat):Int):=by
   rw[show xs.getD (2:Int).toNat 0=(m:Int) from hm2,aIy,aIy];omega
  obtain⟨z2,e2,p2,n2,c2⟩:=h.slN (lo:=4) (hi:=4+m) (m:=s.c) (by omega) (by omega) (by omega) (aIv _);have e2:slS s 4 ((4+m:Nat):Int) (s.c:Int) 1=some z2:=e2;rw[aKE] at p2 n2;obtain⟨w3,e3,H3,m3⟩:=H.dr;have h3:=h.mo m3;have hpl:((xs.drop 4).take m).length=m:=by rw[aIN,aIY];omega
  have hpb:bU ((xs.drop 4).take m):=fun b hb'=>hb b (aJC (aJh hb'));obtain⟨z4,w4,e4,H4,m4⟩:=vG H3 (p2.mo m3) (by omega) (kind:=xs.getD 1 0) (by omega) (by omega) (xs.getD 3 0==1);have h4:=h3.mo m4;have hw1:IntKind.wrap .i64 (xs.getD (1:Int).toNat 0)=xs.getD 1 0:=by rw[show(1:Int).toNat=1 from rfl,iD (by omega) (by omega)]
  have b1:=pF H4.ow.rd;have b2:=pF h4.rd;have b3:=pF h3.rd;have hse:=aAU (yF (kind:=xs.getD 1 0) (l:=xs.getD 3 0==1) ⟨by omega,by omega⟩ hpb (by omega)) hb;have hiff:=aEd hb hl k2;rw[hm2,aJH] at hiff;have hgc:sD xs=(decide (lL (xs.getD 1 0) ((xs.drop 4).take m) (xs.getD 3 0==1)=xs)&&!(!(xs.getD 3 0==1)&&(m !=59))):=by
   rw[sX,aJw];simp only[sY,aIz,decide_eq_true_eq,hiff,hl,hm2,aJH,beq_iff_eq,aIW,Bool.and_eq_false_iff,true_and,beq_eq_false_iff_ne,bne_eq_false_iff_eq,Bool.not_eq_false',ne_eq,bne_iff_ne];constructor
   .rintro⟨⟨⟨⟨⟨⟨⟨a1,a2⟩,a3⟩,a4⟩,a5⟩,a6⟩,a7⟩,a8⟩;exact⟨⟨a1,a2,a6,a8⟩,by omega⟩
   rintro⟨⟨a1,a2,a6,a8⟩,a7⟩;exact⟨⟨⟨⟨⟨⟨⟨a1,a2⟩,k1⟩,k3⟩,by omega⟩,a6⟩,by omega⟩,a8⟩
  have hz59:((z2.n:Int) !=59)=(m !=59):=by rw[n2,aJw];simp;omega
  have t2:((dr w).bind fun w35=>(ix s 1 1).bind fun p37=>(ldI .u8 w35 p37).bind fun v39=>aN (eN (IntKind.wrap .i64 v39) z2 (xs.getD (3:Int).toNat 0==1) w35) fun v41 w42=>(b2s v41 w42).bind fun s44=>(b2s s w42).bind fun s46 =>
    if (!sEq s44 s46)=true then (chk (b2s s w35=some s46)<|some (true,w42)) else (if (!(xs.getD (3:Int).toNat 0==1))=true then (chk (b2s s w35=some s46)<|some (((z2.n:Int) !=59),w42)) else (chk (b2s s w35=some s46)<|some (false,w42))))=some (!sD xs,w4):=by
   rw[e3,aLx,ld1 h3.rd (by decide) (hlt _ (by decide) (by decide)),hw1,show xs.getD (3:Int).toNat 0=xs.getD 3 0 from rfl,e4,aE,b1,aLx,b2,aLx,hse,gR b3,gR b3,gR b3,ifA,ifO,hgc,hz59,aKy,Bool.not_not]
  rw[if_neg (by simp),ld1 h.rd (by decide) (hlt _ (by decide) (by decide)),hw,e2,aLx,ld1 h.rd (by decide) (hlt _ (by decide) (by decide)),t2,aE]
  cases hg:sD xs with
  | false=>exact none hg H4.tl (m3.t m4) _ (by rw[if_pos (by simp)])
  | true =>
   have hgl:bL xs=(xs.getD 1 0,(xs.drop 4).take m,xs.getD 3 0==1):=by unfold bL;rw[if_pos hg,hm2,aJH]
   rw[hgl];refine⟨z2,w4,?_,H4.tl,m3.t m4,p2.mo (m3.t m4),c2⟩;rw[if_neg (by simp),ld1 h4.rd (by decide) (hlt _ (by decide) (by decide)),hw1];rfl
end
def nZ (rows:List Sl):List Value:=rows.flatMap fun s=>[s.v]
def xA (puts:List (Int×Sl)):List Value:=puts.flatMap fun x=>[.int .i64 x.1,x.2.v]
def rkC (a b:Sl) (left:Int) (off:Bool) (age:Int):List Value:=[a.v,b.v,.int .i64 left,.bool off,.int .i64 age]
theorem aGJ:ST Try.prog 112 72 1 24 [.slice none 0 0]:=⟨Try.underlying112,⟨Try.t72,.slice none 0 0,by kernel_rfl,by kernel_rfl,rfl,rfl,rfl⟩,rfl,by decide,by decide⟩
theorem aGA:ST Try.prog 113 172 2 32 [.int .i64 0,.slice none 0 0]:=⟨Try.underlying113,⟨Try.t172,.agg #[.int .i64 0,.slice none 0 0],by kernel_rfl,by kernel_rfl,rfl,rfl,rfl⟩,rfl,by decide,by decide⟩
structure RAt (w:World) (p:Nat) (a b:Sl) (rows:List Sl) (puts:List (Int×Sl)) (D:Dk):Prop where
 wf:D.Wf
 blk:B w p=some (rkC a b D.left D.down D.age,115)
 sure:Own w 72 a 1 (nZ rows)
 waits:Own w 172 b 2 (xA puts)
 rl:rows.length=D.S.length
 pl:puts.length=D.W.length
 rat:∀ (i:Nat) (s:Sl) (xs:List Int),rows[i]?=some s->D.S[i]?=some xs->iS w s xs
 pat:∀ (i:Nat) (x:Int×Sl) (y:Int×List Int),puts[i]?=some x->D.W[i]?=some y->x.1=y.1/\iS w x.2 y.2
def RAt.foot (p:Nat) (a b:Sl) (k:Nat):Prop:=k=p\/a.blk k\/b.blk k
def gH (rows:List Sl) (puts:List (Int×Sl)) (k:Nat):Prop:=(∃ s∈rows,s.blk k)\/∃ x∈puts,x.2.blk k
def Byt (w:World) (k:Nat):Prop:=∃ c,B w k=some (c,5)
section
variable {w w' : World} {p : Nat} {a b : Sl} {rows : List Sl} {puts : List (Int × Sl)} {D : Dk}
theorem nB:(nZ rows).length=rows.length:=by have:=oQ (f:=fun s:Sl=>[s.v]) (sz:=1) rows (fun x _=>rfl);simpa[nZ] using this
theorem aCL:(xA puts).length=puts.length*2:=oQ puts (fun x _=>rfl)
theorem RAt.an (h:RAt w p a b rows puts D):a.n=D.S.length:=by have:=h.sure.len;rw[nB,h.rl] at this;omega
theorem RAt.bn (h:RAt w p a b rows puts D):b.n=D.W.length:=by have:=h.waits.len;rw[aCL,h.pl] at this;omega
theorem RAt.byt (h:RAt w p a b rows puts D) {k:Nat} (hk:gH rows puts k):Byt w k:=by
 rcases hk with⟨s,hs,hk⟩ | ⟨x,hx,hk⟩
 .obtain⟨i,hi⟩:=List.getElem?_of_mem hs;have hl:i<D.S.length:=by rw[<-h.rl];exact(aIt.1 hi).1
  exact(h.rat i s _ hi (aIs hl)).ty hk
 obtain⟨i,hi⟩:=List.getElem?_of_mem hx;have hl:i<D.W.length:=by rw[<-h.pl];exact(aIt.1 hi).1
 exact(h.pat i x _ hi (aIs hl)).2.ty hk
theorem RAt.foot_ty (h:RAt w p a b rows puts D) {k:Nat} (hk:RAt.foot p a b k):¬ Byt w k:=by
 rintro⟨c,hc⟩;rcases hk with rfl | hk | hk
 .rw[h.blk] at hc;simp at hc
 .obtain⟨c',h'⟩:=h.sure.ty hk;rw[h'] at hc;simp at hc
 obtain⟨c',h'⟩:=h.waits.ty hk;rw[h'] at hc;simp at hc
theorem RAt.ne (h:RAt w p a b rows puts D):¬ a.blk p/\¬ b.blk p/\(∀ k,a.blk k->b.blk k->False):=by
 refine⟨fun e=>?_,fun e=>?_,fun k e1 e2=>?_⟩
 .obtain⟨c,hc⟩:=h.sure.ty e;rw[h.blk] at hc;simp at hc
 .obtain⟨c,hc⟩:=h.waits.ty e;rw[h.blk] at hc;simp at hc
 obtain⟨c,hc⟩:=h.sure.ty e1;obtain⟨c',hc'⟩:=h.waits.ty e2;rw[hc] at hc';simp at hc'
theorem RAt.lt (h:RAt w p a b rows puts D) {k:Nat} (hk:RAt.foot p a b k):k<w.heap.size:=by
 rcases hk with rfl | hk | hk
 .exact qW h.blk
 .exact h.sure.lt hk
 exact h.waits.lt hk
theorem Byt.lt {k:Nat} (h:Byt w k):k<w.heap.size:=by obtain⟨c,hc⟩:=h;exact qW hc
theorem RAt.fr {S:Nat->Prop} (h:RAt w p a b rows puts D) (hf:Fr S w w') (hg:∀ k,RAt.foot p a b k->¬ S k) (hr:∀ k,gH rows puts k->¬ S k):RAt w' p a b rows puts D :=
 ⟨h.wf,hf.B h.blk (hg _ (.inl rfl)),h.sure.fr hf (fun k hk=>hg _ (.inr (.inl hk))),h.waits.fr hf (fun k hk=>hg _ (.inr (.inr hk))),h.rl,h.pl,
  fun i s xs hs hx=>(h.rat i s xs hs hx).fr hf (fun k hk=>hr _ (.inl ⟨s,aIF hs,hk⟩)),
  fun i x y hx hy=>⟨(h.pat i x y hx hy).1,(h.pat i x y hx hy).2.fr hf (fun k hk=>hr _ (.inr ⟨x,aIF hx,hk⟩))⟩⟩
theorem iS.fr {S:Nat->Prop} {s:Sl} {xs:List Int} (h:iS w s xs) (hf:Fr S w w') (hs:∀ k,S k->¬ Byt w k):iS w' s xs :=
 Own.fr h hf fun k hk hS=>hs k hS (Own.ty h hk)
theorem RAt.one (h:RAt w p a b rows puts D) {D':Dk} (ho:One p w w') (hb:B w' p=some (rkC a b D'.left D'.down D'.age,115)) (hS:D'.S=D.S) (hW:D'.W=D.W) (hwf:D'.Wf):RAt w' p a b rows puts D':=by
 have hne:=h.ne;have hr:∀ k,gH rows puts k->¬ k=p:=fun k hk e=>h.foot_ty (.inl e) (h.byt hk);refine⟨hwf,hb,ho.own h.sure hne.1,ho.own h.waits hne.2.1,by rw[hS];exact h.rl,by rw[hW];exact h.pl,?_,?_⟩
 .intro i s xs hs hx;rw[hS] at hx;exact ho.own (h.rat i s xs hs hx) (fun hk=>hr p (.inl ⟨s,aIF hs,hk⟩) rfl)
 intro i x y hx hy;rw[hW] at hy;exact⟨(h.pat i x y hx hy).1,ho.own (h.pat i x y hx hy).2 (fun hk=>hr p (.inr ⟨x,aIF hx,hk⟩) rfl)⟩
theorem sN (h:RAt w p a b rows puts D):ldL w ⟨p,0,none⟩=some a:=pE h.blk rfl
theorem pM (h:RAt w p a b rows puts D):ldL w ⟨p,1,none⟩=some b:=pE h.blk rfl
theorem aFN (h:RAt w p a b rows puts D):ldI .i64 w ⟨p,2,none⟩=some D.left:=lP h.blk rfl
theorem tW (h:RAt w p a b rows puts D):ldB w ⟨p,3,none⟩=some D.down:=aAw h.blk rfl
theorem aDJ (h:RAt w p a b rows puts D):ldI .i64 w ⟨p,4,none⟩=some D.age:=lP h.blk rfl
theorem xC (h:RAt w p a b rows puts D):∃ w',dW (some ⟨p,0,none⟩) w=some (D.trips.1,w')/\RAt w' p a b rows puts D.trips.2/\One p w w':=by
 unfold dW;simp only[aLx,aD,aLy,aFN h];have l0:=h.wf.l0;by_cases h0:D.left=0
 .exact⟨w,by simp[h0,Dk.trips],by simpa[h0,Dk.trips] using h,One.refl⟩
 have e0:decide (0<D.left)=true:=by simp;omega
 have hw:IntKind.wrap .i64 (D.left-1)=D.left-1:=by rw[aIy];have:=h.wf.l1;omega
 obtain⟨w1,e1,b1,o1⟩:=mE (o:=2) (v:=.int .i64 (D.left-1)) h.blk (by simp[rkC]) rfl;obtain⟨w2,e2,b2,o2⟩:=mE (o:=3) (v:=.bool (D.left-1==0)) b1 (by simp[rkC]) rfl;have l1:ldI .i64 w1 ⟨p,2,none⟩=some (D.left-1):=lP b1 rfl;have l2:ldB w2 ⟨p,3,none⟩=some (D.left-1==0):=aAw b2 rfl;refine⟨w2,?_,h.one (o1.trans o2) ?_ (jY D) (jE D) h.wf.trips,o1.trans o2⟩
 .simp only[e0,if_true,hw,e1,l1,e2,l2,aLx,Dk.trips,if_neg h0]
 rw[b2];simp only[Dk.trips,if_neg h0];rfl
theorem yO {i:Int} (h:RAt w p a b rows puts D):dQ (some ⟨p,0,none⟩) i w=some (!D.bad i,w):=by
 unfold dQ Dk.bad;simp only[aLx,aD,aLy,sN h,h.an];by_cases h0:i<0
 .have:¬ (0<=i):=by omega
  simp[h0,this]
 have:0<=i:=by omega
 by_cases h1:(D.S.length:Int)<=i
 .have h2:¬ i<(D.S.length:Int):=by omega
  simp[this,h1,h2]
 have h2:i<(D.S.length:Int):=by omega
 simp[this,h0,h1,h2]
theorem zO {m:Int} (h:RAt w p a b rows puts D) (hm:m<=9223372036854775807):∃ w',dF (some ⟨p,0,none⟩) m w=some ((D.trip m).1,w')/\RAt w' p a b rows puts (D.trip m).2/\One p w w':=by
 unfold dF Dk.trip;simp only[aJf,aIx,if_false,aLx,aD,aLy,tW h];by_cases hd:D.down=true
 .exact⟨w,by simp[hd],by simpa[hd] using h,One.refl⟩
 by_cases h0:m<0
 .exact⟨w,by simp[hd,h0],by simpa[hd,h0] using h,One.refl⟩
 obtain⟨w1,e1,b1,o1⟩:=mE (o:=2) (v:=.int .i64 m) h.blk (by simp[rkC]) rfl;refine⟨w1,by simp[hd,h0,e1],?_,o1⟩;simp only[hd,h0,if_false,aIx];refine h.one o1 ?_ rfl rfl ⟨h.wf.s64,h.wf.w64,h.wf.wat,by simp only;omega,by simp only;omega,h.wf.n⟩;have hd':D.down=false:=by simpa using hd
 rw[b1];simp[rkC,hd']
theorem sT {s:Sl} {xs:List Int} (h:Rd w s 1 (nums .u8 xs)) (hb:s.n<=140737488355328) :
  ∃ w1 o w',bsl w 5 1 []=some (⟨some ⟨w.heap.size,0,none⟩,0,0⟩,w1)/\apS Try.prog 72 ⟨some ⟨w.heap.size,0,none⟩,0,0⟩ s w1=some (o,w')/\iS w' o xs/\(∀ k,o.blk k->w.heap.size<=k)/\(∀ S,Fr S w w1)/\(∀ S,Fr S w w'):=by
 obtain⟨w1,e1,n1⟩:=wD (w:=w) (T:=5) (sz:=1) (ps:=[]) (by simp);have o1:Own w1 5 ⟨some ⟨w.heap.size,0,none⟩,0,0⟩ 1 []:=Own.of_new (by simpa using n1) (by simp) (by omega);have f1:∀ S,Fr S w w1:=fun S=>(n1.fr _ S (aIv _)).fr;obtain⟨s',w2,e2,o2,f2,n2,k2⟩:=qS mS o1 (h.fr (f1 (fun _=>False)) (fun _ _ _ h=>h)) dU (by simpa using hb);have hblk:∀ k,s'.blk k->w.heap.size<=k:=fun k hk=>(k2 k hk).elim (fun ⟨a,ha,hk⟩=>by cases ha;exact aKc hk) (fun h=>by have:=n1.size;omega);refine⟨w1,s',w2,e1,e2,by simpa[iS] using o2,hblk,f1,fun S=>(f1 S).trans_new f2 (fun i hi=>by obtain⟨a,ha,hk⟩:=hi;cases ha;exact .inr (aKc hk))⟩
theorem aCm {i:Nat} {s:Sl} (hi:i<rows.length):(nZ rows).set i s.v=nZ (rows.set i s):=by
 have:∀ l:List Sl,nZ l=l.map Sl.v:=fun l=>by induction l with | nil=>rfl | cons x l ih=>simp only[nZ,aIQ,aKf] at ih ⊢;rw[ih];rfl
 rw[this,this,aLo]
theorem wQ {i:Nat} {s:Sl} (hi:rows[i]?=some s):(nZ rows)[i]?=some s.v:=by
 have:∀ l:List Sl,nZ l=l.map Sl.v:=fun l=>by induction l with | nil=>rfl | cons x l ih=>simp only[nZ,aIQ,aKf] at ih ⊢;rw[ih];rfl
 rw[this,aJA,hi];rfl
theorem aGr (ad:Addr):ad.add 0=ad:=by simp[Addr.add]
theorem aAN (h:RAt w p a b rows puts D) {i:Int} (hi:D.bad i=false):∃ g s xs rest,a.p=some ⟨g,0,none⟩/\B w g=some (nZ rows++rest,72)/\ix a i 1=some ⟨g,i.toNat,none⟩/\ldL w ⟨g,i.toNat,none⟩=some s/\rows[i.toNat]?=some s/\D.S[i.toNat]?=some xs/\xs=D.S.getD i.toNat []/\xs.length=64/\iS w s xs:=by
 have hb:¬ i<0/\¬ (D.S.length:Int)<=i:=by simpa[Dk.bad] using hi
 have hn:i.toNat<D.S.length:=by omega
 have hr:i.toNat<rows.length:=by rw[h.rl];exact hn
 have han:=h.an;rcases h.sure.h with⟨_,h0,_⟩ | ⟨g,rest,hp,hB,_⟩
 .omega
 have hs:=aIs hr;have hx:=aIs hn;refine⟨g,rows[i.toNat],D.S[i.toNat],rest,hp,hB,?_,?_,hs,hx,?_,h.wf.s64 _ (aJy hn),h.rat _ _ _ hs hx⟩
 .unfold ix;rw[hp,aLx,if_pos (by omega),aD];simp
 .refine pE hB ?_;rw[aID (by rw[nB];exact hr)];exact wQ hs
 rw[aIu,hx];rfl
theorem xY {x:Int} {s:Sl} {xs:List Int} {m:Nat} (h:RAt w p a b rows puts D) (hs:iS w s xs) (hx:xs.length=64) (hi:D.bad x=false) (hm:m<=64) :
  ∃ w' o,cJ (some ⟨p,0,none⟩) [.int .i64 x,s.v] (m:Int) w=some w'/\RAt w' p a b (rows.set x.toNat o) puts { D with S:=oA D.S (x,xs) m }/\Fr (fun k=>a.blk k) w w'/\(∀ k,o.blk k->w.heap.size<=k):=by
 have hns:s.n=64:=by have:=hs.len;simp at this;omega
 obtain⟨w1,e1,n1⟩:=aBn (w:=w) (T:=172) (cs:=[.int .i64 x,s.v]);have f1:∀ S,Fr S w w1:=fun S=>(n1.fr _ S (aIv _)).fr;have hF:∀ k:Nat,¬ (fun _:Nat=>False) k:=fun _ h=>h;have h1:=h.fr (f1 (fun _=>False)) (fun _ _ h=>h) (fun _ _ h=>h);have hs1:iS w1 s xs:=Own.fr hs (f1 (fun _=>False)) (fun _ _ h=>h);obtain⟨w2,e2,n2⟩:=wD (w:=w1) (T:=5) (sz:=1) (ps:=[]) (by simp);have f2:∀ S,Fr S w1 w2:=fun S=>(n2.fr _ S (aIv _)).fr;have h2:=h1.fr (f2 (fun _=>False)) (fun _ _ h=>h) (fun _ _ h=>h);have hs2:iS w2 s xs:=Own.fr hs1 (f2 (fun _=>False)) (fun _ _ h=>h);have o2:Own w2 5 ⟨some ⟨w1.heap.size,0,none⟩,0,0⟩ 1 []:=Own.of_new (by simpa using n2) (by simp) (by omega);have z1:=n1.size;have z2:=n2.size;have b2:B w2 w.heap.size=some ([.int .i64 x,s.v],172):=by rw[n2.old _ (by omega)];exact n1.b
 have l2:ldL w2 ⟨w.heap.size,1,none⟩=some s:=pE b2 rfl;obtain⟨s9,e9,r9,n9,c9⟩:=uZ (lo:=0) (hi:=m) hs2.rd (by omega) (by omega) hs2.cap;simp only[aJQ,aJj,Nat.sub_zero] at e9 r9 n9;have t9:(nums .u8 xs).take m=nums .u8 (xs.take m):=by simp[nums,aKN]
 rw[t9] at r9;obtain⟨s11,w3,e3,o3,f3,n3,k3⟩:=qS mS o2 r9 dU (by simp only[n9];omega);simp only[aJL,aLy] at o3 n3;have f3':∀ S,Fr S w w3:=fun S=>((f1 S).trans (f2 S)).trans_new f3 (fun i hi=>by have:=sQ hi;right;omega);have k3':∀ k,s11.blk k->w.heap.size<k:=fun k hk=>(k3 k hk).elim (fun hk=>by have:=sQ hk;omega) (fun h=>by omega);have b3:B w3 w.heap.size=some ([.int .i64 x,s.v],172):=f3.B b2 (by rintro⟨a,ha,hk⟩;cases ha;simp only at hk;omega);obtain⟨w4,e4,d4,g4,z4,_⟩:=tQ (w:=w3);have f4:∀ S,Fr S w w4:=fun S=>(f3' S).trans (g4 w3.heap.size S).fr;have h4:=h.fr (f4 (fun _=>False)) (fun _ _ h=>h) (fun _ _ h=>h);have b4:=(d4 w.heap.size).trans b3;have o4:Own w4 5 s11 1 (nums .u8 (xs.take m)):=o3.fr (g4 w3.heap.size (fun _=>False)).fr (fun _ _ h=>h);obtain⟨g,q,ys,rest,hp,hB,i4,l4,hr,hS,hys,ly,hq⟩:=aAN h4 hi;have i0:ldI .i64 w4 ⟨w.heap.size,0,none⟩=some x:=lP b4 rfl;have hqn:q.n=64:=by have:=hq.len;simp at this;omega
 obtain⟨s30,e30,r30,n30,c30⟩:=uZ (lo:=m) (hi:=q.n) hq.rd (by omega) (by omega) hq.cap;have t30:((nums .u8 ys).drop m).take (q.n-m)=nums .u8 (ys.drop m):=by
  rw[show(nums .u8 ys).drop m=nums .u8 (ys.drop m) by simp[nums,aKB]];exact aIB (by simp;omega)
 rw[t30] at r30;obtain⟨s32,w5,e5,o5,f5,n5,k5⟩:=qS mS o4 r30 dU (by omega);have hrow:iS w5 s32 (xs.take m++ys.drop m):=by
  unfold iS;rw[show nums .u8 (xs.take m++ys.drop m)=nums .u8 (xs.take m)++nums .u8 (ys.drop m) by simp[nums]];exact o5
 have k5':∀ k,s32.blk k->w.heap.size<k:=fun k hk=>(k5 k hk).elim (k3' k) (fun h=>by have:=(f3' (fun _=>False)).size;have:=n1.size;have:=(f2 (fun _=>False)).size;have:=f3.size;omega);have f5':∀ S,Fr S w w5:=fun S=>(f4 S).trans_new f5 (fun i hi=>.inr (Nat.le_of_lt (k3' i hi)));have h5:=h.fr (f5' (fun _=>False)) (fun _ _ h=>h) (fun _ _ h=>h);have hB5:B w5 g=some (nZ rows++rest,72):=by
  refine f5.B hB (fun hk=>?_);have:=k3' g hk;have:g<w.heap.size:=by have:=h.sure.lt ⟨_,hp,rfl⟩;exact this
  omega
 have hxr:x.toNat<rows.length:=(aIt.1 hr).1;obtain⟨w6,e6,b6,o6⟩:=mE (o:=x.toNat) (v:=s32.v) hB5 (by rw[aIE,nB];omega) rfl;rw[aJX _ _ (by rw[nB];exact hxr),aCm hxr] at b6;have hgb:a.blk g:=⟨_,hp,rfl⟩;have hgp:p≠g:=fun e=>h.ne.1 (e ▸ hgb);have hglt:g<w.heap.size:=h.sure.lt hgb;have hS':(oA D.S (x,xs) m)=D.S.set x.toNat (xs.take m++ys.drop m):=by simp only[oA];rw[<-hys]
 refine⟨w6,s32,?_,⟨?_,?_,?_,?_,?_,h.pl,?_,?_⟩,?_,fun k hk=>Nat.le_of_lt (k5' k hk)⟩
 .unfold cJ;simp only[e1,aE,e2,aIS,aD,aLy,l2,aLx,e9,e3,e4,sN h4,i0,i4,l4,e30,e5,e6];rw[gR (sN h5),gR];refine lP (f5.B b4 (fun hk=>?_)) rfl;have:=k3' _ hk;omega
 .refine⟨tB h.wf.s64 hx hm (by simpa using(aIt.1 hS).1),h.wf.w64,fun y hy=>by simp only[iM];exact h.wf.wat y hy,h.wf.l0,h.wf.l1,by simp only[iM];exact h.wf.n⟩
 .rw[o6.B hgp];exact h5.blk
 .refine⟨by rw[nB,aJR,<-nB];exact h.sure.len,h.sure.cap,h.sure.max,?_⟩;rcases h5.sure.h with⟨hp0,_⟩ | ⟨g',rest',hp',hB',hl'⟩
  .rw[hp0] at hp;cases hp
  rw[hp'] at hp;cases hp;rw[hB'] at hB5;simp only[Option.some.injEq,Prod.mk.injEq,and_true] at hB5;have:=List.append_cancel_left hB5;subst this;exact .inr ⟨g,rest',hp',b6,hl'⟩
 .exact o6.own h5.waits (fun hk=>h5.ne.2.2 g hgb hk)
 .simp only[aJR,iM];exact h.rl
 .intro i s' xs' hi' hx';simp only[hS'] at hx';by_cases hxi:x.toNat=i
  .subst hxi;rw[aJp hxr] at hi';rw[aJp (aIt.1 hS).1] at hx';cases hi';cases hx';exact o6.own hrow (fun hk=>by have:=k5' g hk;omega)
  rw[aKu hxi] at hi' hx';have:=h5.rat i s' xs' hi' hx';exact o6.own this (fun hk=>h5.foot_ty (.inr (.inl hgb)) (h5.byt (.inl ⟨s',aIF hi',hk⟩)))
 .intro i x' y' hx' hy';have:=h5.pat i x' y' hx' hy';exact⟨this.1,o6.own this.2 (fun hk=>h5.foot_ty (.inr (.inl hgb)) (h5.byt (.inr ⟨x',aIF hx',hk⟩)))⟩
 exact(f5' _).trans (o6.fr hgb)
theorem sO {i:Nat} {o:Sl} {k:Nat} (h:gH (rows.set i o) puts k):gH rows puts k\/o.blk k:=by
 rcases h with⟨s,hs,hk⟩ | h
 .rcases aKv hs with h | rfl
  .exact .inl (.inl ⟨s,h,hk⟩)
  exact .inr hk
 exact .inl (.inr h)
theorem zE (h:RAt w p a b rows puts D) {n:Nat} (hn:n<D.W.length):∃ ad s,ix b (n:Int) 2=some ad/\ldA 2 w ad 0=some [.int .i64 D.W[n].1,s.v]/\ldI .i64 w (ad.add 0)=some D.W[n].1/\ldL w (ad.add 1)=some s/\iS w s D.W[n].2/\puts[n]?=some (D.W[n].1,s):=by
 have hp:n<puts.length:=by rw[h.pl];exact hn
 have hpn:=aIs hp;obtain⟨e1,hr⟩:=h.pat n _ _ hpn (aIs hn);obtain⟨ad,ea,la,ca,_⟩:=uO (i:=n) h.waits.rd (by rw[h.bn];exact hn);have hc:((xA puts).drop (n*2)).take 2=[.int .i64 puts[n].1,puts[n].2.v]:=uT (f:=fun x:Int×Sl=>[.int .i64 x.1,x.2.v]) puts n (fun _ _=>rfl) hp;rw[hc,e1] at la;have hj:∀ (j:Nat) v,j<2->([Value.int .i64 puts[n].1,puts[n].2.v]:List Value)[j]?=some v->w.cell? (ad.add j)=some v:=by
  intro j v hj hv;refine ca j v hj ?_;rw[<-hc,aIV,if_pos hj,aJi] at hv;exact hv
 refine⟨ad,puts[n].2,ea,la,kZ ?_,rO (hj 1 _ (by omega) rfl),hr,?_⟩
 .have:=hj 0 _ (by omega) rfl;rw[e1] at this;exact this
 rw[hpn];congr 1;exact Prod.ext e1 rfl
theorem aBj (hW:D.W.length<1000000) :
  ∀ (suf pre:List (Int×List Int)) (rows:List Sl) (S:List (List Int)) (w:World),D.W=pre++suf->RAt w p a b rows puts { D with S:=S } ->
   ∃ w' rows',bM (fun r:Int×World=>cO (some ⟨p,0,none⟩) r.1 r.2) ((pre.length:Int),w)=some w'/\RAt w' p a b rows' puts { D with S:=suf.foldl (fun S x=>oA S x 64) S }/\Fr (fun k=>a.blk k) w w'/\(∀ k,gH rows' puts k->gH rows puts k\/w.heap.size<=k):=by
 intro suf
 induction suf with
 | nil =>
  intro pre rows S w hpre h;refine⟨w,rows,bS ?_,h,Fr.refl,fun k hk=>.inl hk⟩;have:D.W.length=pre.length:=by rw[hpre];simp
  have hb:=h.bn;simp only at hb;simp[cO,aD,pM h,hb,this]
 | cons x suf ih =>
  intro pre rows S w hpre h;have hlen:pre.length<D.W.length:=by rw[hpre];simp
  have hg:D.W[pre.length]=x:=by simp[hpre]
  obtain⟨ad,s,ea,la,_,_,hrow,_⟩:=zE h (n:=pre.length) hlen;simp only[hg] at la hrow;have hxW:x∈D.W:=by rw[hpre];simp
  have hwat:=h.wf.wat x hxW;simp only at hwat;have hbad:({ D with S:=S }:Dk).bad x.1=false:=by simp[Dk.bad];omega
  obtain⟨w1,o,e1,h1,f1,k1⟩:=xY (m:=64) h hrow (h.wf.w64 x hxW) hbad (aIv _);obtain⟨w2,rows2,e2,h2,f2,k2⟩:=ih (pre++[x]) _ _ w1 (by rw[hpre];simp) h1;refine⟨w2,rows2,?_,h2,f1.trans f2,fun k hk=>?_⟩
  .rw[<-e2,show((pre++[x]).length:Int)=((pre.length+1:Nat):Int) by simp];refine cH ?_;have hlt:(pre.length:Int)<(b.n:Int):=by have hb:=h.bn;simp only at hb;omega
   have e1':cJ (some ⟨p,0,none⟩) [.int .i64 x.1,s.v] 64 w=some w1:=e1;simp only[cO,aLx,aD,aLy,pM h,hlt,decide_true,if_true,ea,la,e1'];rw[cC (by omega)]
  rcases k2 k hk with h' | h'
  .rcases sO h' with h' | h'
   .exact .inl h'
   exact .inr (k1 k h')
  exact .inr (aJe f1.size h')
theorem RAt.pend (h:RAt w p a b rows puts D) {D':Dk} (ho:One p w w') (hb:B w' p=some (rkC a Sl.nil D'.left D'.down D'.age,115)) (hS:D'.S=D.S) (hW:D'.W=[]) (hwf:D'.Wf):RAt w' p a Sl.nil rows [] D':=by
 have hne:=h.ne;refine⟨hwf,hb,ho.own h.sure hne.1,Own.nil,by rw[hS];exact h.rl,by rw[hW];rfl,?_,?_⟩
 .intro i s xs hs hx;rw[hS] at hx;exact ho.own (h.rat i s xs hs hx) (fun hk=>h.foot_ty (.inl rfl) (h.byt (.inl ⟨s,aIF hs,hk⟩)))
 intro i x y hx;simp at hx
theorem aAa (h:RAt w p a b rows puts D) (hbd:D.W.length<1000000) :
  ∃ w' b' rows' puts',bK (some ⟨p,0,none⟩) w=some (D.sync.1,w')/\RAt w' p a b' rows' puts' D.sync.2/\Fr (RAt.foot p a b) w w'/\(∀ k,b'.blk k->b.blk k)/\(∀ k,gH rows' puts' k->gH rows puts k\/w.heap.size<=k):=by
 unfold bK Dk.sync;simp only[aJf,aIx,if_false,aLx,aD,aLy,tW h];by_cases hd:D.down=true
 .exact⟨w,b,rows,puts,by simp[hd],by simpa[hd] using h,Fr.refl,fun k hk=>hk,fun k hk=>.inl hk⟩
 obtain⟨w1,e1,h1,o1⟩:=xC h;simp only[hd,aIx,if_false,e1,aE];by_cases ht:D.trips.1=true
 .simp only[ht,if_true];exact⟨w1,b,rows,puts,rfl,h1,o1.fr (.inl rfl),fun k hk=>hk,fun k hk=>.inl hk⟩
 simp only[ht,aIx,if_false];obtain⟨w2,rows2,e2,h2,f2,k2⟩:=aBj (D:=D.trips.2) (by rw[jE];exact hbd) D.trips.2.W [] rows D.trips.2.S w1 rfl h1;simp only[aIS,aJQ] at e2;obtain⟨w3,e3,b3,o3⟩:=mE (o:=1) (v:=Sl.nil.v) h2.blk (by simp[rkC]) rfl;have e2':bM (fun s_1:Int×World=>cO (some ⟨p,0,none⟩) s_1.1 s_1.2) (0,w1)=some w2:=e2;refine⟨w3,Sl.nil,rows2,[],?_,h2.pend o3 ?_ ?_ rfl ⟨?_,by simp,by simp,h1.wf.l0,h1.wf.l1,?_⟩,?_,fun k hk=>?_,fun k hk=>?_⟩
 .simp only[e2',aLx,e3]
 .rw[b3];rfl
 .simp only[jY,jE]
 .have:=h2.wf.s64;simpa only[jY,jE] using this
 .have:=h2.wf.n;simpa only[jY,jE] using this
 .exact((o1.fr (S:=RAt.foot p a b) (.inl rfl)).trans (f2.mono fun i hi=>.inl (.inr (.inl hi)))).trans (o3.fr (.inl rfl))
 .obtain⟨a,ha,_⟩:=hk;cases ha
 have hk':gH rows2 puts k:=hk.elim .inl (fun ⟨x,hx,_⟩=>by cases hx);exact(k2 k hk').elim .inl (fun h=>.inr (by rw[<-o1.size];exact h))
theorem zJ (hW:D.W.length<1000000) {f:Sl} {fs:List Int} (hfb:∀ c,f.p=some c->0<f.n->¬ a.blk c.block) :
  ∀ (suf pre:List (Int×List Int)) (rows:List Sl) (S:List (List Int)) (w:World),D.W=pre++suf->RAt w p a b rows puts { D with S:=S }->Rd w f 1 (nums .i64 fs) ->
   ∃ w' rows',bM (fun r:Int×World=>cB (some ⟨p,0,none⟩) f r.1 r.2) ((pre.length:Int),w)=some w'/\RAt w' p a b rows' puts { D with S:=pD fs pre.length suf S }/\Fr (fun k=>a.blk k) w w'/\(∀ k,gH rows' puts k->gH rows puts k\/w.heap.size<=k):=by
 intro suf
 induction suf with
 | nil =>
  intro pre rows S w hpre h hf;refine⟨w,rows,bS ?_,h,Fr.refl,fun k hk=>.inl hk⟩;have:D.W.length=pre.length:=by rw[hpre];simp
  have hb:=h.bn;simp only at hb;simp[cB,aD,pM h,hb,this]
 | cons x suf ih =>
  intro pre rows S w hpre h hf;have hlen:pre.length<D.W.length:=by rw[hpre];simp
  have hg:D.W[pre.length]=x:=by simp[hpre]
  obtain⟨ad,s,ea,la,_,_,hrow,_⟩:=zE h (n:=pre.length) hlen;simp only[hg] at la hrow;have hxW:x∈D.W:=by rw[hpre];simp
  have hwat:=h.wf.wat x hxW;simp only at hwat;have hbad:({ D with S:=S }:Dk).bad x.1=false:=by simp[Dk.bad];omega
  have hfate:=aBx (k:=pre.length) hf;have hr:=sP fs pre.length;have hlt:(pre.length:Int)<(b.n:Int):=by have hb:=h.bn;simp only at hb;omega
  have h3:rmI (lN fs pre.length) 3=some ((lN fs pre.length).tmod 3):=by simp[rmI]
  simp only[decide_eq_true_eq] at hfate;have round:∃ w1 rows1,cB (some ⟨p,0,none⟩) f (pre.length:Int) w=some (.inl (((pre.length+1:Nat):Int),w1))/\RAt w1 p a b rows1 puts { D with S:=kA fs pre.length S x }/\Fr (fun k=>a.blk k) w w1/\(∀ k,gH rows1 puts k->gH rows puts k\/w.heap.size<=k):=by
   simp only[cB,aLx,aD,aLy,pM h,hlt,decide_true,if_true,hfate,aE,h3,beq_iff_eq,decide_eq_true_eq,cC (show pre.length<9223372036854775807 by omega)];by_cases c1:(lN fs pre.length).tmod 3=1
   .obtain⟨w1,o,e1,h1,f1,k1⟩:=xY (m:=64) h hrow (h.wf.w64 x hxW) hbad (aIv _);have e1':cJ (some ⟨p,0,none⟩) [.int .i64 x.1,s.v] 64 w=some w1:=e1;refine⟨w1,rows.set x.1.toNat o,?_,?_,f1,fun k hk=>(sO hk).elim .inl (fun h=>.inr (k1 k h))⟩
    .have c2:¬ ((1:Int)=2):=by omega
     simp only[c1,if_true,ea,aLx,la,e1',c2,if_false]
    have:kA fs pre.length S x=oA S x 64:=by simp only[kA,c1,if_true]
    rw[this];exact h1
   by_cases c2:(lN fs pre.length).tmod 3=2
   .have hm0:0<=((lN fs pre.length).tdiv 3).tmod 64:=Int.tmod_nonneg _ (Int.tdiv_nonneg hr.1 (by omega));have hm1:((lN fs pre.length).tdiv 3).tmod 64<64:=aKC _ (by omega);have hdv:dvI .u64 (lN fs pre.length) 3=some ((lN fs pre.length).tdiv 3):=by
     have h:∀ x:Int,IntKind.wrap .u64 x=x % 18446744073709551616:=fun x=>by simp[IntKind.wrap,IntKind.bits,IntKind.signed]
     have h1:(lN fs pre.length).tdiv 3=lN fs pre.length / 3:=aJE hr.1;simp only[dvI,h,h1];rw[if_neg (by omega)];congr 1;omega
    have hrm:rmI ((lN fs pre.length).tdiv 3) 64=some (((lN fs pre.length).tdiv 3).tmod 64):=by simp[rmI]
    obtain⟨m,hm⟩:∃ m,((lN fs pre.length).tdiv 3).tmod 64=m:=⟨_,rfl⟩;rw[hm] at hm0 hm1 hrm;have hwr:IntKind.wrap .i64 m=m:=by rw[aIy];omega
    obtain⟨w1,o,e1,h1,f1,k1⟩:=xY (m:=m.toNat) h hrow (h.wf.w64 x hxW) hbad (by omega);rw[show((m.toNat:Nat):Int)=m by omega] at e1;refine⟨w1,rows.set x.1.toNat o,?_,?_,f1,fun k hk=>(sO hk).elim .inl (fun h=>.inr (k1 k h))⟩
    .have c1':¬ (2:Int)=1:=by omega
     simp only[c2,c1',if_true,if_false,aLx,pM h,ea,la,hdv,hrm,hwr,e1]
    have:kA fs pre.length S x=oA S x m.toNat:=by simp only[kA];rw[if_neg c1,if_pos c2,hm]
    rw[this];exact h1
   refine⟨w,rows,?_,?_,Fr.refl,fun k hk=>.inl hk⟩
   .simp only[c1,c2,if_false,aLx]
   have:kA fs pre.length S x=S:=by simp only[kA,c1,c2,if_false]
   rw[this];exact h
  obtain⟨w1,rows1,e1,h1,f1,k1⟩:=round;obtain⟨w2,rows2,e2,h2,f2,k2⟩:=ih (pre++[x]) rows1 _ w1 (by rw[hpre];simp) h1 (hf.fr f1 hfb);refine⟨w2,rows2,?_,by simpa[pD] using h2,f1.trans f2,fun k hk=>?_⟩
  .rw[<-e2,show((pre++[x]).length:Int)=((pre.length+1:Nat):Int) by simp];exact cH e1
  exact(k2 k hk).elim (k1 k) (fun h'=>.inr (aJe f1.size h'))
theorem xQ {f:Sl} {fs:List Int} (h:RAt w p a b rows puts D) (hbd:D.W.length<1000000) (hf:Rd w f 1 (nums .i64 fs)) (hfb:∀ c,f.p=some c->0<f.n->¬ a.blk c.block) :
  ∃ w' rows',cZ (some ⟨p,0,none⟩) f w=some (0,w')/\RAt w' p a Sl.nil rows' [] (D.crash fs)/\Fr (RAt.foot p a b) w w'/\(∀ k,gH rows' [] k->gH rows puts k\/w.heap.size<=k):=by
 obtain⟨w1,rows1,e1,h1,f1,k1⟩:=zJ (D:=D) hbd hfb D.W [] rows D.S w rfl h hf;simp only[aIS,aJQ] at e1;obtain⟨w2,e2,b2,o2⟩:=mE (o:=1) (v:=Sl.nil.v) h1.blk (by simp[rkC]) rfl;obtain⟨w3,e3,b3,o3⟩:=mE (o:=2) (v:=.int .i64 0) b2 (by simp[rkC]) rfl;obtain⟨w4,e4,b4,o4⟩:=mE (o:=3) (v:=.bool false) b3 (by simp[rkC]) rfl;have l4:ldI .i64 w4 ⟨p,4,none⟩=some D.age:=lP b4 rfl;obtain⟨w5,e5,b5,o5⟩:=mE (o:=4) (v:=.int .i64 (IntKind.wrap .i64 (D.age+1))) b4 (by simp[rkC]) rfl;have o25:One p w1 w5:=o2.trans (o3.trans (o4.trans o5));have e1':bM (fun r:Int×World=>cB (some ⟨p,0,none⟩) f r.1 r.2) (0,w)=some w1:=e1;refine⟨w5,rows1,?_,h1.pend o25 ?_ ?_ rfl ⟨?_,by simp[Dk.crash],by simp[Dk.crash],by simp[Dk.crash],by simp[Dk.crash],?_⟩,(f1.mono fun i hi=>.inl (.inr (.inl hi))).trans (o25.fr (.inl rfl)),fun k hk=>?_⟩
 .unfold cZ;simp only[aJf,aIx,if_false,aLx,aD,aLy,e1',e2,e3,e4,l4,e5]
 .rw[b5];rfl
 .rfl
 .exact h1.wf.s64
 .exact h1.wf.n
 exact k1 k (hk.elim .inl (fun ⟨x,hx,_⟩=>by cases hx))
theorem aBN {w2:World} {o:Sl} {xs:List Int} (hr:iS w2 o xs) (hk:∀ k,o.blk k->w.heap.size<=k) (hf:∀ S,Fr S w w2):Row w w2 o xs :=
 ⟨⟨_,hr⟩,fun a ha=>hk _ ⟨a,ha,rfl⟩,hf⟩
theorem aDp {i:Int} (h:RAt w p a b rows puts D):∃ o w',kB (some ⟨p,0,none⟩) i w=some (o,(D.sure i).2,w')/\Row w w' o (D.sure i).1:=by
 unfold kB Dk.sure;simp only[aJf,aIx,if_false,yO h,aE];by_cases hi:D.bad i=true
 .simp only[hi,aKs,aKJ,if_true];exact⟨_,_,rfl,Row.none⟩
 have hi':D.bad i=false:=by simpa using hi
 obtain⟨g,s,xs,rest,hp,hB,e1,e2,hr,hS,hx,lx,hrow⟩:=aAN h hi';have hsn:s.n=64:=by have:=hrow.len;simp at this;omega
 obtain⟨w1,o,w2,b1,b2,b3,b4,f1,f2⟩:=sT hrow.rd (by omega);have h1:=h.fr (f1 (fun _=>False)) (fun _ _ h=>h) (fun _ _ h=>h);have e2':ldL w1 ⟨g,i.toNat,none⟩=some s:=by
  refine pE ((f1 (fun _=>False)).B hB id) ?_;rw[aID (by rw[nB];exact(aIt.1 hr).1)];exact wQ hr
 simp only[hi',aKJ,aKs,aIx,if_false,b1,aE,aLx,aD,aLy,sN h1,e1,e2',b2];rw[<-hx];exact⟨_,_,rfl,aBN b3 b4 f2⟩
theorem aBd {i:Int} (h:RAt w p a b rows puts D) (hbd:D.W.length<1000000) :
  ∀ (suf pre:List (Int×List Int)) (s:Sl) (xs:List Int),D.W=pre++suf->iS w s xs->xs.length=64 ->
   ∃ s' xs',bM (fun r:Sl×Int×World=>cM (some ⟨p,0,none⟩) i r.1 r.2.1 r.2.2) (s,(pre.length:Int),w)=some (s',w)/\iS w s' xs'/\xs'=suf.foldl (fun b x=>if x.1=i then x.2 else b) xs/\xs'.length=64:=by
 intro suf
 induction suf with
 | nil =>
  intro pre s xs hpre hr hx;refine⟨s,xs,bS ?_,hr,rfl,hx⟩;have:D.W.length=pre.length:=by rw[hpre];simp
  have hb:=h.bn;simp[cM,aD,pM h,hb,this]
 | cons x suf ih =>
  intro pre s xs hpre hr hx;have hlen:pre.length<D.W.length:=by rw[hpre];simp
  have hg:D.W[pre.length]=x:=by simp[hpre]
  obtain⟨ad,q,ea,_,i1,i2,hrow,_⟩:=zE h (n:=pre.length) hlen;simp only[hg] at i1 hrow;have hxW:x∈D.W:=by rw[hpre];simp
  have hlt:(pre.length:Int)<(b.n:Int):=by have hb:=h.bn;omega
  by_cases hc:x.1=i
  .obtain⟨s',xs',e',r',f',l'⟩:=ih (pre++[x]) q x.2 (by rw[hpre];simp) hrow (h.wf.w64 x hxW);refine⟨s',xs',?_,r',by rw[f',aJn,if_pos hc],l'⟩;rw[<-e',show((pre++[x]).length:Int)=((pre.length+1:Nat):Int) by simp];refine cH ?_;simp only[cM,aLx,aD,aLy,pM h,hlt,decide_true,if_true,ea,i1,i2,hc,beq_self_eq_true,aE];rw[cC (by omega)]
  obtain⟨s',xs',e',r',f',l'⟩:=ih (pre++[x]) s xs (by rw[hpre];simp) hr hx;refine⟨s',xs',?_,r',by rw[f',aJn,if_neg hc],l'⟩;rw[<-e',show((pre++[x]).length:Int)=((pre.length+1:Nat):Int) by simp];refine cH ?_;have hc':(x.1==i)=false:=by simpa using hc
  simp only[cM,aLx,aD,aLy,pM h,hlt,decide_true,if_true,ea,i1,hc',aIx,if_false,aE];rw[cC (by omega)]
theorem aAC {i:Int} (h:RAt w p a b rows puts D) (hbd:D.W.length<1000000):∃ o w',bX (some ⟨p,0,none⟩) i w=some (o,(D.read i).2,w')/\Row w w' o (D.read i).1:=by
 unfold bX Dk.read;simp only[aJf,aIx,if_false,aLx,aD,aLy,tW h,yO h,aE];by_cases hd:D.down=true
 .simp only[hd,if_true];exact⟨_,_,rfl,Row.none⟩
 simp only[hd,aIx,if_false];by_cases hi:D.bad i=true
 .simp only[hi,aKs,aKJ,if_true];exact⟨_,_,rfl,Row.none⟩
 have hi':D.bad i=false:=by simpa using hi
 obtain⟨g,s,xs,rest,hp,hB,e1,e2,hr,hS,hx,lx,hrow⟩:=aAN h hi';obtain⟨s',xs',e3,r3,hx',lx'⟩:=aBd (i:=i) h hbd D.W [] s xs rfl hrow lx;simp only[aIS,aJQ] at e3;have hsn:s'.n=64:=by have:=r3.len;simp at this;omega
 obtain⟨w1,o,w2,b1,b2,b3,b4,f1,f2⟩:=sT r3.rd (by omega);simp only[hi',aKJ,aKs,aIx,if_false,sN h,aLx,e1,e2];rw[e3,aE,b1,aE,b2,aE];have hcur:D.cur i=xs':=by rw[hx',hx,Dk.cur]
 refine⟨o,w2,rfl,?_⟩;rw[hcur];exact aBN b3 b4 f2
theorem aDl:∀ v∈[Value.int .u8 0],v.oneCell'=true:=by intro v hv;simp at hv;subst hv;rfl
theorem aEE {x:Int} {s:Sl}:∀ v∈[Value.int .i64 x,s.v],v.oneCell'=true:=by
 intro v hv;simp only[aJI,aLg,or_false] at hv;rcases hv with rfl | rfl<;>rfl
theorem RAt.bytes (h:RAt w p a b rows puts D) {c:Sl} {bs:List Int} (hb:Rd w c 1 (nums .u8 bs)):∀ ad,c.p=some ad->0<c.n->ad.block≠p:=by
 intro ad ha hn e;obtain⟨a',ha',hc⟩:=hb.at_ hn;rw[ha] at ha';cases ha';have hl:=hb.len;simp only[bG,aKm] at hl;have h0:=hc 0 (.int .u8 (bs[0]'(by omega))) (by rw[lY,aIs (by omega)];rfl);rw[aGr] at h0;obtain⟨ab,ao,asp⟩:=ad;simp only at e;subst e;simp only[World.cell?,nS.1 h.blk] at h0;split at h0
 .cases h0
 simp[rkC,Sl.v] at h0;rcases ao with _ | _ | _ | _ | _ | ao<;>simp at h0
theorem xN {i:Int} {c:Sl} {cs:List Int} (h:RAt w p a b rows puts D) (hb:Rd w c 1 (nums .u8 cs)) (hbd:D.W.length<1000000) :
  ∃ w' b' puts',bE (some ⟨p,0,none⟩) i c w=some ((D.write i cs).1,w')/\RAt w' p a b' rows puts' (D.write i cs).2/\Fr (RAt.foot p a b) w w'/\(∀ k,b'.blk k->b.blk k\/w.heap.size<=k)/\(∀ k,gH rows puts' k->gH rows puts k\/w.heap.size<=k):=by
 have hcn:cs.length=c.n:=by have:=hb.len;simpa using this
 unfold bE Dk.write;simp only[aJf,aIx,if_false,aLx,aD,aLy,tW h,yO h,aE];by_cases hd:D.down=true
 .exact⟨w,b,puts,by simp[hd],by simpa[hd] using h,Fr.refl,fun k hk=>.inl hk,fun k hk=>.inl hk⟩
 by_cases hi:D.bad i=true
 .exact⟨w,b,puts,by simp[hd,hi],by simpa[hd,hi] using h,Fr.refl,fun k hk=>.inl hk,fun k hk=>.inl hk⟩
 have hi':D.bad i=false:=by simpa using hi
 by_cases hl:64<cs.length
 .have:decide (64<(c.n:Int))=true:=by simp;omega
  exact⟨w,b,puts,by simp[hd,hi',hl,this],by simpa[hd,hi',hl] using h,Fr.refl,fun k hk=>.inl hk,fun k hk=>.inl hk⟩
 have hl':decide (64<(c.n:Int))=false:=by simp;omega
 obtain⟨w1,e1,h1,o1⟩:=xC h;simp only[hd,hi',hl,hl',aIx,if_false,aKJ,aKs,e1,aE];by_cases ht:D.trips.1=true
 .simp only[ht,if_true];exact⟨w1,b,puts,rfl,h1,o1.fr (.inl rfl),fun k hk=>.inl hk,fun k hk=>.inl hk⟩
 simp only[ht,aIx,if_false];have hb1:Rd w1 c 1 (nums .u8 cs):=hb.fr (o1.fr (S:=fun k=>k=p) rfl) (fun ad hc h0 hk=>h.bytes hb ad hc h0 hk);obtain⟨w2,o,w3,a1,a2,a3,a4,f2,f3⟩:=sT hb1 (by omega);have hon:o.n=cs.length:=by have:=a3.len;simp at this;omega
 obtain⟨o4,w4,a5,a6,f4,a7,a8⟩:=aBP (m:=64-cs.length) mS (ti:=3) Try.underlying3 a3 aDl (by rw[hon];omega);have hwr:IntKind.wrap .i64 (64-(c.n:Int))=((64-cs.length:Nat):Int):=by rw[aIy];omega
 have hrow4:iS w4 o4 (pad cs):=by
  unfold iS;rw[nV] at a6;rw[show nums .u8 (pad cs)=nums .u8 cs++nums .u8 (List.replicate (64-cs.length) 0) by simp[nums,pad]];exact a6
 have f14:∀ S,Fr S w1 w4:=fun S=>(f3 S).trans_new f4 (fun k hk=>.inr (a4 k hk));have h4:=h1.fr (f14 (fun _=>False)) (fun _ _ h=>h) (fun _ _ h=>h);have k4:∀ k,o4.blk k->w1.heap.size<=k:=fun k hk=>(a8 k hk).elim (a4 k) (fun h=>aJe (f3 (fun _=>False)).size h);obtain⟨w5,a9,n5⟩:=wD (w:=w4) (T:=172) (sz:=2) (ps:=[[.int .i64 i,o4.v]]) (by simp);have f5:∀ S,Fr S w4 w5:=fun S=>(n5.fr _ S (aIv _)).fr;have h5:=h4.fr (f5 (fun _=>False)) (fun _ _ h=>h) (fun _ _ h=>h);have hrow5:iS w5 o4 (pad cs):=Own.fr hrow4 (f5 (fun _=>False)) (fun _ _ h=>h);have own5:Own w5 172 ⟨some ⟨w4.heap.size,0,none⟩,1,1⟩ 2 [.int .i64 i,o4.v]:=by
  refine Own.of_new (w:=w4) ?_ rfl (by omega);simpa using n5
 obtain⟨b',w6,a10,own6,f6,n6,k6⟩:=qS aGA h5.waits own5.rd aEE (by rw[h5.bn,jE];simp only;omega);have hbp:¬ b.blk p:=h5.ne.2.1;have bp6:=f6.B h5.blk hbp;obtain⟨w7,a11,b7,o7⟩:=mE (o:=1) (v:=b'.v) bp6 (by simp[rkC]) rfl;have z14:=(f14 (fun _=>False)).size;have z45:=(f5 (fun _=>False)).size;have z01:w1.heap.size=w.heap.size:=o1.size;have plt:p<w.heap.size:=qW h.blk;have hb'p:¬ b'.blk p:=fun hk=>(k6 p hk).elim hbp (fun h2=>by omega);have rowk:∀ {s:Sl} {xs:List Int},iS w5 s xs->iS w7 s xs:=by
  intro s xs hr;have h6:iS w6 s xs:=Own.fr hr f6 (fun k hk hb=>by
   obtain⟨c1,e1⟩:=Own.ty hr hk;obtain⟨c2,e2⟩:=h5.waits.ty hb;rw[e1] at e2;simp at e2)
  refine o7.own h6 (fun hk=>?_);obtain⟨c1,e1⟩:=Own.ty h6 hk;rw[bp6] at e1;simp at e1
 have hpl:=h5.pl;rw[jE] at hpl;refine⟨w7,b',puts++[(i,o4)],?_,⟨?_,?_,?_,?_,?_,?_,?_,?_⟩,?_,fun k hk=>(k6 k hk).elim .inl (fun h=>.inr (by omega)),?_⟩
 .rw[a1,aE,a2,aE,hwr,a5,aE,pM h4,aLx,a9,aE];simp only[aIH,aIS,aLy];rw[a10,aE,a11,aLx]
 .refine⟨?_,?_,?_,h.wf.trips.l0,h.wf.trips.l1,h.wf.trips.n⟩
  .simp only[jY];exact h.wf.s64
  .intro x hx;simp only[aIG,aJr] at hx;rcases hx with hx | rfl
   .exact h.wf.w64 x hx
   simp[pad];omega
  intro x hx;simp only[aIG,aJr,jY] at hx ⊢;rcases hx with hx | rfl
  .exact h.wf.wat x hx
  simp only[Dk.bad,aJc,decide_eq_true_eq,not_or] at hi;omega
 .rw[b7];rfl
 .exact o7.own (h5.sure.fr f6 (fun k hk hb=>h5.ne.2.2 k hk hb)) h5.ne.1
 .have:=o7.own own6 hb'p;rw[show xA (puts++[(i,o4)])=xA puts++[.int .i64 i,o4.v] by simp[xA]];exact this
 .simp only;exact h5.rl
 .simp only[aIE,List.length_singleton];omega
 .intro j s xs hs hx;exact rowk (h5.rat j s xs hs hx)
 .intro j x y hx hy;simp only at hy;by_cases hj:j<puts.length
  .rw[aID hj] at hx;rw[aID (by omega)] at hy;have:=h5.pat j x y hx (by rw[jE];exact hy);exact⟨this.1,rowk this.2⟩
  rw[aII (by omega)] at hx hy;have hj0:j-puts.length=0:=by have:=(aIt.1 hx).1;simpa using this
  rw[<-hpl] at hy;rw[hj0] at hx hy;simp at hx hy;subst hx;subst hy;exact⟨rfl,rowk hrow5⟩
 .refine(o1.fr (S:=RAt.foot p a b) (.inl rfl)).trans (((f14 _).trans (f5 _)).trans ((f6.mono fun k hk=>.inl (.inr (.inr hk))).trans (o7.fr (.inl rfl))))
 intro k hk;rcases hk with h | ⟨x,hx,hk⟩
 .exact .inl (.inl h)
 simp only[aIG,aJr] at hx;rcases hx with hx | rfl
 .exact .inl (.inr ⟨x,hx,hk⟩)
 exact .inr (by have:=k4 k hk;omega)
theorem aCq {m:Nat} (hm:m<=512) :
  ∀ (d k:Nat) (a:Sl) (rows:List Sl) (w:World),k+d=m->B w p=some (rkC a Sl.nil 0 false 0,115)->Own w 72 a 1 (nZ rows)->rows.length=k->(∀ s∈rows,iS w s (List.replicate 64 0)) ->
   ∃ w' a' rows',bM (fun r:Int×World=>fX (m:Int) ⟨p,0,none⟩ r.1 r.2) ((k:Int),w)=some w'/\B w' p=some (rkC a' Sl.nil 0 false 0,115)/\Own w' 72 a' 1 (nZ rows')/\rows'.length=m/\(∀ s∈rows',iS w' s (List.replicate 64 0))/\Fr (fun k=>k=p\/a.blk k) w w'/\(∀ k,a'.blk k->a.blk k\/w.heap.size<=k)/\(∀ s∈rows',s∈rows\/∀ k,s.blk k->w.heap.size<=k):=by
 intro d
 induction d with
 | zero =>
  intro k a rows w hk hp ho hl hr;refine⟨w,a,rows,bS ?_,hp,ho,by omega,hr,Fr.refl,fun k hk=>.inl hk,fun s hs=>.inl hs⟩;have:¬ (k:Int)<(m:Int):=by omega
  simp[fX,this]
 | succ d ih =>
  intro k a rows w hk hp ho hl hr;have han:a.n=k:=by have:=ho.len;rw[nB,hl] at this;omega
  obtain⟨w1,e1,d1,g1,z1,_⟩:=tQ (w:=w);obtain⟨w2,e2,n2⟩:=wW (w:=w1) mS (m:=64) (by omega) (by omega);have h64:(64:Int).toNat=64:=rfl;rw[h64] at e2 n2;rw[nV] at n2;have row2:iS w2 ⟨some ⟨w1.heap.size,0,none⟩,64,64⟩ (List.replicate 64 0):=Own.of_new n2 (by simp only[bG,aIM]) (by omega);obtain⟨w3,e3,n3⟩:=wD (w:=w2) (T:=72) (sz:=1) (ps:=[[(⟨some ⟨w1.heap.size,0,none⟩,64,64⟩:Sl).v]]) (by simp);have f2:∀ S,Fr S w w2:=fun S=>(g1 w.heap.size S).fr.trans (n2.fr _ S (aIv _)).fr;have f3:∀ S,Fr S w w3:=fun S=>(f2 S).trans (n3.fr _ S (aIv _)).fr;have row3:iS w3 ⟨some ⟨w1.heap.size,0,none⟩,64,64⟩ (List.replicate 64 0):=Own.fr row2 (n3.fr _ (fun _=>False) (aIv _)).fr (fun _ _ h=>h);have own3:Own w3 72 ⟨some ⟨w2.heap.size,0,none⟩,1,1⟩ 1 [(⟨some ⟨w1.heap.size,0,none⟩,64,64⟩:Sl).v]:=by
   refine Own.of_new (w:=w2) ?_ rfl (by omega);simpa using n3
  have ho3:=ho.fr (f3 (fun _=>False)) (fun _ _ h=>h);have hp3:=(f3 (fun _=>False)).B hp id;obtain⟨a',w4,e4,o4,f4,n4,k4⟩:=qS aGJ ho3 own3.rd (by intro v hv;simp at hv;subst hv;rfl) (by simp only[han];omega);have hap:¬ a.blk p:=fun hk=>by obtain⟨c,hc⟩:=ho.ty hk;rw[hp] at hc;simp at hc
  have hp4:=f4.B hp3 hap;obtain⟨w5,e5,b5,o5⟩:=mE (o:=0) (v:=a'.v) hp4 (by simp[rkC]) rfl;have plt:=qW hp;have ha'p:¬ a'.blk p:=fun hk=>(k4 p hk).elim hap (fun h=>by have:=(f3 (fun _=>False)).size;omega);have own5:=o5.own o4 ha'p;have rowk:∀ {s:Sl} {xs:List Int},iS w3 s xs->iS w5 s xs:=by
   intro s xs hr;have h4:iS w4 s xs:=Own.fr hr f4 (fun k hk hb=>by
    obtain⟨c1,e1⟩:=Own.ty hr hk;obtain⟨c2,e2⟩:=ho3.ty hb;rw[e1] at e2;simp at e2)
   refine o5.own h4 (fun hk=>?_);obtain⟨c1,e1⟩:=Own.ty h4 hk;rw[hp4] at e1;simp at e1
  obtain⟨w',a2,rows2,e',b',own',l',r',f',k',q'⟩:=ih (k+1) a' (rows++[⟨some ⟨w1.heap.size,0,none⟩,64,64⟩]) w5 (by omega) (by rw[b5];rfl)
   (by rw[show nZ (rows++[⟨some ⟨w1.heap.size,0,none⟩,64,64⟩])=nZ rows++[(⟨some ⟨w1.heap.size,0,none⟩,64,64⟩:Sl).v] by simp[nZ]];exact own5) (by simp[hl]) (fun s hs=>by
    simp only[aIG,aJr] at hs;rcases hs with hs | rfl
    .exact rowk (Own.fr (hr s hs) (f3 (fun _=>False)) (fun _ _ h=>h))
    exact rowk row3)
  have zz:w.heap.size<=w5.heap.size:=by have:=(f3 (fun _=>False)).size;have:=f4.size;have:=o5.size;omega
  have f35:Fr (fun k=>k=p\/a.blk k) w w5:=(f3 _).trans ((f4.mono fun k hk=>.inl (.inr hk)).trans (o5.fr (.inl rfl)));refine⟨w',a2,rows2,?_,b',own',l',r',f35.trans_new f' (fun k hk=>?_),fun k hk=>?_,fun s hs=>?_⟩
  .rw[<-e'];refine cH ?_;have hlt:decide ((k:Int)<(m:Int))=true:=by simp;omega
   have l1:ldL w1 ⟨p,0,none⟩=some a:=pE ((d1 p).trans hp) rfl;have l2:ldL w2 ⟨p,0,none⟩=some a:=pE ((f2 (fun _=>False)).B hp id) rfl;have l3:ldL w3 ⟨p,0,none⟩=some a:=pE hp3 rfl;unfold fX;rw[if_pos hlt,e1,aLx,aD,l1,aLx,e2,aE,e3,aE];simp only[aIH,aIS,aLy];rw[e4,aE,e5,aLx,gR l2,gR l3,cC (by omega)]
  .rcases hk with hk | hk
   .exact .inl (.inl hk)
   rcases k4 k hk with h | h
   .exact .inl (.inr h)
   exact .inr (by have:=(f3 (fun _=>False)).size;omega)
  .rcases k' k hk with h | h
   .rcases k4 k h with h | h
    .exact .inl h
    exact .inr (by have:=(f3 (fun _=>False)).size;omega)
   exact .inr (by omega)
  rcases q' s hs with h | h
  .simp only[aIG,aJr] at h;rcases h with h | rfl
   .exact .inl h
   exact .inr (fun k hk=>by have:=sQ hk;omega)
  exact .inr (fun k hk=>by have:=h k hk;omega)
theorem aBZ {m:Int} (h1:1<=m) (h2:m<=512):∃ w' a rows,gI m w=some (some ⟨w.heap.size,0,none⟩,0,w')/\RAt w' w.heap.size a Sl.nil rows [] (Dk.new m.toNat)/\(∀ S,Fr S w w')/\(∀ k,RAt.foot w.heap.size a Sl.nil k->w.heap.size<=k)/\(∀ k,gH rows [] k->w.heap.size<=k):=by
 obtain⟨w1,e1,n1⟩:=aBn (w:=w) (T:=115) (cs:=[.slice none 0 0,.slice none 0 0,.int .i64 0,.bool false,.int .i64 0]);obtain⟨w',a,rows,e,b,o,l,r,f,k,q⟩:=aCq (p:=w.heap.size) (m:=m.toNat) (by omega) m.toNat 0 Sl.nil [] w1 (by omega) n1.b Own.nil rfl (by simp);rw[show((m.toNat:Nat):Int)=m by omega] at e;simp only[aJQ] at e;have t1:¬ m<1:=by omega
 have t2:¬ 512<m:=by omega
 refine⟨w',a,rows,?_,⟨⟨?_,?_,?_,by simp[Dk.new],by simp[Dk.new],by simp[Dk.new];omega⟩,b,o,Own.nil,by simp[Dk.new,l],rfl,?_,?_⟩,fun S=>((n1.fr _ S (aIv _)).fr).trans_new f (fun k hk=>?_),?_,?_⟩
 .unfold gI;simp only[t1,t2,decide_false,aIx,if_false,aE,e1,aLx,e]
 .intro x hx;simp[Dk.new] at hx;obtain⟨_,rfl⟩:=hx;simp
 .intro x hx;simp[Dk.new] at hx
 .intro x hx;simp[Dk.new] at hx
 .intro i s xs hs hx;have:xs=List.replicate 64 0:=by
   have:=aIF hx;simp only[Dk.new,aJk] at this;exact this.2
  rw[this];exact r s (aIF hs)
 .intro i x y hx;simp at hx
 .rcases hk with rfl | ⟨ad,ha,_⟩
  .exact .inr (aIv _)
  cases ha
 .rintro j (rfl | hj | ⟨ad,ha,_⟩)
  .exact aIv _
  .rcases k j hj with⟨ad,ha,_⟩ | h
   .cases ha
   have:=n1.size;omega
  cases ha
 rintro j (⟨s,hs,hk⟩ | ⟨x,hx,_⟩)
 .rcases q s hs with h | h
  .simp at h
  have:=h j hk;have:=n1.size;omega
 simp at hx
end
def eD (w:World) (p:Nat) (G R:Nat->Prop) (D:Dk):Prop:=∃ a b rows puts,RAt w p a b rows puts D/\(∀ k,RAt.foot p a b k->G k)/\(∀ k,gH rows puts k->R k)
def NB (w:World) (F:Nat->Prop) (k:Nat):Prop:=F k/\¬ Byt w k
section
variable {w w' : World} {p x y n : Nat} {F G R S : Nat -> Prop} {D : Dk}
theorem Fr.byt (h:Fr (NB w F) w w') {k:Nat} (hk:Byt w k):Byt w' k:=by
 obtain⟨c,hc⟩:=hk;exact⟨c,h.B hc (fun hn=>hn.2 ⟨c,hc⟩)⟩
theorem DAt.foot_ty {sb:Bk} {s:Sl} (h:DAt w p sb s D) {k:Nat} (hk:DAt.foot p sb s k):¬ Byt w k:=by
 rintro⟨c,hc⟩;rcases hk with rfl | rfl | hk
 .rw[h.blk] at hc;simp at hc
 .rw[h.sure] at hc;simp at hc
 obtain⟨c',h'⟩:=h.waits.ty hk;rw[h'] at hc;simp at hc
theorem gQ.nb (h:gQ w p F D):gQ w p (NB w F) D:=by
 obtain⟨sb,s,h,hF⟩:=h;exact⟨sb,s,h,fun k hk=>⟨hF k hk,h.foot_ty hk⟩⟩
theorem eD.wf (h:eD w p G R D):D.Wf:=by obtain⟨_,_,_,_,h,_⟩:=h;exact h.wf
theorem eD.fr (h:eD w p G R D) (hf:Fr S w w') (hG:∀ k,G k->¬ S k) (hR:∀ k,R k->Byt w k->¬ S k):eD w' p G R D:=by
 obtain⟨a,b,rows,puts,h,h1,h2⟩:=h;exact⟨a,b,rows,puts,h.fr hf (fun k hk=>hG k (h1 k hk)) (fun k hk=>hR k (h2 k hk) (h.byt hk)),h1,h2⟩
theorem eD.keep {a b a' b':Sl} {rows rows':List Sl} {puts puts':List (Int×Sl)} {D D':Dk} (h:RAt w p a b rows puts D) (h1:∀ k,RAt.foot p a b k->G k) (h2:∀ k,gH rows puts k->R k)
  (h':RAt w' p a' b' rows' puts' D') (ha:∀ k,a'.blk k->a.blk k\/w.heap.size<=k) (hb:∀ k,b'.blk k->b.blk k\/w.heap.size<=k) (hr:∀ k,gH rows' puts' k->gH rows puts k\/w.heap.size<=k):eD w' p (qE G w w') (qE R w w') D':=by
 refine⟨a',b',rows',puts',h',fun k hk=>?_,fun k hk=>(hr k hk).elim (fun h=>.inl (h2 k h)) (fun h=>.inr ⟨h,(h'.byt hk).lt⟩)⟩;have hl:=h'.lt hk;rcases hk with rfl | hk | hk
 .exact .inl (h1 _ (.inl rfl))
 .exact(ha k hk).elim (fun h=>.inl (h1 k (.inr (.inl h)))) (fun h=>.inr ⟨h,hl⟩)
 exact(hb k hk).elim (fun h=>.inl (h1 k (.inr (.inr h)))) (fun h=>.inr ⟨h,hl⟩)
theorem eD.nbf {a b:Sl} {rows:List Sl} {puts:List (Int×Sl)} (h:RAt w p a b rows puts D) (h1:∀ k,RAt.foot p a b k->G k) (hf:Fr (RAt.foot p a b) w w'):Fr (NB w G) w w' :=
 hf.mono fun k hk=>.inl ⟨h1 k hk,h.foot_ty hk⟩
theorem eD.new {m:Int} (h1:1<=m) (h2:m<=512):∃ q w',gI m w=some (some ⟨q,0,none⟩,0,w')/\eD w' q (fun k=>w.heap.size<=k) (fun k=>w.heap.size<=k) (Dk.new m.toNat)/\(∀ S,Fr S w w'):=by
 obtain⟨w',a,rows,e,h,f,k1,k2⟩:=aBZ (w:=w) h1 h2;exact⟨_,w',e,⟨a,Sl.nil,rows,[],h,k1,k2⟩,f⟩
theorem eD.write {i:Int} {c:Sl} {cs:List Int} (h:eD w p G R D) (hb:Rd w c 1 (nums .u8 cs)) (hbd:D.W.length<1000000) :
  ∃ w',bE (some ⟨p,0,none⟩) i c w=some ((D.write i cs).1,w')/\eD w' p (qE G w w') (qE R w w') (D.write i cs).2/\Fr (NB w G) w w':=by
 obtain⟨a,b,rows,puts,h,h1,h2⟩:=h;obtain⟨w',b',puts',e,h',f,k1,k2⟩:=xN (i:=i) h hb hbd;exact⟨w',e,eD.keep h h1 h2 h' (fun k hk=>.inl hk) k1 k2,eD.nbf h h1 f⟩
theorem eD.sync (h:eD w p G R D) (hbd:D.W.length<1000000) :
  ∃ w',bK (some ⟨p,0,none⟩) w=some (D.sync.1,w')/\eD w' p (qE G w w') (qE R w w') D.sync.2/\Fr (NB w G) w w':=by
 obtain⟨a,b,rows,puts,h,h1,h2⟩:=h;obtain⟨w',b',rows',puts',e,h',f,k1,k2⟩:=aAa h hbd;exact⟨w',e,eD.keep h h1 h2 h' (fun k hk=>.inl hk) (fun k hk=>.inl (k1 k hk)) k2,eD.nbf h h1 f⟩
theorem eD.trip {m:Int} (h:eD w p G R D) (hm:m<=9223372036854775807) :
  ∃ w',dF (some ⟨p,0,none⟩) m w=some ((D.trip m).1,w')/\eD w' p (qE G w w') (qE R w w') (D.trip m).2/\Fr (NB w G) w w':=by
 obtain⟨a,b,rows,puts,h,h1,h2⟩:=h;obtain⟨w',e,h',o⟩:=zO h hm;exact⟨w',e,eD.keep h h1 h2 h' (fun k hk=>.inl hk) (fun k hk=>.inl hk) (fun k hk=>.inl hk),eD.nbf h h1 (o.fr (.inl rfl))⟩
theorem eD.crash {f:Sl} {fs:List Int} (h:eD w p G R D) (hbd:D.W.length<1000000) (hf:Rd w f 1 (nums .i64 fs)) (ho:Out G f) :
  ∃ w',cZ (some ⟨p,0,none⟩) f w=some (0,w')/\eD w' p (qE G w w') (qE R w w') (D.crash fs)/\Fr (NB w G) w w':=by
 obtain⟨a,b,rows,puts,h,h1,h2⟩:=h;obtain⟨w',rows',e,h',f,k⟩:=xQ h hbd hf (fun c hc h0 hk=>ho c hc h0 (h1 _ (.inr (.inl hk))));exact⟨w',e,eD.keep h h1 h2 h' (fun k hk=>.inl hk) (fun k hk=>by obtain⟨a,ha,_⟩:=hk;cases ha) k,eD.nbf h h1 f⟩
theorem eD.read {i:Int} (h:eD w p G R D) (hbd:D.W.length<1000000):∃ o w',bX (some ⟨p,0,none⟩) i w=some (o,(D.read i).2,w')/\Row w w' o (D.read i).1:=by
 obtain⟨_,_,_,_,h,_⟩:=h;exact aAC h hbd
theorem eD.sure {i:Int} (h:eD w p G R D):∃ o w',kB (some ⟨p,0,none⟩) i w=some (o,(D.sure i).2,w')/\Row w w' o (D.sure i).1:=by
 obtain⟨_,_,_,_,h,_⟩:=h;exact aDp h
theorem eD.rd0 (h:eD w p G R D):∃ s,ldL w ⟨p,0,none⟩=some s/\s.n=D.S.length:=by obtain⟨a,_,_,_,h,_⟩:=h;exact⟨a,sN h,h.an⟩
theorem eD.rd1 (h:eD w p G R D):∃ s,ldL w ⟨p,1,none⟩=some s/\s.n=D.W.length:=by obtain⟨_,b,_,_,h,_⟩:=h;exact⟨b,pM h,h.bn⟩
theorem eD.rd3 (h:eD w p G R D):ldB w ⟨p,3,none⟩=some D.down:=by obtain⟨a,_,_,_,h,_⟩:=h;exact tW h
theorem eD.rd4 (h:eD w p G R D):ldI .i64 w ⟨p,4,none⟩=some D.age:=by obtain⟨a,_,_,_,h,_⟩:=h;exact aDJ h
theorem eD.mono {G' R':Nat->Prop} (h:eD w p G R D) (hG:∀ k,k<w.heap.size->G k->G' k) (hR:∀ k,k<w.heap.size->R k->R' k):eD w p G' R' D:=by
 obtain⟨a,b,rows,puts,h,h1,h2⟩:=h;exact⟨a,b,rows,puts,h,fun k hk=>hG k (h.lt hk) (h1 k hk),fun k hk=>hR k (h.byt hk).lt (h2 k hk)⟩
end
def rdR (y:Nat) (D:Dk):Rs where
 h g w F:=∃ a b rows puts,RAt w y a b rows puts D/\(∀ k,F k↔RAt.foot y a b k)/\∀ k,gH rows puts k->g k
 st:=fun {g w F g' w'} h m hk=>by
  obtain⟨a,b,rows,puts,h1,hF,hr⟩:=h;refine⟨a,b,rows,puts,?_,hF,fun k hk'=>(m.keep k (hr k hk')).1⟩;have e:∀ k,RAt.foot y a b k\/gH rows puts k->w'.heap[k]?=w.heap[k]?:=fun k hk'=>hk'.elim (fun h=>hk k ((hF k).2 h)) (fun h=>(m.keep k (hr k h)).2);have eB:∀ {k c T},RAt.foot y a b k\/gH rows puts k->B w k=some (c,T)->B w' k=some (c,T):=fun hk' hb=>by have:=e _ hk';unfold B at hb ⊢;rw[this];exact hb
  have eO:∀ {T sz s cs},(∀ k,Sl.blk s k->RAt.foot y a b k\/gH rows puts k)->Own w T s sz cs->Own w' T s sz cs:=fun hs ho =>
   ⟨ho.len,ho.cap,ho.max,ho.h.elim .inl fun ⟨b,rest,hp,hb,hr⟩=>.inr ⟨b,rest,hp,eB (hs _ ⟨_,hp,rfl⟩) hb,hr⟩⟩
  exact⟨h1.wf,eB (.inl (.inl rfl)) h1.blk,eO (fun k hk=>.inl (.inr (.inl hk))) h1.sure,eO (fun k hk=>.inl (.inr (.inr hk))) h1.waits,h1.rl,h1.pl,
   fun i s xs hs hx=>eO (fun k hk=>.inr (.inl ⟨s,aIF hs,hk⟩)) (h1.rat i s xs hs hx),
   fun i x z hx hz=>⟨(h1.pat i x z hx hz).1,eO (fun k hk=>.inr (.inr ⟨x,aIF hx,hk⟩)) (h1.pat i x z hx hz).2⟩⟩
 lt h hk:=by obtain⟨a,b,rows,puts,h1,hF,hr⟩:=h;exact h1.lt ((hF _).1 hk)
section
variable {F F0 : Nat -> Prop} {g g' g0 : Gh} {w w' w0 : World} {L : List Rs} {x y : Nat} {D D' : Dk} {i m : Int} {b o : Sl} {bs : List Int}
theorem Hp.rwf (H:Hp F0 g0 w0 g w (rdR y D::L)):D.Wf:=by obtain⟨F,a,b,rows,puts,h,_⟩:=H.hd;exact h.wf
theorem Hp.rup (H:Hp F0 g0 w0 g w (rdR y D::L)) {Ψ:World->Prop}
  (f:∀ a b rows puts,RAt w y a b rows puts D->(∀ k,RAt.foot y a b k->¬ g k)->∃ w' a' b' rows' puts',Ψ w'/\RAt w' y a' b' rows' puts' D'/\Fr (RAt.foot y a b) w w'/\(∀ k,a'.blk k->a.blk k\/w.heap.size<=k)/\(∀ k,b'.blk k->b.blk k\/w.heap.size<=k)/\(∀ k,gH rows' puts' k->gH rows puts k\/w.heap.size<=k)) :
  ∃ g' w',Ψ w'/\Hp F0 g0 w0 g' w' (rdR y D'::L)/\Mo g w g' w':=by
 obtain⟨g',w',e,h2,m⟩:=H.up (r':=rdR y D') (Ψ:=fun _ w'=>Ψ w') fun F h hF=>by
  obtain⟨a,b,rows,puts,h1,hFt,hr⟩:=h;obtain⟨w',a',b',rows',puts',e,h2,fr,ka,kb,kr⟩:=f a b rows puts h1 (fun k hk=>hF k ((hFt k).2 hk));refine⟨fun k=>g k\/(w.heap.size<=k/\gH rows' puts' k),w',RAt.foot y a' b',e,⟨a',b',rows',puts',h2,fun _=>Iff.rfl,fun k hk=>(kr k hk).elim (fun h=>.inl (hr k h)) (fun h=>.inr ⟨h,hk⟩)⟩,?_,?_⟩
  .refine⟨fr.mono fun k hk=>.inl ((hFt k).2 hk),fun k hk hn=>⟨fun h=>h.elim id (fun h=>by omega),.inl⟩,⟨fr.size,fun k hk=>⟨.inl hk,fr.block k (H.lt k hk) (fun h=>hF k ((hFt k).2 h) hk)⟩⟩,fun k hk=>?_⟩;rcases hk with hk | ⟨_,hk⟩
   .exact aIX (H.lt k hk) fr.size
   exact(h2.byt hk).lt
  intro k hk;have hnb:=h2.foot_ty hk;have hold:RAt.foot y a b k\/w.heap.size<=k:=by
   rcases hk with hk | hk | hk
   .exact .inl (.inl hk)
   .exact(ka k hk).elim (fun h=>.inl (.inr (.inl h))) .inr
   exact(kb k hk).elim (fun h=>.inl (.inr (.inr h))) .inr
  refine⟨fun hg=>?_,hold.elim (fun h=>.inl ((hFt k).2 h)) .inr⟩;rcases hg with hg | ⟨_,hg⟩
  .exact hold.elim (fun h=>hF k ((hFt k).2 h) hg) (fun h=>by have:=H.lt k hg;omega)
  exact hnb (h2.byt hg)
 exact⟨g',w',e,h2,m⟩
theorem Hp.rnew (H:Hp F0 g0 w0 g w L) (h1:1<=m) (h2:m<=512):∃ q g' w',gI m w=some (some ⟨q,0,none⟩,0,w')/\Hp F0 g0 w0 g' w' (rdR q (Dk.new m.toNat)::L)/\Mo g w g' w':=by
 obtain⟨w',a,rows,e,h,f,k1,k2⟩:=aBZ (w:=w) h1 h2;have n:Nw g w (fun k=>g k\/(w.heap.size<=k/\gH rows [] k)) w' :=
  ⟨f _,fun k hk _=>⟨fun h=>h.elim id (fun h=>by omega),.inl⟩,⟨(f (fun _=>False)).size,fun k hk=>⟨.inl hk,(f (fun _=>False)).block k (H.lt k hk) id⟩⟩,
   fun k hk=>hk.elim (fun h'=>aIX (H.lt k h') (f (fun _=>False)).size) (fun h'=>(h.byt h'.2).lt)⟩
 exact⟨_,_,w',e,H.add n (F:=RAt.foot w.heap.size a Sl.nil) ⟨a,Sl.nil,rows,[],h,fun _=>Iff.rfl,fun k hk=>.inr ⟨k2 k hk,hk⟩⟩
  (fun k hk=>⟨fun hg=>hg.elim (fun h'=>by have:=H.lt k h';have:=k1 k hk;omega) (fun h'=>h.foot_ty hk (h.byt h'.2)),k1 k hk⟩),n.mo⟩
theorem Hp.rwrite (H:Hp F0 g0 w0 g w (rdR y D::L)) (hb:Rd w b 1 (nums .u8 bs)) (hbd:D.W.length<1000000) :
  ∃ g' w',bE (some ⟨y,0,none⟩) i b w=some ((D.write i bs).1,w')/\Hp F0 g0 w0 g' w' (rdR y (D.write i bs).2::L)/\Mo g w g' w':=H.rup fun a b rows puts h hF=>by
 obtain⟨w',b',puts',e,h',f,k1,k2⟩:=xN (i:=i) h hb hbd;exact⟨w',a,b',rows,puts',e,h',f,fun k hk=>.inl hk,k1,k2⟩
theorem Hp.rsync (H:Hp F0 g0 w0 g w (rdR y D::L)) (hbd:D.W.length<1000000) :
  ∃ g' w',bK (some ⟨y,0,none⟩) w=some (D.sync.1,w')/\Hp F0 g0 w0 g' w' (rdR y D.sync.2::L)/\Mo g w g' w':=H.rup fun a b rows puts h hF=>by
 obtain⟨w',b',rows',puts',e,h',f,k1,k2⟩:=aAa h hbd;exact⟨w',a,b',rows',puts',e,h',f,fun k hk=>.inl hk,fun k hk=>.inl (k1 k hk),k2⟩
theorem Hp.rtrip (H:Hp F0 g0 w0 g w (rdR y D::L)) (hm:m<=9223372036854775807) :
  ∃ g' w',dF (some ⟨y,0,none⟩) m w=some ((D.trip m).1,w')/\Hp F0 g0 w0 g' w' (rdR y (D.trip m).2::L)/\Mo g w g' w':=H.rup fun a b rows puts h hF=>by
 obtain⟨w',e,h',o⟩:=zO h hm;exact⟨w',a,b,rows,puts,e,h',o.fr (.inl rfl),fun k hk=>.inl hk,fun k hk=>.inl hk,fun k hk=>.inl hk⟩
theorem Hp.rcrash {f:Sl} {fs:List Int} (H:Hp F0 g0 w0 g w (rdR y D::L)) (hf:PR g w f 1 (nums .i64 fs)) (hbd:D.W.length<1000000) :
  ∃ g' w',cZ (some ⟨y,0,none⟩) f w=some (0,w')/\Hp F0 g0 w0 g' w' (rdR y (D.crash fs)::L)/\Mo g w g' w':=H.rup fun a b rows puts h hF=>by
 obtain⟨w',rows',e,h',f,k⟩:=xQ h hbd hf.rd (fun c hc h0 hk=>hF _ (.inr (.inl hk)) (hf.per c hc h0));exact⟨w',a,Sl.nil,rows',[],e,h',f,fun k hk=>.inl hk,fun k hk=>(by obtain⟨a,ha,_⟩:=hk;cases ha),k⟩
theorem Hp.rread (H:Hp F0 g0 w0 g w (rdR y D::L)) (i:Int) (hbd:D.W.length<1000000):∃ o w' T,bX (some ⟨y,0,none⟩) i w=some (o,(D.read i).2,w')/\Hp F0 g0 w0 g w' (owR T 1 o (nums .u8 (D.read i).1)::rdR y D::L)/\Mo g w g w':=by
 obtain⟨F,a,b,rows,puts,h,_⟩:=H.hd;obtain⟨o,w',e,r⟩:=aAC (i:=i) h hbd;obtain⟨T,h1,m⟩:=H.row r;exact⟨o,w',T,e,h1,m⟩
theorem Hp.rd0 (H:Hp F0 g0 w0 g w (rdR y D::L)):∃ s,Go.Proofs.Ytejkaciimmfgcaa.D.ldL w ⟨y,0,none⟩=some s/\s.n=D.S.length:=by obtain⟨F,a,b,rows,puts,h,_⟩:=H.hd;exact⟨a,sN h,h.an⟩
theorem Hp.rd1 (H:Hp F0 g0 w0 g w (rdR y D::L)):∃ s,Go.Proofs.Ytejkaciimmfgcaa.D.ldL w ⟨y,1,none⟩=some s/\s.n=D.W.length:=by obtain⟨F,a,b,rows,puts,h,_⟩:=H.hd;exact⟨b,pM h,h.bn⟩
theorem Hp.rd3 (H:Hp F0 g0 w0 g w (rdR y D::L)):Go.Proofs.Ytejkaciimmfgcaa.D.ldB w ⟨y,3,none⟩=some D.down:=by obtain⟨F,a,b,rows,puts,h,_⟩:=H.hd;exact tW h
theorem Hp.rd4 (H:Hp F0 g0 w0 g w (rdR y D::L)):Go.Proofs.Ytejkaciimmfgcaa.D.ldI .i64 w ⟨y,4,none⟩=some D.age:=by obtain⟨F,a,b,rows,puts,h,_⟩:=H.hd;exact aDJ h
end
section
variable {w w' : World}
theorem aBl {s:Sl} {xs ys:List Int} {i:Nat} (h:Rd w s 1 (nums .u8 xs)) (hy:ys=(xs.drop i).take 8) (hl:ys.length=8) (hb:bU ys) (hm:s.n<1000000):∀ (suf pre:List Int),ys=pre++suf ->
  bM (fun s_1:Int×Int×World=>cX s (i:Int) s_1.1 s_1.2.1 s_1.2.2) (be pre,(pre.length:Int),w)=some (be ys,w):=by
 have hn:xs.length=s.n:=by have:=h.len;simpa using this
 intro suf
 induction suf with
 | nil =>
  intro pre hp;have:pre=ys:=by simpa using hp.symm
  subst this;refine bS ?_;have:decide ((pre.length:Int)<8)=false:=by simp;omega
  simp only[cX,this,aIx,if_false]
 | cons b suf ih =>
  intro pre hp;have hk:pre.length<ys.length:=by rw[hp];simp
  have hxl:i+8<=xs.length:=by rw[hy] at hl;simp at hl;omega
  obtain⟨a,e1,e2⟩:=tM (i:=i+pre.length) h (by omega);have hbx:xs.getD (i+pre.length) 0=b:=by
   have h1:ys[pre.length]?=some b:=by rw[hp];simp
   rw[hy,aIV,if_pos (by omega),aJi] at h1;rw[aIu,h1];rfl
  rw[hbx] at e2;have hr:=aEp (pre:=pre) (suf:=b::suf) (by rw[<-hp];exact hl) (by rw[<-hp];exact hb) (by simp);have hb0:=hb b (by rw[hp];simp);have hlt:decide ((pre.length:Int)<8)=true:=by simp;omega
  have e0:IntKind.wrap .i64 ((i:Int)+(pre.length:Int))=((i+pre.length:Nat):Int):=by rw[aIy];omega
  have e5:IntKind.wrap .u64 (IntKind.wrap .u64 (256*be pre)+IntKind.wrap .u64 b)=be (pre++[b]):=by
   rw[xV,kW,kW,kW];omega
  rw[<-ih (pre++[b]) (by rw[hp];simp),<-e5,show((pre++[b]).length:Int)=((pre.length+1:Nat):Int) by simp];refine cH ?_;simp only[cX,hlt,if_true,e0,e1,aLx,e2];rw[cC (by omega)]
theorem rP {s:Sl} {xs:List Int} {i:Nat} (h:Rd w s 1 (nums .u8 xs)) (hb:bU xs) (hi:i+8<=xs.length) (hm:s.n<1000000):bF s (i:Int) w=some (eY xs i,((i+8:Nat):Int),0,w):=by
 have hn:xs.length=s.n:=by have:=h.len;simpa using this
 have hl:((xs.drop i).take 8).length=8:=by simp;omega
 have hby:bU ((xs.drop i).take 8):=fun b hb'=>hb b (aJC (aJh hb'));have hloop:=aBl (i:=i) h rfl hl hby hm ((xs.drop i).take 8) [] rfl;have hr:=be8 hl hby;have g1:decide ((i:Int)<0)=false:=by simp
 have g2:decide ((s.n:Int)<(i:Int))=false:=by simp;omega
 have g3:decide (IntKind.wrap .i64 ((s.n:Int)-(i:Int))<8)=false:=by rw[aIy];simp;omega
 have g4:IntKind.wrap .i64 ((i:Int)+8)=((i+8:Nat):Int):=by rw[aIy];omega
 unfold bF;rw[g1,if_neg (by simp),g2,aE,if_neg (by simp),g3,if_neg (by simp),g4];have hloop':bM (fun s_1:Int×Int×World=>cX s (i:Int) s_1.1 s_1.2.1 s_1.2.2) (0,0,w)=some (be ((xs.drop i).take 8),w):=hloop;rw[hloop',aE];have:IntKind.wrap .i64 (IntKind.wrap .u64 (be ((xs.drop i).take 8)-9223372036854775808))=eY xs i:=by
  rw[kW,aIy,eY];omega
 rw[this]
theorem aCP {n:Int} {T:TypeId} {s1:Sl} (hn:s1.n=8) (h0 : -9223372036854775808<=n) (h1:n<=9223372036854775807):∀ (d:Nat) (xs:List Int) (w:World),d<=8->xs.length=8->(∀ j,d<=j->j<8->xs.getD j 0=(fK n).getD j 0)->Own w T s1 1 (nums .u8 xs) ->
  ∃ w',bM (fun s:Int×Int×World=>eQ s1 s.1 s.2.1 s.2.2) ((n+9223372036854775808) / 2 ^ (64-8*d),(d:Int)-1,w)=some w'/\Own w' T s1 1 (nums .u8 (fK n))/\Fr s1.blk w w':=by
 intro d
 induction d with
 | zero =>
  intro xs w hk hl hx ho;refine⟨w,bS ?_,by rw[<-aBB hl (fun j hj=>hx j (aLe _) hj)];exact ho,Fr.refl⟩;simp[eQ]
 | succ d ih =>
  intro xs w hk hl hx ho;have hk8:d<8:=by omega
  obtain⟨g,w1,e1,_,_,e3,o1,f1⟩:=aBL ((fK n).getD d 0) ho (show d<s1.n by omega);obtain⟨w',e',o',f'⟩:=ih _ w1 (by omega) (by rw[aJR];exact hl) (fun j hj hj8=>by
   rw[zK (by omega)];split
   .subst_vars;rfl
   exact hx j (by omega) hj8) o1
  refine⟨w',?_,o',f1.trans f'⟩;obtain⟨u,hu⟩:∃ u,u=n+9223372036854775808:=⟨_,rfl⟩;rw[<-hu] at e' ⊢;have hu0:0<=u/\u<18446744073709551616:=by omega
  obtain⟨q,hq⟩:∃ q,q=u / 2 ^ (64-8*(d+1)):=⟨_,rfl⟩;have hq0:0<=q:=by rw[hq];exact Int.ediv_nonneg hu0.1 (aLr (by decide))
  have hq1:q<=u:=by rw[hq];exact Int.ediv_le_self _ hu0.1
  have hnext:u / 2 ^ (64-8*d)=q / 256:=by
   rw[hq,Int.ediv_ediv_of_nonneg (aLr (by decide)),show(256:Int)=2 ^ 8 by decide,<-Int.pow_add,show 64-8*(d+1)+8=64-8*d by omega]
  rw[hnext] at e';rw[<-hq,show((d+1:Nat):Int)-1=(d:Int) by omega];have hwd:IntKind.wrap .i64 ((d:Int)-1)=(d:Int)-1:=by rw[aIy];omega
  have e4:rmI q 256=some (q % 256):=by
   unfold rmI;rw[if_neg (by decide),aJS hq0]
  have e5:dvI .u64 q 256=some (q / 256):=by
   unfold dvI;rw[if_neg (by decide),aJE hq0,kW];congr 1;omega
  have e6:IntKind.wrap .u8 (q % 256)=(fK n).getD d 0:=by
   rw[aCb hk8,<-hu,show 56-8*d=64-8*(d+1) by omega,<-hq];simp[IntKind.wrap,IntKind.bits,IntKind.signed]
  rw[<-e',<-hwd];refine cH ?_;have hlt:decide ((0:Int)<=(d:Int))=true:=by simp
  simp only[eQ,hlt,if_true,e4,aLx,e1,e6,e3,e5]
theorem yD {n:Int} (h0 : -9223372036854775808<=n) (h1:n<=9223372036854775807):∃ o w',dE n w=some (o,w')/\iS w' o (fK n)/\(∀ k,o.blk k->w.heap.size<=k)/\(∀ S,Fr S w w'):=by
 obtain⟨w1,e1,n1⟩:=wW (w:=w) mS (m:=8) (by omega) (by omega);rw[show(8:Int).toNat=8 from rfl] at e1 n1;rw[nV] at n1;have o1:iS w1 ⟨some ⟨w.heap.size,0,none⟩,8,8⟩ (List.replicate 8 0):=Own.of_new n1 (by simp only[bG,aIM]) (by omega);obtain⟨w',e',o',f'⟩:=aCP (n:=n) (s1:=⟨some ⟨w.heap.size,0,none⟩,8,8⟩) rfl h0 h1 8 _ w1 (aIv _) (by simp only[aIM]) (fun j hj h8=>by omega) o1;refine⟨_,w',?_,o',fun k hk=>aKc (sQ hk).symm,fun S=>(n1.fr _ S (aIv _)).fr.trans_new f' (fun k hk=>.inr (aKc (sQ hk).symm))⟩;have hu:IntKind.wrap .u64 (IntKind.wrap .u64 n+9223372036854775808)=n+9223372036854775808:=by rw[kW,kW];omega
 have e2:(n+9223372036854775808) / 2 ^ (64-8*8)=n+9223372036854775808:=by simp
 rw[e2] at e';unfold dE;rw[e1,aE,hu];have e3:bM (fun s:Int×Int×World=>eQ ⟨some ⟨w.heap.size,0,none⟩,8,8⟩ s.1 s.2.1 s.2.2) (n+9223372036854775808,7,w1)=some w':=e';rw[e3,aLx]
end
section
variable {w w' : World}
theorem aAt {s:Sl} {xs:List Int} (h:Rd w s 1 (nums .u8 xs)) (hl:xs.length=64):∀ (m k:Nat) (ok:Bool),k+m=63 ->
  bM (fun r:Bool×Int×World=>cU s r.1 r.2.1 r.2.2) (ok,(k:Int),w)=some (ok&&((xs.drop k).take m).all (·==0),w):=by
 intro m
 induction m with
 | zero =>
  intro k ok hk;have:k=63:=by omega
  subst this;refine bS ?_;simp[cU]
 | succ m ih =>
  intro k ok hk;obtain⟨a,e1,e2⟩:=tM (i:=k) h (by omega);have hlt:decide ((k:Int)<63)=true:=by simp;omega
  have hd:(xs.drop k).take (m+1)=xs.getD k 0::(xs.drop (k+1)).take m:=by
   rw[aJa (by omega),List.take_succ_cons,aIu,aIs (by omega)];rfl
  rw[hd,aLv,<-Bool.and_assoc,<-ih (k+1) (ok&&(xs.getD k 0==0)) (by omega)];refine cH ?_
  cases ok with
  | true =>
   simp only[cU,hlt,if_true,e1,aLx,e2,aE,aKr];rw[cC (by omega)]
  | false =>
   simp only[cU,hlt,if_true,aIx,if_false,aE,aLs];rw[cC (by omega)]
theorem aDG {x y:Int}:(if decide (1<=x)=true then if decide (x<=4611686018427387904)=true then if decide (0<=y)=true then some (decide (y<=1099511627776),w) else some (false,w) else some (false,w) else some (false,w))=some (sB x y,w):=by
 unfold sB;cases decide (1<=x)<;>cases decide (x<=4611686018427387904)<;>cases decide (0<=y)<;>simp
theorem xU {s:Sl} {xs:List Int} (h:Rd w s 1 (nums .u8 xs)) (hb:bU xs) (hm:s.n<1000000):∃ w',gM s w=some ((eG xs).1,(eG xs).2.1,(eG xs).2.2,w')/\∀ S,Fr S w w':=by
 obtain⟨w1,e1,_,g1,_,_⟩:=tQ (w:=w);have f1:∀ S,Fr S w w1:=fun S=>(g1 w.heap.size S).fr;have h1:=h.fr (f1 (fun _=>False)) (fun _ _ _ h=>h);have hn:xs.length=s.n:=by have:=h.len;simpa using this
 refine⟨w1,?_,f1⟩;unfold gM;rw[e1,aLx,xT h1,aE];by_cases hd:xs.length=64/\xs.getD 0 0=xs.getD 63 0
 .have t1':bF s 1 w1=some (eY xs 1,((1+8:Nat):Int),0,w1):=rP (i:=1) h1 hb (by omega) hm;have t2':bF s 9 w1=some (eY xs 9,((9+8:Nat):Int),0,w1):=rP (i:=9) h1 hb (by omega) hm;have l2':bM (fun r:Bool×Int×World=>cU s r.1 r.2.1 r.2.2) (sB (eY xs 1) (eY xs 9),17,w1)=some (sB (eY xs 1) (eY xs 9)&&((xs.drop 17).take 46).all (·==0),w1):=aAt h1 hd.1 46 17 _ rfl;rw[decide_eq_true hd,if_neg (by simp),t1',cN,t2',cN,aDG,aE,l2',aE];have hw:eG xs=if (sB (eY xs 1) (eY xs 9)&&((xs.drop 17).take 46).all (·==0))=true then (eY xs 1,eY xs 9,true) else (0,0,false):=by unfold eG;rw[if_pos hd]
  rw[hw];cases(sB (eY xs 1) (eY xs 9)&&((xs.drop 17).take 46).all (·==0))<;>rfl
 rw[decide_eq_false hd,if_pos (by simp)];have hw:eG xs=(0,0,false):=by unfold eG;rw[if_neg hd]
 rw[hw]
end
section
variable {w w' : World} {y c : Nat} {G R : Nat -> Prop} {D : Dk} {base count : Int}
structure lB (w:World) (c x:Nat) (base count:Int):Prop where
 blk:B w c=some (yJ x base count,197)
 b0:0<=base
 b1:base<=512
 n0:1<=count
 n1:count<=32
theorem lB.fr {S:Nat->Prop} (h:lB w c y base count) (hf:Fr S w w') (hs:¬ S c):lB w' c y base count:=⟨hf.B h.blk hs,h.b0,h.b1,h.n0,h.n1⟩
theorem lB.all (h:lB w c y base count) (hf:∀ S,Fr S w w'):lB w' c y base count:=h.fr (hf (fun _=>False)) id
theorem rJ (h:lB w c y base count):ldP w ⟨c,0,none⟩=some (some ⟨y,0,none⟩):=qF h.blk rfl
theorem aAZ (h:lB w c y base count):ldI .i64 w ⟨c,1,none⟩=some base:=lP h.blk rfl
theorem xZ (h:lB w c y base count):ldI .i64 w ⟨c,2,none⟩=some count:=lP h.blk rfl
theorem eD.all (h:eD w y G R D) (hf:∀ S,Fr S w w'):eD w' y G R D:=h.fr (hf (fun _=>False)) (fun _ _ h=>h) (fun _ _ _ h=>h)
def aDx (f:Int×Int×Int):Int:=if f.1 = -1 then 2 else f.1
theorem xF (b:List Int) (h:(eG b).2.2=true):1<=(eG b).1:=by
 unfold eG at h ⊢;split at h
 .rename_i h1;rw[if_pos h1];split at h
  .rename_i h2;rw[if_pos h2];simp only[sB,aIz,decide_eq_true_eq] at h2;exact h2.1.1.1.1
  cases h
 cases h
theorem xP (h:eD w y G R D) (hc:lB w c y base count) (hb:D.Bt) (hbd:D.W.length<900000) {i:Int} (i0:0<=i) (i1:i<count) :
  ∃ w',dH (some ⟨c,0,none⟩) i w=some (aDx (D.found (base+2*i)),(D.found (base+2*i)).2.1,(D.found (base+2*i)).2.2,w')/\∀ S,Fr S w w':=by
 have hb0:=hc.b0;have hb1:=hc.b1;have hn1:=hc.n1;have hwf:=h.wf;obtain⟨w1,e1,_,g1,_,_⟩:=tQ (w:=w);have f1:∀ S,Fr S w w1:=fun S=>(g1 w.heap.size S).fr;have c1:=hc.all f1;have h1:=h.all f1;obtain⟨o2,w2,e2,r2⟩:=h1.read (i:=base+2*i) (by omega);have h2:=h1.all r2.fr;have c2:=c1.all r2.fr;obtain⟨w3,e3,_,g3,_,_⟩:=tQ (w:=w2);have f3:∀ S,Fr S w2 w3:=fun S=>(g3 w2.heap.size S).fr;have h3:=h2.all f3;have c3:=c2.all f3;obtain⟨o4,w4,e4,r4⟩:=h3.read (i:=base+2*i+1) (by omega);have l0:=tE hwf (base+2*i);have l1:=tE hwf (base+2*i+1);have rd2:Rd w4 o2 1 (nums .u8 (D.read (base+2*i)).1):=(r2.rd.fr (f3 (fun _=>False)) (fun _ _ _ h=>h)).fr (r4.fr (fun _=>False)) (fun _ _ _ h=>h);obtain⟨w5,e5,f5⟩:=xU rd2 (nM hb _) (by rw[r2.n];omega);obtain⟨w6,e6,f6⟩:=xU (r4.rd.fr (f5 (fun _=>False)) (fun _ _ _ h=>h)) (nM hb _) (by rw[r4.n];omega);refine⟨w6,?_,fun S=>((((f1 S).trans (r2.fr S)).trans (f3 S)).trans (r4.fr S)).trans ((f5 S).trans (f6 S))⟩;have hw0:IntKind.wrap .i64 (base+IntKind.wrap .i64 (2*i))=base+2*i:=by rw[aIy,aIy];omega
 have hw1:IntKind.wrap .i64 (base+2*i+1)=base+2*i+1:=by rw[aIy];omega
 have p0:=xF (D.read (base+2*i)).1;have p1:=xF (D.read (base+2*i+1)).1;unfold dH;rw[e1,aLx,aLx,aD,aLy,rJ c1,aLx,aD,aLy,aAZ c1,aLx,hw0,e2,lW,e3,aLx,rJ c3,aLx,aAZ c3,aLx,hw0,hw1,e4,lW,e5,cN,e6,cN];have hfound:D.found (base+2*i)=eF 1 (eF 0 (-1,0,0) (eG (D.read (base+2*i)).1)) (eG (D.read (base+2*i+1)).1):=rfl;rw[hfound];obtain⟨a,ha⟩:∃ a,eG (D.read (base+2*i)).1=a:=⟨_,rfl⟩;obtain⟨b,hb'⟩:∃ b,eG (D.read (base+2*i+1)).1=b:=⟨_,rfl⟩;rw[ha] at p0 ⊢;rw[hb'] at p1 ⊢;by_cases a1:a.2.2=true
 .have s1:eF 0 (-1,0,0) a=(0,a.1,a.2.1):=by unfold eF;rw[if_pos ⟨a1,by have:=p0 a1;simp only;omega⟩]
  rw[s1,if_pos a1];by_cases b1:b.2.2=true
  .rw[if_neg (by simp[b1]),aE];by_cases hlt:a.1<b.1
   .have s2:eF 1 (0,a.1,a.2.1) b=(1,b.1,b.2.1):=by unfold eF;rw[if_pos ⟨b1,hlt⟩]
    rw[s2,if_neg (by simpa using hlt),if_pos b1];rfl
   have s2:eF 1 (0,a.1,a.2.1) b=(0,a.1,a.2.1):=by unfold eF;rw[if_neg (fun h=>hlt h.2)]
   rw[s2,if_pos (by simpa using hlt)];rfl
  have s2:eF 1 (0,a.1,a.2.1) b=(0,a.1,a.2.1):=by unfold eF;rw[if_neg (fun h=>b1 h.1)]
  rw[s2,if_pos (by simpa using b1),aE,if_pos rfl];rfl
 have s1:eF 0 (-1,0,0) a=(-1,0,0):=by unfold eF;rw[if_neg (fun h=>a1 h.1)]
 rw[s1,if_neg a1,aE,if_neg (by simp)];by_cases b1:b.2.2=true
 .have s2:eF 1 (-1,0,0) b=(1,b.1,b.2.1):=by unfold eF;rw[if_pos ⟨b1,by have:=p1 b1;simp only;omega⟩]
  rw[s2,if_pos b1];rfl
 have s2:eF 1 (-1,0,0) b=(-1,0,0):=by unfold eF;rw[if_neg (fun h=>b1 h.1)]
 rw[s2,if_neg b1];rfl
theorem aEu (h:eD w y G R D) (hc:lB w c y base count) (hb:D.Bt) (hbd:D.W.length<900000) (i:Int) :
  ∃ w',eI (some ⟨c,0,none⟩) i w=some ((D.get base count i).1,(D.get base count i).2,w')/\∀ S,Fr S w w':=by
 unfold eI Dk.get;by_cases h0:i<0
 .refine⟨w,?_,fun S=>Fr.refl⟩;rw[if_neg (by simp),if_pos (by simpa using h0),aE,if_pos rfl,if_pos (.inl h0)]
 by_cases h1:count<=i
 .refine⟨w,?_,fun S=>Fr.refl⟩;rw[if_neg (by simp),if_neg (by simpa using h0),aLx,aD,aLy,xZ hc,aLx,decide_eq_true h1,aE,if_pos rfl,if_pos (.inr h1)]
 obtain⟨w1,e1,f1⟩:=xP h hc hb hbd (i:=i) (by omega) (by omega);refine⟨w1,?_,f1⟩;have hat:=vJ D (base+2*i);have hd:decide (aDx (D.found (base+2*i))<2)=decide (0<=(D.found (base+2*i)).1):=by
  unfold aDx;split
  .rename_i h;rw[h];rfl
  rw[decide_eq_true (by omega),decide_eq_true (by omega)]
 rw[if_neg (by simp),if_neg (by simpa using h0),aLx,aD,aLy,xZ hc,aLx,decide_eq_false h1,aE,if_neg (by simp),e1,cN,if_neg (by omega),hd]
end
structure RCp (g:Gh) (w:World) (c y:Nat) (base count:Int):Prop where
 per:g c
 at_:lB w c y base count
section
variable {F F0 : Nat -> Prop} {g g' g0 : Gh} {w w' w0 : World} {L : List Rs} {x y c : Nat} {D D' : Dk} {i m base count : Int} {b o : Sl} {bs : List Int}
theorem RCp.mo (h:RCp g w c x base count) (m:Mo g w g' w'):RCp g' w' c x base count:=⟨(m.keep _ h.per).1,aGf m h.per h.at_.blk,h.at_.b0,h.at_.b1,h.at_.n0,h.at_.n1⟩
theorem Hp.rdisk (H:Hp F0 g0 w0 g w (rdR y D::L)):∃ G R,eD w y G R D:=by
 obtain⟨F,a,b,rows,puts,h,_⟩:=H.hd;exact⟨_,_,a,b,rows,puts,h,fun _ h=>h,fun _ h=>h⟩
theorem Hp.rget (H:Hp F0 g0 w0 g w (rdR y D::L)) (hc:RCp g w c y base count) (hb:D.Bt) (hbd:D.W.length<900000) (i:Int) :
  ∃ w',eI (some ⟨c,0,none⟩) i w=some ((D.get base count i).1,(D.get base count i).2,w')/\Hp F0 g0 w0 g w' (rdR y D::L)/\Mo g w g w':=by
 obtain⟨G,R,h⟩:=H.rdisk;obtain⟨w',e,f⟩:=aEu h hc.at_ hb hbd i;exact⟨w',e,H.old f,H.mold f⟩
theorem Hp.ropen (H:Hp F0 g0 w0 g w (rdR y D::L)) (hn:D.S.length<=512) (hi : -9223372036854775808<=count/\count<=9223372036854775807) (hm:nG D.S.length base count=true) :
  ∃ c g' w',hH (some ⟨y,0,none⟩) base count w=some (some ⟨c,0,none⟩,0,w')/\Hp F0 g0 w0 g' w' (rdR y D::L)/\Mo g w g' w'/\RCp g' w' c y base count:=by
 have hr:1<=count/\count<=32/\0<=base/\base<=D.S.length-2*count:=by simpa[nG,and_assoc] using hm
 obtain⟨s,l0,ln⟩:=H.rd0;obtain⟨b,w1,e1,H1,m1⟩:=H.box (T:=197) (cs:=yJ y base count);have hB:=H1.bx;obtain⟨g',F,hk1,hk2,H2,m2⟩:=H1.keep;have hw:IntKind.wrap .i64 ((s.n:Int)-IntKind.wrap .i64 (2*count))=D.S.length-2*count:=by rw[aIy,aIy,ln];omega
 refine⟨b,g',w1,?_,H2,m1.t m2,hk2 _ ((hk1.2 _).2 rfl),hB,by omega,by omega,by omega,by omega⟩;unfold hH;have e1':Go.Proofs.Ytejkaciimmfgcaa.D.mk w 197 [.pointer (some ⟨y,0,none⟩),.int .i64 base,.int .i64 count]=some (⟨b,0,none⟩,w1):=e1;rw[if_neg (by simp),if_neg (by simp;omega),if_neg (by simp;omega),if_neg (by simp;omega),aLx,aD,aLy,l0,aLx,hw,decide_eq_false (by omega),aE,if_neg (by simp),e1',aE]
theorem Hp.rput (H:Hp F0 g0 w0 g w (rdR y D::L)) (hc:RCp g w c y base count) (hb:D.Bt) (hbd:D.W.length<900000) (hsz:base+2*count<=D.S.length) (i v:Int) :
  Ex (gA (some ⟨c,0,none⟩) i v w) fun r=>∃ g',r.1=(D.put base count i v).1/\Hp F0 g0 w0 g' r.2 (rdR y (D.put base count i v).2::L)/\Mo g w g' r.2:=by
 have hb0:=hc.at_.b0;have hb1:=hc.at_.b1;have hn1:=hc.at_.n1;unfold gA Dk.put;refine Ex.f (by simp) (Ex.s1 (Ex.b1 (rJ hc.at_) (Ex.s1 (Ex.b1 H.rd3 ?_))));by_cases hd:D.down=true
 .rw[if_pos hd,if_pos hd];exact Ex.ret ⟨g,rfl,H,Mo.r⟩
 rw[if_neg hd,if_neg hd];by_cases hbad:i<0\/count<=i\/v<0\/1099511627776<v
 .refine Ex.b2 (a:=true) (b:=w) ?_ ?_
  .by_cases h0:i<0
   .rw[if_pos (by simpa using h0)]
   rw[if_neg (by simpa using h0),aD,aLy,xZ hc.at_,aLx];by_cases h1:count<=i
   .rw[if_pos (by simpa using h1)]
   rw[if_neg (by simpa using h1)];by_cases h2:v<0
   .rw[if_pos (by simpa using h2)]
   rw[if_neg (by simpa using h2),decide_eq_true (show 1099511627776<v by omega)]
  rw[if_pos rfl,if_pos hbad];exact Ex.ret ⟨g,rfl,H,Mo.r⟩
 have hi:0<=i/\i<count/\0<=v/\v<=1099511627776:=by omega
 refine Ex.b2 (a:=false) (b:=w) (by rw[if_neg (by simp;omega),aD,aLy,xZ hc.at_,aLx,if_neg (by simp;omega),if_neg (by simp;omega),decide_eq_false (by omega)]) ?_;rw[if_neg (by simp),if_neg hbad];obtain⟨G,R,hrd⟩:=H.rdisk;obtain⟨w1,e1,f1⟩:=xP hrd hc.at_ hb hbd hi.1 hi.2.1;obtain⟨fr,hfr⟩:∃ fr,D.found (base+2*i)=fr:=⟨_,rfl⟩;have hrg:=uR D (base+2*i);have hat:=vJ D (base+2*i);rw[hfr] at e1 hrg hat ⊢;have H1:=H.old f1;have m1:=H.mold f1;refine Ex.b4 e1 ?_;by_cases hm:fr.2.1=4611686018427387904
 .rw[if_pos (by simp;omega),if_pos hm];exact Ex.ret ⟨g,rfl,H1,m1⟩
 rw[if_neg (by simp;omega),if_neg hm];have c1:=hc.mo m1;refine Ex.b1 (aAZ c1.at_) ?_;obtain⟨to,hto⟩:∃ to,base+2*i+(fr.1+1) % 2=to:=⟨_,rfl⟩;have hwt:IntKind.wrap .i64 (base+IntKind.wrap .i64 (2*i))=base+2*i:=by rw[aIy,aIy];omega
 rw[hto,hwt];refine Ex.b2 (a:=to) (b:=w1) ?_ ?_
 .by_cases h0:fr.1=0
  .rw[if_pos (by simp[aDx,h0]),<-hto,h0,aIy];congr 2;omega
  rw[if_neg (by unfold aDx;split<;>simp<;>omega),<-hto];congr 2;omega
 have htb:D.bad to=false:=by simp[Dk.bad];omega
 refine Ex.b1 (rJ c1.at_) ?_;obtain⟨o,w2,T,e2,H2,m2⟩:=H1.rread to (by omega);have hrd':D.read to=(D.cur to,0):=by unfold Dk.read;rw[if_neg hd,htb,if_neg (by simp)]
 have hcl:(D.cur to).length=64:=rX H.rwf htb _ _ H.rwf.w64 (pH H.rwf htb);rw[hrd'] at e2 H2;rw[hrd'];simp only at e2 H2;refine Ex.b3 e2 ?_;obtain⟨was,hwas⟩:∃ was,D.cur to=was:=⟨_,rfl⟩;have hby:bU was:=by have:=nM hb to;rw[hrd'] at this;rw[<-hwas];exact this
 rw[hwas] at H2 hcl ⊢;obtain⟨a63,a1,a2⟩:=tM (i:=63) H2.ow.rd (by omega);obtain⟨p,hp⟩:∃ p,(was.getD 63 0+1) % 256=p:=⟨_,rfl⟩;have hw63:=hby (was.getD 63 0) (by rw[aIu,aIs (by omega)];exact aJy _);have hrm:rmI (IntKind.wrap .i64 ((IntKind.wrap .i64 (was.getD 63 0))+1)) 256=some p:=by
  unfold rmI;rw[if_neg (by decide),aIy,aIy,aJS (by omega),<-hp];congr 1;omega
 have hp8:IntKind.wrap .u8 p=p:=by simp[IntKind.wrap,IntKind.bits,IntKind.signed];omega
 refine Ex.b1 a1 (Ex.b1 a2 (Ex.b1 hrm ?_));rw[hp8];obtain⟨z3,w3,e3,n3,_,H3,m3⟩:=H2.bsl (T:=5) (sz:=1) (ps:=[[(.int .u8 p)]]) (by simp) (by simp);refine Ex.b2 e3 ?_;have hwn:IntKind.wrap .i64 (fr.2.1+1)=fr.2.1+1:=by rw[aIy];omega
 rw[hwn];obtain⟨k4,w4,e4,r4,kk4,f4⟩:=yD (w:=w3) (n:=fr.2.1+1) (by omega) (by omega);have H4:=H3.old f4;have m4:=H3.mold f4;have k4n:k4.n=8:=by have:=r4.len;rw[bG,gU] at this;omega
 refine Ex.b2 e4 ?_;obtain⟨z5,w5,e5,n5,H5,m5⟩:=H4.apS mS r4.rd dU (by rw[n3,k4n];simp);refine Ex.b2 e5 ?_;obtain⟨k6,w6,e6,r6,kk6,f6⟩:=yD (w:=w5) (n:=v) (by omega) (by omega);have H6:=H5.old f6;have m6:=H5.mold f6;have k6n:k6.n=8:=by have:=r6.len;rw[bG,gU] at this;omega
 refine Ex.b2 e6 ?_;obtain⟨z7,w7,e7,n7,H7,m7⟩:=H6.apS mS r6.rd dU (by rw[n5,n3,k4n,k6n];simp);refine Ex.b2 e7 ?_;obtain⟨z8,w8,e8,n8,H8,m8⟩:=H7.apZ mS Try.underlying3 46 aDl (by rw[n7,n5,n3,k4n,k6n];simp);refine Ex.b2 e8 ?_;obtain⟨w9,e9,H9,m9⟩:=H8.dr;refine Ex.b1 e9 ?_;have c9:=c1.mo (m2.t (m3.t (m4.t (m5.t (m6.t (m7.t (m8.t m9)))))));refine Ex.b1 (rJ c9.at_) ?_;obtain⟨z10,w10,e10,n10,_,H10,m10⟩:=H9.bsl (T:=5) (sz:=1) (ps:=[[(.int .u8 p)]]) (by simp) (by simp);refine Ex.b2 e10 ?_;obtain⟨z11,w11,e11,n11,H11,m11⟩:=H10.sw.apS mS H10.ow.rd (by intro v hv;simp at hv;subst hv;rfl) (by rw[n8,n7,n5,n3,n10,k4n,k6n];simp);refine Ex.b2 e11 ?_;have hsec:([[(Value.int .u8 p)]].flatten++nums .u8 (fK (fr.2.1+1))++nums .u8 (fK v)++(List.replicate 46 [Value.int .u8 0]).flatten)++[[(Value.int .u8 p)]].flatten=nums .u8 (oL was fr.2.1 v):=by
  unfold oL;rw[hp,nV];simp[nums]
 rw[hsec] at H11;have rd11:=H11.ow.rd;obtain⟨g12,w12,e12,H12,m12⟩:=(H11.m2.m3.rwrite (i:=to) rd11 (by omega));refine Ex.b2 e12 (Ex.ck (rJ (c9.mo m10).at_) (Ex.ck (rJ (c9.mo (m10.t m11)).at_) ?_));have c12:=c9.mo (m10.t (m11.t m12));have mall:=m1.t (m2.t (m3.t (m4.t (m5.t (m6.t (m7.t (m8.t (m9.t (m10.t (m11.t m12))))))))));obtain⟨q,hq⟩:∃ q,D.write to (oL was fr.2.1 v)=q:=⟨_,rfl⟩;rw[hq] at H12 ⊢;have H12':=H12.sw.tl.sw.tl.sw.tl;by_cases he:q.1=0
 .obtain⟨g13,w13,e13,H13,m13⟩:=H12'.rsync (by have:=lH D to (oL was fr.2.1 v);rw[hq] at this;omega);refine Ex.b2 (a:=q.2.sync.1) (b:=w13) ?_ (Ex.ret ⟨g13,?_,?_,mall.t m13⟩)
  .rw[if_pos (by simp[he]),aD,aLy,rJ c12.at_,aLx,e13,aE]
  .rw[if_neg (by simp[he])]
  rw[if_neg (by simp[he])];exact H13
 refine Ex.b2 (a:=q.1) (b:=w12) ?_ (Ex.ret ⟨g12,?_,?_,mall⟩)
 .rw[if_neg (by simpa using he)]
 .rw[if_pos he]
 rw[if_pos he];exact H12'
end
def rlC (y:Nat) (base segs age high rel:Int) (su sr:Sl):List Value:=[.pointer (some ⟨y,0,none⟩),.int .i64 base,.int .i64 segs,.int .i64 age,.int .i64 high,.int .i64 rel,su.v,sr.v]
abbrev cF (q:Nat) (cs:List Value):Rs:=bxR q cs 132
structure RLC (cs:List Value) (y:Nat) (base segs:Int):Prop where
 d:cs[0]?=some (.pointer (some ⟨y,0,none⟩))
 b:cs[1]?=some (.int .i64 base)
 s:cs[2]?=some (.int .i64 segs)
 b0:0<=base
 b1:base<=512
section
variable {F0 : Nat -> Prop} {g g0 g' : Gh} {w w0 w' : World} {L : List Rs} {s z : Sl} {xs : List Int} {cs ys : List Value} {y q : Nat} {D : Dk} {base segs pos i : Int}
theorem qK (hc:RLC cs y base segs) (hp:0<=pos/\pos<=16) (hi:0<=i/\i<=16) (hb:B w q=some (cs,132)):cE (some ⟨q,0,none⟩) pos i w=some (base+2+pos*16+i,w):=by
 have h0:=hc.b0;have h1:=hc.b1;unfold cE;rw[aLx,aD,aLy,lP hb hc.b,aLx];congr 2;rw[aIy,aIy,aIy,aIy];omega
theorem qQ (hc:RLC cs y base segs) (hp:0<=pos/\pos<=16) (hi:0<=i/\i<=16) (H:Hp F0 g0 w0 g w (cF q cs::rdR y D::L)) (hbd:D.W.length<900000) :
  ∃ z g' w',bR (some ⟨q,0,none⟩) pos i w=some (z,w')/\Hp F0 g0 w0 g' w' (cF q cs::rdR y D::L)/\Mo g w g' w'/\PR g' w' z 1 (nums .u8 (D.look base pos i))/\z.n<=z.c/\z.n<=64:=by
 obtain⟨w1,e1,H1,m1⟩:=H.dr;have l0:ldP w1 ⟨q,0,none⟩=some (some ⟨y,0,none⟩):=H1.ldP hc.d;have a1:=qK hc hp hi H1.bx;obtain⟨o,w2,T,e2,H2,m2⟩:=H1.sw.rread (base+2+pos*16+i) (by omega);have hcap:=H2.ow.cap;obtain⟨g3,r3,H3,m3⟩:=H2.keepO;have hl:=aAe (base:=base) (pos:=pos) (i:=i) H1.sw.rwf;refine⟨o,g3,w2,?_,H3.sw,m1.t (m2.t m3),r3,hcap,?_⟩
 .unfold bR;rw[e1,aLx,aLx,aD,aLy,l0,aLx,a1,aE,e2,lW,gR l0]
 have:=r3.rd.len;rw[bG] at this;have h2:(D.read (base+2+pos*16+i)).1.length<=64:=hl;omega
theorem aAT (hc:RLC cs y base segs) (hp:0<=pos/\pos<=16) (H:Hp F0 g0 w0 g w (cF q cs::rdR y D::L)) (hbt:D.Bt) (hbd:D.W.length<900000) :
  ∃ n t g' w',fP (some ⟨q,0,none⟩) pos w=some (n,t,(nA pos (D.look base pos 0)).isSome,w')/\Hp F0 g0 w0 g' w' (cF q cs::rdR y D::L)/\Mo g w g' w'/\∀ s,nA pos (D.look base pos 0)=some s->s=⟨pos,n,1,t,[]⟩:=by
 obtain⟨z,g2,w2,e2,H2,m2,r2,c2,n2⟩:=qQ (i:=0) hc hp (by omega) H hbd;obtain⟨k,w3,e3,H3,m3,r3,c3⟩:=aAr H2 r2 (nU hbt) c2 (by omega);obtain⟨b,hb⟩:∃ b,D.look base pos 0=b:=⟨_,rfl⟩;have hby:bU b:=by rw[<-hb];exact nU hbt
 rw[hb] at e3 r3 ⊢;have hqn:(bL b).2.1.length=k.n:=by have:=r3.rd.len;simpa using this
 have t1:(if ((bL b).1 !=1)=true then some (true,w3) else if (!(bL b).2.2)=true then some (true,w3) else some (((k.n:Int) !=16),w3))=some (!((bL b).1==1&&(bL b).2.2&&decide ((bL b).2.1.length=16)),w3):=by
  rw[ifO,ifO];congr 2;rw[hqn];simp only[bne,aKy,aKO];congr 3;by_cases h:k.n=16<;>simp[h]
  omega
 unfold fP;rw[e2,aE,e3,cN,t1,aE];unfold nA zM
 cases h1:((bL b).1==1&&(bL b).2.2&&decide ((bL b).2.1.length=16)) with
 | false=>exact⟨0,0,g2,w3,by simp,H3,m2.t m3,fun s hs=>by simp at hs⟩
 | true =>
  have h16:(bL b).2.1.length=16:=by simp only[aIz,decide_eq_true_eq] at h1;exact h1.2
  have k1:bF k 0 w3=some (eY (bL b).2.1 0,((0+8:Nat):Int),0,w3):=rP (i:=0) r3.rd (qU hby) (by omega) (by omega);have k2:bF k 8 w3=some (eY (bL b).2.1 8,((8+8:Nat):Int),0,w3):=rP (i:=8) r3.rd (qU hby) (by omega) (by omega);obtain⟨n,hn⟩:∃ n,eY (bL b).2.1 0=n:=⟨_,rfl⟩;obtain⟨t,ht⟩:∃ t,eY (bL b).2.1 8=t:=⟨_,rfl⟩;rw[hn] at k1 ⊢;rw[ht] at k2 ⊢;refine⟨n,t,g2,w3,?_,H3,m2.t m3,fun s hs=>?_⟩
  .rw[if_neg (by simp),k1,cN,k2,cN];unfold hdC;by_cases h2:1<=n
   .rw[if_pos (by simpa using h2)];by_cases h3:n<=4611686018427387904
    .rw[if_pos (by simpa using h3)];by_cases h4:0<=t
     .rw[if_pos (by simpa using h4),cN];by_cases h5:t<=1099511627776<;>simp[h2,h3,h4,h5]
     rw[if_neg (by simpa using h4),cN];simp[h4]
    rw[if_neg (by simpa using h3),cN];simp[h3]
   rw[if_neg (by simpa using h2),cN];simp[h2]
  simp only[aKr] at hs;split at hs
  .cases hs;rfl
  cases hs
def wJ (t:Int):Bool:=decide (t<=1099511627776)
theorem qX (hc:RLC cs y base segs) (hp:0<=pos/\pos<=16) (H:Hp F0 g0 w0 g w (cF q cs::rdR y D::L)) (hbt:D.Bt) (hbd:D.W.length<900000) (hi:0<=i/\i<=16) :
  ∃ vs nx ok g' w',dV (some ⟨q,0,none⟩) pos i w=some (vs,nx,ok,w')/\Hp F0 g0 w0 g' w' (cF q cs::rdR y D::L)/\Mo g w g' w'/\tZ g' w' wJ (D.rcd base pos (16-i).toNat i 2 []) vs nx ok:=by
 obtain⟨pb,w1,e1,H1,m1⟩:=H.box (T:=87) (cs:=rcC 0 Sl.nil);have e1':mk w 87 [.int .i64 0,.slice none 0 0]=some (⟨pb,0,none⟩,w1):=e1;obtain⟨z0,w1b,e1b,n1b,_,H1b,m1b⟩:=H1.bsl (T:=5) (sz:=1) (ps:=[]) (by intro p hp;cases hp) (by simp);have lp:=Ex.loop (step:=fun s:Sl×Int×World=>eE (some ⟨q,0,none⟩) pos i ⟨pb,0,none⟩ s.1 s.2.1 s.2.2)
  (Φ:=fun o=>match o with
   | .inl w'=>∃ g',Hp F0 g0 w0 g' w' (bxR pb (rcC 0 Sl.nil) 87::cF q cs::rdR y D::L)/\Mo g w1b g' w'/\tZ g' w' wJ (D.rcd base pos (16-i).toNat i 2 []) (rcC 0 Sl.nil) 0 false
   | .inr (nx,ok,w')=>∃ vs g',vs.length=2/\Hp F0 g0 w0 g' w' (bxR pb vs 87::cF q cs::rdR y D::L)/\Mo g w1b g' w'/\tZ g' w' wJ (D.rcd base pos (16-i).toNat i 2 []) vs nx ok)
  (fun m s=>∃ (j:Int) (z:Sl) (all:List Int) (g1:Gh) (w':World),s=(z,j,w')/\(m:Int)+j=16/\i<=j/\D.rcd base pos m j (if j=i then 2 else 3) all=D.rcd base pos (16-i).toNat i 2 []/\bU all/\(all.length:Int)+59*m<=944 /\
   Hp F0 g0 w0 g1 w' (owR 5 1 z (nums .u8 all)::bxR pb (rcC 0 Sl.nil) 87::cF q cs::rdR y D::L)/\Mo g w1b g1 w') (fun m s hI=>by
   obtain⟨j,z,all,g1,w',rfl,hm,hj,hr,hby,hal,Hi,mi⟩:=hI;unfold eE;by_cases hlt:j<16
   .obtain⟨m,rfl⟩:∃ k,m=k+1:=⟨m-1,by omega⟩;obtain⟨k,g2,w2,e2,H2,m2,r2,c2,n2⟩:=qQ (i:=j) hc hp (by omega) (Hi.perm (L':=cF q cs::rdR y D::owR 5 1 z (nums .u8 all)::bxR pb (rcC 0 Sl.nil) 87::L) (by exact(aJT (l₁:=[owR 5 1 z (nums .u8 all),bxR pb (rcC 0 Sl.nil) 87]) (l₂:=[cF q cs,rdR y D])).append_right L)) hbd;obtain⟨u,w3,e3,H3,m3,r3,c3⟩:=aAr H2 r2 (nU hbt) c2 (by omega);obtain⟨b,hb⟩:∃ b,D.look base pos j=b:=⟨_,rfl⟩;have hbb:bU b:=by rw[<-hb];exact nU hbt
    have hgl:=vL b;have hgb:=qU hbb;rw[Dk.rcd,hb] at hr;rw[hb] at e3 r3;have hyn:(bL b).2.1.length=u.n:=by have:=r3.rd.len;simpa using this
    have mi3:=mi.t (m2.t m3);have H3':=H3.perm (L':=owR 5 1 z (nums .u8 all)::bxR pb (rcC 0 Sl.nil) 87::cF q cs::rdR y D::L) (by exact(aJT (l₁:=[cF q cs,rdR y D]) (l₂:=[owR 5 1 z (nums .u8 all),bxR pb (rcC 0 Sl.nil) 87])).append_right L);have t0:(if (j==i)=true then (if ((bL b).1 !=2)=true then (some (true,w3)) else (if (decide (i<j))=true then (some (((bL b).1 !=3),w3)) else (some (false,w3)))) else (if (decide (i<j))=true then (some (((bL b).1 !=3),w3)) else (some (false,w3))))=some (!decide ((bL b).1=if j=i then 2 else 3),w3):=by
     by_cases hji:j=i
     .subst hji;rw[if_pos (by simp)];by_cases hg:(bL b).1=2
      .rw[if_neg (by simp[hg]),if_neg (by simp),if_pos rfl,decide_eq_true hg];rfl
      rw[if_pos (by simpa using hg),if_pos rfl,decide_eq_false hg];rfl
     rw[if_neg (by simpa using hji),if_pos (by simp;omega),if_neg hji,show((bL b).1 !=3)=!decide ((bL b).1=3) by rw[aJw];simp]
    refine Ex.t (by simpa using hlt) (Ex.b2 e2 (Ex.b4 e3 (Ex.b2 t0 ?_)));by_cases hk:(bL b).1=if j=i then 2 else 3
    .rw[if_pos hk] at hr;have hzn:all.length=z.n:=by have:=H3'.ow.len;simpa using this
     obtain⟨z4,w4,e4,n4,H4,m4⟩:=H3'.apS mS r3.rd dU (by omega);have hn4:nums .u8 all++nums .u8 (bL b).2.1=nums .u8 (all++(bL b).2.1):=by simp[nums]
     rw[hn4] at H4;obtain⟨al,hal2⟩:∃ al,all++(bL b).2.1=al:=⟨_,rfl⟩;have hall:al.length=z4.n:=by have:=H4.ow.len;rw[hal2] at this;simpa using this
     have haln:al.length=all.length+(bL b).2.1.length:=by rw[<-hal2,aIE]
     have halb:bU al:=by rw[<-hal2];intro v hv;exact(aIG.1 hv).elim (hby v) (hgb v)
     rw[hal2] at H4 hr;have e0:(if (bL b).2.2=true then (some ((decide ((z4.n:Int)<8)),w4)) else (some (false,w4)))=some ((bL b).2.2&&decide (al.length<8),w4):=by
      rw[ifA,show decide ((z4.n:Int)<8)=decide (al.length<8) by rw[hall,aJw];simp;omega]
     refine Ex.f (by rw[decide_eq_true hk];simp) (Ex.b2 e4 (Ex.b2 e0 ?_));by_cases hl:(bL b).2.2=true
     .rw[if_pos hl] at hr;rw[hl,aKr];by_cases h8:al.length<8
      .rw[if_pos h8] at hr;obtain⟨w5,e5,H5,m5,-⟩:=H4.sw.stA' (vs:=rcC 0 Sl.nil) rfl gX;refine Ex.t (by simpa using h8) (Ex.b1 (by exact e5) (Ex.ret ⟨rcC 0 Sl.nil,g2,rfl,H5.sw.tl,mi3.t (m4.t m5),⟨0,Sl.nil,rfl⟩,by rw[<-hr]⟩))
      rw[if_neg h8] at hr;have hcap:=H4.ow.cap;have k1:bF z4 0 w4=some (eY al 0,((0+8:Nat):Int),0,w4):=rP (i:=0) H4.ow.rd halb (by omega) (by omega);obtain⟨t,ht⟩:∃ t,eY al 0=t:=⟨_,rfl⟩;rw[ht] at k1 hr;obtain⟨g5,r5,H5,m5⟩:=H4.keepO;obtain⟨z6,e6,r6,n6,c6⟩:=r5.slN (lo:=8) (hi:=z4.n) (m:=z4.c) (by omega) (aIv _) hcap (aIv _);obtain⟨w7,e7,H7,m7,l7⟩:=H5.stA' (vs:=rcC t z6) rfl gX;refine Ex.f (by simpa using h8) (Ex.t rfl (Ex.b4 k1 (Ex.b1 e6 (Ex.b1 e7 (Ex.ret ⟨rcC t z6,g5,rfl,H7,mi3.t (m4.t (m5.t m7)),⟨t,z6,rfl⟩,?_⟩)))));rw[<-hr];refine⟨rfl,fun _=>⟨by show IntKind.wrap .i64 (j+1)=j+1;rw[iD (by omega) (by omega)],z6,rfl,?_,c6⟩⟩;have r6:=r6.mo m7;rwa[aIB (by rw[aIY];omega)] at r6
     rw[if_neg hl] at hr;have hlf:(bL b).2.2=false:=by simpa using hl
     rw[hlf,aLs];refine Ex.f (by simp) (Ex.f (by simp) (Ex.ret ⟨m,by omega,j+1,z4,al,g2,w4,(by show(z4,IntKind.wrap .i64 (j+1),w4)=(z4,j+1,w4);rw[iD (by omega) (by omega)]),by omega,by omega,?_,halb,by omega,H4,mi3.t m4⟩));rw[if_neg (by omega)];exact hr
    rw[if_neg hk] at hr;obtain⟨w5,e5,H5,m5,-⟩:=H3'.sw.stA' (vs:=rcC 0 Sl.nil) rfl gX;refine Ex.t (by rw[decide_eq_false hk];rfl) (Ex.b1 (by exact e5) (Ex.ret ⟨rcC 0 Sl.nil,g2,rfl,H5.sw.tl,mi3.t m5,⟨0,Sl.nil,rfl⟩,by rw[<-hr]⟩))
   obtain rfl:m=0:=by omega
   refine Ex.f (by simpa using hlt) (Ex.ret ⟨g1,Hi.tl,mi,⟨0,Sl.nil,rfl⟩,?_⟩);rw[<-hr];rfl) (16-i).toNat (z0,i,w1b) ⟨i,z0,[],g,w1b,rfl,by omega,aIZ _,by rw[if_pos rfl],(fun b hb=>by cases hb),by simp;omega,H1b,Mo.r⟩
 obtain⟨o,e2,ho⟩:=lp;unfold dV;rw[e1',aE,e1b,aE,e2,aLx]
 cases o with
 | inl w' =>
  obtain⟨g2,H2,m2,h2⟩:=ho;obtain⟨w3,e3,H3,m3,l3⟩:=H2.stA' (vs:=rcC 0 Sl.nil) rfl gX;have e3':stA w' ⟨pb,0,none⟩ 0 [.int .i64 0,.slice none 0 0]=some w3:=e3;have l3':ldA 2 w3 ⟨pb,0,none⟩ 0=some (rcC 0 Sl.nil):=l3;refine⟨rcC 0 Sl.nil,0,false,g2,w3,?_,H3.tl,m1.t (m1b.t (m2.t m3)),h2.mo m3⟩;simp only[Sum.elim_inl,u1,e3',aLx,l3']
 | inr r =>
  obtain⟨nx,ok,w'⟩:=r;obtain⟨vs,g2,hl,H2,m2,h2⟩:=ho;refine⟨vs,nx,ok,g2,w',?_,H2.tl,m1.t (m1b.t m2),h2⟩;have l3':ldA 2 w' ⟨pb,0,none⟩ 0=some vs:=by
   rw[nK H2.bx (by omega),aJj,aIB (by omega)]
  simp only[Sum.elim_inr,u3,l3',aLx]
end
theorem aAS:ST Try.prog 128 136 4 32 (List.replicate 4 (.int .i64 0)):=⟨Try.underlying128,⟨Try.t136,Value.agg (List.replicate 4 (Value.int .i64 0)).toArray,by kernel_rfl,by kernel_rfl,rfl,rfl,rfl⟩,rfl,by decide,by decide⟩
def tdC (high rel:Int) (su sr:Sl):List Value:=[.int .i64 high,.int .i64 rel,su.v,sr.v]
abbrev tdR (p:Nat) (cs:List Value):Rs:=bxR p cs 130
def rsC (s:Sg):List Value:=[.int .i64 s.pos,.int .i64 s.seq,.int .i64 s.fin,.int .i64 s.high]
abbrev rsR (su:Sl) (us:List Sg):Rs:=owR 136 4 su (us.flatMap rsC)
abbrev rcR (sr:Sl) (rz:List (Int×Sl)):Rs:=owR 87 2 sr (rz.flatMap rcF)
theorem pY {s:Sg}:∀ v∈rsC s,v.oneCell'=true:=by intro v hv;simp[rsC] at hv;rcases hv with rfl | rfl | rfl | rfl<;>rfl
theorem cR {us:List Sg}:∀ q∈us,(rsC q).length=4:=fun _ _=>rfl
section
variable {F0 : Nat -> Prop} {g0 : Gh} {w0 : World} {L : List Rs} {su sr : Sl} {y p q b j : Nat} {D : Dk} {base pos segs age rel high : Int} {cs : List Value}
theorem aCo {w w':World} {z:Sl} {sz b b' i i':Nat} {cs cs':List Value} (h:El w z sz b i cs) (h':El w' z sz b' i' cs'):b'=b:=by
 have:=h.p.symm.trans h'.p;simp only[Option.some.injEq,Addr.mk.injEq,and_true] at this;exact this.symm
theorem aBz {x:Sg} {g:Gh} (hs:su.n<=1000) {Φ:World->Prop}:∀ (R M:List Sg) (w:World),
  Hp F0 g0 w0 g w (tdR p (tdC high rel su sr)::rsR su (R.reverse++x::M)::L) ->
  (∀ w',Hp F0 g0 w0 g w' (tdR p (tdC high rel su sr)::rsR su ((qC x R).reverse++M)::L)->Mo g w g w'->Φ w') ->
  (fB (fun s:Int×World=>dN ⟨p,0,none⟩ s.1 s.2) ((R.length:Int),w)).t Φ
 | [],M,w,H,hΦ=>by
  obtain⟨w1,e1,H1,m1⟩:=H.dr;refine Nd.next ?_
  unfold dN;refine Nd.j2 (Ψ:=fun r=>r=(false,w1)) (Nd.b1 e1 (Nd.f (by simp) (Nd.ret rfl))) ?_;rintro _ _ he;cases he;exact Nd.f (by simp) (Nd.ret (hΦ w1 H1 m1))
 | y'::R,M,w,H,hΦ=>by
  obtain⟨w1,e1,H1,m1⟩:=H.dr;have gx:((y'::R).reverse++x::M)[R.length+1]?=some x:=by
   rw[aII (by simp)];simp
  have gy:((y'::R).reverse++x::M)[R.length]?=some y':=by
   rw[aKb,aIK,aII (by simp),aKx,aKd];rfl
  obtain⟨b,ex⟩:=H1.sw.el cR (by decide) gx;obtain⟨b',ey⟩:=H1.sw.el cR (by decide) gy;obtain rfl:=aCo ex ey;have hxn:=ex.n;have l1:ldL w1 ⟨p,2,none⟩=some su:=H1.ldL rfl;have kx:ldI .i64 w1 ⟨b',(R.length+1)*4+1,none⟩=some x.seq:=ex.i rfl;have ky:ldI .i64 w1 ⟨b',R.length*4+1,none⟩=some y'.seq:=ey.i rfl;have hw1:IntKind.wrap .i64 (((R.length+1:Nat):Int)-1)=(R.length:Int):=by rw[iD (by omega) (by omega)];omega
  have i1:ix su (((R.length+1:Nat):Int)) 4=some ⟨b',(R.length+1)*4,none⟩:=ex.ix;have i2:ix su (IntKind.wrap .i64 (((R.length+1:Nat):Int)-1)) 4=some ⟨b',R.length*4,none⟩:=by rw[hw1];exact ey.ix
  refine Nd.next ?_
  unfold dN;simp only[aIH];refine Nd.j2 (Ψ:=fun r=>r=(decide (x.seq<y'.seq),w1)) (Nd.b1 e1 (Nd.t (by simp) (Nd.b1 (by rw[aD];exact l1) (Nd.b1 i1 (Nd.b1 (by rw[aD];exact kx) (Nd.b1 (by rw[aD];exact l1) (Nd.b1 i2 (Nd.b1 (by rw[aD];exact ky) (Nd.ret rfl))))))))) ?_;rintro _ _ he;cases he;by_cases hlt:x.seq<y'.seq
  .obtain⟨pb,w2,e2,H2,m2⟩:=H1.box (T:=136) (cs:=List.replicate 4 (.int .i64 0));obtain⟨w3,e3,H3,m3,l3⟩:=H2.stA' (vs:=rsC x) rfl pY;obtain⟨w4,e4,H4,m4⟩:=H3.dr
   -- box,told,segments
   have l4:ldL w4 ⟨p,2,none⟩=some su:=H4.sw.ldL rfl;obtain⟨b4,ex4⟩:=H4.m2.el cR (by decide) gx;obtain rfl:=aCo ex ex4;obtain⟨b5,ey4⟩:=H4.m2.el cR (by decide) gy;obtain rfl:=aCo ex ey4;obtain⟨w5,e5,H5,m5⟩:=H4.m2.elput (q':=y') cR ex4 gx rfl pY
   -- segments,box,told
   have gy5:(((y'::R).reverse++x::M).set (R.length+1) y')[R.length]?=some y':=by rw[aKu (by omega)];exact gy
   obtain⟨b6,ey5⟩:=H5.el cR (by decide) gy5;obtain rfl:=aCo ex ey5;have l5:ldL w5 ⟨p,2,none⟩=some su:=H5.m2.ldL rfl;have l5a:ldA 4 w5 ⟨pb,0,none⟩ 0=some (rsC x):=by rw[nK H5.sw.bx (by exact aIv _)];rfl
   obtain⟨w6,e6,H6,m6⟩:=H5.elput (q':=x) cR ey5 gy5 rfl pY;have hset:(((y'::R).reverse++x::M).set (R.length+1) y').set R.length x=R.reverse++x::(y'::M):=by
    rw[aKb,aIK,aJm _ _ (by simp),aJm _ _ (by simp)];simp
   rw[hset] at H6;have mm:=m1.t (m2.t (m3.t (m4.t (m5.t m6))));refine Nd.t (by simpa using hlt) (Nd.b1 (by rw[aD];exact l1) (Nd.b1 i1 (Nd.b1 ex.ldA (Nd.b2 e2 (Nd.b1 e3 (Nd.b1 e4 (Nd.b1 (by rw[aD];exact l4) (Nd.b1 (by rw[aD];exact l4) (Nd.b1 i2 (Nd.b1 ey4.ldA (Nd.b1 i1 (Nd.b1 e5 (Nd.b1 (by rw[aD];exact l5) (Nd.b1 l5a (Nd.b1 i2 (Nd.b1 e6 (Nd.ret ?_)))))))))))))))));simp only[Sum.elim_inl];rw[hw1];refine aBz hs R (y'::M) w6 (H6.m2.perm (by exact(List.Perm.cons _ (List.Perm.refl _)))|>.b2|>.sw|>.sw|>.b2|>.m2|>.sw|>.tl|>.sw) fun w' H' m'=>hΦ w' ?_ (mm.t m');rw[qC,if_pos hlt,aKb,aIK];exact H'
  refine Nd.f (by simpa using hlt) (Nd.ret (hΦ w1 ?_ m1));rw[qC,if_neg hlt,aKb,aIK];exact H1
end
theorem aEZ {l:List Sg} {x:Sg}:jM l x=(qC x l.reverse).reverse:=rfl
theorem aAO {D:Dk} {base:Int} {n:Nat}:(D.heads base (n+1)).foldl jM []=(match nA (n:Int) (D.look base n 0) with | some s=>jM ((D.heads base n).foldl jM []) s | none=>(D.heads base n).foldl jM []):=by
 rw[sM,aLb];cases nA (n:Int) (D.look base n 0)<;>rfl
section
variable {F0 : Nat -> Prop} {g0 : Gh} {w0 : World} {L : List Rs} {su sr : Sl} {y p q b j : Nat} {D : Dk} {base pos segs age rel high : Int} {cs : List Value}
theorem aCN {g:Gh} {w:World} (hc:RLC cs y base segs) (hs0:0<=segs) (hs1:segs<=16) (hbt:D.Bt) (hbd:D.W.length<900000) {Φ:World->Prop}
  (H:Hp F0 g0 w0 g w (tdR p (tdC high rel Sl.nil sr)::cF q cs::rdR y D::L))
  (hΦ:∀ g' w' s',Hp F0 g0 w0 g' w' (tdR p (tdC high rel s' sr)::rsR s' ((D.heads base segs.toNat).foldl jM [])::cF q cs::rdR y D::L)->Mo g w g' w'->Φ w') :
  (fB (fun s:Int×World=>eZ (some ⟨q,0,none⟩) ⟨p,0,none⟩ s.1 s.2) (0,w)).t Φ:=by
 refine Nd.loop (fun m st=>∃ (j:Nat) (g':Gh) (w':World) (s':Sl),st=((j:Int),w')/\m+j=segs.toNat/\Hp F0 g0 w0 g' w' (tdR p (tdC high rel s' sr)::rsR s' ((D.heads base j).foldl jM [])::cF q cs::rdR y D::L)/\Mo g w g' w') (fun m st hI=>?_) segs.toNat (0,w) ⟨0,g,w,Sl.nil,rfl,by omega,H.onil.sw,Mo.r⟩;obtain⟨j,g1,w1,s1,rfl,hm,H1,m1⟩:=hI;have l1:ldI .i64 w1 ⟨q,2,none⟩=some segs:=H1.m2.ldI hc.s;unfold eZ;refine Nd.s1 (Nd.b1 (by rw[aD];exact l1) ?_);by_cases hlt:(j:Int)<segs
 .obtain⟨n,t,g2,w2,e2,H2,m2,hh⟩:=aAT (pos:=(j:Int)) hc ⟨by omega,by omega⟩ (H1.m3.m3) hbt hbd;obtain⟨o,ho⟩:∃ o,nA (j:Int) (D.look base j 0)=o:=⟨_,rfl⟩;have hfold:=aAO (D:=D) (base:=base) (n:=j);rw[ho] at e2 hh hfold;have mm:=m1.t m2;have hlen:((D.heads base j).foldl jM []).length<=j:=by rw[nT];have:=qJ (D:=D) (base:=base) (n:=j);simpa using this
  -- log,disk,told,segments
  refine Nd.t (by simpa using hlt) (Nd.j1 (Ψ:=fun w'=>∃ g' s',Hp F0 g0 w0 g' w' (tdR p (tdC high rel s' sr)::rsR s' ((D.heads base (j+1)).foldl jM [])::cF q cs::rdR y D::L)/\Mo g w g' w') (Nd.b4 e2 ?_) ?_)
  .cases o with
   | none =>
    refine Nd.t (by simp) (Nd.ret ⟨g2,s1,?_,mm⟩);rw[hfold];exact H2.m3.m3
   | some u =>
    obtain rfl:=hh u rfl;obtain⟨pre,hpre⟩:∃ pre,(D.heads base j).foldl jM []=pre:=⟨_,rfl⟩;have hfold:(D.heads base (j+1)).foldl jM []=jM pre ⟨(j:Int),n,1,t,[]⟩:=by rw[hfold,hpre]
    rw[hpre] at H2 hlen;have l2:ldL w2 ⟨p,2,none⟩=some s1:=H2.m2.ldL rfl;obtain⟨z3,w3,e3,n3,_,H3,m3⟩:=H2.bsl (T:=136) (sz:=4) (ps:=[rsC (⟨(j:Int),n,1,t,[]⟩:Sg)]) (by intro v hv;simp at hv;subst hv;rfl) (by simp);have hsn:pre.length=s1.n:=by have:=H3.tl.m3.ow.len;rw[cQ cR] at this;omega
    obtain⟨z4,w4,e4,n4,H4,m4⟩:=H3.tl.m3.apS aAS H3.ow.rd (by intro v hv;simp at hv;exact pY v hv) (by rw[n3];simp;omega);rw[show pre.flatMap rsC++[rsC (⟨(j:Int),n,1,t,[]⟩:Sg)].flatten=(pre.reverse.reverse++(⟨(j:Int),n,1,t,[]⟩:Sg)::[]).flatMap rsC by simp] at H4
    -- segments,log,disk,told
    obtain⟨w5,e5,H5,m5⟩:=H4.m3.stV (o:=2) (x:=z4.v) (by simp[tdC]) rfl;have H5:Hp F0 g0 w0 g2 w5 (tdR p (tdC high rel z4 sr)::rsR z4 (pre.reverse.reverse++(⟨(j:Int),n,1,t,[]⟩:Sg)::[])::cF q cs::rdR y D::L):=H5;have l5:ldL w5 ⟨p,2,none⟩=some z4:=H5.ldL rfl;have hz4:z4.n=pre.length+1:=by rw[n4,n3,hsn];simp
    have hk:IntKind.wrap .i64 ((z4.n:Int)-1)=(pre.reverse.length:Int):=by rw[iD (by omega) (by omega),aKx];omega
    refine Nd.f (by simp) (Nd.b1 (by rw[aD];exact l2) (Nd.b2 (by exact e3) (Nd.b2 e4 (Nd.b1 (by rw[aD];exact e5) (Nd.b1 (by rw[aD];exact l5) (Nd.j1 (Ψ:=fun w'=>∃ g' s',Hp F0 g0 w0 g' w' (tdR p (tdC high rel s' sr)::rsR s' ((D.heads base (j+1)).foldl jM [])::cF q cs::rdR y D::L)/\Mo g w g' w') ?_ (fun w' h=>Nd.ret h)))))));rw[hk];refine aBz (by omega) pre.reverse [] w5 H5 fun w' H' m'=>⟨g2,z4,?_,mm.t (m3.t (m4.t (m5.t m')))⟩;rw[hfold,aEZ];rw[aKa] at H';exact H'
  rintro w' ⟨g',s',H',m'⟩;exact Nd.ret ⟨m-1,by omega,j+1,g',w',s',by rw[cC (by omega)],by omega,H',m'⟩
 have hj:j=segs.toNat:=by omega
 subst hj;exact Nd.f (by simpa using hlt) (Nd.ret (hΦ g1 w1 s1 H1 m1))
theorem aCC (hc:RLC cs y base segs) (hpos:0<=pos/\pos<=16) (hbt:D.Bt) (hbd:D.W.length<900000) (hsp:su.p=some ⟨b,0,none⟩) {Φ:Sl×World->Prop} :
  ∀ (m:Nat) (us:List Sg) (u:Sg) (sa:Sl) (rz:List (Int×Sl)) (pre:List (Int×List Int)) (rs:List (Int×List Int)) (h:Int) (g:Gh) (w:World),(16:Int)<=m+u.fin->1<=u.fin->u.fin<=16->0<=h->us[j]?=some u->u.pos=pos->RZ g w rz (pre++rs)->rz.length+m<=100000 ->
  Hp F0 g0 w0 g w (cF q cs::rdR y D::tdR p (tdC h rel su sr)::rsR su us::rcR sa rz::L) ->
  (∀ g' w' sa' rz',Hp F0 g0 w0 g' w' (cF q cs::rdR y D::tdR p (tdC (D.seg base pos m u.fin h rs).2.1 rel su sr)::rsR su (us.set j ⟨u.pos,u.seq,(D.seg base pos m u.fin h rs).1,u.high,u.recs⟩)::rcR sa' rz'::L) ->
   Mo g w g' w'->RZ g' w' rz' (pre++(D.seg base pos m u.fin h rs).2.2)->Φ (sa',w')) ->
  (fB (fun s:Sl×Bool×World=>cG ⟨p,0,none⟩ (j:Int) (some ⟨q,0,none⟩) s.1 s.2.1 s.2.2) (sa,true,w)).t Φ:=by
 intro m
 induction m with
 | zero =>
  intro us u sa rz pre rs h g w hm h1 h16 hh hj hq hz hzl H hΦ;have hset:us.set j ⟨u.pos,u.seq,u.fin,u.high,u.recs⟩=us:=by
   obtain⟨hjl,hj'⟩:=aIt.1 hj;have:us.set j us[j]=us:=aKo hjl;rw[hj'] at this;exact this
  have he:u.fin=16:=by omega
  have rd:∀ {g1:Gh} {w1:World} {L':List Rs},Hp F0 g0 w0 g1 w1 (rsR su us::L')->El w1 su 4 b j (rsC u):=fun Hs=>by
   obtain⟨b',e⟩:=Hs.el cR (by decide) hj;have hbb:=hsp.symm.trans e.p;simp only[Option.some.injEq,Addr.mk.injEq,and_true] at hbb;subst hbb;exact e
  obtain⟨w1,e1,H1,m1⟩:=H.dr;have l1:ldL w1 ⟨p,2,none⟩=some su:=H1.m2.ldL rfl;have el1:=rd H1.m3;have r1:ldI .i64 w1 ⟨b,j*4+0,none⟩=some pos:=el1.i (by rw[<-hq];rfl);have r2:ldI .i64 w1 ⟨b,j*4+2,none⟩=some u.fin:=el1.i rfl;have hrc:∀ {vs:List Value} {nx:Int} {ok:Bool} {g1:Gh} {w1:World},tZ g1 w1 wJ (D.rcd base pos (16-u.fin).toNat u.fin 2 []) vs nx ok->ok=false:=fun hr=>by
   rw[he] at hr;exact hr.2
  refine Nd.next ?_
  unfold cG;refine Nd.t rfl (Nd.j4 (Ψ:=fun r=>r.2.2.1=false/\∃ g',Hp F0 g0 w0 g' r.2.2.2 (cF q cs::rdR y D::tdR p (tdC h rel su sr)::rsR su us::rcR sa rz::L)/\Mo g w g' r.2.2.2) (Nd.b1 e1 (Nd.b1 (by rw[aD];exact l1) (Nd.b1 el1.ix (Nd.b1 (by rw[aD];exact r1) (Nd.b1 (by rw[aD];exact l1) (Nd.b1 el1.ix (Nd.b1 (by rw[aD];exact r2) (Nd.both ?_ ?_)))))))) ?_)
  .obtain⟨vs,nx,ok,g2,w2,e2,H2,m2,hr⟩:=qX hc hpos H1 hbt hbd ⟨by omega,h16⟩;obtain⟨t,z,rfl⟩:=hr.1;obtain⟨pb,w3,e3,H3,m3⟩:=H2.box (T:=87) (cs:=rcC 0 Sl.nil);obtain⟨w4,e4,H4,m4,l4⟩:=H3.stA' (vs:=rcC t z) rfl gX;exact Nd.b4 e2 (Nd.b2 e3 (Nd.b1 e4 (Nd.ck rfl (Nd.ret ⟨hrc hr,g2,H4.tl,m1.t (m2.t (m3.t m4))⟩))))
  .obtain⟨pb,w3,e3,H3,m3⟩:=H1.box (T:=87) (cs:=rcC 0 Sl.nil);have l3:ldL w3 ⟨p,2,none⟩=some su:=H3.m3.ldL rfl;have el3:=rd H3.m4;obtain⟨vs,nx,ok,g2,w2,e2,H2,m2,hr⟩:=qX hc hpos H3.b2 hbt hbd ⟨by omega,h16⟩;obtain⟨t,z,rfl⟩:=hr.1;obtain⟨w4,e4,H4,m4,l4⟩:=H2.m2.stA' (vs:=rcC t z) rfl gX;exact Nd.b2 e3 (Nd.b4 e2 (Nd.b1 e4 (Nd.ck rfl (Nd.ck (by rw[aD];exact l3) (Nd.ck (by rw[aD];exact el3.i (by rw[<-hq];rfl)) (Nd.ck (by rw[aD];exact l3) (Nd.ck (by rw[aD];exact el3.i rfl) (Nd.ret ⟨hrc hr,g2,H4.tl,m1.t (m3.t (m2.t m4))⟩))))))))
  rintro pv nx ok w5 ⟨hok,g5,H5,m5⟩;simp only at hok H5 m5;refine Nd.j2 (Ψ:=fun r=>r=(false,w5)) (Nd.f (by rw[hok];simp) (Nd.ret rfl)) ?_;rintro _ _ he2;cases he2;refine Nd.f (by simp) (Nd.ret ?_);refine Nd.next ?_
  refine Nd.f (by simp) (Nd.ret (hΦ g5 w5 sa rz ?_ m5 (hz.mo m5)));simp only[Dk.seg];rw[hset];exact H5
 | succ m ih =>
  intro us u sa rz pre rs h g w hm h1 h16 hh hj hq hz hzl H hΦ;have hset:us.set j ⟨u.pos,u.seq,u.fin,u.high,u.recs⟩=us:=by
   obtain⟨hjl,hj'⟩:=aIt.1 hj;have:us.set j us[j]=us:=aKo hjl;rw[hj'] at this;exact this
  have rd:∀ {g1:Gh} {w1:World} {L':List Rs},Hp F0 g0 w0 g1 w1 (rsR su us::L')->El w1 su 4 b j (rsC u):=fun Hs=>by
   obtain⟨b',e⟩:=Hs.el cR (by decide) hj;have hbb:=hsp.symm.trans e.p;simp only[Option.some.injEq,Addr.mk.injEq,and_true] at hbb;subst hbb;exact e
  obtain⟨w1,e1,H1,m1⟩:=H.dr;have l1:ldL w1 ⟨p,2,none⟩=some su:=H1.m2.ldL rfl;have el1:=rd H1.m3;have r1:ldI .i64 w1 ⟨b,j*4+0,none⟩=some pos:=el1.i (by rw[<-hq];rfl);have r2:ldI .i64 w1 ⟨b,j*4+2,none⟩=some u.fin:=el1.i rfl;obtain⟨o,ho⟩:∃ o,D.rcd base pos (16-u.fin).toNat u.fin 2 []=o:=⟨_,rfl⟩;refine Nd.next ?_
  unfold cG;refine Nd.t rfl (Nd.j4 (Ψ:=fun r=>∃ pb vs g',r.1=⟨pb,0,none⟩/\tZ g' r.2.2.2 wJ o vs r.2.1 r.2.2.1/\Hp F0 g0 w0 g' r.2.2.2 (bxR pb vs 87::cF q cs::rdR y D::tdR p (tdC h rel su sr)::rsR su us::rcR sa rz::L)/\Mo g w g' r.2.2.2) (Nd.b1 e1 (Nd.b1 (by rw[aD];exact l1) (Nd.b1 el1.ix (Nd.b1 (by rw[aD];exact r1) (Nd.b1 (by rw[aD];exact l1) (Nd.b1 el1.ix (Nd.b1 (by rw[aD];exact r2) (Nd.both ?_ ?_)))))))) ?_)
  .obtain⟨vs,nx,ok,g2,w2,e2,H2,m2,hr⟩:=qX hc hpos H1 hbt hbd ⟨by omega,h16⟩;rw[ho] at hr;obtain⟨t,z,hv⟩:=hr.1;obtain⟨pb,w3,e3,H3,m3⟩:=H2.box (T:=87) (cs:=rcC 0 Sl.nil);obtain⟨w4,e4,H4,m4,l4⟩:=H3.stA' (vs:=vs) (by rw[hv];rfl) (by rw[hv];exact gX);exact Nd.b4 e2 (Nd.b2 e3 (Nd.b1 e4 (Nd.ck (by rw[hv];rfl) (Nd.ret ⟨pb,vs,g2,rfl,hr.mo (m3.t m4),H4,m1.t (m2.t (m3.t m4))⟩))))
  .obtain⟨pb,w3,e3,H3,m3⟩:=H1.box (T:=87) (cs:=rcC 0 Sl.nil);have l3:ldL w3 ⟨p,2,none⟩=some su:=H3.m3.ldL rfl;have el3:=rd H3.m4;obtain⟨vs,nx,ok,g2,w2,e2,H2,m2,hr⟩:=qX hc hpos H3.b2 hbt hbd ⟨by omega,h16⟩;rw[ho] at hr;obtain⟨t,z,hv⟩:=hr.1;obtain⟨w4,e4,H4,m4,l4⟩:=H2.m2.stA' (vs:=vs) (by rw[hv];rfl) (by rw[hv];exact gX);exact Nd.b2 e3 (Nd.b4 e2 (Nd.b1 e4 (Nd.ck (by rw[hv];rfl) (Nd.ck (by rw[aD];exact l3) (Nd.ck (by rw[aD];exact el3.i (by rw[<-hq];rfl)) (Nd.ck (by rw[aD];exact l3) (Nd.ck (by rw[aD];exact el3.i rfl) (Nd.ret ⟨pb,vs,g2,rfl,hr.mo m4,H4,m1.t (m3.t (m2.t m4))⟩))))))))
  rintro pv nx ok w5 ⟨pb,vs,g5,hpv,hr,H5,m5⟩;simp only at hpv hr H5 m5;subst hpv;have stop:D.seg base pos (m+1) u.fin h rs=(u.fin,h,rs)->(fB (fun s:Sl×Bool×World=>cG ⟨p,0,none⟩ (j:Int) (some ⟨q,0,none⟩) s.1 s.2.1 s.2.2) (sa,false,w5)).t Φ:=fun hs=>by
   refine Nd.next ?_
   unfold cG;refine Nd.f (by simp) (Nd.ret (hΦ g5 w5 sa rz ?_ m5 (by rw[hs];exact hz.mo m5)));rw[hs];simp only;rw[hset];exact H5.tl
  cases o with
  | none =>
   have hok:ok=false:=hr.2;refine Nd.j2 (Ψ:=fun r=>r=(false,w5)) (Nd.f (by rw[hok];simp) (Nd.ret rfl)) ?_;rintro _ _ he2;cases he2;exact Nd.f (by simp) (Nd.ret (stop (by unfold Dk.seg;rw[ho])))
  | some r =>
   obtain⟨t,bd,n⟩:=r;obtain⟨hok,hr2⟩:=hr.2;simp only at hok hr2;by_cases hgo:h<t/\t<=1099511627776
   .have hok1:ok=true:=by rw[hok];simp[wJ];omega
    obtain⟨hnx,z,rfl,rz6,-⟩:=hr2 hok1;have hnx:=hnx.symm;subst hnx;obtain⟨hn1,hn2⟩:=rR ho;simp only at hn1 hn2;have l5:ldI .i64 w5 ⟨pb,0,none⟩=some t:=H5.ldI rfl;have l5h:ldI .i64 w5 ⟨p,0,none⟩=some h:=H5.m3.ldI rfl;refine Nd.j2 (Ψ:=fun r=>r=(true,w5)) (Nd.t hok1 (Nd.b1 (by rw[aD];exact l5) (Nd.b1 (by rw[aD];exact l5h) (Nd.ret (by rw[decide_eq_true (by omega)]))))) ?_;rintro _ _ he2;cases he2;have l5a:ldA 2 w5 ⟨pb,0,none⟩ 0=some (rcC t z):=by rw[nK H5.bx (by exact aIv _)];rfl
    obtain⟨z8,w8,e8,n8,_,H8,m8⟩:=H5.bsl (T:=87) (sz:=2) (ps:=[rcC t z]) (by intro v hv;simp at hv;subst hv;rfl) (by simp)
    -- new,box,log,disk,told,segments,records
    have H8b:=H8.tl.perm (L':=rcR sa rz::bxR pb (rcC t z) 87::cF q cs::rdR y D::tdR p (tdC h rel su sr)::rsR su us::L) (by exact(aKi (a:=rcR sa rz) (l₁:=[bxR pb (rcC t z) 87,cF q cs,rdR y D,tdR p (tdC h rel su sr),rsR su us]) (l₂:=L)));have hrl:rz.length=sa.n:=by have:=H8b.ow.len;rw[cQ jP] at this;omega
    obtain⟨z9,w9,e9,n9,H9,m9⟩:=H8b.apS tO H8.ow.rd (by intro v hv;simp at hv;exact gX v hv) (by rw[n8];simp;omega);rw[show rz.flatMap rcF++[rcC t z].flatten=(rz++[(t,z)]).flatMap rcF by simp[rcF]] at H9;have H9:Hp F0 g0 w0 g5 w9 (rcR z9 (rz++[(t,z)])::bxR pb (rcC t z) 87::cF q cs::rdR y D::tdR p (tdC h rel su sr)::rsR su us::L):=H9;have l9:ldI .i64 w9 ⟨pb,0,none⟩=some t:=H9.sw.ldI rfl;obtain⟨w10,e10,H10,m10⟩:=H9.m4.stV (o:=0) (x:=.int .i64 t) (by simp[tdC]) rfl;have H10:Hp F0 g0 w0 g5 w10 (tdR p (tdC t rel su sr)::rcR z9 (rz++[(t,z)])::bxR pb (rcC t z) 87::cF q cs::rdR y D::rsR su us::L):=H10;have l10:ldL w10 ⟨p,2,none⟩=some su:=H10.ldL rfl;have H10b:=H10.perm (L':=rsR su us::tdR p (tdC t rel su sr)::rcR z9 (rz++[(t,z)])::bxR pb (rcC t z) 87::cF q cs::rdR y D::L) (by exact(aKi (a:=rsR su us) (l₁:=[tdR p (tdC t rel su sr),rcR z9 (rz++[(t,z)]),bxR pb (rcC t z) 87,cF q cs,rdR y D]) (l₂:=L)));obtain⟨w11,e11,H11,m11⟩:=H10b.elset (q':=⟨u.pos,u.seq,n,u.high,u.recs⟩) cR (rd H10b) hj (k:=2) (by decide) (v:=.int .i64 n) rfl rfl;have H11:Hp F0 g0 w0 g5 w11 (rsR su (us.set j ⟨u.pos,u.seq,n,u.high,u.recs⟩)::tdR p (tdC t rel su sr)::rcR z9 (rz++[(t,z)])::bxR pb (rcC t z) 87::cF q cs::rdR y D::L):=H11;have mm:=m8.t (m9.t (m10.t m11));refine Nd.t rfl (Nd.b1 l5a (Nd.b2 e8 (Nd.b2 e9 (Nd.b1 (by rw[aD];exact l9) (Nd.b1 (by rw[aD];exact e10) (Nd.b1 (by rw[aD];exact l10) (Nd.b1 (rd H10b).ix (Nd.b1 (by rw[aD];exact e11) (Nd.ret ?_)))))))));have hj2:(us.set j ⟨u.pos,u.seq,n,u.high,u.recs⟩)[j]?=some ⟨u.pos,u.seq,n,u.high,u.recs⟩:=by rw[aJp (aIt.1 hj).1]
    have hseg:D.seg base pos (m+1) u.fin h rs=D.seg base pos m n t (rs++[(t,bd)]):=by rw[Dk.seg,ho];simp only;rw[if_pos hgo]
    have hzz:RZ g5 w11 (rz++[(t,z)]) (pre++(rs++[(t,bd)])):=by rw[<-aIK];exact(hz.mo (m5.t mm)).snoc (rz6.mo mm)
    have H11b:=H11.m3.tl.perm (L':=cF q cs::rdR y D::tdR p (tdC t rel su sr)::rsR su (us.set j ⟨u.pos,u.seq,n,u.high,u.recs⟩)::rcR z9 (rz++[(t,z)])::L) (by
     refine(aJT (l₁:=[rsR su (us.set j ⟨u.pos,u.seq,n,u.high,u.recs⟩),tdR p (tdC t rel su sr),rcR z9 (rz++[(t,z)])]) (l₂:=[cF q cs,rdR y D])).append_right L |>.trans ?_
     exact List.Perm.cons _ (List.Perm.cons _ (List.Perm.swap _ _ _)))
    refine ih _ ⟨u.pos,u.seq,n,u.high,u.recs⟩ z9 (rz++[(t,z)]) pre (rs++[(t,bd)]) t g5 w11 (by simp only;omega) (by simp only;omega) (by simp only;omega) (by omega) hj2 hq hzz (by simp;omega) H11b fun g' w' sa' rz' H' m' hz'=>?_;simp only at H' hz';rw[aLa] at H';exact hΦ g' w' sa' rz' (by rw[hseg];exact H') (m5.t (mm.t m')) (by rw[hseg];exact hz')
   have hs:D.seg base pos (m+1) u.fin h rs=(u.fin,h,rs):=by unfold Dk.seg;rw[ho];simp only;rw[if_neg hgo]
   refine Nd.j2 (Ψ:=fun r=>r=(false,w5)) ?_ ?_
   .cases hk:ok with
    | false=>exact Nd.f (by simp) (Nd.ret rfl)
    | true =>
     obtain⟨-,z,rfl,-,-⟩:=hr2 hk;have l5:ldI .i64 w5 ⟨pb,0,none⟩=some t:=H5.ldI rfl;have l5h:ldI .i64 w5 ⟨p,0,none⟩=some h:=H5.m3.ldI rfl;have ht:t<=1099511627776:=by rw[hk] at hok;have:=hok.symm;simpa[wJ] using this
     exact Nd.t rfl (Nd.b1 (by rw[aD];exact l5) (Nd.b1 (by rw[aD];exact l5h) (Nd.ret (by rw[decide_eq_false (by omega)]))))
   rintro _ _ he2;cases he2;exact Nd.f (by simp) (Nd.ret (stop hs))
end
theorem RZ.tl {g:Gh} {w:World} {r:Int×Sl} {q:Int×List Int} {rz:List (Int×Sl)} {rs:List (Int×List Int)} (h:RZ g w (r::rz) (q::rs)):(r.1=q.1/\PR g w r.2 1 (nums .u8 q.2))/\RZ g w rz rs :=
 ⟨h.2 0 r q rfl rfl,by have:=h.1;simpa using this,fun j r' q' hr hq=>h.2 (j+1) r' q' (by simpa using hr) (by simpa using hq)⟩
theorem RZ.cons {g:Gh} {w:World} {r:Int×Sl} {q:Int×List Int} {rz:List (Int×Sl)} {rs:List (Int×List Int)} (h1:r.1=q.1/\PR g w r.2 1 (nums .u8 q.2)) (h:RZ g w rz rs):RZ g w (r::rz) (q::rs) :=
 ⟨by simp[h.1],fun j r' q' hr hq=>by
  cases j with
  | zero=>simp at hr hq;subst hr;subst hq;exact h1
  | succ j=>exact h.2 j r' q' (by simpa using hr) (by simpa using hq)⟩
theorem RZ.filter {g:Gh} {w:World} {P:Int->Bool}:∀ {rz:List (Int×Sl)} {rs:List (Int×List Int)},RZ g w rz rs->RZ g w (rz.filter fun r=>P r.1) (rs.filter fun r=>P r.1)
 | [],[],h=>h
 | [],_::_,h=>by have:=h.1;simp at this
 | _::_,[],h=>by have:=h.1;simp at this
 | r::rz,q::rs,h=>by
  obtain⟨h1,h2⟩:=h.tl;have:=h2.filter (P:=P);simp only[aJO];rw[h1.1];split
  .exact RZ.cons h1 this
  exact this
theorem wF {D:Dk} {base pos:Int}:∀ (m:Nat) (e h:Int) (rs:List (Int×List Int)),(D.seg base pos m e h rs).2.2.length<=rs.length+m
 | 0,e,h,rs=>by simp[Dk.seg]
 | m+1,e,h,rs=>by
  unfold Dk.seg;split
  .split
   .rename_i t b nx _ _;have:=wF (D:=D) (base:=base) (pos:=pos) m nx t (rs++[(t,b)]);rw[aIE] at this;simp at this;omega
   simp only;omega
  simp only;omega
theorem aAu {D:Dk} {base pos:Int}:∀ (m:Nat) (e h:Int) (rs:List (Int×List Int)),h<=(D.seg base pos m e h rs).2.1/\((D.seg base pos m e h rs).2.1<=1099511627776\/(D.seg base pos m e h rs).2.1=h)
 | 0,e,h,rs=>⟨aIZ _,.inr rfl⟩
 | m+1,e,h,rs=>by
  unfold Dk.seg;split
  .split
   .rename_i t b nx _ hc;have:=aAu (D:=D) (base:=base) (pos:=pos) m nx t (rs++[(t,b)]);exact⟨by omega,by omega⟩
   exact⟨aIZ _,.inr rfl⟩
  exact⟨aIZ _,.inr rfl⟩
section
variable {F0 : Nat -> Prop} {g0 : Gh} {w0 : World} {L : List Rs} {su sr : Sl} {y p q b j : Nat} {D : Dk} {base pos segs age rel high : Int} {cs : List Value}
theorem wO (hc:RLC cs y base segs) (hbt:D.Bt) (hbd:D.W.length<900000) {Φ:Sl×World->Prop}:∀ (us ds:List Sg) (sa:Sl) (rz:List (Int×Sl)) (h:Int) (g:Gh) (w:World),
  (∀ u∈us,0<=u.pos/\u.pos<=16/\u.fin=1/\u.recs=[])->0<=h->su.n<=16->RZ g w rz (ds.flatMap fun s=>s.recs)->rz.length<=16*ds.length ->
  Hp F0 g0 w0 g w (cF q cs::rdR y D::tdR p (tdC h rel su sr)::rsR su (ds++us)::rcR sa rz::L) ->
  (∀ g' w' sa' rz',Hp F0 g0 w0 g' w' (cF q cs::rdR y D::tdR p (tdC (D.segs base us h ds).1 rel su sr)::rsR su (D.segs base us h ds).2::rcR sa' rz'::L)->Mo g w g' w'->RZ g' w' rz' ((D.segs base us h ds).2.flatMap fun s=>s.recs)->rz'.length<=16*(ds.length+us.length)->Φ (sa',w')) ->
  (fB (fun s:Sl×Int×World=>dR ⟨p,0,none⟩ (some ⟨q,0,none⟩) s.1 s.2.1 s.2.2) (sa,(ds.length:Int),w)).t Φ
 | [],ds,sa,rz,h,g,w,hu,hh,hsn,hz,hzl,H,hΦ=>by
  have hl:ds.length=su.n:=by have:=H.m3.ow.len;rw[cQ cR] at this;simp at this;omega
  have l0:ldL w ⟨p,2,none⟩=some su:=H.m2.ldL rfl;refine Nd.next ?_
  unfold dR;exact Nd.b1 (by rw[aD];exact l0) (Nd.f (by simp;omega) (Nd.ret (hΦ g w sa rz (by simpa[Dk.segs] using H) Mo.r (by simpa[Dk.segs] using hz) (by simpa using hzl))))
 | u::us,ds,sa,rz,h,g,w,hu,hh,hsn,hz,hzl,H,hΦ=>by
  obtain⟨hu1,hu2,hu3,hu4⟩:=hu u (by simp);have hl:ds.length+us.length+1=su.n:=by have:=H.m3.ow.len;rw[cQ cR] at this;simp at this;omega
  have hj:(ds++u::us)[ds.length]?=some u:=by rw[aII (aIv _),aKd];rfl
  have l0:ldL w ⟨p,2,none⟩=some su:=H.m2.ldL rfl;obtain⟨w1,e1,H1,m1⟩:=H.dr;obtain⟨b,el1⟩:=H1.m3.el cR (by decide) hj;have l1:ldL w1 ⟨p,2,none⟩=some su:=H1.m2.ldL rfl;have l1h:ldI .i64 w1 ⟨p,0,none⟩=some h:=H1.m2.ldI rfl;have l1u:ldI .i64 w1 ⟨b,ds.length*4+3,none⟩=some u.high:=el1.i rfl;refine Nd.next ?_
  unfold dR;refine Nd.b1 (by rw[aD];exact l0) (Nd.t (by simp;omega) (Nd.j1 (Ψ:=fun w'=>Hp F0 g0 w0 g w' (cF q cs::rdR y D::tdR p (tdC (max h u.high) rel su sr)::rsR su (ds++u::us)::rcR sa rz::L)/\Mo g w g w') (Nd.b1 e1 (Nd.b1 (by rw[aD];exact l1) (Nd.b1 el1.ix (Nd.b1 (by rw[aD];exact l1u) (Nd.b1 (by rw[aD];exact l1h) ?_))))) ?_))
  .by_cases hlt:h<u.high
   .obtain⟨w2,e2,H2,m2⟩:=H1.m2.stV (o:=0) (x:=.int .i64 u.high) (by simp[tdC]) rfl;have H2:Hp F0 g0 w0 g w2 (tdR p (tdC u.high rel su sr)::cF q cs::rdR y D::rsR su (ds++u::us)::rcR sa rz::L):=H2;refine Nd.t (by simpa using hlt) (Nd.b1 (by rw[aD];exact l1) (Nd.b1 el1.ix (Nd.b1 (by rw[aD];exact l1u) (Nd.b1 (by rw[aD];exact e2) (Nd.ret ⟨?_,m1.t m2⟩)))));rw[show max h u.high=u.high by omega];exact H2.b2
   refine Nd.f (by simpa using hlt) (Nd.ret ⟨?_,m1⟩);rw[show max h u.high=h by omega];exact H1
  rintro w2 ⟨H2,m2⟩;obtain⟨r,hr⟩:∃ r,D.seg base u.pos 16 u.fin (max h u.high) []=r:=⟨_,rfl⟩;have hrl:=wF (D:=D) (base:=base) (pos:=u.pos) 16 u.fin (max h u.high) [];have hrh:=aAu (D:=D) (base:=base) (pos:=u.pos) 16 u.fin (max h u.high) [];rw[hr] at hrl hrh;refine Nd.j2 (Ψ:=fun s=>∃ g' rz',Hp F0 g0 w0 g' s.2 (cF q cs::rdR y D::tdR p (tdC r.2.1 rel su sr)::rsR su ((ds++u::us).set ds.length ⟨u.pos,u.seq,r.1,u.high,u.recs⟩)::rcR s.1 rz'::L)/\Mo g w g' s.2/\RZ g' s.2 rz' ((ds.flatMap fun s=>s.recs)++r.2.2)) ?_ ?_
  .refine aCC hc ⟨hu1,hu2⟩ hbt hbd el1.p 16 _ u sa rz (ds.flatMap fun s=>s.recs) [] (max h u.high) g w2 (by omega) (by omega) (by omega) (by omega) hj rfl (by rw[aKa];exact hz.mo m2) (by omega) H2 fun g' w' sa' rz' H' m' hz'=>?_;rw[hr] at H' hz';exact⟨g',rz',H',m2.t m',hz'⟩
  rintro sa3 w3 ⟨g3,rz3,H3,m3,hz3⟩;simp only at H3 m3 hz3;have hj3:((ds++u::us).set ds.length ⟨u.pos,u.seq,r.1,u.high,u.recs⟩)[ds.length]?=some ⟨u.pos,u.seq,r.1,u.high,u.recs⟩:=by rw[aJp (aIt.1 hj).1]
  have l3:ldL w3 ⟨p,2,none⟩=some su:=H3.m2.ldL rfl;have l3h:ldI .i64 w3 ⟨p,0,none⟩=some r.2.1:=H3.m2.ldI rfl;obtain⟨b',el3⟩:=H3.m3.el cR (by decide) hj3;obtain rfl:=aCo el1 el3;obtain⟨w4,e4,H4,m4⟩:=H3.m3.elset (q':=⟨u.pos,u.seq,r.1,r.2.1,r.2.2⟩) cR el3 hj3 (k:=3) (by decide) (v:=.int .i64 r.2.1) rfl rfl;rw[aLa] at H4;have hset:(ds++u::us).set ds.length ⟨u.pos,u.seq,r.1,r.2.1,r.2.2⟩=(ds++[⟨u.pos,u.seq,r.1,r.2.1,r.2.2⟩])++us:=by
   rw[aJm _ _ (aIv _),aKd];simp
  rw[hset] at H4;have hseg:D.segs base (u::us) h ds=D.segs base us r.2.1 (ds++[⟨u.pos,u.seq,r.1,r.2.1,r.2.2⟩]):=by rw[Dk.segs,hr]
  have hz4:RZ g3 w4 rz3 ((ds++[(⟨u.pos,u.seq,r.1,r.2.1,r.2.2⟩:Sg)]).flatMap fun s=>s.recs):=by rw[List.flatMap_append];simpa using hz3.mo m4
  have hl3:rz3.length<=16*(ds++[(⟨u.pos,u.seq,r.1,r.2.1,r.2.2⟩:Sg)]).length:=by
   have h1:=hz3.1;have h2:=hz.1;rw[aIE] at h1;simp only[aIE,aIH,aIS] at hrl ⊢;omega
  have:=wO hc hbt hbd (Φ:=Φ) us (ds++[⟨u.pos,u.seq,r.1,r.2.1,r.2.2⟩]) sa3 rz3 r.2.1 g3 w4 (fun v hv=>hu v (by simp[hv])) (by omega) hsn hz4 hl3 (H4.b3) fun g' w' sa' rz' H' m' h1 h2=>hΦ g' w' sa' rz' (by rw[hseg];exact H') (m3.t (m4.t m')) (by rw[hseg];exact h1) (by simp at h2 ⊢;omega);have hlen:((ds++[(⟨u.pos,u.seq,r.1,r.2.1,r.2.2⟩:Sg)]).length:Int)=IntKind.wrap .i64 ((ds.length:Int)+1):=by rw[cC (by omega)];simp
  rw[hlen] at this;exact Nd.b1 (by rw[aD];exact l3) (Nd.b1 (by rw[aD];exact l3h) (Nd.b1 el3.ix (Nd.b1 (by rw[aD];exact e4) (Nd.ret this))))
theorem aCR {g:Gh} {w:World} {sa:Sl} {rz:List (Int×Sl)} (hzl:rz.length<=10000) {Φ:World->Prop}
  (H:Hp F0 g0 w0 g w (tdR p (tdC high rel su Sl.nil)::rcR sa rz::L))
  (hΦ:∀ w' sr',Hp F0 g0 w0 g w' (tdR p (tdC high rel su sr')::rcR sa rz::rcR sr' (rz.filter fun r=>decide (rel<r.1))::L)->Mo g w g w'->Φ w') :
  (fB (fun s:Int×World=>fD sa ⟨p,0,none⟩ s.1 s.2) (0,w)).t Φ:=by
 have hsl:rz.length=sa.n:=by have:=H.sw.ow.len;rw[cQ jP] at this;omega
 refine Nd.loop (fun m st=>∃ (j:Nat) (w':World) (s':Sl),st=((j:Int),w')/\m+j=rz.length/\Hp F0 g0 w0 g w' (tdR p (tdC high rel su s')::rcR sa rz::rcR s' ((rz.take j).filter fun r=>decide (rel<r.1))::L)/\Mo g w g w') (fun m st hI=>?_) rz.length (0,w) ⟨0,w,Sl.nil,rfl,by omega,H.onil.b2,Mo.r⟩;obtain⟨j,w1,s1,rfl,hm,H1,m1⟩:=hI;unfold fD;by_cases hlt:j<rz.length
 .obtain⟨r,hr⟩:∃ r,rz[j]?=some r:=⟨_,aIs hlt⟩;have htk:(rz.take (j+1)).filter (fun r=>decide (rel<r.1))=(rz.take j).filter (fun r=>decide (rel<r.1))++(if rel<r.1 then [r] else []):=by
   rw[aKt,hr,aJB];simp[aJO]
  obtain⟨w2,e2,H2,m2⟩:=H1.dr;obtain⟨b,el2⟩:=H2.sw.el jP (by decide) hr;have l2:ldI .i64 w2 ⟨b,j*2+0,none⟩=some r.1:=el2.i rfl;have l2r:ldI .i64 w2 ⟨p,1,none⟩=some rel:=H2.ldI rfl;refine Nd.t (by simp;omega) (Nd.j1 (Ψ:=fun w'=>∃ s',Hp F0 g0 w0 g w' (tdR p (tdC high rel su s')::rcR sa rz::rcR s' ((rz.take (j+1)).filter fun r=>decide (rel<r.1))::L)/\Mo g w g w') (Nd.b1 e2 (Nd.b1 el2.ix (Nd.b1 (by rw[aD];exact l2) (Nd.b1 (by rw[aD];exact l2r) ?_)))) ?_)
  .by_cases hc:rel<r.1
   .obtain⟨w3,e3,H3,m3⟩:=H2.dr;obtain⟨b',el3⟩:=H3.sw.el jP (by decide) hr;have l3:ldL w3 ⟨p,3,none⟩=some s1:=H3.ldL rfl;obtain⟨z4,w4,e4,n4,_,H4,m4⟩:=H3.bsl (T:=87) (sz:=2) (ps:=[rcF r]) (by intro v hv;simp at hv;subst hv;rfl) (by simp);have l4:ldL w4 ⟨p,3,none⟩=some s1:=H4.sw.ldL rfl;have hfl:((rz.take j).filter fun r=>decide (rel<r.1)).length<=(rz.take j).length:=aJU _ _;have hfl2:(rz.take j).length<=rz.length:=List.length_take_le' _ _;have hs1:((rz.take j).filter fun r=>decide (rel<r.1)).length=s1.n:=by have:=H4.tl.m2.ow.len;rw[cQ jP] at this;omega
    obtain⟨z5,w5,e5,n5,H5,m5⟩:=H4.tl.m2.apS tO H4.ow.rd (by intro v hv;simp at hv;exact gX v hv) (by rw[n4];simp;omega);rw[show((rz.take j).filter fun r=>decide (rel<r.1)).flatMap rcF++[rcF r].flatten=((rz.take (j+1)).filter fun r=>decide (rel<r.1)).flatMap rcF by rw[htk,if_pos hc];simp] at H5;obtain⟨w6,e6,H6,m6⟩:=H5.sw.stV (o:=3) (x:=z5.v) (by simp[tdC]) rfl;have H6:Hp F0 g0 w0 g w6 (tdR p (tdC high rel su z5)::rcR z5 ((rz.take (j+1)).filter fun r=>decide (rel<r.1))::rcR sa rz::L):=H6;exact Nd.t (by simpa using hc) (Nd.b1 e3 (Nd.b1 (by rw[aD];exact l3) (Nd.b1 el3.ix (Nd.b1 el3.ldA (Nd.b2 e4 (Nd.b2 e5 (Nd.b1 (by rw[aD];exact e6) (Nd.ck (by rw[aD];exact l4) (Nd.ret ⟨z5,H6.m2.sw,m1.t (m2.t (m3.t (m4.t (m5.t m6))))⟩)))))))))
   refine Nd.f (by simpa using hc) (Nd.ret ⟨s1,?_,m1.t m2⟩);rw[htk,if_neg hc,aKa];exact H2
  rintro w' ⟨s',H',m'⟩;exact Nd.ret ⟨m-1,by omega,j+1,w',s',by rw[cC (by omega)],by omega,H',m'⟩
 refine Nd.f (by simp;omega) (Nd.ret (hΦ w1 s1 ?_ m1));rwa[aIB (by omega)] at H1
theorem yE {h:Int} (h0:0<=base) (h1:base<=512):RLC (rlC y base segs age h rel su sr) y base segs:=⟨rfl,rfl,rfl,h0,h1⟩
def Lg.vis (l:Lg):List (Int×List Int):=l.all.filter fun r=>decide (l.rel<r.1)
theorem aCY {g:Gh} {w:World} (hc:RLC cs y base segs) (hs0:0<=segs) (hs1:segs<=16) (hbt:D.Bt) (hbd:D.W.length<900000) (hn:D.S.length<=512) (hsz:base+2<=D.S.length) {Φ:List Value×World->Prop}
  (H:Hp F0 g0 w0 g w (cF q cs::rdR y D::L))
  (hΦ:∀ g' w' su sr rz,Hp F0 g0 w0 g' w' (cF q cs::rdR y D::rsR su (D.readL base segs).used::rcR sr rz::L)->Mo g w g' w'->RZ g' w' rz (D.readL base segs).vis->Φ (tdC (D.readL base segs).high (D.readL base segs).rel su sr,w')) :
  (gN (some ⟨q,0,none⟩) w).t Φ:=by
 obtain⟨p1,w1,e1,H1,m1⟩:=H.box (T:=130) (cs:=tdC 0 0 Sl.nil Sl.nil);obtain⟨p4,w2,e2,H2,m2⟩:=H1.box (T:=130) (cs:=tdC 0 0 Sl.nil Sl.nil);obtain⟨w3,e3,H3,m3,-⟩:=H2.stA' (vs:=tdC 0 0 Sl.nil Sl.nil) rfl (by intro v hv;simp[tdC] at hv;rcases hv with rfl | rfl | rfl | rfl<;>rfl);have mm3:=m1.t (m2.t m3);unfold gN;refine Nd.b2 e1 (Nd.b2 e2 (Nd.b1 e3 (Nd.j1 (Ψ:=fun w'=>∃ g' s',Hp F0 g0 w0 g' w' (tdR p4 (tdC 0 0 s' Sl.nil)::rsR s' ((D.heads base segs.toNat).foldl jM [])::cF q cs::rdR y D::tdR p1 (tdC 0 0 Sl.nil Sl.nil)::L)/\Mo g w g' w') (aCN hc hs0 hs1 hbt hbd H3.sw.b3 fun g' w' s' H' m'=>⟨g',s',H',mm3.t m'⟩) ?_)));rintro w4 ⟨g4,su,H4,m4⟩;obtain⟨us,hus⟩:∃ us,(D.heads base segs.toNat).foldl jM []=us:=⟨_,rfl⟩;have hhl:=qJ (D:=D) (base:=base) (n:=segs.toNat);have husl:us.length<=16:=by rw[<-hus,nT];simp;omega
 have husw:∀ u∈us,0<=u.pos/\u.pos<=16/\u.fin=1/\u.recs=[]:=fun u hu=>by
  rw[<-hus] at hu;rcases mX hu with h | h
  .have:=pC h;exact⟨this.1,by omega,this.2.2.2.2.1,this.2.2.2.2.2.2.2⟩
  cases h
 rw[hus] at H4;have hrl:D.readL base segs=⟨base,segs,D.age,max (D.segs base us 0 []).1 (D.get base 1 0).1,(D.get base 1 0).1,(D.segs base us 0 []).2⟩:=by unfold Dk.readL;rw[hus]
 have hsn:su.n<=16:=by have:=H4.sw.ow.len;rw[cQ cR] at this;omega
 obtain⟨sa,w5,e5,n5,_,H5,m5⟩:=H4.bsl (T:=87) (sz:=2) (ps:=[]) (by intro p hp;cases hp) (by simp);have H5b:Hp F0 g0 w0 g4 w5 (cF q cs::rdR y D::tdR p4 (tdC 0 0 su Sl.nil)::rsR su ([]++us)::rcR sa []::tdR p1 (tdC 0 0 Sl.nil Sl.nil)::L) :=
  H5.m4.m4.perm (List.Perm.cons _ (List.Perm.cons _ ((List.Perm.swap _ _ _).trans (List.Perm.cons _ (List.Perm.swap _ _ _)))))
 refine Nd.b2 e5 (Nd.j2 (Ψ:=fun r=>∃ g' rz',Hp F0 g0 w0 g' r.2 (cF q cs::rdR y D::tdR p4 (tdC (D.segs base us 0 []).1 0 su Sl.nil)::rsR su (D.segs base us 0 []).2::rcR r.1 rz'::tdR p1 (tdC 0 0 Sl.nil Sl.nil)::L)/\Mo g w g' r.2/\RZ g' r.2 rz' ((D.segs base us 0 []).2.flatMap fun s=>s.recs)/\rz'.length<=256) (wO hc hbt hbd us [] sa [] 0 g4 w5 husw (aIZ _) hsn RZ.nil (by simp) H5b fun g' w' sa' rz' H' m' h1 h2=>⟨g',rz',H',m4.t (m5.t m'),h1,by simp at h2;omega⟩) ?_);rintro sa6 w6 ⟨g6,rz,H6,m6,hz6,hzl⟩;simp only at H6 m6 hz6;obtain⟨w7,e7,H7,m7⟩:=H6.dr;have l7:ldP w7 ⟨q,0,none⟩=some (some ⟨y,0,none⟩):=H7.ldP hc.d;have l7b:ldI .i64 w7 ⟨q,1,none⟩=some base:=H7.ldI hc.b;have hb0:=hc.b0;obtain⟨c,g8,w8,e8,H8,m8,hc8⟩:=H7.sw.ropen (base:=base) (count:=1) hn (by decide) (by simp[nG];omega);obtain⟨w9,e9,H9,m9⟩:=H8.rget hc8 hbt hbd 0;obtain⟨rl,hrel⟩:∃ rl,(D.get base 1 0).1=rl:=⟨_,rfl⟩;rw[hrel] at e9 hrl;obtain⟨w10,e10,H10,m10⟩:=H9.m2.stV (o:=1) (x:=.int .i64 rl) (by simp[tdC]) rfl;obtain⟨sg,hsg⟩:∃ sg,D.segs base us 0 []=sg:=⟨_,rfl⟩;rw[hsg] at H10 hz6 hrl;have H10:Hp F0 g0 w0 g8 w10 (tdR p4 (tdC sg.1 rl su Sl.nil)::rdR y D::cF q cs::rsR su sg.2::rcR sa6 rz::tdR p1 (tdC 0 0 Sl.nil Sl.nil)::L):=H10;have l10r:ldI .i64 w10 ⟨p4,1,none⟩=some rl:=H10.ldI rfl;have l10h:ldI .i64 w10 ⟨p4,0,none⟩=some sg.1:=H10.ldI rfl;have mm10:=m6.t (m7.t (m8.t (m9.t m10)));refine Nd.b1 e7 (Nd.s1 (Nd.b1 (by rw[aD];exact l7) (Nd.b1 (by rw[aD];exact l7b) (Nd.b3 e8 (Nd.b3 e9 (Nd.b1 (by rw[aD];exact e10) (Nd.j1 (Ψ:=fun w'=>Hp F0 g0 w0 g8 w' (tdR p4 (tdC (max sg.1 rl) rl su Sl.nil)::rdR y D::cF q cs::rsR su sg.2::rcR sa6 rz::tdR p1 (tdC 0 0 Sl.nil Sl.nil)::L)/\Mo g8 w10 g8 w') (Nd.b1 (by rw[aD];exact l10r) (Nd.b1 (by rw[aD];exact l10h) ?_)) ?_)))))))
 .by_cases hlt:sg.1<rl
  .obtain⟨w11,e11,H11,m11⟩:=H10.stV (o:=0) (x:=.int .i64 rl) (by simp[tdC]) rfl;refine Nd.t (by simpa using hlt) (Nd.b1 (by rw[aD];exact l10r) (Nd.b1 (by rw[aD];exact e11) (Nd.ret ⟨?_,m11⟩)));rw[show max sg.1 rl=rl by omega];exact H11
  refine Nd.f (by simpa using hlt) (Nd.ret ⟨?_,Mo.r⟩);rw[show max sg.1 rl=sg.1 by omega];exact H10
 rintro w11 ⟨H11,m11⟩;refine Nd.j1 (Ψ:=fun w'=>∃ sr',Hp F0 g0 w0 g8 w' (tdR p4 (tdC (max sg.1 rl) rl su sr')::rcR sa6 rz::rcR sr' (rz.filter fun r=>decide (rl<r.1))::rdR y D::cF q cs::rsR su sg.2::tdR p1 (tdC 0 0 Sl.nil Sl.nil)::L)/\Mo g8 w11 g8 w') (aCR (by omega) H11.m4.sw fun w' sr' H' m'=>⟨sr',H',m'⟩) ?_;rintro w12 ⟨sr,H12,m12⟩;have l12:ldA 4 w12 ⟨p4,0,none⟩ 0=some (tdC (max sg.1 rl) rl su sr):=by rw[nK H12.bx (by exact aIv _)];rfl
 have H12b:Hp F0 g0 w0 g8 w12 (tdR p1 (tdC 0 0 Sl.nil Sl.nil)::cF q cs::rdR y D::rsR su sg.2::rcR sr (rz.filter fun r=>decide (rl<r.1))::L):=by
  have h1:=H12.tl.tl
  -- records,disk,log,segments,variable
  exact h1.m4.perm (List.Perm.cons _ (((List.Perm.cons _ (List.Perm.swap _ _ _)).trans (List.Perm.swap _ _ _)).trans (List.Perm.cons _ ((List.Perm.swap _ _ _).trans (List.Perm.cons _ (List.Perm.swap _ _ _))))))
 obtain⟨w13,e13,H13,m13,l13⟩:=H12b.stA' (vs:=tdC (max sg.1 rl) rl su sr) rfl (by intro v hv;simp[tdC] at hv;rcases hv with rfl | rfl | rfl | rfl<;>rfl);have hz:RZ g8 w13 (rz.filter fun r=>decide (rl<r.1)) (D.readL base segs).vis:=by
  have:=(hz6.mo (m7.t (m8.t (m9.t (m10.t (m11.t (m12.t m13))))))).filter (P:=fun t=>decide (rl<t));rw[hrl];exact this
 refine Nd.b1 l12 (Nd.b1 e13 (Nd.b1 l13 (Nd.ret ?_)));have hf:=hΦ g8 w13 su sr (rz.filter fun r=>decide (rl<r.1)) (by rw[hrl];exact H13.tl) (mm10.t (m11.t (m12.t m13))) hz;rw[hrl] at hf;exact hf
end
def lK (rel:Int):List Sg->List Sg
 | []=>[]
 | s::l=>if l=[]\/rel<s.high then s::lK rel l else lK rel l
theorem rW {base rel:Int}:∀ {us:List Sg} {D:Dk},(D.free base rel us).1=0->(D.free base rel us).2.2=lK rel us
 | [],D,_=>rfl
 | s::l,D,h=>by
  rw[jG] at h ⊢;unfold lK;by_cases hk:l=[]\/rel<s.high
  .rw[if_pos hk] at h ⊢;rw[if_pos hk];simp only;rw[rW h]
  rw[if_neg hk] at h ⊢;rw[if_neg hk];by_cases he:(D.write (base+2+s.pos*16+0) []).1=0
  .rw[if_pos he] at h ⊢;exact rW h
  rw[if_neg he] at h;exact(he h).elim
theorem tX {rel:Int}:∀ {us:List Sg},(lK rel us).length<=us.length
 | []=>aIv _
 | s::l=>by
  unfold lK;split
  .have:=tX (rel:=rel) (us:=l);simp;omega
  have:=tX (rel:=rel) (us:=l);simp;omega
theorem aAF {D:Dk} {i:Int} {b:List Int} (hd:D.down=false) (h:(D.write i b).1=0):(D.write i b).2.down=false:=by
 unfold Dk.write at h ⊢;rw[if_neg (by simp[hd])] at h ⊢;split at h
 .simp at h
 split at h
 .simp at h
 split at h
 .simp at h
 rename_i h1 h2 h3;rw[if_neg h1,if_neg h2,if_neg h3];simp only;unfold Dk.trips at h3 ⊢;split
 .exact hd
 rename_i h0;rw[if_neg h0] at h3;simpa using h3
theorem aAs (D:Dk) (i:Int) (b:List Int):(D.write i b).2.S.length=D.S.length:=by
 unfold Dk.write;split;· rfl
 split;· rfl
 split;· rfl
 split<;>simp only<;>rw[jY]
theorem aCz {D:Dk} {base pos i:Int} (hw:D.Wf) (hd:D.down=false) (h0:0<=base+2+pos*16+i) (h1:base+2+pos*16+i<D.S.length):(D.look base pos i).length=64:=by
 have hb:D.bad (base+2+pos*16+i)=false:=by simp[Dk.bad];omega
 unfold Dk.look Dk.read;rw[if_neg (by simp[hd]),hb,if_neg (by simp)];exact rX hw hb _ _ hw.w64 (pH hw hb)
theorem aEP {b:List Int} (h:b.length=64):mK b=decide (b=List.replicate 64 0):=by
 rw[aJw,decide_eq_true_eq];unfold mK;rw[aIw];constructor
 .intro hz;rw[<-h];exact aLd fun x hx=>by simpa using hz x hx
 rintro rfl x hx;simpa using(aJk.1 hx).2
section
variable {F0 : Nat -> Prop} {g0 : Gh} {w0 : World} {L : List Rs} {su sr : Sl} {y q : Nat} {D : Dk} {base pos segs age rel high t : Int} {cs : List Value} {us : List Sg}
theorem zW {g:Gh} {w:World} (hc:RLC cs y base segs) (hsn:us.length<=1000) (hp:∀ s∈us,0<=s.pos/\s.pos<=16) (hbd:D.W.length+us.length<900000)
  (H:Hp F0 g0 w0 g w (cF q cs::rdR y D::rsR su us::L)) :
  ∃ n g' w',eV (some ⟨q,0,none⟩) su t w=some (n,(D.free base t us).1,w')/\Hp F0 g0 w0 g' w' (cF q cs::rdR y (D.free base t us).2.1::rsR su us::L)/\Mo g w g' w'/\((D.free base t us).1=0->n=(us.length:Int)-((D.free base t us).2.2.length:Int)):=by
 have hsl:us.length=su.n:=by have:=H.m2.ow.len;rw[cQ cR] at this;omega
 have lp:=Ex.loop (step:=fun r:Int×Int×World=>dP su t (some ⟨q,0,none⟩) r.1 r.2.1 r.2.2)
  (Φ:=fun o=>match o with
   | .inl (n,w')=>∃ g',(D.free base t us).1=0/\n=(us.length:Int)-((D.free base t us).2.2.length:Int)/\Hp F0 g0 w0 g' w' (cF q cs::rdR y (D.free base t us).2.1::rsR su us::L)/\Mo g w g' w'
   | .inr (n,e,w')=>∃ g',e=(D.free base t us).1/\e≠0/\Hp F0 g0 w0 g' w' (cF q cs::rdR y (D.free base t us).2.1::rsR su us::L)/\Mo g w g' w')
  (fun m r=>∃ (j:Nat) (D1:Dk) (n:Int) (g1:Gh) (w1:World),r=(n,(j:Int),w1)/\m+j=us.length/\D1.W.length+m<900000/\Hp F0 g0 w0 g1 w1 (cF q cs::rdR y D1::rsR su us::L)/\Mo g w g1 w1/\0<=n/\n<=j /\
   (D.free base t us).1=(D1.free base t (us.drop j)).1/\(D.free base t us).2.1=(D1.free base t (us.drop j)).2.1/\((D.free base t us).2.2.length:Int)=j-n+((D1.free base t (us.drop j)).2.2.length:Int))
  (fun m r hI=>by
   obtain⟨j,D1,n,g1,w1,rfl,hm,hW,H1,m1,hn0,hnj,r1,r2,r3⟩:=hI;unfold dP;by_cases hlt:j+1<us.length
   .obtain⟨u,hu⟩:∃ u,us[j]?=some u:=⟨_,aIs (by omega)⟩;have hup:=hp u (aIF hu);have hd:us.drop j=u::us.drop (j+1):=by obtain⟨hj,hj'⟩:=aIt.1 hu;rw[aJa hj,hj']
    have hne:¬ us.drop (j+1)=[]:=by rw[aJY];omega
    rw[hd,jG] at r1 r2 r3;obtain⟨b,el⟩:=H1.m2.el cR (by decide) hu;have lh:ldI .i64 w1 ⟨b,j*4+3,none⟩=some u.high:=el.i rfl;refine Ex.t (by rw[cC (by omega)];simp;omega) ?_;refine Ex.jX (Ψ:=fun r=>∃ (D2:Dk) (g2:Gh),D2.W.length+(m-1)<900000/\Hp F0 g0 w0 g2 r.2 (cF q cs::rdR y D2::rsR su us::L)/\Mo g w g2 r.2/\0<=r.1/\r.1<=j+1 /\
     (D.free base t us).1=(D2.free base t (us.drop (j+1))).1/\(D.free base t us).2.1=(D2.free base t (us.drop (j+1))).2.1/\((D.free base t us).2.2.length:Int)=j+1-r.1+((D2.free base t (us.drop (j+1))).2.2.length:Int)) (Ex.b1 el.ix (Ex.b1 (by rw[aD];exact lh) ?_)) ?_
    .by_cases hk:t<u.high
     .rw[if_pos (.inr hk)] at r1 r2 r3;refine Ex.f (by simp;omega) (Ex.ret ⟨D1,g1,by omega,H1,m1,hn0,by simp only;omega,r1,r2,?_⟩);simp only[aIH] at r3 ⊢;omega
     rw[if_neg (by rintro(h | h);exact hne h;exact hk h)] at r1 r2 r3;obtain⟨w2,e2,H2,m2⟩:=H1.dr;have l2:ldP w2 ⟨q,0,none⟩=some (some ⟨y,0,none⟩):=H2.ldP hc.d;obtain⟨b',el2⟩:=H2.m2.el cR (by decide) hu;have lp2:ldI .i64 w2 ⟨b',j*4+0,none⟩=some u.pos:=el2.i rfl;have a2:=qK (i:=0) hc hup ⟨by omega,by omega⟩ H2.bx;obtain⟨g3,w3,e3,H3,m3⟩:=H2.sw.rwrite (i:=base+2+u.pos*16+0) aBI (by omega);have hww:=lH D1 (base+2+u.pos*16+0) [];refine Ex.t (by simp;omega) (Ex.b1 e2 (Ex.s1 (Ex.b1 (by rw[aD];exact l2) (Ex.b1 el2.ix (Ex.b1 (by rw[aD];exact lp2) (Ex.b2 a2 (Ex.b2 e3 (Ex.ck (by rw[aD];exact l2) ?_))))))));by_cases he:(D1.write (base+2+u.pos*16+0) []).1=0
     .rw[if_pos he] at r1 r2 r3;refine Ex.f (by rw[he];decide) (Ex.ret ⟨_,g3,by omega,H3.sw,m1.t (m2.t m3),?_,?_,r1,r2,?_⟩)
      .simp only;rw[iD (by omega) (by omega)];omega
      .simp only;rw[iD (by omega) (by omega)];omega
      simp only;rw[iD (by omega) (by omega)];omega
     rw[if_neg he] at r1 r2 r3;refine Ex.t (by simpa using he) (Ex.s1 (Ex.ret ⟨g3,r1.symm,he,?_,m1.t (m2.t m3)⟩));rw[r2];exact H3.sw
    rintro⟨n6,w6⟩ ⟨D2,g2,h1,h2,h3,h4,h5,h6,h7,h8⟩;exact Ex.ret ⟨m-1,by omega,j+1,D2,n6,g2,w6,by rw[cC (by omega)],by omega,h1,h2,h3,h4,by simp only at h5;omega,h6,h7,by simp only at h8;omega⟩
   refine Ex.f (by rw[cC (by omega)];simp;omega) (Ex.ret ?_);by_cases hj:j<us.length
   .obtain⟨u,hu⟩:∃ u,us[j]?=some u:=⟨_,aIs hj⟩;have hd:us.drop j=[u]:=by obtain⟨hj,hj'⟩:=aIt.1 hu;rw[aJa hj,hj',aIU (by omega)]
    rw[hd,jG,if_pos (.inl rfl)] at r1 r2 r3;refine⟨g1,r1,?_,by rw[r2];exact H1,m1⟩;simp[Dk.free] at r3;omega
   have hd:us.drop j=[]:=by rw[aJY];omega
   rw[hd] at r1 r2 r3;refine⟨g1,r1,?_,by rw[r2];exact H1,m1⟩;simp[Dk.free] at r3;omega) us.length (0,((0:Nat):Int),w) ⟨0,D,0,g,w,rfl,by omega,by omega,H,Mo.r,aIZ _,by simp,rfl,rfl,by simp⟩
 obtain⟨o,e2,ho⟩:=lp;have e2':bM (fun r:Int×Int×World=>dP su t (some ⟨q,0,none⟩) r.1 r.2.1 r.2.2) (0,0,w)=some o:=e2;unfold eV;rw[e2',aLx]
 cases o with
 | inl r =>
  obtain⟨n,w'⟩:=r;obtain⟨g',h0,h1,h2,h3⟩:=ho;exact⟨n,g',w',by simp only[Sum.elim_inl,u2];rw[h0],h2,h3,fun _=>h1⟩
 | inr r =>
  obtain⟨n,e,w'⟩:=r;obtain⟨g',rfl,h0,h1,h2⟩:=ho;exact⟨n,g',w',by simp only[Sum.elim_inr,u3],h1,h2,fun h=>(h0 h).elim⟩
theorem aAL (hc:RLC cs y base segs) (hp:0<=pos/\pos<segs/\segs<=16) {Φ:Int×Int×World->Prop}:∀ (m:Nat) (D:Dk) (i n:Int) (g:Gh) (w:World),(m:Int)+i=16->0<=i->D.W.length+m<900000->0<=n->n+m<=1000->D.down=false->base+2+segs*16<=D.S.length->D.Bt->Hp F0 g0 w0 g w (cF q cs::rdR y D::L) ->
  (∀ g' w',Hp F0 g0 w0 g' w' (cF q cs::rdR y (D.wipe base pos m i n).2.2::L)->Mo g w g' w'->Φ ((D.wipe base pos m i n).1,(D.wipe base pos m i n).2.1,w')) ->
  (cb1 (fB (fun r:Int×Int×World=>bB (some ⟨q,0,none⟩) pos r.1 r.2.1 r.2.2) (n,i,w)) fun r4=>Sum.elim (fun (i:Int×World)=>u2 i fun v6 w7=>aU (v6,0,w7)) (fun (i:Int×Int×World)=>u3 i fun v8 v9 w10=>aU (v8,v9,w10)) r4).t Φ:=by
 intro m
 induction m with
 | zero =>
  intro D i n g w hm hi hbd hn0 hn hd hsz hbt H hΦ;refine Nd.j1 (Ψ:=fun o=>o = .inl (n,w)) ?_ ?_
  .refine Nd.next ?_
   unfold bB;exact Nd.f (by simp;omega) (Nd.ret rfl)
  rintro _ rfl;exact Nd.ret (hΦ g w H Mo.r)
 | succ m ih =>
  intro D i n g w hm hi hbd hn0 hn hd hsz hbt H hΦ;obtain⟨w1,e1,H1,m1⟩:=H.dr;have hlen:=aCz (D:=D) (base:=base) (pos:=pos) (i:=i) H.sw.rwf hd (by have:=hc.b0;omega) (by omega);have hz:=aEP hlen;have hlb:bU (D.look base pos i):=nU hbt;have hzb:bU (List.replicate 64 (0:Int)):=fun b hb=>by rw[(aJk.1 hb).2];decide
  have hst:=aAU hlb hzb;have hst2:=aAU hzb hlb;rw[<-hz] at hst;have hst2:sEq (strOfNums (List.replicate 64 0)) (strOfNums (D.look base pos i))=mK (D.look base pos i):=by rw[hst2,hz,aJw];simp[eq_comm]
  -- what the rest does
  have rest:∀ (g2:Gh) (w2:World),Hp F0 g0 w0 g2 w2 (cF q cs::rdR y D::L)->Mo g w g2 w2->mK (D.look base pos i)=true ->
    (cb1 (fB (fun r:Int×Int×World=>bB (some ⟨q,0,none⟩) pos r.1 r.2.1 r.2.2) (n,i+1,w2)) fun r4=>Sum.elim (fun (i:Int×World)=>u2 i fun v6 w7=>aU (v6,0,w7)) (fun (i:Int×Int×World)=>u3 i fun v8 v9 w10=>aU (v8,v9,w10)) r4).t Φ:=fun g2 w2 H2 m2 hz=>by
   refine ih D (i+1) n g2 w2 (by omega) (by omega) (by omega) hn0 (by omega) hd hsz hbt H2 fun g' w' H' m'=>?_;have:=hΦ g' w' (by rw[Dk.wipe,if_pos hz];exact H') (m2.t m');rwa[Dk.wipe,if_pos hz] at this
  have tst:((aCA (lb2 (bR (some ⟨q,0,none⟩) pos i w1) fun v28 w29=>lb1 (b2s v28 w29) fun s31=>lb2 (mkS Try.prog 72 64 64 w29) fun s33 w34=>lb1 (b2s s33 w34) fun s36=>nck (b2s v28 w34=some s31)<|aU ((!sEq s31 s36),w34))
    (lb2 (mkS Try.prog 72 64 64 w1) fun s39 w40=>lb1 (b2s s39 w40) fun s42=>lb2 (bR (some ⟨q,0,none⟩) pos i w40) fun v44 w45=>lb1 (b2s v44 w45) fun s47=>nck (b2s s39 w45=some s42)<|aU ((!sEq s47 s42),w45))).t (fun r=>r.1=!mK (D.look base pos i)/\∃ g',Hp F0 g0 w0 g' r.2 (cF q cs::rdR y D::L)/\Mo g w g' r.2)):=by
   have hz64:(List.replicate 64 [Value.int .u8 0]).flatten=nums .u8 (List.replicate 64 0):=by rw[nV]
   refine Nd.both ?_ ?_
   .obtain⟨z2,g2,w2,e2,H2,m2,r2,c2,n2⟩:=qQ (pos:=pos) (i:=i) hc (by omega) (by omega) H1 (by omega);obtain⟨z3,w3,e3,n3,c3,H3,m3⟩:=H2.mkS mS (m:=64) (by decide) (by decide);rw[show(64:Int).toNat=64 from rfl,hz64] at H3;exact Nd.b2 e2 (Nd.b1 (pF r2.rd) (Nd.b2 e3 (Nd.b1 (pF H3.ow.rd) (Nd.ck (pF (r2.mo m3).rd) (Nd.ret ⟨by rw[hst],g2,H3.tl,m1.t (m2.t m3)⟩)))))
   obtain⟨z3,w3,e3,n3,c3,H3,m3⟩:=H1.mkS mS (m:=64) (by decide) (by decide);rw[show(64:Int).toNat=64 from rfl,hz64] at H3;obtain⟨g4,r4,H4,m4⟩:=H3.keepO;obtain⟨z2,g2,w2,e2,H2,m2,r2,c2,n2⟩:=qQ (pos:=pos) (i:=i) hc (by omega) (by omega) H4 (by omega);exact Nd.b2 e3 (Nd.b1 (pF r4.rd) (Nd.b2 e2 (Nd.b1 (pF r2.rd) (Nd.ck (pF (r4.mo m2).rd) (Nd.ret ⟨by rw[hst],g2,H2,m1.t (m3.t (m4.t m2))⟩)))))
  have hwr1:IntKind.wrap .i64 (i+1)=i+1:=iD (by omega) (by omega);have hwr2:IntKind.wrap .i64 (n+1)=n+1:=iD (by omega) (by omega)
  -- one round
  have round:∀ {Ψ:(Int×World)⊕(Int×Int×World)->Prop},(∀ g2 w2,mK (D.look base pos i)=true->Hp F0 g0 w0 g2 w2 (cF q cs::rdR y D::L)->Mo g w g2 w2->(fB (fun r:Int×Int×World=>bB (some ⟨q,0,none⟩) pos r.1 r.2.1 r.2.2) (n,i+1,w2)).t Ψ) ->
    (∀ g2 w2,¬ mK (D.look base pos i)=true->(D.write (base+2+pos*16+i) []).1=0->Hp F0 g0 w0 g2 w2 (cF q cs::rdR y (D.write (base+2+pos*16+i) []).2::L)->Mo g w g2 w2->(fB (fun r:Int×Int×World=>bB (some ⟨q,0,none⟩) pos r.1 r.2.1 r.2.2) (n+1,i+1,w2)).t Ψ) ->
    (∀ g2 w2,¬ mK (D.look base pos i)=true->(D.write (base+2+pos*16+i) []).1≠0->Hp F0 g0 w0 g2 w2 (cF q cs::rdR y (D.write (base+2+pos*16+i) []).2::L)->Mo g w g2 w2->Ψ (.inr (n,(D.write (base+2+pos*16+i) []).1,w2))) ->
    (fB (fun r:Int×Int×World=>bB (some ⟨q,0,none⟩) pos r.1 r.2.1 r.2.2) (n,i,w)).t Ψ:=fun {Ψ} k1 k2 k3=>by
   refine Nd.next ?_
   have hun:bB (some ⟨q,0,none⟩) pos n i w=bB (some ⟨q,0,none⟩) pos n i w:=rfl;show(bB (some ⟨q,0,none⟩) pos n i w).t _
   conv=>arg 1;unfold bB
   refine Nd.t (by simp;omega) (Nd.jX (Ψ:=fun r=>(mK (D.look base pos i)=true/\r.1=n/\∃ g',Hp F0 g0 w0 g' r.2 (cF q cs::rdR y D::L)/\Mo g w g' r.2)\/(¬ mK (D.look base pos i)=true/\(D.write (base+2+pos*16+i) []).1=0/\r.1=n+1/\∃ g',Hp F0 g0 w0 g' r.2 (cF q cs::rdR y (D.write (base+2+pos*16+i) []).2::L)/\Mo g w g' r.2)) (Nd.j2 (Nd.b1 e1 tst) ?_) ?_)
   .rintro _ w2 ⟨rfl,g2,H2,m2⟩
    cases hzz:mK (D.look base pos i) with
    | true=>exact Nd.f (by simp) (Nd.ret (.inl ⟨rfl,rfl,g2,H2,m2⟩))
    | false =>
     have hzz':¬ mK (D.look base pos i)=true:=by rw[hzz];simp
     obtain⟨w3,e3,H3,m3⟩:=H2.dr;have l3:ldP w3 ⟨q,0,none⟩=some (some ⟨y,0,none⟩):=H3.ldP hc.d;have a3:=qK (pos:=pos) (i:=i) hc (by omega) (by omega) H3.bx;obtain⟨g4,w4,e4,H4,m4⟩:=H3.sw.rwrite (i:=base+2+pos*16+i) aBI (by omega);refine Nd.t (by simp) (Nd.b1 e3 (Nd.s1 (Nd.b1 (by rw[aD];exact l3) (Nd.b2 a3 (Nd.b2 e4 (Nd.ck (by rw[aD];exact l3) ?_))))));by_cases he:(D.write (base+2+pos*16+i) []).1=0
     .refine Nd.f (by simp[he]) (Nd.ret (.inr ⟨by simp,he,by rw[hwr2],g4,H4.sw,m2.t (m3.t m4)⟩))
     exact Nd.t (by simpa using he) (Nd.j1 (Ψ:=fun r=>r = .inr (.inr (n,(D.write (base+2+pos*16+i) []).1,w4))) (Nd.ret rfl) (fun r hr=>Nd.ret (by subst hr;exact k3 g4 w4 hzz' he H4.sw (m2.t (m3.t m4)))))
   rintro⟨n5,w5⟩ (⟨hz5,rfl,g5,H5,m5⟩ | ⟨hz5,he,rfl,g5,H5,m5⟩)
   .refine Nd.ret ?_;simp only[Sum.elim_inl];rw[hwr1];exact k1 g5 w5 hz5 H5 m5
   refine Nd.ret ?_;simp only[Sum.elim_inl];rw[hwr1];exact k2 g5 w5 hz5 he H5 m5
  refine round (fun g2 w2 hz2 H2 m2=>rest g2 w2 H2 m2 hz2) (fun g2 w2 hz2 he H2 m2=>?_) (fun g2 w2 hz2 he H2 m2=>?_)
  .have hww:=lH D (base+2+pos*16+i) [];refine ih _ (i+1) (n+1) g2 w2 (by omega) (by omega) (by omega) (by omega) (by omega) (aAF hd he) (by rw[aAs];exact hsz) ?_ H2 fun g' w' H' m'=>?_
   .exact hbt.write (fun b hb=>by cases hb)
   have:=hΦ g' w' (by rw[Dk.wipe,if_neg hz2,if_pos he];exact H') (m2.t m');rwa[Dk.wipe,if_neg hz2,if_pos he] at this
  have:=hΦ g2 w2 (by rw[Dk.wipe,if_neg hz2,if_neg he];exact H2) m2;rw[Dk.wipe,if_neg hz2,if_neg he] at this;exact Nd.ret this
end
theorem qZ {rel:Int} {s:Sg} {l:List Sg}:lK rel (s::l)=if l=[]\/rel<s.high then s::lK rel l else lK rel l:=rfl
def rlR (q y:Nat) (l:Lg):Rs where
 h g w F:=∃ (su sr:Sl) (rz:List (Int×Sl)),RZ g w rz l.vis/\uW g w F [cF q (rlC y l.base l.segs l.age l.high l.rel su sr),rsR su l.used,rcR sr rz]
 st:=fun ⟨su,sr,rz,h1,h2⟩ m hk=>⟨su,sr,rz,h1.mo m,h2.st m hk⟩
 lt:=fun ⟨su,sr,rz,h1,h2⟩ hk=>h2.lt hk
section
variable {F0 : Nat -> Prop} {g g0 : Gh} {w w0 : World} {L : List Rs} {su sr : Sl} {y q : Nat} {D : Dk} {base segs age rel high t : Int} {us : List Sg} {rz : List (Int × Sl)} {l : Lg}
theorem Hp.rlo (H:Hp F0 g0 w0 g w (rlR q y l::L)):∃ (su sr:Sl) (rz:List (Int×Sl)),RZ g w rz l.vis/\Hp F0 g0 w0 g w (cF q (rlC y l.base l.segs l.age l.high l.rel su sr)::rsR su l.used::rcR sr rz::L):=by
 obtain⟨sp,F,⟨su,sr,rz,h1,h4⟩,h5,h6⟩:=H;exact⟨su,sr,rz,h1,sp,h4.sep h5 h6⟩
theorem Hp.rli (h1:RZ g w rz l.vis) (H:Hp F0 g0 w0 g w (cF q (rlC y l.base l.segs l.age l.high l.rel su sr)::rsR su l.used::rcR sr rz::L)):Hp F0 g0 w0 g w (rlR q y l::L):=by
 obtain⟨F,k1,k2,k3⟩:=Sep.sepx (l:=[cF q (rlC y l.base l.segs l.age l.high l.rel su sr),rsR su l.used,rcR sr rz]) H.sep;exact⟨H.sp,F,⟨su,sr,rz,h1,k1⟩,k2,k3⟩
theorem zG (hul:us.length<=1000) (hzl:rz.length<=10000) (H:Hp F0 g0 w0 g w (cF q (rlC y base segs age high rel su sr)::rsR su us::rcR sr rz::L)) :
  ∃ su' sr' w',cT (some ⟨q,0,none⟩) t w=some w'/\Hp F0 g0 w0 g w' (cF q (rlC y base segs age high t su' sr')::rsR su' (lK t us)::rcR sr' (rz.filter fun r=>decide (t<r.1))::L)/\Mo g w g w':=by
 have hsu:us.length=su.n:=by have:=H.sw.ow.len;rw[cQ cR] at this;omega
 have hsr:rz.length=sr.n:=by have:=H.m2.ow.len;rw[cQ jP] at this;omega
 obtain⟨s1,w1,e1,n1,_,H1,m1⟩:=H.bsl (T:=136) (sz:=4) (ps:=[]) (by intro p hp;cases hp) (by simp);have lp:=Ex.loop (step:=fun r:Sl×Int×World=>dO (some ⟨q,0,none⟩) t r.1 r.2.1 r.2.2)
  (Φ:=fun o=>Hp F0 g0 w0 g o.2 (rsR o.1 (lK t us)::cF q (rlC y base segs age high rel su sr)::rsR su us::rcR sr rz::L)/\Mo g w g o.2)
  (fun m r=>∃ (j:Nat) (acc:List Sg) (z:Sl) (w2:World),r=(z,(j:Int),w2)/\m+j=us.length/\acc.length<=j/\lK t us=acc++lK t (us.drop j)/\Hp F0 g0 w0 g w2 (rsR z acc::cF q (rlC y base segs age high rel su sr)::rsR su us::rcR sr rz::L)/\Mo g w g w2)
  (fun m r hI=>by
   obtain⟨j,acc,z,w2,rfl,hm,hal,hk,H2,m2⟩:=hI;have l2:ldL w2 ⟨q,6,none⟩=some su:=H2.sw.ldL rfl;unfold dO;refine Ex.s1 (Ex.b1 (by rw[aD,aD];exact l2) ?_);by_cases hj:j<us.length
   .obtain⟨u,hu⟩:∃ u,us[j]?=some u:=⟨_,aIs hj⟩;have hd:us.drop j=u::us.drop (j+1):=by obtain⟨hj,hj'⟩:=aIt.1 hu;rw[aJa hj,hj']
    have hdn:us.drop (j+1)=[]↔j+1=us.length:=by rw[aJY];omega
    obtain⟨b,el⟩:=H2.m2.el cR (by decide) hu;have lh:ldI .i64 w2 ⟨b,j*4+3,none⟩=some u.high:=el.i rfl;have hw1:IntKind.wrap .i64 ((su.n:Int)-1)=(su.n:Int)-1:=iD (by omega) (by omega);have test:((ldL w2 (((⟨q,0,none⟩:Addr).add 4).add 2)).bind fun v26=>if ((j:Int)==(IntKind.wrap .i64 ((v26.n:Int)-1)))=true then (some (true,w2)) else ((ldL w2 (((⟨q,0,none⟩:Addr).add 4).add 2)).bind fun v29=>(ix v29 (j:Int) 4).bind fun p31=>(ldI .i64 w2 (p31.add 3)).bind fun v33=>some ((decide (t<v33)),w2)))=some (decide (us.drop (j+1)=[]\/t<u.high),w2):=by
     rw[aD,aD,l2,aLx,aLx,el.ix,aLx,aD,lh,aLx,ifO,hw1];congr 2;rw[aJw];simp only[aJc,beq_iff_eq,decide_eq_true_eq,hdn];omega
    rw[hd] at hk;refine Ex.t (by simp;omega) (Ex.j2 (Ψ:=fun r=>∃ acc2,acc2.length<=j+1/\lK t us=acc2++lK t (us.drop (j+1))/\Hp F0 g0 w0 g r.2 (rsR r.1 acc2::cF q (rlC y base segs age high rel su sr)::rsR su us::rcR sr rz::L)/\Mo g w g r.2) (Ex.b2 test ?_) ?_)
    .rw[qZ] at hk;by_cases hc:us.drop (j+1)=[]\/t<u.high
     .rw[if_pos hc] at hk;obtain⟨z3,w3,e3,n3,_,H3,m3⟩:=H2.bsl (T:=136) (sz:=4) (ps:=[rsC u]) (by intro v hv;simp at hv;subst hv;rfl) (by simp);have hzn:acc.length=z.n:=by have:=H3.tl.ow.len;rw[cQ cR] at this;omega
      obtain⟨z4,w4,e4,n4,H4,m4⟩:=H3.tl.apS aAS H3.ow.rd (by intro v hv;simp at hv;exact pY v hv) (by rw[n3];simp;omega);rw[show acc.flatMap rsC++[rsC u].flatten=(acc++[u]).flatMap rsC by simp] at H4;refine Ex.t (by simpa using hc) (Ex.b1 (by rw[aD,aD];exact l2) (Ex.b1 el.ix (Ex.b1 el.ldA (Ex.b2 e3 (Ex.b2 e4 (Ex.ret ⟨acc++[u],by simp;omega,?_,H4,m2.t (m3.t m4)⟩))))));rw[hk,aIK];rfl
     rw[if_neg hc] at hk;exact Ex.f (by simpa using hc) (Ex.ret ⟨acc,by omega,hk,H2,m2⟩)
    rintro z5 w5 ⟨acc2,h1,h2,h3,h4⟩;exact Ex.ret ⟨m-1,by omega,j+1,acc2,z5,w5,by rw[cC (by omega)],by omega,h1,h2,h3,h4⟩
   rw[aIU (by omega)] at hk;refine Ex.f (by simp;omega) (Ex.ret ⟨?_,m2⟩);rw[hk];simpa[lK] using H2) us.length (s1,((0:Nat):Int),w1) ⟨0,[],s1,w1,rfl,by omega,by simp,rfl,H1,m1⟩
 obtain⟨⟨su',w2⟩,e2,H2,m2⟩:=lp;have e2':bM (fun r:Sl×Int×World=>dO (some ⟨q,0,none⟩) t r.1 r.2.1 r.2.2) (s1,0,w1)=some (su',w2):=e2;obtain⟨s3,w3,e3,n3,_,H3,m3⟩:=H2.bsl (T:=87) (sz:=2) (ps:=[]) (by intro p hp;cases hp) (by simp);have lp2:=Ex.loop (step:=fun r:Sl×Int×World=>dM (some ⟨q,0,none⟩) t r.1 r.2.1 r.2.2)
  (Φ:=fun o=>Hp F0 g0 w0 g o.2 (rcR o.1 (rz.filter fun r=>decide (t<r.1))::rsR su' (lK t us)::cF q (rlC y base segs age high rel su sr)::rsR su us::rcR sr rz::L)/\Mo g w2 g o.2)
  (fun m r=>∃ (j:Nat) (z:Sl) (w4:World),r=(z,(j:Int),w4)/\m+j=rz.length/\Hp F0 g0 w0 g w4 (rcR z ((rz.take j).filter fun r=>decide (t<r.1))::rsR su' (lK t us)::cF q (rlC y base segs age high rel su sr)::rsR su us::rcR sr rz::L)/\Mo g w2 g w4)
  (fun m r hI=>by
   obtain⟨j,z,w4,rfl,hm,H4,m4⟩:=hI;have l4:ldL w4 ⟨q,7,none⟩=some sr:=H4.m2.ldL rfl;unfold dM;refine Ex.s1 (Ex.b1 (by rw[aD,aD];exact l4) ?_);by_cases hj:j<rz.length
   .obtain⟨r,hr⟩:∃ r,rz[j]?=some r:=⟨_,aIs hj⟩;have htk:(rz.take (j+1)).filter (fun r=>decide (t<r.1))=(rz.take j).filter (fun r=>decide (t<r.1))++(if t<r.1 then [r] else []):=by
     rw[aKt,hr,aJB];simp[aJO]
    obtain⟨b,el⟩:=H4.m4.el jP (by decide) hr;have lh:ldI .i64 w4 ⟨b,j*2+0,none⟩=some r.1:=el.i rfl;refine Ex.t (by simp;omega) (Ex.j2 (Ψ:=fun o=>Hp F0 g0 w0 g o.2 (rcR o.1 ((rz.take (j+1)).filter fun r=>decide (t<r.1))::rsR su' (lK t us)::cF q (rlC y base segs age high rel su sr)::rsR su us::rcR sr rz::L)/\Mo g w2 g o.2) (Ex.b1 (by rw[aD,aD];exact l4) (Ex.b1 el.ix (Ex.b1 (by rw[aD];exact lh) ?_))) ?_)
    .by_cases hc:t<r.1
     .obtain⟨z5,w5,e5,n5,_,H5,m5⟩:=H4.bsl (T:=87) (sz:=2) (ps:=[rcF r]) (by intro v hv;simp at hv;subst hv;rfl) (by simp);have hfl:((rz.take j).filter fun r=>decide (t<r.1)).length<=(rz.take j).length:=aJU _ _;have hfl2:(rz.take j).length<=rz.length:=List.length_take_le' _ _;have hzn:((rz.take j).filter fun r=>decide (t<r.1)).length=z.n:=by have:=H5.tl.ow.len;rw[cQ jP] at this;omega
      obtain⟨z6,w6,e6,n6,H6,m6⟩:=H5.tl.apS tO H5.ow.rd (by intro v hv;simp at hv;exact gX v hv) (by rw[n5];simp;omega);rw[show((rz.take j).filter fun r=>decide (t<r.1)).flatMap rcF++[rcF r].flatten=((rz.take (j+1)).filter fun r=>decide (t<r.1)).flatMap rcF by rw[htk,if_pos hc];simp] at H6;exact Ex.t (by simpa using hc) (Ex.b1 (by rw[aD,aD];exact l4) (Ex.b1 el.ix (Ex.b1 el.ldA (Ex.b2 e5 (Ex.b2 e6 (Ex.ret ⟨H6,m4.t (m5.t m6)⟩))))))
     refine Ex.f (by simpa using hc) (Ex.ret ⟨?_,m4⟩);simp only;rw[htk,if_neg hc,aKa];exact H4
    rintro z7 w7 ⟨H7,m7⟩;exact Ex.ret ⟨m-1,by omega,j+1,z7,w7,by rw[cC (by omega)],by omega,H7,m7⟩
   refine Ex.f (by simp;omega) (Ex.ret ⟨?_,m4⟩);rwa[aIB (by omega)] at H4) rz.length (s3,((0:Nat):Int),w3) ⟨0,s3,w3,rfl,by omega,H3,m3⟩
 obtain⟨⟨sr',w4⟩,e4,H4,m4⟩:=lp2;have e4':bM (fun r:Sl×Int×World=>dM (some ⟨q,0,none⟩) t r.1 r.2.1 r.2.2) (s3,0,w3)=some (sr',w4):=e4;have l4:ldI .i64 w4 ⟨q,4,none⟩=some high:=H4.m2.ldI rfl;obtain⟨w5,e5,H5,m5⟩:=H4.m2.stA (o:=4) (vs:=[.int .i64 high,.int .i64 t,su'.v,sr'.v]) (by simp[rlC]) (by intro v hv;simp at hv;rcases hv with rfl | rfl | rfl | rfl<;>rfl);have H5:Hp F0 g0 w0 g w5 (cF q (rlC y base segs age high t su' sr')::rcR sr' (rz.filter fun r=>decide (t<r.1))::rsR su' (lK t us)::rsR su us::rcR sr rz::L):=H5;refine⟨su',sr',w5,?_,(H5.m4.tl).m3.tl.m2.sw,m2.t (m4.t m5)⟩;unfold cT;rw[e1,aE,e2',aE,e3,aE,e4',aE,aLx,aD,aLy,aD,l4,aLx,e5,aLx]
theorem yM {α:Type} {a:α} {l:List α} (h:l≠[]):(a::l).getLast?=l.getLast?:=by
 cases l with
 | nil=>exact(h rfl).elim
 | cons b l=>exact List.getLast?_cons_cons
theorem xS {D:Dk} {base pos:Int}:∀ (m:Nat) (e h:Int) (rs:List (Int×List Int)),(∀ r∈rs,r.1<=h)->∀ r∈(D.seg base pos m e h rs).2.2,r.1<=(D.seg base pos m e h rs).2.1
 | 0,e,h,rs,hr=>hr
 | m+1,e,h,rs,hr=>by
  unfold Dk.seg;split
  .split
   .rename_i t b nx _ hc;refine xS m nx t _ fun r hr'=>?_;rcases aIG.1 hr' with h' | h'
    .have:=hr r h';omega
    simp at h';subst h';exact aIZ _
   exact hr
  exact hr
theorem vR {D:Dk} {base:Int}:∀ {us:List Sg} {h:Int} {ds:List Sg},(∀ s∈ds,∀ r∈s.recs,r.1<=s.high)->∀ s∈(D.segs base us h ds).2,∀ r∈s.recs,r.1<=s.high
 | [],h,ds,hd=>hd
 | u::us,h,ds,hd=>by
  rw[Dk.segs];refine vR fun s hs=>?_;rcases aIG.1 hs with h' | h'
  .exact hd s h'
  simp at h';subst h';exact xS _ _ _ _ (fun r hr=>by cases hr)
theorem tR {rel:Int}:∀ {us:List Sg},(∀ s∈us,∀ r∈s.recs,r.1<=s.high)->((lK rel us).flatMap fun s=>s.recs).filter (fun r=>decide (rel<r.1))=(us.flatMap fun s=>s.recs).filter fun r=>decide (rel<r.1)
 | [],_=>rfl
 | s::l,h=>by
  have ih:=tR (rel:=rel) (us:=l) fun s hs=>h s (by simp[hs]);rw[qZ,aIQ,aJB,<-ih];split
  .rw[aIQ,aJB]
  rename_i hk;have:s.recs.filter (fun r=>decide (rel<r.1))=[]:=by
   rw[aJF];intro r hr;have:=h s (by simp) r hr;simp only[decide_eq_true_eq];intro hlt;exact hk (.inr (by omega))
  rw[this,aJL]
theorem aCu (H:Hp F0 g0 w0 g w (rdR y D::L)) (hbt:D.Bt) (hbd:D.W.length<800000) (hsr : -9223372036854775808<=segs/\segs<=9223372036854775807) {Φ:Option Addr×Int×World->Prop}
  (hΦ:∀ g' w' (o:Option Nat),(match (D.openL base segs).2.2 with | none=>o=none/\Hp F0 g0 w0 g' w' (rdR y (D.openL base segs).2.1::L) | some l=>∃ q,o=some q/\Hp F0 g0 w0 g' w' (rlR q y l::rdR y (D.openL base segs).2.1::L))->Mo g w g' w' ->
   Φ (o.map fun q=>⟨q,0,none⟩,(D.openL base segs).1,w')):(iZ (some ⟨y,0,none⟩) base segs w).t Φ:=by
 have hwf:=H.rwf;have hn:=hwf.n;have l3:=H.rd3;obtain⟨s0,l0,ls0⟩:=H.rd0;have l4:=H.rd4;unfold iZ;refine Nd.f (by simp) (Nd.s1 (Nd.b1 (by rw[aD];exact l3) ?_));by_cases hd:D.down=true
 .have ho:D.openL base segs=(10,D,none):=by unfold Dk.openL;rw[if_pos hd]
  rw[ho] at hΦ;exact Nd.t hd (Nd.ret (hΦ g w none ⟨rfl,H⟩ Mo.r))
 refine Nd.f hd ?_;have htest:∀ {Ψ:Bool×World->Prop},Ψ (!mQ D.S.length base segs,w)->(if (decide (segs<2))=true then aU (true,w) else if (decide (16<segs))=true then aU (true,w) else if (decide (base<0))=true then aU (true,w) else
   lb1 (ldL w ((⟨y,0,none⟩:Addr).add 0)) fun v14=>aU ((decide ((IntKind.wrap .i64 ((IntKind.wrap .i64 ((v14.n:Int)-2))-(IntKind.wrap .i64 (16*segs))))<base)),w)).t Ψ:=fun h=>by
  by_cases h1:segs<2
  .refine Nd.t (by simpa using h1) (Nd.ret ?_);have:mQ D.S.length base segs=false:=by simp[mQ];omega
   rwa[this] at h
  by_cases h2:16<segs
  .refine Nd.f (by simpa using h1) (Nd.t (by simpa using h2) (Nd.ret ?_));have:mQ D.S.length base segs=false:=by simp[mQ];omega
   rwa[this] at h
  by_cases h3:base<0
  .refine Nd.f (by simpa using h1) (Nd.f (by simpa using h2) (Nd.t (by simpa using h3) (Nd.ret ?_)));have:mQ D.S.length base segs=false:=by simp[mQ];omega
   rwa[this] at h
  refine Nd.f (by simpa using h1) (Nd.f (by simpa using h2) (Nd.f (by simpa using h3) (Nd.b1 (by rw[aD];exact l0) (Nd.ret ?_))));have e1:decide (IntKind.wrap .i64 (IntKind.wrap .i64 ((s0.n:Int)-2)-IntKind.wrap .i64 (16*segs))<base)=!mQ D.S.length base segs:=by
   rw[iD (x:=(s0.n:Int)-2) (by omega) (by omega),iD (x:=16*segs) (by omega) (by omega),iD (by omega) (by omega)];by_cases h4:base<=D.S.length-2-segs*16
   .rw[show mQ D.S.length base segs=true by simp[mQ];omega];simp;omega
   rw[show mQ D.S.length base segs=false by simp[mQ];omega];simp;omega
  rw[e1];exact h
 cases hl:mQ D.S.length base segs with
 | false =>
  have ho:D.openL base segs=(2,D,none):=by unfold Dk.openL;rw[if_neg hd,hl,if_neg (by simp)]
  rw[ho] at hΦ;refine Nd.j2 (Ψ:=fun r=>r=(true,w)) (htest (by rw[hl];rfl)) ?_;rintro _ _ he;cases he;exact Nd.t rfl (Nd.ret (hΦ g w none ⟨rfl,H⟩ Mo.r))
 | true =>
  obtain⟨s2,s16,b0,bn⟩:=uB hl;have ho:D.openL base segs=D.tidy (D.readL base segs):=by unfold Dk.openL;rw[if_neg hd,hl,if_pos rfl]
  refine Nd.j2 (Ψ:=fun r=>r=(false,w)) (htest (by rw[hl];rfl)) ?_;rintro _ _ he;cases he;obtain⟨q,w1,e1,H1,m1⟩:=H.box (T:=132) (cs:=rlC y base segs D.age 0 0 Sl.nil Sl.nil);have hRL:=yE (y:=y) (segs:=segs) (age:=D.age) (rel:=0) (su:=Sl.nil) (sr:=Sl.nil) (h:=0) b0 (show base<=512 by omega);refine Nd.f (by simp) (Nd.b1 (by rw[aD];exact l4) (Nd.b2 e1 (Nd.j2 (Ψ:=fun r=>∃ g' su sr rz,r.1=tdC (D.readL base segs).high (D.readL base segs).rel su sr/\Hp F0 g0 w0 g' r.2 (cF q (rlC y base segs D.age 0 0 Sl.nil Sl.nil)::rdR y D::rsR su (D.readL base segs).used::rcR sr rz::L)/\Mo g w g' r.2/\RZ g' r.2 rz (D.readL base segs).vis)
   (aCY hRL (by omega) s16 hbt (by omega) hn.2 (by omega) H1 fun g' w' su sr rz H' m' hz=>⟨g',su,sr,rz,rfl,H',m1.t m',hz⟩) ?_)))
  rintro _ w4 ⟨g4,su,sr,rz,rfl,H4,m4,hz4⟩;simp only at H4 m4 hz4;obtain⟨R,hR⟩:∃ R,D.readL base segs=R:=⟨_,rfl⟩;have hRb:R.base=base:=by rw[<-hR];rfl
  have hRs:R.segs=segs:=by rw[<-hR];rfl
  have hRa:R.age=D.age:=by rw[<-hR];rfl
  have hRm:∀ s∈R.used,0<=s.pos/\s.pos<segs/\1<=s.fin/\s.fin<=16:=fun s hs=>by rw[<-hR] at hs;have:=rZ hs;omega
  have hRl:R.used.length<=16:=by rw[<-hR];have:=uF (D:=D) (base:=base) (segs:=segs);omega
  have hRt:∀ s∈R.used,∀ r∈s.recs,r.1<=s.high:=by rw[<-hR];exact vR (fun s hs=>by cases hs)
  have hRn:∀ s∈R.used,s.recs.length<=16:=by
   rw[<-hR];have key:∀ (us:List Sg) (h:Int) (ds:List Sg),(∀ s∈ds,s.recs.length<=16)->∀ s∈(D.segs base us h ds).2,s.recs.length<=16:=by
    intro us
    induction us with
    | nil=>intro h ds hd;exact hd
    | cons u us ih =>
     intro h ds hd;rw[Dk.segs];refine ih _ _ fun s hs=>?_;rcases aIG.1 hs with h' | h'
     .exact hd s h'
     simp at h';subst h';have:=wF (D:=D) (base:=base) (pos:=u.pos) 16 u.fin (max h u.high) [];simpa using this
   exact key _ _ _ (fun s hs=>by cases hs)
  rw[hR] at H4 hz4 ⊢;rw[ho,hR] at hΦ;unfold Dk.tidy at hΦ;rw[hRb] at hΦ;obtain⟨pt,w5,e5,H5,m5⟩:=H4.box (T:=130) (cs:=tdC 0 0 Sl.nil Sl.nil);have td1:∀ {a b:Int} {s z:Sl},∀ v∈tdC a b s z,v.oneCell'=true:=by intro a b s z v hv;simp[tdC] at hv;rcases hv with rfl | rfl | rfl | rfl<;>rfl
  obtain⟨w6,e6,H6,m6,-⟩:=H5.stA' (vs:=tdC R.high R.rel su sr) rfl td1;have l6:ldL w6 ⟨pt,2,none⟩=some su:=H6.ldL rfl;have l6r:ldI .i64 w6 ⟨pt,1,none⟩=some R.rel:=H6.ldI rfl;obtain⟨n7,g7,w7,e7,H7,m7,hn7⟩:=zW (t:=R.rel) hRL (by omega) (fun s hs=>by have:=hRm s hs;omega) (by omega) (H6.b3);have hfW:=zA (base:=base) (rel:=R.rel) R.used D;have hfs:∀ s∈(D.free base R.rel R.used).2.2,s∈R.used:=fun s hs=>nH hs;have hfl:=tG (D:=D) (base:=base) (rel:=R.rel) (us:=R.used);have hfk:=rW (D:=D) (base:=base) (rel:=R.rel) (us:=R.used);have hfd:D.down=false:=by simpa using hd
  have hfu:(D.free base R.rel R.used).1=0->(D.free base R.rel R.used).2.1.down=false/\(D.free base R.rel R.used).2.1.S.length=D.S.length/\(D.free base R.rel R.used).2.1.Bt:=by
   have key:∀ (us:List Sg) (D:Dk),D.down=false->D.Bt->(D.free base R.rel us).1=0->(D.free base R.rel us).2.1.down=false/\(D.free base R.rel us).2.1.S.length=D.S.length/\(D.free base R.rel us).2.1.Bt:=by
    intro us
    induction us with
    | nil=>intro D h1 h2 _;exact⟨h1,rfl,h2⟩
    | cons u us ih =>
     intro D h1 h2 h3;rw[jG] at h3 ⊢;split
     .rename_i hc;rw[if_pos hc] at h3;exact ih D h1 h2 h3
     rename_i hc;rw[if_neg hc] at h3;split
     .rename_i he;rw[if_pos he] at h3;obtain⟨a1,a2,a3⟩:=ih _ (aAF h1 he) (h2.write (fun b hb=>by cases hb)) h3;exact⟨a1,by rw[a2,aAs],a3⟩
     rename_i he;rw[if_neg he] at h3;exact(he h3).elim
   exact key R.used D hfd hbt
  obtain⟨f,hf⟩:∃ f,D.free base R.rel R.used=f:=⟨_,rfl⟩;rw[hf] at e7 H7 hn7 hΦ hfs hfW hfl hfk hfu
  -- H7: log,disk,segments,told,records
  have mm7:=m4.t (m5.t (m6.t m7));refine Nd.b2 e5 (Nd.b1 e6 (Nd.ck rfl (Nd.b1 (by rw[aD];exact l6) (Nd.b1 (by rw[aD];exact l6r) (Nd.b3 e7 ?_)))));by_cases hf0:f.1=0
  rotate_left
  .rw[if_pos (by simpa using hf0)] at hΦ;exact Nd.t (by simpa using hf0) (Nd.ret (hΦ g7 w7 none ⟨rfl,H7.tl.sw.tl.sw.tl.sw.tl⟩ mm7))
  have hn7:=hn7 hf0;have hfk:=hfk hf0;obtain⟨hfd2,hfS2,hfB2⟩:=hfu hf0;refine Nd.f (by simp[hf0]) ?_;rw[if_neg (by simp[hf0])] at hΦ;have hrs:R.used.length=su.n:=by have:=H7.m2.ow.len;rw[cQ cR] at this;omega
  have hwl:=vU (D:=f.2.1) (base:=base) (us:=f.2.2) (fun s hs=>(hRm s (hfs s hs)).2.2.1);obtain⟨k,hk⟩:∃ k,wipeLast f.2.1 base f.2.2=k:=⟨_,rfl⟩;rw[hk] at hΦ hwl;have hflast:f.2.2.getLast?=R.used.getLast?:=by
   rw[hfk];have key:∀ us:List Sg,(lK R.rel us).getLast?=us.getLast?:=by
    intro us
    induction us with
    | nil=>rfl
    | cons u us ih =>
     rw[qZ]
     cases us with
     | nil=>rfl
     | cons v us =>
      have hne:∀ us:List Sg,us≠[]->lK R.rel us≠[]:=by
       intro us
       induction us with
       | nil=>intro h;exact(h rfl).elim
       | cons a us ih2 =>
        intro _;rw[qZ];split
        .simp
        rename_i hc;exact ih2 (fun e=>hc (.inl e))
      have hk2:=hne (v::us) (by simp);split
      .rw[yM hk2,ih,yM (a:=u) (l:=v::us) (by simp)]
      rw[ih,yM (a:=u) (l:=v::us) (by simp)]
   exact key _
  refine Nd.jX (Ψ:=fun r=>k.2.1=0/\r.1=(R.used.length:Int)-(f.2.2.length:Int)+k.1/\∃ g',Hp F0 g0 w0 g' r.2 (cF q (rlC y base segs D.age 0 0 Sl.nil Sl.nil)::rdR y k.2.2::rsR su R.used::tdR pt (tdC R.high R.rel su sr)::rcR sr rz::L)/\Mo g7 w7 g' r.2) ?_ ?_
  .have l7:ldL w7 ⟨pt,2,none⟩=some su:=H7.m3.ldL rfl;refine Nd.b1 (by rw[aD];exact l7) ?_;by_cases h0:0<su.n
   .obtain⟨u,hu⟩:∃ u,R.used[R.used.length-1]?=some u:=⟨_,aIs (by omega)⟩;have hlast:f.2.2.getLast?=some u:=by rw[hflast,aJJ,hu]
    have hup:=hRm u (aIF hu);obtain⟨b,el⟩:=H7.m2.el cR (by decide) hu;have hix:ix su (IntKind.wrap .i64 ((su.n:Int)-1)) 4=some ⟨b,(R.used.length-1)*4,none⟩:=by
     rw[show IntKind.wrap .i64 ((su.n:Int)-1)=((R.used.length-1:Nat):Int) by rw[iD (by omega) (by omega)];omega];exact el.ix
    obtain⟨pb,w8,e8,H8,m8⟩:=H7.box (T:=136) (cs:=List.replicate 4 (.int .i64 0));obtain⟨w9,e9,H9,m9,-⟩:=H8.stA' (vs:=rsC u) rfl pY;have l9p:ldI .i64 w9 ⟨pb,0,none⟩=some u.pos:=H9.ldI rfl;have l9f:ldI .i64 w9 ⟨pb,2,none⟩=some u.fin:=H9.ldI rfl;have hkk:f.2.1.wipe base u.pos (16-u.fin).toNat u.fin 0=k:=by rw[<-hk];unfold wipeLast;rw[hlast]
    refine Nd.t (by simpa using h0) (Nd.b1 (by rw[aD];exact l7) (Nd.b1 (by rw[aD];exact l7) (Nd.b1 hix (Nd.b1 el.ldA (Nd.b2 e8 (Nd.b1 e9 (Nd.b1 (by rw[aD];exact l9p) (Nd.b1 (by rw[aD];exact l9f) (Nd.j3 (Ψ:=fun r=>r.1=k.1/\r.2.1=k.2.1/\∃ g',Hp F0 g0 w0 g' r.2.2 (cF q (rlC y base segs D.age 0 0 Sl.nil Sl.nil)::rdR y k.2.2::bxR pb (rsC u) 136::rsR su R.used::tdR pt (tdC R.high R.rel su sr)::rcR sr rz::L)/\Mo g7 w7 g' r.2.2) ?_ ?_)))))))))
    .unfold eT;refine aAL hRL (pos:=u.pos) ⟨hup.1,hup.2.1,s16⟩ (16-u.fin).toNat f.2.1 u.fin 0 g7 w9 (by omega) (by omega) (by omega) (aIZ _) (by omega) hfd2 (by omega) hfB2 (H9.b2) fun g' w' H' m'=>?_;rw[hkk] at H' ⊢;exact⟨rfl,rfl,g',H',m8.t (m9.t m')⟩
    rintro _ _ w10 ⟨h1,h2,g10,H10,m10⟩;simp only at h1 h2 H10 m10;subst h1;subst h2;by_cases hk0:k.2.1=0
    .refine Nd.f (by simp[hk0]) (Nd.ret ⟨hk0,?_,g10,H10.m2.tl,m10⟩);simp only;have hkn:0<=k.1/\k.1<=16:=by
      have key:∀ (m:Nat) (D:Dk) (i n:Int),0<=n->n<=(D.wipe base u.pos m i n).1/\(D.wipe base u.pos m i n).1<=n+m:=by
       intro m
       induction m with
       | zero=>intro D i n hn;simp[Dk.wipe]
       | succ m ih =>
        intro D i n hn;unfold Dk.wipe;split
        .have:=ih D (i+1) n hn;omega
        split
        .have:=ih (D.write (base+2+u.pos*16+i) []).2 (i+1) (n+1) (by omega);omega
        simp only;omega
      have:=key (16-u.fin).toNat f.2.1 u.fin 0 (aIZ _);rw[hkk] at this;omega
     rw[hn7,iD (by omega) (by omega)]
    rw[if_pos (by simpa using hk0)] at hΦ;exact Nd.t (by simpa using hk0) (Nd.j1 (Ψ:=fun r=>Φ r) (Nd.ret (hΦ g10 w10 none ⟨rfl,H10.m2.tl.tl.sw.tl.sw.tl.sw.tl⟩ (mm7.t m10))) (fun r hr=>Nd.ret hr))
   have hnil:f.2.2=[]:=by
    apply aIA;omega
   have hkk:k=(0,0,f.2.1):=by rw[<-hk];unfold wipeLast;rw[hnil];rfl
   refine Nd.f (by simpa using h0) (Nd.ret ⟨by rw[hkk],?_,g7,by rw[hkk];exact H7,Mo.r⟩);simp only;rw[hkk,hn7];simp
  rintro⟨n8,w8⟩ ⟨hk0,hn8,g8,H8,m8⟩;simp only at hn8 H8 m8;rw[if_neg (by simp[hk0]),<-hn8] at hΦ;have mm8:=mm7.t m8;have m48:Mo g4 w4 g8 w8:=m5.t (m6.t (m7.t m8));have hzl:rz.length<=10000:=by
   have h1:=hz4.1;have h2:R.vis.length<=R.all.length:=aJU _ _;have h3:∀ us:List Sg,(∀ s∈us,s.recs.length<=16)->(us.flatMap fun s=>s.recs).length<=16*us.length:=by
    intro us
    induction us with
    | nil=>intro _;simp
    | cons u us ih =>
     intro h;have h4:=ih fun s hs=>h s (by simp[hs]);have h5:=h u (by simp);rw[aIQ,aIE,aIH];omega
   have h4:R.all.length<=16*R.used.length:=h3 R.used hRn;omega
  have hvis:(⟨base,R.segs,R.age,R.high,R.rel,f.2.2⟩:Lg).vis=R.vis:=by
   show((f.2.2.flatMap fun s=>s.recs).filter fun r=>decide (R.rel<r.1))=((R.used.flatMap fun s=>s.recs).filter fun r=>decide (R.rel<r.1));rw[hfk];exact tR hRt
  have hff:∀ rz':List (Int×List Int),rz'=R.vis->rz'.filter (fun r=>decide (R.rel<r.1))=R.vis:=fun rz' e=>by
   rw[e];unfold Lg.vis;rw[aKk];simp
  -- the end
  have fin:∀ (D9:Dk) (g9:Gh) (w9:World),Hp F0 g0 w0 g9 w9 (cF q (rlC y base segs D.age 0 0 Sl.nil Sl.nil)::rdR y D9::rsR su R.used::tdR pt (tdC R.high R.rel su sr)::rcR sr rz::L)->Mo g8 w8 g9 w9 ->
    (∀ w',Hp F0 g0 w0 g9 w' (rlR q y ⟨base,R.segs,R.age,R.high,R.rel,f.2.2⟩::rdR y D9::L)->Mo g w g9 w'->Φ (some ⟨q,0,none⟩,0,w')) ->
    (lb1 (ldA 4 w9 ⟨pt,0,none⟩ 0) fun c85=>lb1 (stA w9 ((⟨q,0,none⟩:Addr).add 4) 0 c85) fun w87=>lb1 (ldI .i64 w87 ((⟨pt,0,none⟩:Addr).add 1)) fun v89=>lb1 (cT (some ⟨q,0,none⟩) v89 w87) fun w91=>aU ((some (⟨q,0,none⟩:Addr)),(0:Int),w91)).t Φ:=fun D9 g9 w9 H9 m9 hfin=>by
   have l9:ldA 4 w9 ⟨pt,0,none⟩ 0=some (tdC R.high R.rel su sr):=by rw[nK H9.m3.bx (by exact aIv _)];rfl
   obtain⟨w10,e10,H10,m10⟩:=H9.stA (o:=4) (vs:=tdC R.high R.rel su sr) (by simp[rlC,tdC]) td1;have H10:Hp F0 g0 w0 g9 w10 (cF q (rlC y base segs D.age R.high R.rel su sr)::rdR y D9::rsR su R.used::tdR pt (tdC R.high R.rel su sr)::rcR sr rz::L):=H10;have l10:ldI .i64 w10 ⟨pt,1,none⟩=some R.rel:=H10.m3.ldI rfl;have H10b:Hp F0 g0 w0 g9 w10 (cF q (rlC y base segs D.age R.high R.rel su sr)::rsR su R.used::rcR sr rz::rdR y D9::L):=(H10.m3.tl).perm (List.Perm.cons _ ((List.Perm.swap _ _ _).trans (List.Perm.cons _ (List.Perm.swap _ _ _))));obtain⟨su',sr',w11,e11,H11,m11⟩:=zG (t:=R.rel) (by omega) hzl H10b;refine Nd.b1 l9 (Nd.b1 (by rw[aD];exact e10) (Nd.b1 (by rw[aD];exact l10) (Nd.b1 e11 (Nd.ret (hfin w11 ?_ (mm8.t (m9.t (m10.t m11))))))));refine Hp.rli (su:=su') (sr:=sr') (rz:=rz.filter fun r=>decide (R.rel<r.1)) ?_ ?_
   .have:=(hz4.mo (m48.t (m9.t (m10.t m11)))).filter (P:=fun t=>decide (R.rel<t));rw[hff _ rfl] at this;rw[hvis];exact this
   simp only;rw[hRs,hRa,hfk];exact H11
  refine Nd.jX (Ψ:=fun w'=>∃ g' D9,Hp F0 g0 w0 g' w' (cF q (rlC y base segs D.age 0 0 Sl.nil Sl.nil)::rdR y D9::rsR su R.used::tdR pt (tdC R.high R.rel su sr)::rcR sr rz::L)/\Mo g8 w8 g' w'/\∀ w'',Hp F0 g0 w0 g' w'' (rlR q y ⟨base,R.segs,R.age,R.high,R.rel,f.2.2⟩::rdR y D9::L)->Mo g w g' w''->Φ (some ⟨q,0,none⟩,0,w'')) ?_ ?_
  .by_cases h8:0<n8
   .rw[if_pos h8] at hΦ;obtain⟨g9,w9,e9,H9,m9⟩:=H8.sw.rsync (by omega);refine Nd.t (by simpa using h8) (Nd.b2 e9 ?_);by_cases hs0:k.2.2.sync.1=0
    .rw[if_neg (by simp[hs0])] at hΦ;exact Nd.f (by simp[hs0]) (Nd.ret ⟨g9,_,H9.sw,m9,fun w'' H'' m''=>hΦ g9 w'' (some q) ⟨q,rfl,H''⟩ m''⟩)
    rw[if_pos (by simpa using hs0)] at hΦ;exact Nd.t (by simpa using hs0) (Nd.j1 (Ψ:=fun r=>Φ r) (Nd.ret (hΦ g9 w9 none ⟨rfl,H9.sw.tl.sw.tl.sw.tl.sw.tl⟩ (mm8.t m9))) (fun r hr=>Nd.ret hr))
   rw[if_neg h8] at hΦ;exact Nd.f (by simpa using h8) (Nd.ret ⟨g8,_,H8,Mo.r,fun w'' H'' m''=>hΦ g8 w'' (some q) ⟨q,rfl,H''⟩ m''⟩)
  rintro w9 ⟨g9,D9,H9,m9,hfin⟩;exact fin D9 g9 w9 H9 m9 hfin
end
section
variable {F0 : Nat -> Prop} {g g0 : Gh} {w w0 : World} {L : List Rs} {z : Sl} {y q : Nat} {D : Dk} {a b : Int} {rz : List (Int × Sl)} {l : Lg} {es : List (Int × List Int)}
theorem yG (H:Hp F0 g0 w0 g w (rlR q y l::rdR y D::L)):∃ w',eA (some ⟨q,0,none⟩) w=some (D.badL l,w')/\Hp F0 g0 w0 g w' (rlR q y l::rdR y D::L)/\Mo g w g w':=by
 obtain⟨w1,e1,H1,m1⟩:=H.dr;obtain⟨su,sr,rz,hz,H1'⟩:=H1.rlo;have l0:ldP w1 ⟨q,0,none⟩=some (some ⟨y,0,none⟩):=H1'.ldP rfl;have l3:ldI .i64 w1 ⟨q,3,none⟩=some l.age:=H1'.ldI rfl;have k4:=H1.sw.rd4;have k3:=H1.sw.rd3;refine⟨w1,?_,H1,m1⟩;unfold eA Dk.badL;rw[if_neg (by simp),e1];simp only[aLx,aD,aLy,l0,l3,k3,k4];by_cases ha:D.age=l.age<;>by_cases hd:D.down=true<;>simp[ha,hd]
theorem aCk (H:Hp F0 g0 w0 g w (rlR q y l::rdR y D::L)) (hbd:D.W.length<900000):∃ g' w',gP (some ⟨q,0,none⟩) w=some ((D.syncL l).1,w')/\Hp F0 g0 w0 g' w' (rlR q y l::rdR y (D.syncL l).2::L)/\Mo g w g' w':=by
 obtain⟨w1,e1,H1,m1⟩:=yG H;unfold gP Dk.syncL;rw[e1,aE];by_cases hb:D.badL l=0
 .obtain⟨su,sr,rz,hz,H1'⟩:=H1.rlo;have l0:ldP w1 ⟨q,0,none⟩=some (some ⟨y,0,none⟩):=H1'.ldP rfl;obtain⟨g2,w2,e2,H2,m2⟩:=H1.sw.rsync (by omega);refine⟨g2,w2,?_,?_,m1.t m2⟩
  .rw[if_neg (by simp[hb]),if_neg (by simp[hb]),aLx,aD,aLy,l0,aLx,e2,aE]
  rw[if_neg (by simp[hb])];exact H2.sw
 exact⟨g,w1,by rw[if_pos (by simpa using hb),if_pos (by simpa using hb)],by rw[if_pos (by simpa using hb)];exact H1,m1⟩
theorem RZ.rrd (h:RZ g w rz es) (H:Hp F0 g0 w0 g w (rcR z rz::L)):RRd w z es :=
 ⟨rz,H.ow.rd,h.1,fun j r q hr hq=>⟨(h.2 j r q hr hq).1,(h.2 j r q hr hq).2.rd⟩⟩
end
theorem aCn {us:List Sg} {p:Int} (h:¬ us.any (fun s=>s.pos==p)=true):∀ m,iI us m p=p
 | 0=>rfl
 | m+1=>by rw[iI,if_neg h]
section
variable {F0 : Nat -> Prop} {g0 g : Gh} {w0 w : World} {L : List Rs} {su sr z : Sl} {y q : Nat} {D : Dk} {base segs age rel high t pos fin : Int} {us : List Sg} {cs : List Value} {all : List Int} {n : Nat}
theorem Hp.rkey {n:Int} (H:Hp F0 g0 w0 g w L) (h0 : -9223372036854775808<=n) (h1:n<=9223372036854775807):∃ o w',dE n w=some (o,w')/\o.n=8/\Hp F0 g0 w0 g w' (owR 5 1 o (nums .u8 (fK n))::L)/\Mo g w g w':=by
 obtain⟨o,w',e,r,k,f⟩:=yD (w:=w) h0 h1;have hn:o.n=8:=by have:=r.len;rw[bG,gU] at this;omega
 exact⟨o,w',e,hn,H.add (vZ H.lt f) (F:=o.blk) ⟨r,fun _=>Iff.rfl⟩ (fun i hi=>⟨fun hg=>by have:=H.lt i hg;have:=k i hi;omega,k i hi⟩),H.mold f⟩
theorem aDi {v:Int} (h0:0<=v) (h1:v<=1000) (hl:us.length<=1000) (H:Hp F0 g0 w0 g w (cF q (rlC y base segs age high rel su sr)::rsR su us::L)) {Φ:Int×World->Prop} (hΦ:Φ (if us.any (fun s=>s.pos==v)=true then v+1 else v,w)) :
  (fB (fun s:Int×Int×World=>dJ (some ⟨q,0,none⟩) s.1 s.2.1 s.2.2) (v,0,w)).t Φ:=by
 have hsu:us.length=su.n:=by have:=H.sw.ow.len;rw[cQ cR] at this;omega
 have l0:ldL w ⟨q,6,none⟩=some su:=H.ldL rfl;refine Nd.loop (fun m s=>∃ j:Nat,s=(v,(j:Int),w)/\m+j=us.length/\((us.take j).any fun s=>s.pos==v)=false) (fun m s hI=>?_) us.length (v,0,w) ⟨0,rfl,by omega,by simp⟩;obtain⟨j,rfl,hm,hz⟩:=hI;show(dJ (some ⟨q,0,none⟩) v (j:Int) w).t _;unfold dJ;refine Nd.s1 (Nd.b1 (by rw[aD,aD];exact l0) ?_);by_cases hj:j<us.length
 .obtain⟨u,hu⟩:∃ u,us[j]?=some u:=⟨_,aIs hj⟩;obtain⟨b,el⟩:=H.sw.el cR (by decide) hu;have lp:ldI .i64 w ⟨b,j*4+0,none⟩=some u.pos:=el.i rfl;refine Nd.t (by simp;omega) (Nd.b1 (by rw[aD,aD];exact l0) (Nd.b1 el.ix (Nd.b1 (by rw[aD];exact lp) ?_)));by_cases he:u.pos=v
  .refine Nd.t (by simpa using he) (Nd.ret ?_);have ha:us.any (fun s=>s.pos==v)=true:=by rw[aJN];exact⟨u,aIF hu,by simpa using he⟩
   rw[if_pos ha] at hΦ;show Φ (IntKind.wrap .i64 (v+1),w);rw[iD (by omega) (by omega)];exact hΦ
  refine Nd.f (by simpa using he) (Nd.ret ?_);show ∃ m',m'<m/\_;refine⟨m-1,by omega,j+1,by rw[cC (by omega)],by omega,?_⟩;rw[aKt,hu,List.any_append,hz];simpa using he
 rw[aIB (by omega)] at hz;rw[hz] at hΦ;exact Nd.f (by simp;omega) (Nd.ret (by simpa using hΦ))
theorem aEH (hl:us.length<=900) (H:Hp F0 g0 w0 g w (cF q (rlC y base segs age high rel su sr)::rsR su us::L)) {Φ:Int×World->Prop} (hΦ:Φ (iI us us.length 0,w)) :
  (fB (fun s:Int×Int×World=>dI (some ⟨q,0,none⟩) s.1 s.2.1 s.2.2) (0,0,w)).t Φ:=by
 have hsu:us.length=su.n:=by have:=H.sw.ow.len;rw[cQ cR] at this;omega
 have l0:ldL w ⟨q,6,none⟩=some su:=H.ldL rfl;refine Nd.loop (fun m s=>∃ (j:Nat) (p:Int),s=(p,(j:Int),w)/\m+j=us.length/\0<=p/\p<=j/\iI us us.length 0=iI us m p) (fun m s hI=>?_) us.length (0,0,w) ⟨0,0,rfl,by omega,by omega,by omega,rfl⟩;obtain⟨j,p,rfl,hm,hp0,hp1,hpe⟩:=hI;show(dI (some ⟨q,0,none⟩) p (j:Int) w).t _;unfold dI;refine Nd.s1 (Nd.b1 (by rw[aD,aD];exact l0) ?_);by_cases hj:j<us.length
 .refine Nd.t (by simp;omega) (Nd.j2 (Ψ:=fun r=>r=(if us.any (fun s=>s.pos==p)=true then p+1 else p,w)) (aDi hp0 (by omega) (by omega) H rfl) ?_);rintro _ _ he;cases he;obtain⟨m,rfl⟩:∃ k,m=k+1:=⟨m-1,by omega⟩;refine Nd.ret ?_;show ∃ m',m'<m+1/\_;refine⟨m,by omega,j+1,_,by rw[cC (by omega)],by omega,?_⟩;by_cases ha:us.any (fun s=>s.pos==p)=true
  .rw[if_pos ha];rw[iI,if_pos ha] at hpe;exact⟨by omega,by omega,hpe⟩
  rw[if_neg ha];rw[aCn ha] at hpe ⊢;exact⟨by omega,by omega,hpe⟩
 obtain rfl:m=0:=by omega
 refine Nd.f (by simp;omega) (Nd.ret ?_);rw[hpe] at hΦ;exact hΦ
theorem aCM (hb0:0<=base) (hb1:base<=512) (hsg:2<=segs/\segs<=16) (hh : -9223372036854775808<=high/\high<=9223372036854775807) (hn:(us.map fun s=>s.pos).Nodup) (hr:∀ s∈us,0<=s.pos/\s.pos<segs/\1<=s.seq/\s.seq<=4611686018427387904) (hul:us.length<=16)
  (hdn:D.down=false) (hS:base+2+segs*16<=D.S.length) (hbt:D.Bt) (hbd:D.W.length<800000) (H:Hp F0 g0 w0 g w (cF q (rlC y base segs age high rel su sr)::rdR y D::rsR su us::L)) {Φ:Int×Int×World->Prop}
  (hΦ:∀ n g' w',Hp F0 g0 w0 g' w' (cF q (rlC y base segs age high rel su sr)::rdR y (D.fresh ⟨base,segs,age,high,rel,us⟩).2::rsR su us::L)->Mo g w g' w'->((D.fresh ⟨base,segs,age,high,rel,us⟩).1=0->n=iI us us.length 0)->Φ (n,(D.fresh ⟨base,segs,age,high,rel,us⟩).1,w')) :
  (gB (some ⟨q,0,none⟩) (nJ us) w).t Φ:=by
 have hfull:=nL (us:=us) (segs:=segs) (by omega) hn (fun s hs=>⟨(hr s hs).1,(hr s hs).2.1⟩);have hrs:us.length=su.n:=by have:=H.m2.ow.len;rw[cQ cR] at this;omega
 obtain⟨q5,hq5,hq5b⟩:∃ q5,nJ us=q5/\1<=q5/\q5<=4611686018427387905:=by
  refine⟨_,rfl,?_⟩;unfold nJ
  cases h:us.getLast? with
  | none=>simp
  | some u =>
   have:=hr u (aIL h);simp only;omega
 obtain⟨pp,hpp⟩:∃ pp,iI us us.length 0=pp:=⟨_,rfl⟩;unfold Dk.fresh at hΦ;simp only[hpp,hq5] at hΦ hfull;rw[hq5];unfold gB;refine Nd.j2 (Ψ:=fun r=>r=(pp,w)) (aEH (by omega) H.m2.sw (by rw[hpp])) ?_;rintro _ _ he;cases he;obtain⟨w1,e1,H1,m1⟩:=H.dr;have l1:ldL w1 ⟨q,6,none⟩=some su:=H1.ldL rfl;have l1s:ldI .i64 w1 ⟨q,2,none⟩=some segs:=H1.ldI rfl;refine Nd.b1 e1 (Nd.s1 (Nd.b1 (by rw[aD,aD];exact l1) (Nd.b1 (by rw[aD];exact l1s) ?_)));by_cases hfu:segs<=us.length
 .rw[if_pos hfu] at hΦ;exact Nd.t (by simp;omega) (Nd.ret (hΦ 0 g w1 H1 m1 (fun h=>by simp at h)))
 rw[if_neg hfu] at hΦ;refine Nd.f (by simp;omega) ?_;by_cases hq:4611686018427387904<q5
 .rw[if_pos hq] at hΦ;exact Nd.t (by simpa using hq) (Nd.ret (hΦ 0 g w1 H1 m1 (fun h=>by simp at h)))
 rw[if_neg hq] at hΦ;refine Nd.f (by simpa using hq) ?_;have hppr:0<=pp/\pp<segs:=⟨hfull.1,by have:=hfull.2.1;have:=hfull.2.2;omega⟩;have hRL:=yE (y:=y) (segs:=segs) (age:=age) (rel:=rel) (su:=su) (sr:=sr) (h:=high) hb0 hb1;have hkW:=uG (base:=base) (pos:=pp) 16 D 0 0;obtain⟨k,hk⟩:∃ k,D.wipe base pp 16 0 0=k:=⟨_,rfl⟩;rw[hk] at hkW hΦ;refine Nd.j3 (Ψ:=fun r=>∃ g',r.1=k.1/\r.2.1=k.2.1/\Hp F0 g0 w0 g' r.2.2 (cF q (rlC y base segs age high rel su sr)::rdR y k.2.2::rsR su us::L)/\Mo g w g' r.2.2) (by
  unfold eT;refine aAL hRL ⟨hppr.1,hppr.2,hsg.2⟩ 16 D 0 0 g w1 (by omega) (by omega) (by omega) (by omega) (by omega) hdn hS hbt H1 fun g' w' H' m'=>?_;rw[hk] at H' ⊢;exact⟨g',rfl,rfl,H',m1.t m'⟩) ?_
 rintro v47 v48 w6 ⟨g6,rfl,rfl,H6,mm6⟩;simp only at H6 mm6 ⊢;have l6:ldP w6 ⟨q,0,none⟩=some (some ⟨y,0,none⟩):=H6.ldP rfl;by_cases hk0:k.2.1=0
 .rw[if_neg (by simp[hk0])] at hΦ;obtain⟨g7,w7,e7,H7,m7⟩:=H6.sw.rsync (by omega);have hsW:=aAR k.2.2;obtain⟨r,hr7⟩:∃ r,k.2.2.sync=r:=⟨_,rfl⟩;rw[hr7] at e7 H7 hsW hΦ;have mm7:=mm6.t m7;have H7:=H7.sw;refine Nd.j2 (Ψ:=fun o=>o=(r.1,w7)) (Nd.t (by simp[hk0]) (Nd.b1 (by rw[aD];exact l6) (Nd.b2 e7 (Nd.ret rfl)))) ?_;rintro _ _ he;cases he;by_cases hr0:r.1=0
  .rw[if_neg (by simp[hr0])] at hΦ;obtain⟨w8,e8,H8,m8⟩:=H7.dr;obtain⟨k9,w9,e9,n9,H9,m9⟩:=H8.rkey (n:=q5) (by omega) (by omega);have l9:ldI .i64 w9 ⟨q,4,none⟩=some high:=H9.sw.ldI rfl;have l8h:ldI .i64 w8 ⟨q,4,none⟩=some high:=H8.ldI rfl;obtain⟨k10,w10,e10,n10,H10,m10⟩:=H9.rkey (n:=high) hh.1 hh.2;obtain⟨z11,w11,e11,n11,H11,m11⟩:=H10.tl.apS mS H10.ow.rd dU (by rw[n9,n10];decide);have hks:nums .u8 (fK q5)++nums .u8 (fK high)=nums .u8 (fK q5++fK high):=by simp[nums]
   rw[hks] at H11;obtain⟨g12,p12,H12,m12⟩:=H11.keepO;obtain⟨w13,e13,H13,m13⟩:=H12.dr;have l13d:ldP w13 ⟨q,0,none⟩=some (some ⟨y,0,none⟩):=H13.ldP rfl;have a13:=qK (pos:=pp) (i:=0) hRL ⟨by omega,by omega⟩ ⟨by omega,by omega⟩ H13.bx;obtain⟨z14,w14,e14,H14,m14⟩:=vG H13 (p12.mo m13) (by simp[gU]) (kind:=1) (by decide) (by decide) true;have l14d:ldP w14 ⟨q,0,none⟩=some (some ⟨y,0,none⟩):=H14.tl.ldP rfl;obtain⟨g15,w15,e15,H15,m15⟩:=H14.tl.sw.rwrite (i:=base+2+pp*16+0) H14.ow.rd (by omega);refine Nd.j2 (Ψ:=fun o=>o=((r.2.write (base+2+pp*16+0) (lL 1 (fK q5++fK high) true)).1,w15)) (Nd.t (by simp[hr0]) (Nd.b1 e8 (Nd.b2 e9 (Nd.b1 (by rw[aD,aD];exact l9) (Nd.b2 e10 (Nd.b2 e11 (Nd.ck (by rw[aD,aD];exact l8h) (Nd.b1 e13 (Nd.b1 (by rw[aD];exact l13d) (Nd.b2 a13 (Nd.b2 e14 (Nd.b2 e15 (Nd.ck (by rw[aD];exact l13d) (Nd.ck (by rw[aD];exact l14d) (Nd.ret rfl))))))))))))))) ?_;rintro _ _ he;cases he;exact Nd.ret (hΦ pp g15 w15 H15.sw (mm7.t (m8.t (m9.t (m10.t (m11.t (m12.t (m13.t (m14.t m15)))))))) (fun _=>rfl))
  rw[if_pos (by simpa using hr0)] at hΦ;refine Nd.j2 (Ψ:=fun o=>o=(r.1,w7)) (Nd.f (by simpa using hr0) (Nd.ret rfl)) ?_;rintro _ _ he;cases he;exact Nd.ret (hΦ pp g7 w7 H7 mm7 (fun h=>(hr0 h).elim))
 rw[if_pos (by simpa using hk0)] at hΦ;refine Nd.j2 (Ψ:=fun o=>o=(k.2.1,w6)) (Nd.f (by simpa using hk0) (Nd.ret rfl)) ?_;rintro _ _ he;cases he;refine Nd.j2 (Ψ:=fun o=>o=(k.2.1,w6)) (Nd.f (by simpa using hk0) (Nd.ret rfl)) ?_;rintro _ _ he;cases he;exact Nd.ret (hΦ pp g6 w6 H6 mm6 (fun h=>(hk0 h).elim))
theorem aDM (hc:RLC cs y base segs) (hp:0<=pos/\pos<=16) (hf:0<=fin/\fin+n<=16) (hal:all.length<=59*n) (hal2:59*n<all.length+59) {Φ:(World⊕(Int×World))->Prop}:∀ (m j:Nat) (D:Dk) (g:Gh) (w:World),m+j=n->D.W.length+m<900000->PR g w z 1 (nums .u8 all)->z.n<=z.c ->
  Hp F0 g0 w0 g w (cF q cs::rdR y D::L) ->
  (∀ g' w',(D.puts base pos m (fin+j) (if j=0 then 2 else 3) (all.drop (59*j))).1=0->Hp F0 g0 w0 g' w' (cF q cs::rdR y (D.puts base pos m (fin+j) (if j=0 then 2 else 3) (all.drop (59*j))).2::L)->Mo g w g' w'->Φ (.inl w')) ->
  (∀ g' w',(D.puts base pos m (fin+j) (if j=0 then 2 else 3) (all.drop (59*j))).1≠0->Hp F0 g0 w0 g' w' (cF q cs::rdR y (D.puts base pos m (fin+j) (if j=0 then 2 else 3) (all.drop (59*j))).2::L)->Mo g w g' w'->Φ (.inr ((D.puts base pos m (fin+j) (if j=0 then 2 else 3) (all.drop (59*j))).1,w'))) ->
  (fB (fun s:Int×World=>dA (n:Int) z (some ⟨q,0,none⟩) pos fin s.1 s.2) ((j:Int),w)).t Φ:=by
 intro m
 induction m with
 | zero =>
  intro j D g w hm hbd hr hzc H h1 h2;refine Nd.next ?_
  unfold dA;exact Nd.f (by simp;omega) (Nd.ret (h1 g w rfl (by simpa[Dk.puts] using H) Mo.r))
 | succ m ih =>
  intro j D g w hm hbd hr hzc H h1 h2;have hn:all.length=z.n:=by have:=hr.rd.len;simpa using this
  obtain⟨rest,hrest⟩:∃ rest,all.drop (59*j)=rest:=⟨_,rfl⟩;have hrl:rest.length=all.length-59*j:=by rw[<-hrest,aIY]
  have hne:¬ rest=[]:=fun e=>by subst e;simp at hrl;omega
  obtain⟨k,hk⟩:∃ k,min 59 rest.length=k:=⟨_,rfl⟩;obtain⟨kd,hkd⟩:∃ kd:Int,(if j=0 then 2 else 3)=kd:=⟨_,rfl⟩;have hkr:0<=kd/\kd<256:=by rw[<-hkd];split<;>omega
  have hdr:rest.drop k=all.drop (59*(j+1)):=by
   rw[<-hrest,List.drop_drop];by_cases h:59<=rest.length
   .rw[show 59*j+k=59*(j+1) by omega]
   rw[aIU (by omega),aIU (by omega)]
  have hlast:((j:Int)==IntKind.wrap .i64 ((n:Int)-1))=(k==rest.length):=by
   rw[iD (by omega) (by omega),aJw,beq_iff_eq,beq_iff_eq];omega
  rw[hrest,hkd,Dk.puts,if_neg hne,hk] at h1 h2;obtain⟨z2,e2,r2,n2,c2⟩:=hr.slN (lo:=59*j) (hi:=z.n) (m:=z.c) (by omega) (aIv _) hzc (aIv _);rw[hrest,aIB (by omega)] at r2;have e2':slS z (IntKind.wrap .i64 (59*(j:Int))) (z.n:Int) (z.c:Int) 1=some z2:=by
   rw[iD (by omega) (by omega),<-e2];norm_cast
  obtain⟨w1,e1,H1,m1⟩:=H.dr;have l1d:ldP w1 ⟨q,0,none⟩=some (some ⟨y,0,none⟩):=H1.ldP hc.d;have a1:=qK (pos:=pos) (i:=fin+j) hc hp (by omega) H1.bx;have hwf:IntKind.wrap .i64 (fin+(j:Int))=fin+j:=iD (by omega) (by omega);refine Nd.next ?_
  unfold dA;refine Nd.t (by simp;omega) (Nd.b1 e2' (Nd.j2 (Ψ:=fun o=>o.2=w/\PR g w o.1 1 (nums .u8 (rest.take k))) ?_ ?_))
  .by_cases h59:59<z2.n
   .obtain⟨z3,e3,r3,n3,c3⟩:=r2.slN (lo:=0) (hi:=59) (m:=z2.c) (by omega) (by omega) (by omega) (aIv _);rw[aJj,show 59-0=k by omega] at r3;exact Nd.t (by simp;omega) (Nd.b1 e3 (Nd.ret ⟨rfl,r3⟩))
   exact Nd.f (by simp;omega) (Nd.ret ⟨rfl,by rw[aIB (by omega)];exact r2⟩)
  rintro z3 w3 ⟨he,r3⟩;obtain rfl:w=w3:=he.symm;refine Nd.j2 (Ψ:=fun o=>o=(kd,w)) ?_ ?_
  .rw[<-hkd];by_cases hj:j=0
   .exact Nd.t (by simp[hj]) (Nd.ret (by rw[if_pos hj]))
   exact Nd.f (by simp;omega) (Nd.ret (by rw[if_neg hj]))
  rintro _ _ he;cases he;obtain⟨z4,w4,e4,H4,m4⟩:=vG H1 (r3.mo m1) (by rw[aIN];omega) hkr.1 hkr.2 (k==rest.length);have l4d:ldP w4 ⟨q,0,none⟩=some (some ⟨y,0,none⟩):=H4.sw.ldP hc.d;obtain⟨g5,w5,e5,H5,m5⟩:=H4.m2.rwrite (i:=base+2+pos*16+(fin+j)) H4.ow.rd (by omega);have hww:=lH D (base+2+pos*16+(fin+j)) (lL kd (rest.take k) (k==rest.length));obtain⟨r,hrr⟩:∃ r,D.write (base+2+pos*16+(fin+j)) (lL kd (rest.take k) (k==rest.length))=r:=⟨_,rfl⟩;rw[hrr] at e5 H5 h1 h2 hww;have mm:=m1.t (m4.t m5);have H5:=H5.sw.tl.sw;rw[hlast];refine Nd.b1 e1 (Nd.s1 (Nd.b1 (by rw[aD];exact l1d) (Nd.b2 (by rw[hwf];exact a1) (Nd.b2 e4 (Nd.b2 e5 (Nd.ck (by rw[aD];exact l1d) (Nd.ck (by rw[aD];exact l4d) ?_)))))));by_cases h0:r.1=0
  .rw[if_pos h0] at h1 h2;refine Nd.f (by simp[h0]) (Nd.ret ?_);show(fB _ (IntKind.wrap .i64 ((j:Int)+1),w5)).t Φ;rw[cC (by omega)];have hij:fin+(j:Int)+1=fin+((j+1:Nat):Int):=by omega
   rw[hdr,hij] at h1 h2;refine ih (j+1) r.2 g5 w5 (by omega) (by omega) (hr.mo mm) hzc H5 (fun g' w' he H' m'=>?_) (fun g' w' he H' m'=>?_)
   .rw[if_neg (by omega)] at he H';exact h1 g' w' he H' (mm.t m')
   rw[if_neg (by omega)] at he H' ⊢;exact h2 g' w' he H' (mm.t m')
  rw[if_neg h0] at h1 h2;exact Nd.t (by simpa using h0) (Nd.ret (h2 g5 w5 h0 H5 mm))
theorem wS {l:Lg} {t:Int} {body:List Int}:(oF l t body).all=l.all++[(t,body)]:=by
 unfold oF Lg.all iR
 cases h:fY l.used (bN body) with
 | true=>simp
 | false =>
  unfold fY at h
  cases hl:l.used.getLast? with
  | none=>rw[hl] at h;cases h
  | some u =>
   obtain⟨A,hA⟩:∃ A,l.used=A++[u]:=by
    have hne:l.used≠[]:=by intro e;rw[e] at hl;cases hl
    refine⟨l.used.dropLast,?_⟩;have:=aJP hne;rw[aKj hne] at hl;cases hl;exact this.symm
   simp[hA]
theorem aCe {l:Lg} {t:Int} {body:List Int} (h:l.rel<t):(oF l t body).vis=l.vis++[(t,body)]:=by
 unfold Lg.vis;rw[wS,aJB];simp[oF,h];rfl
theorem aBm {l:Lg} {body:List Int} {yb:Sl} (hw:l.Wf) (H:Hp F0 g0 w0 g w (rlR q y l::rdR y D::L)) (hy:PR g w yb 1 (nums .u8 body)) (hbt:D.Bt) (hS:l.base+2+l.segs*16<=D.S.length) (hbd:D.W.length<700000) (hvl:l.vis.length<=10000) {Φ:Int×World->Prop}
  (hΦ:∀ g' w',Hp F0 g0 w0 g' w' (rlR q y (D.appendL l t body).2.2::rdR y (D.appendL l t body).2.1::L)->Mo g w g' w'->Φ ((D.appendL l t body).1,w')):(fN (some ⟨q,0,none⟩) t yb w).t Φ:=by
 have hyn:body.length=yb.n:=by have:=hy.rd.len;simpa using this
 obtain⟨w1,e1,H1,m1⟩:=yG H;unfold Dk.appendL at hΦ;unfold fN;refine Nd.b2 e1 ?_;by_cases hb:D.badL l=0
 rotate_left
 .rw[if_pos (by simpa using hb)] at hΦ;exact Nd.t (by simpa using hb) (Nd.ret (hΦ g w1 H1 m1))
 rw[if_neg (by simp[hb])] at hΦ;refine Nd.f (by simp[hb]) ?_;have hdn:D.down=false:=by
  unfold Dk.badL at hb;split at hb
  .simp at hb
  split at hb
  .simp at hb
  rename_i h;simpa using h
 by_cases h4:400<body.length
 .rw[if_pos h4] at hΦ;exact Nd.t (by simp;omega) (Nd.ret (hΦ g w1 H1 m1))
 rw[if_neg h4] at hΦ;refine Nd.f (by simp;omega) ?_;obtain⟨su,sr,rz,hz,H1'⟩:=H1.rlo;have l1h:ldI .i64 w1 ⟨q,4,none⟩=some l.high:=H1'.ldI rfl;by_cases ht:t<=l.high\/1099511627776<t
 .rw[if_pos ht] at hΦ;refine Nd.j2 (Ψ:=fun r=>r=(true,w1)) (Nd.s1 (Nd.b1 (by rw[aD,aD];exact l1h) ?_)) ?_
  .by_cases h5:t<=l.high
   .exact Nd.t (by simpa using h5) (Nd.ret rfl)
   exact Nd.f (by simpa using h5) (Nd.ret (by rw[decide_eq_true (by omega)]))
  rintro _ _ he;cases he;exact Nd.t rfl (Nd.ret (hΦ g w1 H1 m1))
 rw[if_neg ht] at hΦ;refine Nd.j2 (Ψ:=fun r=>r=(false,w1)) (Nd.s1 (Nd.b1 (by rw[aD,aD];exact l1h) (Nd.f (by simpa using fun h=>ht (.inl h)) (Nd.ret (by rw[decide_eq_false (fun h=>ht (.inr h))]))))) ?_;rintro _ _ he;cases he;refine Nd.f (by simp) ?_;have hr0:=hw.r0;have hr1:=hw.r1;have hh1:=hw.h1;have hs0:=hw.s0;have hs1:=hw.s1;obtain⟨k2,w2,e2,n2,H2,m2⟩:=H1'.rkey (n:=t) (by omega) (by omega);obtain⟨z3,w3,e3,n3,H3,m3⟩:=H2.apS mS (hy.mo (m1.t m2)).rd dU (by rw[n2];omega);rw[show nums .u8 (fK t)++nums .u8 body=nums .u8 (fK t++body) by simp[nums]] at H3;have hz3c:=H3.ow.cap;obtain⟨g3,r3,H3k,m3k⟩:=H3.keepO;have hz3:z3.n=body.length+8:=by omega
 have hsb:bN body<=7/\1<=bN body:=by unfold bN;omega
 have mm3:=m1.t (m2.t (m3.t m3k));have hdl16:=hw.len;obtain⟨us,hus⟩:∃ us,l.used=us:=⟨_,rfl⟩;rw[hus] at H3k hdl16;have hds:us.length=su.n:=by have:=H3k.sw.ow.len;rw[cQ cR] at this;omega
 have hrs:rz.length=sr.n:=by have:=H3k.m2.ow.len;rw[cQ jP] at this;omega
 have hzl:=hz.1;have hle:(⟨l.base,l.segs,l.age,l.high,l.rel,us⟩:Lg)=l:=by rw[<-hus]
 have hlE:(0:Int)<59:=by decide
 have hdv:dvI .i64 (z3.n:Int) 59=some (((body.length+8) / 59:Nat):Int):=by
  unfold dvI;rw[if_neg (by decide),aJE (by omega),hz3,iD (by omega) (by omega)];rfl
 have hrm:rmI (z3.n:Int) 59=some (((body.length+8) % 59:Nat):Int):=by
  unfold rmI;rw[if_neg (by decide),aJS (by omega),hz3];rfl
 refine Nd.b2 e2 (Nd.b2 e3 (Nd.b1 hdv (Nd.j2 (Ψ:=fun r=>r=((bN body:Int),w3)) (Nd.b1 hrm ?_) ?_)))
 .by_cases h0:0<(body.length+8) % 59
  .refine Nd.t (by simp;omega) (Nd.ret ?_);rw[iD (by omega) (by omega),show(((body.length+8) / 59:Nat):Int)+1=(bN body:Int) by unfold bN;omega]
  refine Nd.f (by simp;omega) (Nd.ret ?_);rw[show(((body.length+8) / 59:Nat):Int)=(bN body:Int) by unfold bN;omega]
 rintro _ _ he;cases he
 -- the last segment
 obtain⟨lp,hlp⟩:∃ lp:Int,(match us.getLast? with | some s=>s.pos | none=>0)=lp:=⟨_,rfl⟩;obtain⟨lf,hlf⟩:∃ lf:Int,(match us.getLast? with | some s=>s.fin | none=>17)=lf:=⟨_,rfl⟩;obtain⟨bg,hbg⟩:∃ bg,fY us (bN body)=bg:=⟨_,rfl⟩;have hlast:∀ s,us.getLast?=some s->s.Wf l.segs:=fun s hs=>hw.seg s (by rw[hus];exact aIL hs);have hbf:bg=decide (16<lf+(bN body:Int)):=by
  rw[<-hbg,<-hlf];unfold fY
  cases h:us.getLast? with
  | none=>simp only;rw[decide_eq_true (by omega)]
  | some s=>rfl
 have hlfr:1<=lf/\lf<=17:=by
  rw[<-hlf]
  cases h:us.getLast? with
  | none=>simp
  | some s=>have:=(hlast s h).f0;have:=(hlast s h).f1;simp only;omega
 have hl3:ldL w3 ⟨q,6,none⟩=some su:=H3k.ldL rfl;refine Nd.j4 (Ψ:=fun r=>r.1=lp/\r.2.1=lf/\r.2.2.1=nJ us/\Hp F0 g0 w0 g3 r.2.2.2 (cF q (rlC y l.base l.segs l.age l.high l.rel su sr)::rdR y D::rsR su us::rcR sr rz::L)/\Mo g3 w3 g3 r.2.2.2) (Nd.s1 (Nd.b1 (by rw[aD,aD];exact hl3) ?_)) ?_
 .by_cases h0:0<us.length
  .obtain⟨u,hu⟩:∃ u,us[us.length-1]?=some u:=⟨_,aIs (by omega)⟩;have hgl:us.getLast?=some u:=by rw[aJJ,hu]
   have huw:=hlast u hgl;have hq0:=huw.q0;have hq1:=huw.q1;obtain⟨w4,e4,H4,m4⟩:=H3k.dr;have l4:ldL w4 ⟨q,6,none⟩=some su:=H4.ldL rfl;obtain⟨b,el⟩:=H4.sw.el cR (by decide) hu;have hwn:IntKind.wrap .i64 ((su.n:Int)-1)=((us.length-1:Nat):Int):=by rw[iD (by omega) (by omega)];omega
   obtain⟨pb,w5,e5,H5,m5⟩:=H4.box (T:=136) (cs:=List.replicate 4 (.int .i64 0));have l5:ldL w5 ⟨q,6,none⟩=some su:=H5.sw.ldL rfl;obtain⟨b5,el5⟩:=H5.m2.el cR (by decide) hu;obtain rfl:=aCo el el5;obtain⟨w6,e6,H6,m6,l6⟩:=H5.stA' (vs:=rsC u) rfl pY;have k0:ldI .i64 w6 ⟨pb,0,none⟩=some u.pos:=H6.ldI rfl;have k1:ldI .i64 w6 ⟨pb,1,none⟩=some u.seq:=H6.ldI rfl;have k2:ldI .i64 w6 ⟨pb,2,none⟩=some u.fin:=H6.ldI rfl;refine Nd.t (by simp;omega) (Nd.b1 e4 (Nd.b1 (by rw[aD,aD];exact l4) (Nd.b1 (by rw[aD,aD];exact l4) (Nd.b1 (by rw[hwn];exact el.ix) (Nd.b1 el.ldA (Nd.b2 e5 (Nd.b1 e6 (Nd.ck (by rw[aD,aD];exact l5) (Nd.ck (by rw[aD,aD];exact l5) (Nd.ck el5.ldA (Nd.b1 (by rw[aD];exact k0) (Nd.b1 (by rw[aD];exact k2) (Nd.b1 (by rw[aD];exact k1) (Nd.ret ⟨?_,?_,?_,?_,m4.t (m5.t m6)⟩))))))))))))))
   .rw[<-hlp,hgl]
   .rw[<-hlf,hgl]
   .unfold nJ;rw[hgl,iD (by omega) (by omega)]
   exact(H6.tl.m3).sw
  have:us=[]:=aIA (by omega);refine Nd.f (by simp;omega) (Nd.ret ⟨?_,?_,?_,(H3k.m3).sw,Mo.r⟩)
  .rw[<-hlp,this];rfl
  .rw[<-hlf,this];rfl
  rw[this];rfl
 rintro v31 v32 v33 w4 ⟨h31,h32,h33,H4,m4⟩;obtain rfl:lp=v31:=h31.symm;obtain rfl:lf=v32:=h32.symm;obtain rfl:nJ us=v33:=h33.symm;simp only at H4 m4;obtain⟨cu,hcu⟩:∃ cu,iR l (bN body)=cu:=⟨_,rfl⟩;have hcue:cu=if bg=true then ⟨iI us us.length 0,nJ us,1,l.high,[]⟩ else us.getLast?.getD ⟨0,0,0,0,[]⟩:=by rw[<-hcu];unfold iR;rw[hus,hbg]
 obtain⟨D5,hD5⟩:∃ D5,(if bg=true then (D.fresh l).2 else D)=D5:=⟨_,rfl⟩;have hD5W:D5.W.length<=D.W.length+17:=by
  rw[<-hD5];split
  .exact aBR
  omega
 rw[hus,hbg,hcu,hD5] at hΦ;have hpf:=nL (us:=us) (segs:=l.segs) (by omega) (by rw[<-hus];exact hw.nd) (fun s hs=>by rw[<-hus] at hs;exact⟨(hw.seg s hs).p0,(hw.seg s hs).p1⟩);have hw16:IntKind.wrap .i64 (lf+(bN body:Int))=lf+bN body:=iD (by omega) (by omega);have hmem:∀ s∈us,s.Wf l.segs:=fun s hs=>hw.seg s (by rw[hus];exact hs);rw[hw16];refine Nd.jX (Ψ:=fun r=>(bg=true->(D.fresh l).1=0)/\r.1=cu.pos/\r.2.1=cu.fin/\∃ g',Hp F0 g0 w0 g' r.2.2 (cF q (rlC y l.base l.segs l.age l.high l.rel su sr)::rdR y D5::rsR su us::rcR sr rz::L)/\Mo g3 w3 g' r.2.2) ?_ ?_
 .cases hbv:bg with
  | true =>
   rw[hbv] at hcue hD5 hΦ hbf;rw[if_pos rfl] at hcue hD5;refine Nd.t hbf.symm (Nd.j3 (Ψ:=fun r=>∃ g',Hp F0 g0 w0 g' r.2.2 (cF q (rlC y l.base l.segs l.age l.high l.rel su sr)::rdR y D5::rsR su us::rcR sr rz::L)/\Mo g3 w3 g' r.2.2/\r.2.1=(D.fresh l).1/\((D.fresh l).1=0->r.1=iI us us.length 0)) ?_ ?_)
   .refine aCM hw.b0 hw.b1 ⟨hs0,hs1⟩ ⟨by omega,by omega⟩ (by rw[<-hus];exact hw.nd) (fun s hs=>⟨(hmem s hs).p0,(hmem s hs).p1,(hmem s hs).q0,(hmem s hs).q1⟩) hdl16 hdn hS hbt (by omega) H4 fun n g' w' H' m' hn=>?_;rw[hle] at H' hn ⊢;rw[hD5] at H';exact⟨g',H',m4.t m',rfl,hn⟩
   rintro v75 v76 w5 ⟨g5,H5,m5,rfl,hn5⟩;simp only at H5 m5 hn5 ⊢;by_cases hf0:(D.fresh l).1=0
   .refine Nd.f (by simp[hf0]) (Nd.ret ⟨fun _=>hf0,?_,?_,g5,H5,m5⟩)
    .rw[hcue];exact hn5 hf0
    rw[hcue]
   rw[if_pos ⟨rfl,hf0⟩] at hΦ;have hM:=(m2.t (m3.t m3k)).t m5;rw[hD5] at hΦ;exact Nd.t (by simpa using hf0) (Nd.j1 (Ψ:=fun r=>Φ r) (Nd.ret (hΦ g5 w5 (Hp.rli (hz.mo hM) (by rw[hus];exact H5.sw.b3)) (m1.t hM))) (fun r hr=>Nd.ret hr))
  | false =>
   rw[hbv] at hcue hD5 hbf;rw[if_neg (by simp)] at hcue hD5;refine Nd.f (by rw[<-hbf];simp) (Nd.ret ⟨fun h=>(by cases h),?_,?_,g3,by rw[<-hD5];exact H4,m4⟩)
   .rw[hcue,<-hlp];cases h:us.getLast?<;>rfl
   rw[hcue];rw[hbv] at hbg;rw[<-hlf]
   cases h:us.getLast? with
   | none=>unfold fY at hbg;rw[h] at hbg;cases hbg
   | some s=>rfl
 rintro⟨v66,v67,w5⟩ ⟨hfr,rfl,rfl,g5,H5,m5⟩;simp only at H5 m5;have hno:¬ (bg=true/\(D.fresh l).1≠0):=fun h=>h.2 (hfr h.1);rw[if_neg hno] at hΦ;have m05:=mm3.t m5;have hcp:0<=cu.pos/\cu.pos<=16/\1<=cu.fin/\cu.fin+bN body<=16:=by
  cases hbv:bg with
  | true =>
   rw[hbv,if_pos rfl] at hcue;rw[hcue];simp only;omega
  | false =>
   rw[hbv,if_neg (by simp)] at hcue;rw[hbv] at hbf;have hbf':¬ 16<lf+(bN body:Int):=by simpa using hbf.symm
   cases h:us.getLast? with
   | none=>rw[h] at hlf;simp only at hlf;omega
   | some u =>
    rw[h] at hcue hlf;have hcu':cu=u:=hcue;simp only at hlf;have hw':=hlast u h;have h1:=hw'.p0;have h2:=hw'.p1;have h3:=hw'.f0
    rw[hcu'];omega
 obtain⟨r,hr9⟩:∃ r,D5.puts l.base cu.pos (bN body) cu.fin 2 (fK t++body)=r:=⟨_,rfl⟩;rw[hr9] at hΦ;have hall:(fK t++body).length=body.length+8:=by rw[aIE,gU];omega
 have hRL:=yE (y:=y) (segs:=l.segs) (age:=l.age) (rel:=l.rel) (su:=su) (sr:=sr) (h:=l.high) hw.b0 hw.b1;have hz0:D5.puts l.base cu.pos (bN body) (cu.fin+((0:Nat):Int)) (if (0:Nat)=0 then 2 else 3) ((fK t++body).drop (59*0))=r:=by rw[<-hr9];simp
 simp only[u3];refine Nd.j1 (Ψ:=fun o=>match o with
  | .inl w'=>r.1=0/\∃ g',Hp F0 g0 w0 g' w' (cF q (rlC y l.base l.segs l.age l.high l.rel su sr)::rdR y r.2::rsR su us::rcR sr rz::L)/\Mo g5 w5 g' w'
  | .inr (e,w')=>e=r.1/\r.1≠0/\∃ g',Hp F0 g0 w0 g' w' (cF q (rlC y l.base l.segs l.age l.high l.rel su sr)::rdR y r.2::rsR su us::rcR sr rz::L)/\Mo g5 w5 g' w') ?_ ?_
 .refine aDM hRL (all:=fK t++body) (n:=bN body) ⟨hcp.1,hcp.2.1⟩ ⟨by omega,by omega⟩ (by rw[hall];unfold bN;omega) (by rw[hall];unfold bN;omega) (bN body) 0 D5 g5 w5 (by omega) (by omega) (r3.mo m5) hz3c H5 (fun g' w' he H' m'=>?_) (fun g' w' he H' m'=>?_)
  .rw[hz0] at he H';exact⟨he,g',H',m'⟩
  rw[hz0] at he H' ⊢;exact⟨rfl,he,g',H',m'⟩
 rintro(w9 | ⟨e9,w9⟩) h9
 rotate_left
 .obtain⟨rfl,hr0,g9,H9,m9⟩:=h9;rw[if_pos hr0] at hΦ;have hM:=(m2.t (m3.t m3k)).t (m5.t m9);exact Nd.ret (hΦ g9 w9 (Hp.rli (hz.mo hM) (by rw[hus];exact H9.sw.b3)) (m1.t hM))
 obtain⟨hr0,g9,H9,m9⟩:=h9;rw[if_neg (by simp[hr0])] at hΦ;simp only[Sum.elim_inl,u1];obtain⟨pre,hpre⟩:∃ pre,(if bg=true then us else us.dropLast)=pre:=⟨_,rfl⟩;have hpl:pre.length<=16:=by
  rw[<-hpre];split
  .omega
  simp;omega
 have hG:oF l t body=⟨l.base,l.segs,l.age,t,l.rel,pre++[⟨cu.pos,cu.seq,cu.fin+bN body,t,cu.recs++[(t,body)]⟩]⟩:=by
  unfold oF;rw[hus,hbg,hcu,hpre]
 refine Nd.j1 (Ψ:=fun w'=>∃ (su':Sl) (x0:Sg),x0.pos=cu.pos/\x0.seq=cu.seq/\Hp F0 g0 w0 g9 w' (cF q (rlC y l.base l.segs l.age l.high l.rel su' sr)::rsR su' (pre++[x0])::rdR y r.2::rcR sr rz::L)/\Mo g9 w9 g9 w') ?_ ?_
 .cases hbv:bg with
  | true =>
   rw[hbv] at hbf hpre hcue;rw[if_pos rfl] at hpre hcue;have l9:ldL w9 ⟨q,6,none⟩=some su:=H9.ldL rfl;obtain⟨x9,hx9⟩:∃ x9:Sg,x9=⟨cu.pos,nJ us,0,0,[]⟩:=⟨_,rfl⟩;obtain⟨zb,wb,eb,nb,_,Hb,mb⟩:=H9.bsl (T:=136) (sz:=4) (ps:=[rsC x9]) (by intro v hv;simp at hv;subst hv;rfl) (by simp);obtain⟨zc,wc,ec,nc,Hc,mc⟩:=Hb.tl.m2.apS aAS Hb.ow.rd (by intro v hv;simp at hv;exact pY v hv) (by rw[nb];simp;omega);rw[show us.flatMap rsC++[rsC x9].flatten=(pre++[x9]).flatMap rsC by rw[hpre];simp] at Hc;have eb':bsl w9 136 4 [[.int .i64 cu.pos,.int .i64 (nJ us),.int .i64 0,.int .i64 0]]=some (zb,wb):=by rw[hx9] at eb;exact eb
   obtain⟨wd,ed,Hd,md⟩:=Hc.sw.stV (o:=6) (x:=zc.v) (by simp[rlC]) rfl;refine Nd.t hbf.symm (Nd.s1 (Nd.b1 (by rw[aD,aD];exact l9) (Nd.b2 eb' (Nd.b2 ec (Nd.b1 (by rw[aD,aD];exact ed) (Nd.ret ⟨zc,x9,by rw[hx9],by rw[hx9,hcue],Hd,mb.t (mc.t md)⟩))))))
  | false =>
   rw[hbv] at hbf hpre hcue;rw[if_neg (by simp)] at hpre hcue;refine Nd.f (by rw[<-hbf];simp) (Nd.ret ?_)
   cases h:us.getLast? with
   | none =>
    rw[h] at hlf;simp only at hlf;have hbf':¬ 16<lf+(bN body:Int):=by simpa using hbf.symm
    omega
   | some u =>
    rw[h] at hcue;have hcu':cu=u:=hcue;have hus2:us=pre++[u]:=by
     have hne:us≠[]:=by intro e;rw[e] at h;cases h
     have:=aJP hne;rw[aKj hne] at h;cases h;rw[<-hpre];exact this.symm
    refine⟨su,u,by rw[hcu'],by rw[hcu'],?_,Mo.r⟩;rw[<-hus2];exact H9.m2.sw
 rintro w10 ⟨su2,x0,hx1,hx2,H10,m10⟩;have hj0:∀ x:Sg,(pre++[x])[pre.length]?=some x:=fun x=>by rw[aII (aIv _),aKd];rfl
 have hset:∀ x x':Sg,(pre++[x]).set pre.length x'=pre++[x']:=fun x x'=>by rw[aJm _ _ (aIv _),aKd];rfl
 have hsn:pre.length+1=su2.n:=by have:=H10.sw.ow.len;rw[cQ cR] at this;simp at this;omega
 have hwn:IntKind.wrap .i64 ((su2.n:Int)-1)=(pre.length:Int):=by rw[iD (by omega) (by omega)];omega
 obtain⟨w11,e11,H11,m11⟩:=H10.dr;have l11:ldL w11 ⟨q,6,none⟩=some su2:=H11.ldL rfl;obtain⟨b11,el11⟩:=H11.sw.el cR (by decide) (hj0 x0);obtain⟨w12,e12,H12,m12⟩:=H11.sw.elset (q':=⟨cu.pos,cu.seq,cu.fin+bN body,x0.high,x0.recs⟩) cR el11 (hj0 x0) (k:=2) (by decide) (v:=.int .i64 (cu.fin+bN body)) (by simp[rsC,hx1,hx2]) rfl;rw[hset] at H12;obtain⟨w13,e13,H13,m13⟩:=H12.dr;have l13:ldL w13 ⟨q,6,none⟩=some su2:=H13.sw.ldL rfl;obtain⟨b13,el13⟩:=H13.el cR (by decide) (hj0 _);obtain⟨w14,e14,H14,m14⟩:=H13.elset (q':=⟨cu.pos,cu.seq,cu.fin+bN body,t,cu.recs++[(t,body)]⟩) cR el13 (hj0 _) (k:=3) (by decide) (v:=.int .i64 t) rfl rfl;rw[hset] at H14;obtain⟨w15,e15,H15,m15⟩:=H14.sw.stV (o:=4) (x:=.int .i64 t) (by simp[rlC]) rfl;have H15:Hp F0 g0 w0 g9 w15 (cF q (rlC y l.base l.segs l.age t l.rel su2 sr)::rsR su2 (pre++[⟨cu.pos,cu.seq,cu.fin+bN body,t,cu.recs++[(t,body)]⟩])::rdR y r.2::rcR sr rz::L):=H15;obtain⟨w16,e16,H16,m16⟩:=H15.dr;have l16:ldL w16 ⟨q,7,none⟩=some sr:=H16.ldL rfl;obtain⟨s17,w17,e17,n17,_,H17,m17⟩:=H16.bsl (T:=5) (sz:=1) (ps:=[]) (by intro p hp;cases hp) (by simp);have l17:ldL w17 ⟨q,7,none⟩=some sr:=H17.sw.ldL rfl;have mA:=m5.t (m9.t (m10.t (m11.t (m12.t (m13.t (m14.t (m15.t (m16.t m17))))))));obtain⟨s18,w18,e18,n18,H18,m18⟩:=H17.apS mS (hy.mo (mm3.t mA)).rd dU (by rw[n17];simp;omega);obtain⟨g19,p19,H19,m19⟩:=H18.keepO;have p19:PR g19 w18 s18 1 (nums .u8 body):=by simpa using p19
 have l18:ldL w18 ⟨q,7,none⟩=some sr:=H19.ldL rfl;obtain⟨s20,w20,e20,n20,_,H20,m20⟩:=H19.bsl (T:=87) (sz:=2) (ps:=[rcC t s18]) (by intro v hv;simp at hv;subst hv;rfl) (by simp);have l20:ldL w20 ⟨q,7,none⟩=some sr:=H20.sw.ldL rfl;obtain⟨s21,w21,e21,n21,H21,m21⟩:=H20.tl.m3.apS tO H20.ow.rd (by intro v hv;simp at hv;exact gX v hv) (by rw[n20];simp;omega);rw[show rz.flatMap rcF++[rcC t s18].flatten=(rz++[(t,s18)]).flatMap rcF by simp[rcF]] at H21;obtain⟨w22,e22,H22,m22⟩:=H21.sw.stV (o:=7) (x:=s21.v) (by simp[rlC]) rfl;have H22:Hp F0 g0 w0 g19 w22 (cF q (rlC y l.base l.segs l.age t l.rel su2 s21)::rcR s21 (rz++[(t,s18)])::rsR su2 (pre++[⟨cu.pos,cu.seq,cu.fin+bN body,t,cu.recs++[(t,body)]⟩])::rdR y r.2::L):=H22;have mB:=m18.t (m19.t (m20.t (m21.t m22)));have hM:=(m2.t (m3.t m3k)).t (mA.t mB);have hzn:=(hz.mo hM).snoc (t:=t) (p19.mo (m20.t (m21.t m22)));have hwf:IntKind.wrap .i64 (cu.fin+(bN body:Int))=cu.fin+bN body:=iD (by omega) (by omega);rw[hwf];refine Nd.b1 e11 (Nd.s1 (Nd.b1 (by rw[aD,aD];exact l11) (Nd.b1 (by rw[aD,aD];exact l11) (Nd.b1 (by rw[hwn];exact el11.ix) (Nd.b1 (by rw[aD];exact e12) (Nd.b1 e13 (Nd.b1 (by rw[aD,aD];exact l13) (Nd.b1 (by rw[aD,aD];exact l13) (Nd.b1 (by rw[hwn];exact el13.ix) (Nd.b1 (by rw[aD];exact e14) (Nd.b1 (by rw[aD,aD];exact e15) (Nd.b1 e16 (Nd.b1 (by rw[aD,aD];exact l16) (Nd.b2 e17 (Nd.b2 e18 (Nd.b2 e20 (Nd.b2 e21 (Nd.b1 (by rw[aD,aD];exact e22) (Nd.ck (by rw[aD,aD];exact l17) (Nd.ck (by rw[aD,aD];exact l18) (Nd.ck (by rw[aD,aD];exact l20) (Nd.ret (hΦ g19 w22 ?_ (m1.t hM))))))))))))))))))))))));have hv:=aCe (l:=l) (t:=t) (body:=body) (by omega);rw[<-hv] at hzn;rw[hG] at hzn ⊢;exact Hp.rli hzn H22.m2.sw
end
theorem aCX {l:Lg} {t:Int} (h:l.rel<t) (hw:∀ s∈l.used,∀ r∈s.recs,r.1<=s.high):(⟨l.base,l.segs,l.age,l.high,t,lK t l.used⟩:Lg).vis=l.vis.filter fun r=>decide (t<r.1):=by
 unfold Lg.vis Lg.all;simp only;rw[tR hw,aKk];congr 1
 funext r
 by_cases h1:t<r.1
 .rw[decide_eq_true h1,decide_eq_true (by omega)];rfl
 rw[decide_eq_false h1];simp
section
variable {F0 : Nat -> Prop} {g g0 : Gh} {w w0 : World} {L : List Rs} {y q : Nat} {D : Dk} {l : Lg} {t : Int}
theorem aEn (hw:l.Wf) (H:Hp F0 g0 w0 g w (rlR q y l::rdR y D::L)) (hbt:D.Bt) (hn:D.S.length<=512) (hbd:D.W.length<700000) (hsz:l.base+2<=D.S.length) (hvl:l.vis.length<=10000) :
  Ex (gK (some ⟨q,0,none⟩) t w) fun r=>∃ g',r.1=(D.chopL l t).1/\Hp F0 g0 w0 g' r.2 (rlR q y (D.chopL l t).2.2::rdR y (D.chopL l t).2.1::L)/\Mo g w g' r.2:=by
 obtain⟨w1,e1,H1,m1⟩:=yG H;unfold gK Dk.chopL;refine Ex.b2 e1 ?_;by_cases hb:D.badL l=0
 rotate_left
 .exact Ex.t (by simpa using hb) (Ex.ret ⟨g,by rw[if_pos (by simpa using hb)],by rw[if_pos (by simpa using hb)];exact H1,m1⟩)
 refine Ex.f (by simp[hb]) ?_;simp only[if_neg (show ¬ (D.badL l≠0) by simp[hb])];obtain⟨su,sr,rz,hz,H1'⟩:=H1.rlo;have l1h:ldI .i64 w1 ⟨q,4,none⟩=some l.high:=H1'.ldI rfl;have l1r:ldI .i64 w1 ⟨q,5,none⟩=some l.rel:=H1'.ldI rfl;refine Ex.b2 (a:=decide (t<0\/l.high<t)) (b:=w1) (by
  rw[aLx,aD,aD,l1h,aLx,ifO];congr 2;rw[aJw];simp) ?_
 by_cases ht:t<0\/l.high<t
 .exact Ex.t (by simpa using ht) (Ex.ret ⟨g,by rw[if_pos ht],by rw[if_pos ht];exact H1,m1⟩)
 refine Ex.f (by simpa using ht) (Ex.s1 (Ex.b1 (by rw[aD,aD];exact l1r) ?_));simp only[if_neg ht];by_cases hr:t<=l.rel
 .exact Ex.t (by simpa using hr) (Ex.ret ⟨g,by rw[if_pos hr],by rw[if_pos hr];exact H1,m1⟩)
 refine Ex.f (by simpa using hr) ?_;simp only[if_neg hr]
 -- H1': log,segments,records,disk
 obtain⟨w2,e2,H2,m2⟩:=H1'.dr;have l2d:ldP w2 ⟨q,0,none⟩=some (some ⟨y,0,none⟩):=H2.ldP rfl;have l2b:ldI .i64 w2 ⟨q,1,none⟩=some l.base:=H2.ldI rfl;have hb0:=hw.b0;have hb1:=hw.b1;obtain⟨c,g3,w3,e3,H3,m3,hc⟩:=H2.m3.ropen (base:=l.base) (count:=1) hn (by decide) (by simp[nG];omega);obtain⟨⟨v4,w4⟩,e4,g4,rfl,H4,m4⟩:=H3.rput hc hbt (by omega) (by omega) 0 t;simp only at H4 m4;have hpt:=aAV D l.base 1 0 t;have hpb:(D.put l.base 1 0 t).1=0->True:=fun _=>trivial;obtain⟨r,hr2⟩:∃ r,D.put l.base 1 0 t=r:=⟨_,rfl⟩;rw[hr2] at e4 H4 hpt;simp only[hr2];have mA:=m2.t (m3.t m4);have mm4:=m1.t mA;refine Ex.b1 e2 (Ex.b1 (by rw[aD];exact l2d) (Ex.b1 (by rw[aD];exact l2b) (Ex.b3 e3 (Ex.b2 e4 ?_))));by_cases hr0:r.1=0
 rotate_left
 .refine Ex.t (by simpa using hr0) (Ex.ret ⟨g4,by rw[if_pos (by simpa using hr0)],?_,mm4⟩);rw[if_pos (by simpa using hr0)];exact Hp.rli (hz.mo mA) H4.b3
 refine Ex.f (by simp[hr0]) ?_;simp only[if_neg (show ¬ (r.1≠0) by simp[hr0])];have hlen:=hw.len;have hW2:=hpt.w;have hRL:=yE (y:=y) (segs:=l.segs) (age:=l.age) (rel:=l.rel) (su:=su) (sr:=sr) (h:=l.high) hw.b0 hw.b1;have l4s:ldL w4 ⟨q,6,none⟩=some su:=H4.sw.ldL rfl
 -- H4: disk,log,segments,records
 obtain⟨n5,g5,w5,e5,H5,m5,hn5⟩:=zW (t:=t) hRL (by omega) (fun s hs=>⟨(hw.seg s hs).p0,by have:=(hw.seg s hs).p1;have:=hw.s1;omega⟩) (by omega) H4.sw;have hft:=rD (base:=l.base) (rel:=t) l.used r.2;have hfk:=rW (D:=r.2) (base:=l.base) (rel:=t) (us:=l.used);have hkl:=tX (rel:=t) (us:=l.used);obtain⟨f,hf⟩:∃ f,r.2.free l.base t l.used=f:=⟨_,rfl⟩;rw[hf] at e5 H5 hn5 hft hfk;simp only[hf];have mB:=mA.t m5;refine Ex.b1 (by rw[aD,aD];exact l4s) (Ex.b3 e5 ?_);have l5d:ldP w5 ⟨q,0,none⟩=some (some ⟨y,0,none⟩):=H5.ldP rfl;by_cases hf0:f.1=0
 rotate_left
 .refine Ex.b2 (a:=f.1) (b:=w5) (by rw[if_neg (by simpa using hf0),aE,if_neg (by simp)]) (Ex.t (by simpa using hf0) (Ex.ret ⟨g5,by rw[if_pos (by simpa using hf0)],?_,m1.t mB⟩));rw[if_pos (by simpa using hf0)];exact Hp.rli (hz.mo mB) H5.sw.b3
 simp only[if_neg (show ¬ (f.1≠0) by simp[hf0])];have hn5:=hn5 hf0;have hfk:=hfk hf0;have hts:∀ s∈l.used,∀ r∈s.recs,r.1<=s.high:=fun s hs r hr=>((hw.seg s hs).rb r hr).2.2;have hzl:=hz.1;have fin:∀ {g6:Gh} {w6:World} {D6:Dk},Hp F0 g0 w0 g6 w6 (cF q (rlC y l.base l.segs l.age l.high l.rel su sr)::rdR y D6::rsR su l.used::rcR sr rz::L)->Mo g5 w5 g6 w6 ->
   Ex ((cT (some ⟨q,0,none⟩) t w6).bind fun w56=>some ((0:Int),w56)) fun r=>r.1=0/\Hp F0 g0 w0 g6 r.2 (rlR q y ⟨l.base,l.segs,l.age,l.high,t,f.2.2⟩::rdR y D6::L)/\Mo g w g6 r.2:=fun {g6 w6 D6} H6 m6=>by
  obtain⟨su7,sr7,w7,e7,H7,m7⟩:=zG (t:=t) (by omega) (by omega) (H6.sw.b3);have mC:=mB.t (m6.t m7);refine Ex.b1 e7 (Ex.ret ⟨rfl,?_,m1.t mC⟩);rw[<-hfk] at H7;refine Hp.rli (l:=⟨l.base,l.segs,l.age,l.high,t,f.2.2⟩) ?_ H7;rw[hfk,aCX (by omega) hts];exact(hz.mo mC).filter (P:=fun x=>decide (t<x))
 by_cases hlt:f.2.2.length<l.used.length
 .obtain⟨g6,w6,e6,H6,m6⟩:=H5.sw.rsync (by have:=hft.w;omega);simp only[if_pos hlt];refine Ex.b2 (a:=f.2.1.sync.1) (b:=w6) (by
   rw[if_pos (by simp[hf0]),aE,if_pos (by simp;omega),aD,aLy,l5d,aLx,e6,aE]) ?_
  by_cases hs0:f.2.1.sync.1=0
  .refine Ex.f (by simp[hs0]) (Ex.mono (fin H6.sw m6) fun o ho=>⟨g6,?_,?_,ho.2.2⟩)
   .rw[if_neg (by simp[hs0])];exact ho.1
   rw[if_neg (by simp[hs0])];exact ho.2.1
  refine Ex.t (by simpa using hs0) (Ex.ret ⟨g6,by rw[if_pos (by simpa using hs0)],?_,m1.t (mB.t m6)⟩);rw[if_pos (by simpa using hs0)];exact Hp.rli (hz.mo (mB.t m6)) H6.b3
 simp only[if_neg hlt];refine Ex.b2 (a:=0) (b:=w5) (by
  rw[if_pos (by simp[hf0]),aE,if_neg (by simp;omega),hf0]) ?_
 exact Ex.f (by simp) (Ex.mono (fin H5 Mo.r) fun o ho=>⟨g5,ho.1,ho.2.1,ho.2.2⟩)
end
def aFq (ops:List Oper) (cls:List (List Nat)):Bool:=ops.zipIdx.all fun (o,i)=>((cls[i]?).getD []).all fun k=>o.after.toList.any fun e=>Region.binds .any e&&decide (e.on<i)&&(k==e.on||((cls[e.on]?).getD []).contains k)
def aFY (m:Nat) (ops:List Oper) (cls:List (List Nat)):Bool:=ops.zipIdx.all fun (o,i)=>decide (i<m)||(List.range m).all fun k=>((cls[i]?).getD []).contains k
def aFV (m:Nat) (ops:List Oper):Bool:=(ops.take m).zipIdx.all fun (o,i)=>(o.after.toList.all fun e=>!Region.binds .any e||decide (e.on<i))&&o.guard.all fun g=>decide (g.1<m)
def aEr (m:Nat) (ops:List Oper):Bool:=aFq ops (vY ops [])&&aFY m ops (vY ops [])&&aFV m ops
section
variable {P : Program} {n : Nat} {L0 L : List (Nat × Value)} {Q Q' : Exit -> Act -> World -> Prop} {a : Act} {w : World}
theorem aDg {o:Oper} {K:Act->World->Prop} (hq:∀ e a w,e≠.normal->Q' e a w->Q e a w) (hh:o.wp P a w K Q'):o.wp P a w K Q:=by
 unfold Oper.wp at *;generalize (execOp a.eval o).run P w=r at *
 cases r with
 | ok n w' =>
  cases n<;>simp only[Oper.upon] at hh ⊢ <;>
   first
    | exact hh
    | exact Calls.mono hh (fun e w'' he=>by
      cases e with
      | returned v=>exact he
      | panicked c=>exact hq _ _ _ (by simp) he
      | outgrown=>obtain⟨a',w3,h3⟩:=he;exact⟨a',w3,hq _ _ _ (by simp) h3⟩)
 | halt x w' =>
  cases x<;>simp only[Oper.upon] at hh ⊢<;>first | exact hq _ _ _ (by simp) hh | exact hh
theorem aDt {A B:List Oper} {i:Nat} {K K':Act->World->Prop} (hi:i<A.length) (hg:∀ o,A[i]?=some o->∀ j c,o.guard=some (j,c)->j<A.length) (hq:∀ e a w,e≠.normal->Q' e a w->Q e a w) (hK:∀ a w,K' a w->K a w)
  (h:wpOp P A.toArray Q' i K' a w):wpOp P (A++B).toArray Q i K a w:=by
 unfold wpOp at h ⊢;have e:(A++B).toArray[i]?=A.toArray[i]?:=by simp[aID hi]
 rw[e];obtain⟨o,ho⟩:∃ o,A[i]?=some o:=⟨_,aIs hi⟩;have ho':A.toArray[i]?=some o:=by simpa using ho
 rw[ho'] at h ⊢;simp only at h ⊢;have hw:Region.wanted o (yielded (A++B).toArray a.tmps)=Region.wanted o (yielded A.toArray a.tmps):=by
  unfold Region.wanted
  cases hgd:o.guard with
  | none=>rfl
  | some g =>
   obtain⟨j,c⟩:=g;have hj:=hg o ho j c hgd;have:yielded (A++B).toArray a.tmps j=yielded A.toArray a.tmps j:=by
    unfold yielded;have:(A++B).toArray[j]?=A.toArray[j]?:=by simp[aID hj]
    rw[this]
   simp only[this]
 rw[hw];split
 .rename_i h1;rw[if_pos h1] at h;rcases h with h | ⟨h,a',w',h'⟩
  .exact .inl (Oper.wp_mono hK (aDg hq h))
  exact .inr ⟨h,a',w',hq _ _ _ (by simp) h'⟩
 rename_i h1;rw[if_neg h1] at h;exact hK _ _ h
theorem aBi {ops:List Oper} {cls:List (List Nat)} (hok:aFq ops cls=true) {listed:Array Bool} (hc:∀ (i:Nat) (o:Oper),ops[i]?=some o->listed.getD i false=true->∀ e∈o.after.toList,Region.binds .any e=true->listed.getD e.on false=true) :
  ∀ (i:Nat) (o:Oper),ops[i]?=some o->(∀ e∈o.after.toList,Region.binds .any e=true->listed.getD e.on false=true)->∀ k∈(cls[i]?).getD [],listed.getD k false=true:=by
 intro i
 induction i using Nat.strongRecOn with
 | _ i ih =>
  intro o ho he k hk;have:=aIw.1 (aIw.1 hok _ (aIR.2 ho:(o,i)∈ops.zipIdx)) k hk;obtain⟨e,he1,hx⟩:=aJN.1 this;simp only[aIz,decide_eq_true_eq,aJc,beq_iff_eq,aJl] at hx;obtain⟨⟨h1,h2⟩,h3⟩:=hx;rcases h3 with rfl | h3
  .exact he e he1 h1
  have hle:=he e he1 h1
  cases ho':ops[e.on]? with
  | some o'=>exact ih e.on h2 o' ho' (hc e.on o' ho' hle) k h3
  | none =>
   have h5:=(aIt.1 ho).1;have h6:=aJW.1 ho';omega
theorem aCl {A B:List Oper} (hok:aEr A.length (A++B)=true) (hq:∀ e a w,e≠.normal->Q' e a w->Q e a w)
  (hQ:∀ a w,Q' .normal a w->wpAny P .any (A++B).toArray Q B.length (Array.replicate A.length true++Array.replicate B.length false) a w) :
  ∀ (fuel:Nat) (listed:Array Bool) (a:Act) (w:World),listed.size=A.length->(∀ (i:Nat) (o:Oper),A[i]?=some o->listed.getD i false=true->∀ e∈o.after.toList,Region.binds .any e=true->listed.getD e.on false=true) ->
   fuel=((List.range A.length).filter fun i=>!listed.getD i false).length->wpAny P .any A.toArray Q' fuel listed a w->wpAny P .any (A++B).toArray Q (fuel+B.length) (listed++Array.replicate B.length false) a w:=by
 simp only[aEr,aIz] at hok;obtain⟨⟨hcls,htl⟩,hhd⟩:=hok;have hA:∀ (i:Nat) (o:Oper),A[i]?=some o->(∀ e∈o.after.toList,Region.binds .any e=true->e.on<i)/\∀ j c,o.guard=some (j,c)->j<A.length:=fun i o ho=>by
  have hi:=(aIt.1 ho).1;have ho':((A++B).take A.length)[i]?=some o:=by rw[List.take_left' rfl];exact ho
  have:=aIw.1 hhd _ (aIR.2 ho':(o,i)∈((A++B).take A.length).zipIdx);simp only[aIz] at this;refine⟨fun e he hb=>?_,fun j c hg=>?_⟩
  .have:=aIw.1 this.1 e he;simpa[hb] using this
  have:=this.2;rw[hg] at this;simpa using this
 intro fuel
 induction fuel with
 | zero =>
  intro listed a w hsz hc hf h;have hall:∀ k,k<A.length->listed.getD k false=true:=fun k hk=>by
   cases h:listed.getD k false with
   | true=>rfl
   | false =>
    have:k∈(List.range A.length).filter fun i=>!listed.getD i false:=by simp[hk];simpa using h
    rw[aIA hf.symm] at this;cases this
  have:listed=Array.replicate A.length true:=by
   apply Array.ext
   .simpa using hsz
   intro i h1 h2;have:=hall i (by omega);rw[aIC,aKw h1] at this;simpa using this
  rw[this,aLy];exact hQ a w h.2
 | succ fuel ih =>
  intro listed a w hsz hc hf h;have hne:∃ x,x<A.length/\listed.getD x false=false:=by
   have hne:((List.range A.length).filter fun i=>!listed.getD i false)≠[]:=fun h=>by rw[h] at hf;cases hf
   obtain⟨x,hx⟩:=aJv _ hne;exact⟨x,by simpa using hx⟩
  have gl:∀ k d,k<A.length->(listed++Array.replicate B.length false).getD k d=listed.getD k d:=fun k d hk=>by
   rw[aIC,aIC,aKV (by omega)]
  have gr:∀ k,A.length<=k->(listed++Array.replicate B.length false).getD k false=false:=fun k hk=>by
   rw[aIC,aKS (by omega),aJM];split<;>rfl
  have hcl:∀ (i:Nat) (o:Oper),(A++B)[i]?=some o->(listed++Array.replicate B.length false).getD i false=true->∀ e∈o.after.toList,Region.binds .any e=true->(listed++Array.replicate B.length false).getD e.on false=true:=fun i o ho hl e he hb=>by
   by_cases hi:i<A.length
   .rw[aID hi] at ho;rw[gl _ _ hi] at hl;have h1:=(hA i o ho).1 e he hb;rw[gl _ _ (by omega)];exact hc i o ho hl e he hb
   rw[gr i (by omega)] at hl;cases hl
  -- what is ready lies ahead of the cut
  have hr:∀ i,i∈Region.ready .any (A++B).toArray (listed++Array.replicate B.length false)↔i∈Region.ready .any A.toArray listed:=fun i=>by
   unfold Region.ready;simp only[aJd,aIO,List.size_toArray,aIE,aIz,aIW,aJz];constructor
   .rintro⟨h1,h2,h3⟩;obtain⟨o,ho⟩:∃ o,(A++B)[i]?=some o:=⟨_,aIs (by simpa using h1)⟩;rw[ho] at h3;simp only[aIT,aJb] at h3;have he:∀ e∈o.after.toList,Region.binds .any e=true->(listed++Array.replicate B.length false).getD e.on false=true:=fun e he hb=>by
     have:=aJV.1 h3 e (by simpa using he);simpa[hb] using this
    by_cases hi:i<A.length
    .refine⟨hi,by rwa[gl _ _ hi] at h2,?_⟩;rw[aID hi] at ho;rw[ho];simp only[aIT,aJb];refine aJV.2 fun e hm=>?_;by_cases hb:Region.binds .any e=true
     .have h4:=(hA i o ho).1 e (by simpa using hm) hb;have h5:=he e (by simpa using hm) hb;rw[gl _ _ (by omega)] at h5;simp[h5]
     simp[hb]
    exfalso;obtain⟨x,hx1,hx2⟩:=hne;have ht:=aIw.1 htl _ (aIR.2 ho:(o,i)∈(A++B).zipIdx);simp only[aJc,decide_eq_true_eq] at ht;rcases ht with ht | ht
    .exact hi ht
    have hx:=aIw.1 ht x (aIO.2 hx1);have:=aBi hcls hcl i o ho he x (by simpa using hx);rw[gl _ _ hx1,hx2] at this;cases this
   rintro⟨h1,h2,h3⟩;obtain⟨o,ho⟩:∃ o,A[i]?=some o:=⟨_,aIs h1⟩;refine⟨by omega,by rwa[gl _ _ h1],?_⟩;rw[aID h1];rw[ho] at h3 ⊢;simp only[aIT,aJb] at h3 ⊢;refine aJV.2 fun e hm=>?_;have:=aJV.1 h3 e hm;by_cases hb:Region.binds .any e=true
   .have h4:=(hA i o ho).1 e (by simpa using hm) hb;rw[gl _ _ (by omega)];exact this
   simp[hb]
  have hsome:Region.ready .any A.toArray listed≠[]:=by
   obtain⟨x,hx1,hx2⟩:=hne;have hmin:∃ m,(m<A.length/\listed.getD m false=false)/\∀ k,k<m->¬ (k<A.length/\listed.getD k false=false):=by
    clear hf
    induction x using Nat.strongRecOn with
    | _ x ihx =>
     by_cases h:∃ k,k<x/\(k<A.length/\listed.getD k false=false)
     .obtain⟨k,hk,hk'⟩:=h;exact ihx k hk hk'.1 hk'.2
     exact⟨x,⟨hx1,hx2⟩,fun k hk hk'=>h ⟨k,hk,hk'⟩⟩
   obtain⟨m,⟨hm1,hm2⟩,hm3⟩:=hmin;have hm:m∈Region.ready .any A.toArray listed:=by
    unfold Region.ready;simp only[aJd,aIO,List.size_toArray,aIz,aIW,aJz];obtain⟨o,ho⟩:∃ o,A[m]?=some o:=⟨_,aIs hm1⟩;refine⟨hm1,?_,?_⟩
    .rw[aIC,aKw (by omega)] at hm2 ⊢;simpa using hm2
    rw[ho];simp only[aIT,aJb];refine aJV.2 fun e hme=>?_;by_cases hb:Region.binds .any e=true
    .have h4:=(hA m o ho).1 e (by simpa using hme) hb;have h5:listed.getD e.on false=true:=by
      cases h6:listed.getD e.on false with
      | true=>rfl
      | false=>exact(hm3 e.on h4 ⟨by omega,h6⟩).elim
     simp[h5]
    simp[hb]
   intro e;rw[e] at hm;cases hm
  rw[show fuel+1+B.length=(fuel+B.length)+1 by omega];refine⟨fun he=>?_,fun i hi=>?_⟩
  .exfalso;obtain⟨x,hx⟩:=aJv _ hsome;rw[<-hr,he] at hx;cases hx
  have hi':=(hr i).1 hi;have hiA:i<A.length:=by
   unfold Region.ready at hi';simpa using(aJd.1 hi').1
  have hst:=h.2 i hi';have hset:(listed++Array.replicate B.length false).setIfInBounds i true=listed.setIfInBounds i true++Array.replicate B.length false:=by
   apply Array.ext';simp only[aKT,Array.toList_append];rw[aJX _ _ (by simpa[hsz] using hiA)]
  rw[hset];have hil:listed.getD i false=false:=by
   unfold Region.ready at hi';have:=(aJd.1 hi').2;simp only[aIz,aIW] at this;have:=this.1;rw[aIC,aKw (by omega)] at this ⊢;simpa using this
  refine aDt hiA (fun o ho=>(hA i o ho).2) hq (fun a w h'=>ih (listed.setIfInBounds i true) a w (by simpa using hsz) (fun j o ho hl e he hb=>?_) ?_ h') hst
  .rw[lF (by omega)] at hl ⊢;unfold kT at hl ⊢;by_cases hj:j=i
   .subst hj;split
    .rfl
    unfold Region.ready at hi';have h3:=(aJd.1 hi').2;simp only[aIz,aJz,ho,aIT,aJb] at h3;have:=aJV.1 h3.2 e (by simpa using he);simpa[hb] using this
   rw[if_neg hj] at hl;split
   .rfl
   exact hc j o ho hl e he hb
  have hc2:((List.range A.length).filter fun k=>!listed.getD k false).length=((List.range A.length).filter fun k=>!(listed.setIfInBounds i true).getD k false).length+1:=by
   have key:∀ (l:List Nat),l.Nodup->i∈l->(l.filter fun k=>!listed.getD k false).length=(l.filter fun k=>!(listed.setIfInBounds i true).getD k false).length+1:=by
    intro l
    induction l with
    | nil=>intro _ h;cases h
    | cons x l ihl =>
     intro hnd hin;rw[aLp] at hnd;by_cases hx:x=i
     .subst hx;have e1:(!listed.getD x false)=true:=by rw[hil];rfl
      have e2:(!(listed.setIfInBounds x true).getD x false)=false:=by rw[lF (by omega)];simp[kT]
      rw[aJO,aJO,e1,e2];simp only[if_true,aIx,if_false,aIH];congr 2;exact aKp fun k hk=>by
       rw[lF (by omega)];have:k≠x:=fun e=>hnd.1 (e ▸ hk);unfold kT;rw[if_neg this]
     have hin':i∈l:=(aJI.1 hin).resolve_left (fun e=>hx e.symm);have e2:(listed.setIfInBounds i true).getD x false=listed.getD x false:=by rw[lF (by omega)];simp[kT,hx]
     rw[aJO,aJO,e2];have:=ihl hnd.2 hin';split<;>(try simp only[aIH])<;>omega
   exact key _ List.nodup_range (aIO.2 hiA)
  omega
theorem vF {ds:List OpD} {B:List Oper} {W:Nat->World} {m id:Nat} (hm:P.follows .mixedOrders=true) (ha:Has n L0 a) (h0:W 0=w.drew) (hok:aAq ds=true) (hcut:aEr ds.length (ds.map (·.o)++B)=true) (hO:Obl P n (ds.map (·.o)).toArray W ds) (hR:mJ ds L0)
  (hd:(ds.all fun d=>d.o.dst.all fun t=>decide (t<n))=true) (hcm:cnt ds 0 (fun _=>true)=m)
  (hQ:∀ a,Has n (jS ds 0 (fun _=>true) L0) a->wpAny P .any (ds.map (·.o)++B).toArray Q B.length (Array.replicate ds.length true++Array.replicate B.length false) a (W m)):(Code.region id (ds.map (·.o)++B).toArray true).wp P Q a w:=by
 subst hcm;refine wp_region_any hm ?_;have hl:(ds.map (·.o)).length=ds.length:=by simp
 have hz:∀ N k,(Array.replicate N false).getD k false=false:=qH;have key:=aCl (P:=P) (Q:=Q) (Q':=fun e a w=>match e with | .normal=>wpAny P .any (ds.map (·.o)++B).toArray Q B.length (Array.replicate (ds.map (·.o)).length true++Array.replicate B.length false) a w | e=>Q e a w)
  (A:=ds.map (·.o)) (B:=B) (by rw[hl];exact hcut) (fun e a w hne h=>by cases e<;>first | exact h | exact(hne rfl).elim) (fun a w h=>h) ds.length (Array.replicate ds.length false) a w.drew (by simp) (fun i o ho h=>by rw[hz] at h;cases h)
  (by
   have:((List.range (ds.map (·.o)).length).filter fun i=>!(Array.replicate ds.length false).getD i false)=List.range (ds.map (·.o)).length:=by
    rw[aKe];intro k _;rw[hz];rfl
   rw[this,aKq,hl]) ?_
 .have hs:(ds.map (·.o)++B).toArray.size=ds.length+B.length:=by simp
  have hrep:Array.replicate (ds.length+B.length) false=Array.replicate ds.length false++Array.replicate B.length false:=by simp
  rw[hs,hrep];exact key
 have hX:rK [] ds=true:=by
  simp only[aAq,rK,aIz] at hok ⊢;refine⟨⟨⟨⟨?_,hok.1.1.1.2⟩,hok.1.1.2⟩,hok.1.2⟩,hok.2⟩;have:=hok.1.1.1.1;unfold aEG at this;unfold aFn;simpa using this
 have:=rQ (P:=P) (n:=n) (L0:=L0) (W:=W) (X:=[]) (Q:=fun e a w=>match e with | .normal=>wpAny P .any (ds.map (·.o)++B).toArray Q B.length (Array.replicate (ds.map (·.o)).length true++Array.replicate B.length false) a w | e=>Q e a w)
  hX (fun i d h _=>hO.get h) hR (fun i d t h ht=>by
   have:=aIw.1 hd d (aIF h);rw[ht] at this;simpa using this) (fun a ha=>by rw[hl];exact hQ a ha) ds.length (Array.replicate ds.length false) a (by simp) (fun k hk=>by cases hk) (fun i d h hl=>by rw[hz] at hl;cases hl)
  (by
   have:(fun k=>(Array.replicate ds.length false).getD k false)=fun _=>false:=funext (hz _);rw[this,aAd];exact ha)
  (by
   have:((List.range ds.length).filter fun i=>!(Array.replicate ds.length false).getD i false)=List.range ds.length:=by
    rw[aKe];intro k _;rw[hz];rfl
   rw[this,aKq])
 have hc:(cnt ds 0 fun k=>(Array.replicate ds.length false).getD k false)=0:=by
  have:(fun k=>(Array.replicate ds.length false).getD k false)=fun _=>false:=funext (hz _);rw[this];have key2:∀ (l:List OpD) (i:Nat),cnt l i (fun _=>false)=0:=by
   intro l;induction l with
   | nil=>intro i;rfl
   | cons x xs ih=>intro i;simp only[cnt];rw[ih];simp
  exact key2 ds 0
 rw[hc,h0] at this;exact this
theorem aBA {ops:Array Oper} {listed:Array Bool} {fuel p:Nat} (hr:Region.ready .any ops listed=[p]) (h:wpOp P ops Q p (wpAny P .any ops Q fuel (listed.setIfInBounds p true)) a w):wpAny P .any ops Q (fuel+1) listed a w :=
 ⟨(fun e=>by rw[hr] at e;cases e),(fun i hi=>by rw[hr] at hi;obtain rfl:=aJr.1 hi;exact h)⟩
theorem aAz {ι:Type} {ops:Array Oper} {p:Nat} {K:Act->World->Prop} {d ty pos af f g} {xs:List Operand} {ts:Array TypeId} {vs:List Value} {pk:ι->Value} {wf:ι->World} {C:ι->Prop} (hi:ops[p]?=some ⟨d,.call { callee:=.value (.func f),args:=xs.toArray,argTypes:=ts },ty,pos,af,g⟩)
  (hg:g=none\/∃ j c t b,g=some (j,c)/\(ops[j]?).bind (·.dst)=some t/\L.lookup t=some (.bool b)/\b=c)
  (ha:Has n L a) (hx:evs L xs vs) (hf:∀ (args:Array Value) (w:World),(callFunc f args).run P w = .ok (.enter f args) w)
  (h:Calls P f vs.toArray w fun e w''=>∃ i,e = .returned (pk i)/\C i/\w''=wf i) (hr:∀ i,C i->∀ a',Has n (upd d (pk i) L) a'->K a' (wf i)) (hd:ltb n d=true:=by rfl) :
  wpOp P ops Q p K a w:=by
 unfold wpOp;rw[hi];simp only;have hw:Region.wanted ⟨d,.call { callee:=.value (.func f),args:=xs.toArray,argTypes:=ts },ty,pos,af,g⟩ (yielded ops a.tmps)=true:=by
  rcases hg with rfl | ⟨j,c,t,b,rfl,h1,h2,rfl⟩
  .simp[Region.wanted]
  simp[Region.wanted,oX h1 ha h2]
 rw[if_pos hw];left;unfold Oper.wp;have hrun:(execOp a.eval ⟨d,.call { callee:=.value (.func f),args:=xs.toArray,argTypes:=ts },ty,pos,af,g⟩).run P w = .ok (.enter f vs.toArray) w:=by
  simp[execOp,resolve,Deferred.ofValue,invoke,Act.eval,hf];have:=qT ha hx;exact this
 rw[hrun];refine h.mono fun e w' ⟨i,he,hC,hw⟩=>?_;subst he;subst hw;exact hr i hC _ (ha.put _ (ltd hd) _)
theorem uM {ds:List OpD} {W:Nat->World} {p q m:Nat} {listed:Array Bool} (hok:rK (List.range p) ds=true) (hls:listed=Array.replicate p true++Array.replicate q false) (hlen:ds.length=p+q) (hedge:(ds.take p).zipIdx.all (fun (d,i)=>d.o.after.toList.all fun e=>!Region.binds .any e||decide (e.on<i))=true)
  (hz:cnt ds 0 (fun k=>decide (k<p))=0) (hO:∀ (i:Nat) (d:OpD),ds[i]?=some d->p<=i->∀ j,d.lo<=j->j<=d.hi->pJ P n (ds.map (·.o)).toArray d.o d.li d.v (W j) (W (j+if d.e=true then 1 else 0))) (hR:mJ ds L0)
  (hd:(ds.all fun d=>d.o.dst.all fun t=>decide (t<n))=true) (hcm:cnt ds 0 (fun _=>true)=m) (ha:Has n (jS ds 0 (fun k=>decide (k<p)) L0) a)
  (hQ:∀ a,Has n (jS ds 0 (fun _=>true) L0) a->Q .normal a (W m)):wpAny P .any (ds.map (·.o)).toArray Q q listed a (W 0):=by
 subst hls;subst hcm;have gd':∀ k,(Array.replicate p true++Array.replicate q false).getD k false=decide (k<p):=by
  intro k;by_cases hk:k<p
  .rw[aIC,aKV (by simpa using hk),aJM,if_pos hk,decide_eq_true hk];rfl
  rw[aIC,aKS (by simpa using hk),aJM,decide_eq_false hk];split<;>rfl
 have gd:(fun k=>(Array.replicate p true++Array.replicate q false).getD k false)=fun k=>decide (k<p):=funext gd';have:=rQ (P:=P) (n:=n) (L0:=L0) (Q:=Q) (W:=W) (X:=List.range p) hok (fun i d h hi=>hO i d h (by simpa using hi)) hR (fun i d t h ht=>by
   have:=aIw.1 hd d (aIF h);rw[ht] at this;simpa using this) hQ q (Array.replicate p true++Array.replicate q false) a (by simp[hlen]) (fun k hk=>by
   rw[gd',decide_eq_true (by simpa using hk)]) (fun i d h hl e he hb=>by
   rw[gd'] at hl;rw[gd'];have hip:i<p:=by simpa using hl
   have h':(ds.take p)[i]?=some d:=by rw[aIV,if_pos hip];exact h
   have:=aIw.1 (aIw.1 hedge _ (aIR.2 h':(d,i)∈(ds.take p).zipIdx)) e he;simp only[hb,aKs,Bool.false_or,decide_eq_true_eq] at this;exact decide_eq_true (by omega)) (by rw[gd];exact ha) (by
   have hf:∀ i,(!(Array.replicate p true++Array.replicate q false).getD i false)=decide (p<=i):=fun i=>by
    rw[gd'];by_cases h:i<p
    .simp[h]
    simp[h];omega
   simp only[hf,hlen];rw[List.range_add,aJB];have e1:(List.range p).filter (fun i=>decide (p<=i))=[]:=aJF.2 fun i hi=>by have:=aIO.1 hi;simp;omega
   have e2:((List.range q).map (p+·)).filter (fun i=>decide (p<=i))=(List.range q).map (p+·):=aKe.2 fun i hi=>by obtain⟨k,-,rfl⟩:=aIP.1 hi;simp
   rw[e1,e2];simp)
 rw[gd,hz] at this;exact this
theorem aAk {ds:List OpD} {W:Nat->World} {ops:Array Oper} {p:Nat} (h:Obl P n ops W (ds.drop p)):∀ (i:Nat) (d:OpD),ds[i]?=some d->p<=i->∀ j,d.lo<=j->j<=d.hi->pJ P n ops d.o d.li d.v (W j) (W (j+if d.e=true then 1 else 0)):=fun i d hd hi=>by
 refine h.get (i:=i-p) ?_;rw[aJi,show p+(i-p)=i by omega];exact hd
theorem aDh {ι:Type} {ops:Array Oper} {rest:List Oper} {d ty pos af f g} {xs:List Operand} {ts:Array TypeId} {vs:List Value} {pk:ι->Value} {wf:ι->World} {C:ι->Prop} {j t:Nat} {b c:Bool} (hg:g=some (j,c)) (hj:(ops[j]?).bind (·.dst)=some t) (ha:Has n L a) (ht:L.lookup t=some (.bool b)) (hbc:b=c) (hx:evs L xs vs)
  (hf:∀ (args:Array Value) (w:World),(callFunc f args).run P w = .ok (.enter f args) w)
  (h:Calls P f vs.toArray w fun e w''=>∃ i,e = .returned (pk i)/\C i/\w''=wf i) (hr:∀ i,C i->∀ a',Has n (upd d (pk i) L) a'->wpList P ops Q rest a' (wf i)) (hd:ltb n d=true:=by rfl) :
  wpList P ops Q (⟨d,.call { callee:=.value (.func f),args:=xs.toArray,argTypes:=ts },ty,pos,af,g⟩::rest) a w:=by
 subst hg;subst hbc;unfold wpList;rw[if_pos (by simp[Region.wanted,oX hj ha ht])];left;unfold Oper.wp;have hrun:(execOp a.eval ⟨d,.call { callee:=.value (.func f),args:=xs.toArray,argTypes:=ts },ty,pos,af,some (j,b)⟩).run P w = .ok (.enter f vs.toArray) w:=by
  simp[execOp,resolve,Deferred.ofValue,invoke,Act.eval,hf];have:=qT ha hx;exact this
 rw[hrun];refine h.mono fun e w' ⟨i,he,hC,hw⟩=>?_;subst he;subst hw;exact hr i hC _ (ha.put _ (ltd hd) _)
end
end
end Go.Proofs.Ytejkaciimmfgcaa.D
