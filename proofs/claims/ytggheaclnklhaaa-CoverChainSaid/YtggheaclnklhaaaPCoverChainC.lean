/- CoverChain -/
import Derived.Test.YtggheaclnklhaaaPCoverChainA
import Derived.Test.YtggheaclnklhaaaPCoverChainB
namespace Go.Proofs.Ytggheaclnklhaaa.D
open Go
set_option linter.unusedVariables false
set_option linter.unusedSimpArgs false
set_option maxHeartbeats 1000000
set_option maxRecDepth 100000
noncomputable section
def bX (a0:Int) (w:World):Option (Sl×World) :=
 aE (bsl w 57 9 [([.int .i64 3,.string (ByteArray.mk #[97]),.int .i64 5,.int .i64 1,.int .i64 a0,.string ByteArray.empty,.bool false,.complex .f64 0 0,.int .i64 0])]) fun s1 w2 =>
 some (s1,w2)
theorem dE {a0 w w' r0} (h:bX a0 w=some (r0,w')):Calls Try.prog 12 #[(.int .i64 a0)] w fun e w''=>e=.returned (Sl.v r0)/\w''=w':=by
 refine aD (n:=7) Try.func12 rfl Try.ntmps12 (by simp) fun a u=>?_;unfold bX at h;refine wp_seq<|aA<|qa u rfl fun a u=>aC<|t_n<|wp_seq<|aA<|qm u rfl fun a u=>q u (fN (vs:=[(0,(iV 1)),(1,(iV a0))]) (pl:=#[(0,1),(1,1),(2,1),(3,1),(4,1)]) (cs:=([.int .i64 1,.int .i64 a0,.string ByteArray.empty,.bool false,.complex .f64 0 0])) u ⟨rfl,rfl,rfl,rfl,aAP⟩ Try.zeroValue55 xD (by intro w;kernel_rfl) (by kernel_rfl)) fun a u=>q u (fN (vs:=[(0,(iV 3)),(1,(.string (ByteArray.mk #[97]))),(2,(iV 5)),(3,(.agg (List.toArray ([.int .i64 1,.int .i64 a0,.string ByteArray.empty,.bool false,.complex .f64 0 0]))))]) (pl:=#[(0,1),(1,1),(2,1),(3,5),(8,1)]) (cs:=([.int .i64 3,.string (ByteArray.mk #[97]),.int .i64 5,.int .i64 1,.int .i64 a0,.string ByteArray.empty,.bool false,.complex .f64 0 0,.int .i64 0])) u ⟨rfl,rfl,rfl,rfl,rfl,rfl,rfl,rfl,aAP⟩ yF wN (by intro w;kernel_rfl) (by kernel_rfl)) fun a u=>?_;have⟨s1,w2,e3,h⟩:=bs2 h;refine q u (gU (vs:=[(0,(.agg (List.toArray ([.int .i64 3,.string (ByteArray.mk #[97]),.int .i64 5,.int .i64 1,.int .i64 a0,.string ByteArray.empty,.bool false,.complex .f64 0 0,.int .i64 0]))))]) (ps:=[([.int .i64 3,.string (ByteArray.mk #[97]),.int .i64 5,.int .i64 1,.int .i64 a0,.string ByteArray.empty,.bool false,.complex .f64 0 0,.int .i64 0])]) u ⟨rfl,rfl,aAP⟩ ⟨rfl,rfl,aAP⟩ rfl xS xV yF (by decide) e3) fun a u=>qa u rfl fun a u=>aC<|t_n<|wp_ret<|?_;have y:=u;cases h;exact aY Try.results12 y rfl ⟨rfl,rfl⟩
noncomputable def dD (w:World):ND (Bool×World) :=
 lb2 (bsl w 33 2 [([.string (ByteArray.mk #[97]),.int .i64 1])]) fun s1 w2 =>
 lb2 (bX 5 w2) fun v4 w5 =>
 lb2 (bX 4 w5) fun v7 w8 =>
 cb3 (fK s1 v4 v7 w8) fun v10 v11 w12 =>
 lb2 (bX 4 w12) fun v14 w15 =>
 lb2 (bX 5 w15) fun v17 w18 =>
 cb3 (fK s1 v14 v17 w18) fun v20 v21 w22 =>
 cb2 (if (v11==0)=true then
 (if (v21==0)=true then
 (if v10=true then
 (bR ((!v20),w22))
 else
 (bR (false,w22)))
 else
 (bR (false,w22)))
 else
 (bR (false,w22))) fun v24 w25 =>
 bR (v24,w25)
theorem iW {w Q} (h:(dD w).t Q):Calls Try.prog 6 #[] w fun e w''=>∃ i,e=.returned (.bool i.1)/\Q i/\w''=i.2:=by
 refine aD (n:=35) Try.func6 rfl Try.ntmps6 (by simp) fun a u=>?_;unfold dD at h;refine wp_seq<|aA<|qa u rfl fun a u=>aC<|t_n<|wp_seq<|aA<|q u (fN (vs:=[(0,(.string (ByteArray.mk #[97]))),(1,(iV 1))]) (pl:=#[(0,1),(1,1)]) (cs:=([.string (ByteArray.mk #[97]),.int .i64 1])) u ⟨rfl,rfl,rfl,rfl,aAP⟩ yG xO (by intro w;kernel_rfl) (by kernel_rfl)) fun a u=>?_;obtain⟨s1,w2,e3,h⟩:=h;refine q u (gU (vs:=[(0,(.agg (List.toArray ([.string (ByteArray.mk #[97]),.int .i64 1]))))]) (ps:=[([.string (ByteArray.mk #[97]),.int .i64 1])]) u ⟨rfl,rfl,aAP⟩ ⟨rfl,rfl,aAP⟩ rfl xN yC yG (by decide) e3) fun a u=>qa u rfl fun a u=>aC<|t_n<|wp_seq<|aA<|qm u rfl fun a u=>?_;obtain⟨v4,w5,e6,h⟩:=h;refine q u (dc1 u rfl Try.call12 (dE e6)) fun a u=>?_;obtain⟨v7,w8,e9,h⟩:=h;refine q u (dc1 u rfl Try.call12 (dE e9)) fun a u=>?_;refine dL (ι:=Bool×Int×World) (pk:=fun i=>(.tuple #[(bV i.1),(iV i.2.1)])) (wf:=fun i=>i.2.2) (xs:=[_,_,_]) (vs:=[(Sl.v s1),(Sl.v v4),(Sl.v v7)]) u ⟨rfl,rfl,rfl,aAP⟩ Try.call11 (jD (un3 h)) (fun i h a u=>?_);obtain⟨v10,v11,w12⟩:=i;refine qm u rfl fun a u=>q u (iF u rfl rfl) fun a u=>q u (iF u rfl rfl) fun a u=>qa u rfl fun a u=>qa u rfl fun a u=>aC<|t_n<|wp_seq<|aA<|qm u rfl fun a u=>?_;obtain⟨v14,w15,e16,h⟩:=h;refine q u (dc1 u rfl Try.call12 (dE e16)) fun a u=>?_;obtain⟨v17,w18,e19,h⟩:=h;refine q u (dc1 u rfl Try.call12 (dE e19)) fun a u=>?_;refine dL (ι:=Bool×Int×World) (pk:=fun i=>(.tuple #[(bV i.1),(iV i.2.1)])) (wf:=fun i=>i.2.2) (xs:=[_,_,_]) (vs:=[(Sl.v s1),(Sl.v v14),(Sl.v v17)]) u ⟨rfl,rfl,rfl,aAP⟩ Try.call11 (jD (un3 h)) (fun i h a u=>?_);obtain⟨v20,v21,w22⟩:=i;refine qm u rfl fun a u=>q u (iF u rfl rfl) fun a u=>q u (iF u rfl rfl) fun a u=>qa u rfl fun a u=>qa u rfl fun a u=>aC<|t_n<|wp_seq<|?_;refine fL (n:=35) (ι:=Bool×World) (Lf:=fun i=>[(0,(bV i.1))]) (wf:=fun i=>i.2) (un2 h) (fun i h a u=>?_) (fun h hk27=>?_)
 .obtain⟨v24,w25⟩:=i;have u:Has 35 [(0,(bV v24))] a:=u;refine t_n<|wp_ret<|?_;exact aY Try.results6 u rfl ⟨(v24,w25),rfl,h,rfl⟩
 refine aA<|qm u rfl fun a u=>q u (cC u rfl rfl) fun a u=>qm u rfl fun a u=>?_;refine jI h (fun b28 h=>?_) (fun b28 h=>?_)
 .refine qg u 24 b28 (aI u rfl) fun a u=>qg u 24 b28 (cC u rfl rfl) fun a u=>q u (aK u rfl b28 rfl) fun a u=>qm u rfl fun a u=>?_;refine jI h (fun b29 h=>?_) (fun b29 h=>?_)
  .refine qg u 28 b29 (aI u rfl) fun a u=>q u (aK u rfl b29 rfl) fun a u=>qm u rfl fun a u=>?_;refine jI h (fun b30 h=>?_) (fun b30 h=>?_)
   .refine qg u 31 b30 (aI u rfl) fun a u=>qg u 31 b30 (fT u rfl) fun a u=>q u (aK u rfl b30 rfl) fun a u=>qa u rfl fun a u=>aC<|?_;exact hk27 ((!v20),w22) h _ (u.sb rfl)
   refine qn u 31 (nm b30) fun a u=>qn u 31 (nm b30) fun a u=>q u (aM u rfl b30 rfl) fun a u=>qa u rfl fun a u=>aC<|?_;exact hk27 (false,w22) h _ (u.sb rfl)
  refine qn u 28 (nm b29) fun a u=>q u (aM u rfl b29 rfl) fun a u=>qm u rfl fun a u=>qn u 31 (nm yR) fun a u=>qn u 31 (nm yR) fun a u=>q u (aM u rfl yR rfl) fun a u=>qa u rfl fun a u=>aC<|?_;exact hk27 (false,w22) h _ (u.sb rfl)
 refine qn u 24 (nm b28) fun a u=>qn u 24 (nm b28) fun a u=>q u (aM u rfl b28 rfl) fun a u=>qm u rfl fun a u=>qn u 28 (nm yR) fun a u=>q u (aM u rfl yR rfl) fun a u=>qm u rfl fun a u=>qn u 31 (nm yR) fun a u=>qn u 31 (nm yR) fun a u=>q u (aM u rfl yR rfl) fun a u=>qa u rfl fun a u=>aC<|?_;exact hk27 (false,w22) h _ (u.sb rfl)
section
variable {F0 : Nat -> Prop} {g g0 : Gh} {w w0 : World} {L : List Rs} {s v z y : Sl} {n : Int} {q o : Nat} {S T : Sd} {us : List Sd}
theorem uR (H:Hp F0 g0 w0 g w (bxR q [.string aB] 9::L)):Ex (eP flC ⟨q,0,none⟩ w) fun r=>r.1=true/\Hp F0 g0 w0 g r.2 (bxR q [.string aB] 9::L)/\Mo g w g r.2:=by
 obtain⟨p,w2,e1,H1,m1⟩:=H.box (T:=33) (cs:=flC);unfold eP;refine Ex.b2 e1 (Ex.b1 (by rw[aS];exact H1.ldS rfl) (Ex.b1 (H1.sw.ldS rfl) (Ex.ret ⟨?_,H1.tl,m1⟩)));show sEq aB aB=true;simp[sEq]
theorem sY (hs:PL cR 2 g w s [flC]) (H:Hp F0 g0 w0 g w (bxR q [s.v] 34::L)):Ex (fS aB ⟨q,0,none⟩ w) fun r=>r.1=1/\Hp F0 g0 w0 g r.2 (bxR q [s.v] 34::L)/\Mo g w g r.2:=by
 have hln:s.n=1:=hs.len;obtain⟨p,w2,e2,H2,m2⟩:=H.box (T:=9) (cs:=[.string aB]);obtain⟨w3,e3,H3,m3⟩:=H2.dr;obtain⟨⟨x,w4⟩,e4,hx,H4,m4⟩:=uR H3;simp only at hx H4 m4;subst hx;have m23:=m2.t m3;obtain⟨a,cs,ea,la,rfl,hc⟩:=hs.el (R:=cR) gQ (m23.t m4) (i:=0) rfl;obtain⟨a',cs,ea',la',rfl,-⟩:=hs.el (R:=cR) gQ m23 (i:=0) rfl;have hidx:aW s ⟨p,0,none⟩ w3=some (0,w4):=by
  have h1:bU (fun r:Int×World=>aT s ⟨p,0,none⟩ r.1 r.2) (0,w3)=some (.inr (0,w4)):=by
   refine cW ?_;show aT s ⟨p,0,none⟩ 0 w3=_;unfold aT;have ea0:D.ix s 0 2=some a':=ea';rw[if_pos (by simp[hln]),ea0,aAN,la',aAN,e4,cQ,if_pos rfl]
  unfold aW;rw[h1];rfl
 unfold fS;exact Ex.b2 e2 (Ex.b1 e3 (Ex.b1 (H3.sw.ldL rfl) (Ex.b1 (H3.sw.ldL rfl) (Ex.b2 hidx (Ex.b1 ea (Ex.b1 (oM (hc 1 _ rfl)) (Ex.ck (H4.sw.ldL rfl) (Ex.ret ⟨rfl,H4.tl,m23.t m4⟩))))))))
theorem sF (h1:S.ins=[]) (h2:S.outs=[]) (H:Hp F0 g0 w0 g w L):Ex (eM (hE S) w) fun r=>r.1=false/\Hp F0 g0 w0 g r.2 L/\Mo g w g r.2:=by
 obtain⟨p,w2,e1,H1,m1⟩:=H.box (T:=40) (cs:=hE S);have k:=H1.sb;unfold eM;refine Ex.b2 e1 (Ex.j2 (Ψ:=fun r=>r=(false,w2)) (Ex.b1 k.l10 (Ex.f (by decide) (Ex.b1 k.l11 (Ex.ret rfl)))) ?_);rintro _ _ he;cases he;exact Ex.ret ⟨rfl,H1.tl,m1⟩
theorem uN (hs:PL nlR 12 g w z us) (hn:us.length<=100) (H:Hp F0 g0 w0 g w L):Ex (fU z w) fun r=>r.1=false/\Hp F0 g0 w0 g r.2 L/\Mo g w g r.2:=by
 have hln:=hs.len;obtain⟨o,e,w2,rfl,H2,m2⟩:=iM (xs:=us) (Pd:=fun _=>false) (step:=aQ z) (by omega) (fun i x w1 hx H1 m1=>by
  obtain⟨a,cs,ea,la,⟨rfl,h1,h2,-⟩,-⟩:=hs.el (R:=nlR) oS m1 hx;have hi:=(yP.1 hx).1;obtain⟨⟨v,w3⟩,e3,hv,H3,m3⟩:=sF h1 h2 H1;simp only at hv H3 m3;unfold aQ;refine Ex.t (by simp;omega) (Ex.b1 ea (Ex.b1 la (Ex.b2 e3 ?_)));subst hv;rw[hJ (by omega)];exact Ex.f (by decide) (Ex.ret ⟨w3,rfl,H3,m3⟩)) (fun w1=>by
  unfold aQ;rw[if_neg (by simp;omega)]) us.length 0 w (by omega) H Mo.r
 have e':bU (fun s:Int×World=>aQ z s.1 s.2) (0,w)=_:=e;have hf:∀ l:List Sd,l.findIdx? (fun _=>false)=none:=fun l=>by induction l with
  | nil=>rfl
  | cons a l ih=>rw[aAg,ih];rfl
 unfold fU bA bN;rw[e',aAN,zG,hf];exact⟨(false,w2),rfl,rfl,H2,m2⟩
theorem nX {bs:List (List Sd)} (hs:PL bbR 1 g w z bs) (hn:bs.length<=16) (hb:∀ b∈bs,b.length<=100) (H:Hp F0 g0 w0 g w L):Ex (gE z w) fun r=>r.1=false/\Hp F0 g0 w0 g r.2 L/\Mo g w g r.2:=by
 have hln:=hs.len;obtain⟨o,e,w2,rfl,H2,m2⟩:=iM (xs:=bs) (Pd:=fun _=>false) (step:=aN z) (by omega) (fun i x w1 hx H1 m1=>by
  obtain⟨a,cs,ea,la,⟨b,rfl,pb⟩,hc⟩:=hs.el (R:=bbR) gM m1 hx;have hi:=(yP.1 hx).1;obtain⟨⟨v,w3⟩,e3,hv,H3,m3⟩:=uN pb (hb x (zC hx)) H1;simp only at hv H3 m3;have l0:ldL w1 a=some b:=by have:=hc 0 _ rfl;simp[Addr.add] at this;exact gH this
  unfold aN;refine Ex.t (by simp;omega) (Ex.b1 ea (Ex.b1 l0 (Ex.b2 e3 ?_)));subst hv;rw[hJ (by omega)];exact Ex.f (by decide) (Ex.ret ⟨w3,rfl,H3,m3⟩)) (fun w1=>by
  unfold aN;rw[if_neg (by simp;omega)]) bs.length 0 w (by omega) H Mo.r
 have e':bU (fun s:Int×World=>aN z s.1 s.2) (0,w)=_:=e;have hf:∀ l:List (List Sd),l.findIdx? (fun _=>false)=none:=fun l=>by induction l with
  | nil=>rfl
  | cons a l ih=>rw[aAg,ih];rfl
 unfold gE;refine Ex.j2 (Ψ:=fun r=>r=(false,w2)) (Ex.f (by simp;omega) (Ex.b2 (a:=false) (b:=w2) ?_ (Ex.ret rfl))) (fun x y h=>by cases h;exact Ex.ret ⟨rfl,H2,m2⟩);unfold bG bL;rw[e',aAN,zG,hf];rfl
theorem PL.rd1 {α:Type} {R:Gh->World->List Value->α->Prop} {sz:Nat} {x:α} (h:PL R sz g w z [x]):∃ cs,R g w cs x/\Rd w z sz cs/\cs.length=sz:=by
 have hn:z.n=1:=h.len;obtain⟨a,cs,e,hg,hl,hR,hc⟩:=h.at_ 0 x rfl;unfold D.ix at e
 cases hp:z.p with
 | none=>rw[hp] at e;cases e
 | some A =>
  rw[hp,aAN,if_pos ⟨by omega,by omega⟩] at e;cases e;refine⟨cs,hR,⟨by rw[hl,hn,Nat.one_mul],fun _=>⟨A,hp,fun j v hv=>?_⟩⟩,hl⟩;have:=hc j v hv;simpa[kP] using this
theorem qC (hs:PL bbR 1 g w z [[S]]) (H:Hp F0 g0 w0 g w L):Ex (gI z w) fun r=>∃ g',PL bbR 1 g' r.2 r.1 [[S]]/\Hp F0 g0 w0 g' r.2 L/\Mo g w g' r.2:=by
 have hln:z.n=1:=hs.len;obtain⟨s1,w1,e1,n1,-,H1,m1⟩:=H.mkS vM (m:=(z.n:Int)) (by omega) (by omega);have hn1:s1.n=1:=by rw[n1,hln];rfl
 have H1:Hp F0 g0 w0 g w1 (owR 22 1 s1 [.slice none 0 0]::L):=by rw[hln] at H1;exact H1
 obtain⟨a,cs,ea,la,⟨b,rfl,pb⟩,hc⟩:=hs.el (R:=bbR) gM m1 (i:=0) rfl;have lb:ldL w1 a=some b:=by have:=hc 0 _ rfl;simp[Addr.add] at this;exact gH this
 have hbn:b.n=1:=pb.len;obtain⟨cs,⟨rfl,hi,ho,t0,t1⟩,rb,-⟩:=pb.rd1;have hbp:b.p.isNone=false:=by obtain⟨A,e,-⟩:=rb.at_ (by omega);rw[e];rfl
 obtain⟨s2,w2,e2,n2,-,H2,m2⟩:=H1.bsl (T:=40) (sz:=12) (ps:=[]) (by intro p hp;cases hp) (by simp);have rb2:Rd w2 b 12 (hE S):=by
  obtain⟨cs,⟨rfl,-⟩,r,-⟩:=(PL.mo (R:=nlR) oS pb m2).rd1;exact r
 obtain⟨s3,w3,e3,n3,H3,m3⟩:=H2.apS wH rb2 jS (by rw[n2,hbn];simp);have hn3:s3.n=1:=by rw[n3,n2,hbn];rfl
 have H3:Hp F0 g0 w0 g w3 (owR 40 12 s3 (hE S)::owR 22 1 s1 [.slice none 0 0]::L):=by simpa using H3
 obtain⟨b1,rest1,hp1,-,-⟩:=H3.sw.ow.at_ (by omega);obtain⟨b3,rest3,hp3,hB3,-⟩:=H3.ow.at_ (by omega);have x1:D.ix s1 0 1=some ⟨b1,0,none⟩:=by unfold D.ix;rw[hp1,aAN,if_pos ⟨by omega,by omega⟩];simp[Addr.add]
 have x3:D.ix s3 0 12=some ⟨b3,0,none⟩:=by unfold D.ix;rw[hp3,aAN,if_pos ⟨by omega,by omega⟩];simp[Addr.add]
 obtain⟨w4,e4,H4,m4⟩:=H3.sw.oset (o:=0) (x:=s3.v) hp1 (by omega) (by simp) rfl;have H4:Hp F0 g0 w0 g w4 (owR 22 1 s1 [s3.v]::owR 40 12 s3 (hE S)::L):=H4;obtain⟨w5,e5,H5,m5⟩:=H4.dr;have ldo:∀ {w'},Hp F0 g0 w0 g w' (owR 22 1 s1 [s3.v]::owR 40 12 s3 (hE S)::L)->ldL w' ⟨b1,0,none⟩=some s3/\ldL w' ((⟨b3,0,none⟩:Addr).add 10)=some Sl.nil/\ldL w' ((⟨b3,0,none⟩:Addr).add 11)=some Sl.nil:=fun H=>by
  obtain⟨c1,r1,q1,B1,-⟩:=H.ow.at_ (by omega);obtain⟨c3,r3,q3,B3,-⟩:=H.sw.ow.at_ (by omega);rw[hp1] at q1;cases q1;rw[hp3] at q3;cases q3;rw[aS,aS];exact⟨gH (by rw[iA B1];rfl),gH (by rw[iA B3];rfl),gH (by rw[iA B3];rfl)⟩
 obtain⟨w6,e6,H6,m6⟩:=H5.sw.oset (o:=10) (x:=Sl.nil.v) hp3 (by omega) (by simp[sdC]) rfl;have H6:Hp F0 g0 w0 g w6 (owR 40 12 s3 (hE S)::owR 22 1 s1 [s3.v]::L):=H6;obtain⟨w7,e7,H7,m7⟩:=H6.oset (o:=11) (x:=Sl.nil.v) hp3 (by omega) (by simp[sdC]) rfl;have H7:Hp F0 g0 w0 g w7 (owR 40 12 s3 (hE S)::owR 22 1 s1 [s3.v]::L):=H7;obtain⟨ga,pa,H8,m8⟩:=H7.keepO;obtain⟨gb,pc,H9,m9⟩:=H8.keepO;have k5:=ldo H5;have k4:=ldo H4;have fin:PL bbR 1 gb w7 s1 [[S]]:=mF pc hn1 ⟨s3,rfl,mF (pa.mo m9) hn3 ⟨rfl,hi,ho,t0,t1⟩⟩;have hcl:bP b w1=some (s3,w3):=by
  unfold bP;rw[hbp,if_neg (by decide),e2,cQ,e3,cQ]
 have hcn:∀ w',aZ Sl.nil w'=some (Sl.nil,w'):=fun w'=>by unfold aZ;exact if_pos rfl
 have in1:Ex (bU (fun r:Int×World=>cS s3 s1 0 r.1 r.2) (0,w4)) fun o=>o=w7:=by
  refine Ex.lnext ?_;show Ex (cS s3 s1 0 0 w4) _;unfold cS;refine Ex.t (by simp[hn3]) (Ex.b1 e5 (Ex.b1 x1 (Ex.b1 k5.1 (Ex.b1 x1 (Ex.b1 k5.1 (Ex.b1 x1 (Ex.b1 k5.1 (Ex.b1 x3 (Ex.b1 k5.2.1 (Ex.b2 (hcn _) (Ex.b1 x1 (Ex.b1 k5.1 (Ex.b1 x3 (Ex.b1 k5.2.2 (Ex.b2 (hcn _) (Ex.b1 x3 (Ex.b1 (by rw[aS];exact e6) (Ex.b1 x3 (Ex.b1 (by rw[aS];exact e7) (Ex.ck k5.1 (Ex.ck k5.1 (Ex.ck k5.1 (Ex.ck k5.1 (Ex.ck k5.1 (Ex.ck k5.2.2 (Ex.ret ⟨_,rfl,Ex.ldone ?_⟩))))))))))))))))))))))))));show Ex (cS s3 s1 0 1 w7) _;unfold cS;exact Ex.f (by simp[hn3]) (Ex.ret ⟨_,rfl,rfl⟩)
 unfold gI;refine Ex.b2 e1 (Ex.j1 (Ψ:=fun o=>o=w7) (Ex.lnext ?_) ?_)
 .show Ex (dA z s1 0 w1) _;unfold dA;refine Ex.t (by simp[hln]) (Ex.b1 ea (Ex.b1 lb (Ex.b2 hcl (Ex.b1 x1 (Ex.b1 e4 (Ex.b1 x1 (Ex.b1 k4.1 (Ex.j1 in1 ?_))))))));rintro _ rfl;refine Ex.ret ⟨_,rfl,Ex.ldone ?_⟩;show Ex (dA z s1 1 _) _;unfold dA;exact Ex.f (by simp[hln]) (Ex.ret ⟨_,rfl,rfl⟩)
 rintro _ rfl;exact Ex.ret ⟨gb,fin,H9,m1.t (m2.t (m3.t (m4.t (m5.t (m6.t (m7.t (m8.t m9)))))))⟩
end
section
variable {F0 : Nat -> Prop} {g g0 : Gh} {w w0 : World} {L : List Rs} {s v z y : Sl} {n m : Int} {q o : Nat} {S T : Sd} {us : List Sd}
theorem oI (hs:PL cR 2 g w s [flC]) (hv:PL cR 9 g w v [tmC n]) (hn:0<n/\n<100) (H:Hp F0 g0 w0 g w L) {Φ:Sl×Int×World->Prop}
  (hΦ:∀ g' w' z,Hp F0 g0 w0 g' w' L->PL bbR 1 g' w' z [[sdF loV (n-1) false]]->Mo g w g' w'->Φ (z,0,w')):(gF s v w).t Φ:=by
 have hvn:v.n=1:=hv.len;obtain⟨p1,w1,e1,H1,m1⟩:=H.box (T:=34) (cs:=[s.v]);obtain⟨⟨x,w2⟩,e2,hx,H2,m2⟩:=sL (PL.mo (R:=cR) gQ hs m1) (PL.mo (R:=cR) gQ hv m1) H1;simp only at hx H2 m2;subst hx;obtain⟨s3,w3,e3,-,-,H3,m3⟩:=H2.bsl (T:=40) (sz:=12) (ps:=[]) (by intro p hp;cases hp) (by simp);obtain⟨s4,w4,e4,-,-,H4,m4⟩:=H3.bsl (T:=22) (sz:=1) (ps:=[[s3.v]]) (by intro p hp;simp at hp;subst hp;rfl) (by simp);have H4:=H4.tl.tl;have mA:=m1.t (m2.t (m3.t m4));unfold gF;refine Nd.b2 e1 (Nd.b1 (H1.ldL rfl) (Nd.b2 e2 (Nd.f (by decide) (Nd.b2 e3 (Nd.b2 e4 (Nd.j1 (Ψ:=fun o=>∃ st w' g' z,o = .inl (st,w')/\Hp F0 g0 w0 g' w' (bxR p1 [s.v] 34::L)/\PL bbR 1 g' w' z [[sdF loV (n-1) false]]/\(∃ a,D.ix st 0 2=some a/\ldL w' (a.add 0)=some z)/\Mo g w g' w') (Nd.next ?_) ?_))))))
 .show(dH v s4 ⟨p1,0,none⟩ Sl.nil 0 w4).t _;obtain⟨a,cs,ea,la,rfl,-⟩:=hv.el (R:=cR) gQ mA (i:=0) rfl;obtain⟨p5,w5,e5,H5,m5⟩:=H4.box (T:=57) (cs:=[.int .i64 0,.string ByteArray.empty,.int .i64 0,.int .i64 0,.int .i64 0,.string ByteArray.empty,.bool false,.complex .f64 0 0,.int .i64 0]);obtain⟨w6,e6,H6,m6⟩:=H5.stF (vs:=tmC n) rfl nH;obtain⟨w7,e7,H7,m7⟩:=H6.dr;have mB:=mA.t (m5.t (m6.t m7));obtain⟨⟨x,w8⟩,e8,hx,H8,m8⟩:=sY (PL.mo (R:=cR) gQ hs mB) H7.sw;simp only at hx H8 m8;subst hx;unfold dH;refine Nd.t (by simp[hvn]) (Nd.b1 ea (Nd.b1 la (Nd.b2 e5 (Nd.b1 e6 (Nd.j2 (Ψ:=fun r=>∃ g' z y,Hp F0 g0 w0 g' r.2 (bxR p1 [s.v] 34::L)/\PR g' r.2 r.1 2 (lsC z y)/\r.1.n=1/\PL bbR 1 g' r.2 z [[sdF loV (n-1) false]]/\PL bbR 1 g' r.2 y [[sdF n hiV true]]/\Mo g w g' r.2) (Nd.b1 (by rw[aS];exact H6.ldI rfl) (Nd.f (by decide) (Nd.f (by decide) (Nd.t (by decide) (Nd.b1 e7 (Nd.b1 (H7.ldF rfl) (Nd.b1 (by rw[aS];exact H7.ldS rfl) (Nd.b2 e8 (Nd.ck (H8.sw.ldF rfl) (Nd.j2 (Ψ:=fun r=>∃ g' z y,r.1=lsC z y/\Hp F0 g0 w0 g' r.2 (bxR p1 [s.v] 34::L)/\PL bbR 1 g' r.2 z [[sdF loV (n-1) false]]/\PL bbR 1 g' r.2 y [[sdF n hiV true]]/\Mo g w g' r.2) (sW hn H8 fun g' w' z y H' hz hy m'=>⟨g',z,y,rfl,H'.sw.tl,hz,hy,mB.t (m8.t m')⟩) ?_)))))))))) ?_)))))
  .rintro _ w9 ⟨g9,z,y,rfl,H9,hz,hy,m9⟩;simp only at H9 hz hy m9;obtain⟨sa,wa,ea,na,-,HA,ma⟩:=H9.bsl (T:=70) (sz:=2) (ps:=[lsC z y]) (by intro p hp;simp at hp;subst hp;rfl) (by simp);obtain⟨sb,wb,eb,nb,HB,mb⟩:=HA.onil.apS wJ HA.ow.rd (by intro v hv;simp at hv;rcases hv with rfl | rfl<;>rfl) (by rw[na];simp[Sl.nil]);have HB:Hp F0 g0 w0 g9 wb (owR 70 2 sb (lsC z y)::owR 70 2 sa (lsC z y)::bxR p1 [s.v] 34::L):=by simpa using HB
   obtain⟨gc,pc,HC,mc⟩:=HB.keepO;have mm:=ma.t (mb.t mc);exact Nd.b2 ea (Nd.b2 eb (Nd.ret ⟨gc,z,y,HC.tl,pc,by show sb.n=1;rw[nb,na];rfl,PL.mo (R:=bbR) gM hz mm,PL.mo (R:=bbR) gM hy mm,m9.t mm⟩))
  rintro st w9 ⟨g9,z,y,H9,ps,hsn,hz,hy,m9⟩;simp only at H9 ps hsn hz hy m9;obtain⟨a,ea,-,-,hc⟩:=rP ps hsn;have la2:ldA 2 w9 a 0=some (lsC z y):=jV 2 w9 a 0 _ rfl fun j v hv=>by rw[aAO];exact hc j v hv
  have hwr:IntKind.wrap .i64 ((st.n:Int)-1)=((0:Nat):Int):=by rw[hsn];rfl
  obtain⟨pa,wa,e10,HA,ma⟩:=H9.box (T:=70) (cs:=[.slice none 0 0,.slice none 0 0]);obtain⟨wb,e11,HB,mb⟩:=HA.stF (vs:=lsC z y) rfl (by intro v hv;simp at hv;rcases hv with rfl | rfl<;>rfl);have mm:=ma.t mb;obtain⟨⟨x,wc⟩,e12,hx,HC,mc⟩:=nX (PL.mo (R:=bbR) gM hz mm) (by simp) (by simp) HB;simp only at hx HC mc;subst hx;obtain⟨⟨x,wd⟩,e13,hx,HD,md⟩:=nX (PL.mo (R:=bbR) gM hy (mm.t mc)) (by simp) (by simp) HC;simp only at hx HD md;subst hx;have mz:=mm.t (mc.t md);refine Nd.b1 (by rw[hwr];exact ea) (Nd.b1 la2 (Nd.b2 e10 (Nd.b1 e11 (Nd.j2 (Ψ:=fun r=>r=(false,wd)) (Nd.b1 (by rw[aS];exact HB.ldL rfl) (Nd.b2 e12 (Nd.f (by decide) (Nd.b1 (by rw[aS];exact HC.ldL rfl) (Nd.b2 e13 (Nd.ret rfl)))))) ?_))));rintro _ _ he;cases he;refine Nd.f (by decide) (Nd.ret ?_);show(lD _ (st,1,wd)).t _;refine Nd.next ?_
  show(dH v s4 ⟨p1,0,none⟩ st 1 wd).t _;unfold dH;refine Nd.f (by simp[hvn]) (Nd.ret ⟨st,wd,g9,z,rfl,HD.tl,PL.mo (R:=bbR) gM hz mz,?_,m9.t mz⟩);obtain⟨a',ea',-,-,hc'⟩:=rP (ps.mo mz) hsn;exact⟨a',ea',gH (hc' 0 _ rfl)⟩
 rintro _ ⟨st,w5,g5,z,rfl,H5,hz,⟨a,ea,la⟩,m5⟩;obtain⟨⟨r,w6⟩,e6,g6,hr,H6,m6⟩:=qC hz H5;simp only at hr H6 m6;simp only[Sum.elim_inl,u2];exact Nd.b1 ea (Nd.b1 la (Nd.b2 e6 (Nd.ret (hΦ g6 w6 r H6.tl hr (m5.t m6)))))
theorem okF {lo hi:Int} {c:Bool}:∀ s∈[sdF lo hi c],okS s:=fun s hs=>by simp at hs;subst hs;exact fun h=>(h rfl).elim
theorem mX (hs:PL cR 2 g w s [flC]) (hv:PL cR 9 g w v [tmC n]) (hy:PL cR 9 g w y [tmC m]) (hn:0<n/\n<100) (hm:0<m/\m<100) (H:Hp F0 g0 w0 g w L) {Φ:Bool×Int×World->Prop}
  (hΦ:∀ g' w',Hp F0 g0 w0 g' w' L->Mo g w g' w'->Φ (gP [sdF loV (m-1) false] [sdF loV (n-1) false],0,w')):(fK s v y w).t Φ:=by
 unfold fK;refine Nd.j3 (Ψ:=fun r=>∃ g' ,r.2.1=0/\Hp F0 g0 w0 g' r.2.2 L/\PL bbR 1 g' r.2.2 r.1 [[sdF loV (n-1) false]]/\Mo g w g' r.2.2) (oI hs hv hn H fun g' w' z H' hz m'=>⟨g',rfl,H',hz,m'⟩) ?_;rintro x _ w1 ⟨g1,rfl,H1,hx,m1⟩;simp only at H1 hx m1;refine Nd.f (by decide) (Nd.j3 (Ψ:=fun r=>∃ g' ,r.2.1=0/\Hp F0 g0 w0 g' r.2.2 L/\PL bbR 1 g' r.2.2 r.1 [[sdF loV (m-1) false]]/\Mo g1 w1 g' r.2.2) (oI (PL.mo (R:=cR) gQ hs m1) (PL.mo (R:=cR) gQ hy m1) hm H1 fun g' w' z H' hz m'=>⟨g',rfl,H',hz,m'⟩) ?_);rintro u _ w2 ⟨g2,rfl,H2,hu,m2⟩;simp only at H2 hu m2;have hx:=PL.mo (R:=bbR) gM hx m2;have hxn:x.n=1:=hx.len;have hun:u.n=1:=hu.len;obtain⟨a,cs,ea,la,⟨b,rfl,pb⟩,hc⟩:=hu.el (R:=bbR) gM Mo.r (i:=0) rfl;have lb:ldL w2 a=some b:=by have:=hc 0 _ rfl;simp[Addr.add] at this;exact gH this
 obtain⟨p,w3,e3,H3,m3⟩:=H2.box (T:=22) (cs:=[.slice none 0 0]);obtain⟨w4,e4,H4,m4⟩:=H3.stV (o:=0) (x:=b.v) (by show 0<1;decide) rfl;have H4:Hp F0 g0 w0 g2 w4 (bxR p [b.v] 22::L):=H4;have m34:=m3.t m4;obtain⟨a',cs,ea',la',⟨c,rfl,pc⟩,hc'⟩:=hx.el (R:=bbR) gM m34 (i:=0) rfl;have lc:ldL w4 a'=some c:=by have:=hc' 0 _ rfl;simp[Addr.add] at this;exact gH this
 obtain⟨⟨r,w5⟩,e5,hr,H5,m5⟩:=rK (PL.mo (R:=sdR) gO pb.sd m34) pc.sd (by simp) (by simp) okF okF H4;simp only at hr H5 m5;have hcont:aV x ⟨p,0,none⟩ w4=some (r,w5):=by
  have hstep:aH x ⟨p,0,none⟩ 0 w4=some (if r=true then .inr (.inr (0,w5)) else .inl (1,w5)):=by
   unfold aH gJ;have ea0:D.ix x 0 1=some a':=ea';rw[if_pos (by simp[hxn]),ea0,aAN,lc,aAN,H4.ldL rfl,aAN,e5,cQ,cQ];cases r<;>rfl
  have hend:aH x ⟨p,0,none⟩ 1 w5=some (.inr (.inl w5)):=by
   unfold aH;rw[if_neg (by simp[hxn])]
  unfold aV bM
  cases r with
  | true =>
   have:bU (fun s:Int×World=>aH x ⟨p,0,none⟩ s.1 s.2) (0,w4)=some (.inr (0,w5)):=cW hstep;rw[this];rfl
  | false =>
   have:bU (fun s:Int×World=>aH x ⟨p,0,none⟩ s.1 s.2) (0,w4)=some (.inl w5):=(gA (s':=(1,w5)) hstep).trans (cW hend);rw[this];rfl
 refine Nd.f (by decide) (Nd.j1 (Ψ:=fun o=>o=(if r=true then .inl w5 else .inr (false,0,w5))) (Nd.next ?_) ?_)
 .show(dB u x 0 w2).t _;unfold dB;refine Nd.t (by simp[hun]) (Nd.b1 ea (Nd.b1 lb (Nd.b2 e3 (Nd.b1 e4 (Nd.b2 hcont ?_)))))
  cases r with
  | false=>exact Nd.t rfl (Nd.ret rfl)
  | true =>
   refine Nd.f (by decide) (Nd.ret ?_);show(lD _ (1,w5)).t _;refine Nd.next ?_
   show(dB u x 1 w5).t _;unfold dB;exact Nd.f (by simp[hun]) (Nd.ret rfl)
 rintro _ rfl;have fin:=hΦ g2 w5 H5.tl (m1.t (m2.t (m34.t m5)));rw[<-hr] at fin
 cases r with
 | true=>exact Nd.ret fin
 | false=>exact Nd.ret fin
theorem qY (H:Hp F0 g0 w0 g w L) {Φ:Bool×World->Prop} (hΦ:∀ g' w',Hp F0 g0 w0 g' w' L->Mo g w g' w'->Φ (true,w')):(dD w).t Φ:=by
 have lit:∀ {g:Gh} {w:World} {T:TypeId} {sz:Nat} {cs:List Value},Hp F0 g0 w0 g w L->cs.length=sz->∃ z w' g',bsl w T sz [cs]=some (z,w')/\Hp F0 g0 w0 g' w' L/\PL cR sz g' w' z [cs]/\Mo g w g' w':=fun {g w T sz cs} H hl=>by
  obtain⟨z,w',e,n,-,H1,m1⟩:=H.bsl (T:=T) (sz:=sz) (ps:=[cs]) (by intro p hp;simp at hp;subst hp;exact hl) (by simp);obtain⟨g',p,H2,m2⟩:=H1.keepO;exact⟨z,w',g',e,H2,mF (by simpa using p) n rfl,m1.t m2⟩
 have less:∀ {g:Gh} {w:World} (n:Int),Hp F0 g0 w0 g w L->∃ z w' g',bX n w=some (z,w')/\Hp F0 g0 w0 g' w' L/\PL cR 9 g' w' z [tmC n]/\Mo g w g' w':=fun {g w} n H=>by
  obtain⟨z,w',g',e,H1,p,m⟩:=lit (T:=57) (sz:=9) (cs:=tmC n) H rfl;exact⟨z,w',g',by unfold bX;exact(congrArg (fun o=>aE o fun s1 w2=>some (s1,w2)) e),H1,p,m⟩
 obtain⟨s,w1,g1,e1,H1,p1,m1⟩:=lit (T:=33) (sz:=2) (cs:=flC) H rfl;obtain⟨a,w2,g2,e2,H2,p2,m2⟩:=less 5 H1;obtain⟨b,w3,g3,e3,H3,p3,m3⟩:=less 4 H2;unfold dD;refine Nd.b2 e1 (Nd.b2 e2 (Nd.b2 e3 (Nd.j3 (Ψ:=fun r=>r.1=true/\r.2.1=0/\∃ g',Hp F0 g0 w0 g' r.2.2 L/\Mo g3 w3 g' r.2.2) (mX (PL.mo (R:=cR) gQ p1 (m2.t m3)) (PL.mo (R:=cR) gQ p2 m3) p3 (by decide) (by decide) H3 fun g' w' H' m'=>⟨(by show gP [sdF loV (4-1) false] [sdF loV (5-1) false]=true;decide +kernel),rfl,g',H',m'⟩) ?_)));rintro _ _ w4 ⟨rfl,rfl,g4,H4,m4⟩;simp only at H4 m4;obtain⟨c,w5,g5,e5,H5,p5,m5⟩:=less 4 H4;obtain⟨d,w6,g6,e6,H6,p6,m6⟩:=less 5 H5;refine Nd.b2 e5 (Nd.b2 e6 (Nd.j3 (Ψ:=fun r=>r.1=false/\r.2.1=0/\∃ g',Hp F0 g0 w0 g' r.2.2 L/\Mo g6 w6 g' r.2.2) (mX (PL.mo (R:=cR) gQ p1 (m2.t (m3.t (m4.t (m5.t m6))))) (PL.mo (R:=cR) gQ p5 m6) p6 (by decide) (by decide) H6 fun g' w' H' m'=>⟨(by show gP [sdF loV (5-1) false] [sdF loV (4-1) false]=false;decide +kernel),rfl,g',H',m'⟩) ?_));rintro _ _ w7 ⟨rfl,rfl,g7,H7,m7⟩;simp only at H7 m7;refine Nd.j2 (Ψ:=fun r=>r=(true,w7)) (Nd.t (by decide) (Nd.t (by decide) (Nd.t rfl (Nd.ret rfl)))) ?_;rintro _ _ he;cases he;exact Nd.ret (hΦ g7 w7 H7 (m1.t (m2.t (m3.t (m4.t (m5.t (m6.t m7)))))))
end
def cT (a0:Sl) (a1:Sl) (a2:Sl) (w:World):ND (Bool×World) :=
 lb3 (eI a0 a1 w) fun v1 v2 w3 =>
 lb3 (eI a1 a2 w3) fun v5 v6 w7 =>
 lb3 (eI a0 a2 w7) fun v9 v10 w11 =>
 cb2 (cb2 (dD w11) fun v17 w18 =>
 if v17=true then
 (if (v2 !=0)=true then
 (bR (true,w18))
 else
 (if (v6 !=0)=true then
 (bR (true,w18))
 else
 (if (v10==0)=true then
 (if (!v1)=true then
 (bR (true,w18))
 else
 (if (!v5)=true then
 (bR (true,w18))
 else
 (bR (v9,w18))))
 else
 (bR (false,w18)))))
 else
 (bR (false,w18))) fun v13 w14 =>
 bR (v13,w14)
theorem grapevinelaw06_CoverChain_ok {a0 a1 a2 w Q} (h:(cT a0 a1 a2 w).t Q):Calls Try.prog 5 #[(Sl.v a0),(Sl.v a1),(Sl.v a2)] w fun e w''=>∃ i,e=.returned (.bool i.1)/\Q i/\w''=i.2:=by
 refine aD (n:=55) Try.func5 rfl Try.ntmps5 (by simp) fun a u=>?_;unfold cT at h;refine wp_seq<|aA<|qa u rfl fun a u=>aC<|t_n<|wp_seq<|aA<|qm u rfl fun a u=>qm u rfl fun a u=>?_;obtain⟨v1,v2,w3,e4,h⟩:=h;refine q u (dc2 u rfl rfl Try.call9 (gW e4)) fun a u=>qm u rfl fun a u=>q u (iF u rfl rfl) fun a u=>q u (iF u rfl rfl) fun a u=>qa u rfl fun a u=>qa u rfl fun a u=>aC<|t_n<|wp_seq<|aA<|qm u rfl fun a u=>qm u rfl fun a u=>?_;obtain⟨v5,v6,w7,e8,h⟩:=h;refine q u (dc2 u rfl rfl Try.call9 (gW e8)) fun a u=>qm u rfl fun a u=>q u (iF u rfl rfl) fun a u=>q u (iF u rfl rfl) fun a u=>qa u rfl fun a u=>qa u rfl fun a u=>aC<|t_n<|wp_seq<|aA<|qm u rfl fun a u=>qm u rfl fun a u=>?_;obtain⟨v9,v10,w11,e12,h⟩:=h;refine q u (dc2 u rfl rfl Try.call9 (gW e12)) fun a u=>qm u rfl fun a u=>q u (iF u rfl rfl) fun a u=>q u (iF u rfl rfl) fun a u=>qa u rfl fun a u=>qa u rfl fun a u=>aC<|t_n<|wp_seq<|?_;refine fL (n:=55) (ι:=Bool×World) (Lf:=fun i=>[(6,(bV i.1))]) (wf:=fun i=>i.2) (un2 h) (fun i h a u=>?_) (fun h hk16=>?_)
 .obtain⟨v13,w14⟩:=i;have u:Has 55 [(6,(bV v13))] a:=u;refine t_n<|wp_ret<|?_;exact aY Try.results5 u rfl ⟨(v13,w14),rfl,h,rfl⟩
 refine aA<|?_;refine dL (ι:=Bool×World) (pk:=fun i=>(bV i.1)) (wf:=fun i=>i.2) (xs:=[]) (vs:=[]) u trivial Try.call6 (iW (un2 h)) (fun i h a u=>?_);obtain⟨v17,w18⟩:=i;refine qm u rfl fun a u=>?_;refine jI h (fun b20 h=>?_) (fun b20 h=>?_)
 .refine qg u 32 b20 (aI u rfl) fun a u=>qg u 32 b20 (jH u rfl rfl) fun a u=>qg u 32 b20 (aI u rfl) fun a u=>?_;refine jI h (fun b21 h=>?_) (fun b21 h=>?_)
  .refine qn u 35 (tn b21) fun a u=>qn u 35 (tn b21) fun a u=>qg u 32 b20 (aK u rfl b21 rfl) fun a u=>qg u 32 b20 (aI u rfl) fun a u=>qn u 39 (tn rfl) fun a u=>qn u 39 (tn rfl) fun a u=>qn u 39 (tn rfl) fun a u=>qu u 42 fun a u=>qu u 42 fun a u=>qu u 42 fun a u=>qu u 45 fun a u=>qu u 45 fun a u=>qu u 42 fun a u=>qu u 42 fun a u=>qu u 49 fun a u=>qu u 42 fun a u=>qn u 39 (tn rfl) fun a u=>qg u 32 b20 (aK u rfl rfl rfl) fun a u=>q u (aK u rfl b20 rfl) fun a u=>qa u rfl fun a u=>aC<|?_;exact hk16 (true,w18) h _ (u.sb rfl)
  refine qg u 35 (nt b21) (aI u rfl) fun a u=>qg u 35 (nt b21) (jH u rfl rfl) fun a u=>qg u 32 b20 (aM u rfl b21 rfl) fun a u=>qg u 32 b20 (aI u rfl) fun a u=>?_;refine jI h (fun b22 h=>?_) (fun b22 h=>?_)
  .refine qn u 39 (tn b22) fun a u=>qn u 39 (tn b22) fun a u=>qn u 39 (tn b22) fun a u=>qu u 42 fun a u=>qu u 42 fun a u=>qu u 42 fun a u=>qu u 45 fun a u=>qu u 45 fun a u=>qu u 42 fun a u=>qu u 42 fun a u=>qu u 49 fun a u=>qu u 42 fun a u=>qn u 39 (tn b22) fun a u=>qg u 32 b20 (aK u rfl b22 rfl) fun a u=>q u (aK u rfl b20 rfl) fun a u=>qa u rfl fun a u=>aC<|?_;exact hk16 (true,w18) h _ (u.sb rfl)
  refine qg u 39 (nt b22) (aI u rfl) fun a u=>qg u 39 (nt b22) (cC u rfl rfl) fun a u=>qg u 39 (nt b22) (aI u rfl) fun a u=>?_;refine jI h (fun b23 h=>?_) (fun b23 h=>?_)
  .refine qg u 42 b23 (aI u rfl) fun a u=>qg u 42 b23 (fT u rfl) fun a u=>qg u 42 b23 (aI u rfl) fun a u=>?_;refine jI h (fun b24 h=>?_) (fun b24 h=>?_)
   .refine qn u 45 (tn b24) fun a u=>qn u 45 (tn b24) fun a u=>qg u 42 b23 (aK u rfl b24 rfl) fun a u=>qg u 42 b23 (aI u rfl) fun a u=>qn u 49 (tn rfl) fun a u=>qg u 42 b23 (aK u rfl rfl rfl) fun a u=>qg u 39 (nt b22) (aK u rfl b23 rfl) fun a u=>qg u 32 b20 (aM u rfl b22 rfl) fun a u=>q u (aK u rfl b20 rfl) fun a u=>qa u rfl fun a u=>aC<|?_;exact hk16 (true,w18) h _ (u.sb rfl)
   refine qg u 45 (nt b24) (aI u rfl) fun a u=>qg u 45 (nt b24) (fT u rfl) fun a u=>qg u 42 b23 (aM u rfl b24 rfl) fun a u=>qg u 42 b23 (aI u rfl) fun a u=>?_;refine jI h (fun b25 h=>?_) (fun b25 h=>?_)
   .refine qn u 49 (tn b25) fun a u=>qg u 42 b23 (aK u rfl b25 rfl) fun a u=>qg u 39 (nt b22) (aK u rfl b23 rfl) fun a u=>qg u 32 b20 (aM u rfl b22 rfl) fun a u=>q u (aK u rfl b20 rfl) fun a u=>qa u rfl fun a u=>aC<|?_;exact hk16 (true,w18) h _ (u.sb rfl)
   refine qg u 49 (nt b25) (aI u rfl) fun a u=>qg u 42 b23 (aM u rfl b25 rfl) fun a u=>qg u 39 (nt b22) (aK u rfl b23 rfl) fun a u=>qg u 32 b20 (aM u rfl b22 rfl) fun a u=>q u (aK u rfl b20 rfl) fun a u=>qa u rfl fun a u=>aC<|?_;exact hk16 (v9,w18) h _ (u.sb rfl)
  refine qn u 42 (nm b23) fun a u=>qn u 42 (nm b23) fun a u=>qn u 42 (nm b23) fun a u=>qu u 45 fun a u=>qu u 45 fun a u=>qn u 42 (nm b23) fun a u=>qn u 42 (nm b23) fun a u=>qu u 49 fun a u=>qn u 42 (nm b23) fun a u=>qg u 39 (nt b22) (aM u rfl b23 rfl) fun a u=>qg u 32 b20 (aM u rfl b22 rfl) fun a u=>q u (aK u rfl b20 rfl) fun a u=>qa u rfl fun a u=>aC<|?_;exact hk16 (false,w18) h _ (u.sb rfl)
 refine qn u 32 (nm b20) fun a u=>qn u 32 (nm b20) fun a u=>qn u 32 (nm b20) fun a u=>qu u 35 fun a u=>qu u 35 fun a u=>qn u 32 (nm b20) fun a u=>qn u 32 (nm b20) fun a u=>qu u 39 fun a u=>qu u 39 fun a u=>qu u 39 fun a u=>qu u 42 fun a u=>qu u 42 fun a u=>qu u 42 fun a u=>qu u 45 fun a u=>qu u 45 fun a u=>qu u 42 fun a u=>qu u 42 fun a u=>qu u 49 fun a u=>qu u 42 fun a u=>qu u 39 fun a u=>qn u 32 (nm b20) fun a u=>q u (aM u rfl b20 rfl) fun a u=>qa u rfl fun a u=>aC<|?_;exact hk16 (false,w18) h _ (u.sb rfl)
theorem uP {a b c:List Sd} (h1:(nQ a b).2=0) (h2:(nQ b c).2=0):(nQ a c).2=0/\((nQ a b).1=true->(nQ b c).1=true->(nQ a c).1=true):=by
 unfold nQ at *;by_cases ka:gC a=0
 .by_cases kb:gC b=0
  .by_cases kc:gC c=0
   .simp only[ka,kb,kc,ne_eq,not_true_eq_false,if_false];exact⟨trivial,fun x y=>qB (iO ka).2 (iO kb).2 (iO kc).2 x y⟩
   simp[kb,kc] at h2
  simp[ka,kb] at h1
 simp[ka] at h1
theorem CoverChain_law {w:World} (s1:Sl) (b1:List Sd) (hs1:PL sdR 12 (old w) w s1 b1) (s2:Sl) (b2:List Sd) (hs2:PL sdR 12 (old w) w s2 b2) (s3:Sl) (b3:List Sd) (hs3:PL sdR 12 (old w) w s3 b3):(cT s1 s2 s3 w).t fun r=>r.1=true/\Fr (fun k=>w.heap.size<=k) w r.2:=by
 have H:Hp (fun _=>False) (old w) w (old w) w []:=Hp.beg (uH w);unfold cT;obtain⟨⟨v,ve,w2⟩,e2,hv,H2,m2⟩:=kB hs1 hs2 H;simp only at hv H2 m2;obtain⟨⟨u,ue,w3⟩,e3,hu,H3,m3⟩:=kB (PL.mo (R:=sdR) gO hs2 m2) (PL.mo (R:=sdR) gO hs3 m2) H2;simp only at hu H3 m3;obtain⟨⟨x,xe,w4⟩,e4,hx,H4,m4⟩:=kB (PL.mo (R:=sdR) gO hs1 (m2.t m3)) (PL.mo (R:=sdR) gO hs3 (m2.t m3)) H3;simp only at hx H4 m4;refine Nd.b3 e2 (Nd.b3 e3 (Nd.b3 e4 (Nd.j2 (Ψ:=fun r=>r.1=true/\Fr (fun k=>w.heap.size<=k) w r.2) (Nd.j2 (Ψ:=fun r=>r.1=true/\∃ g,Hp (fun _=>False) (old w) w g r.2 []) (qY H4 fun g' w' H' m'=>⟨rfl,g',H'⟩) ?_) fun a b h=>Nd.ret h)));rintro _ w1 ⟨rfl,g1,H1⟩;simp only at H1;have fin:∀ {b:Bool},b=true->b=true/\Fr (fun k=>w.heap.size<=k) w w1:=fun h=>⟨h,H1.fin⟩;refine Nd.t rfl ?_;by_cases h1:ve=0
 case neg=>exact Nd.t (by simpa using h1) (Nd.ret (fin rfl))
 by_cases h2:ue=0
 case neg=>exact Nd.f (by simp[h1]) (Nd.t (by simpa using h2) (Nd.ret (fin rfl)))
 obtain⟨t1,t2⟩:=uP (a:=b1) (b:=b2) (c:=b3) (by rw[<-hv];exact h1) (by rw[<-hu];exact h2);rw[<-hx] at t1 t2;rw[<-hv,<-hu] at t2;refine Nd.f (by simp[h1]) (Nd.f (by simp[h2]) (Nd.t (by simpa using t1) ?_))
 cases v with
 | false=>exact Nd.t rfl (Nd.ret (fin rfl))
 | true =>
  cases u with
  | false=>exact Nd.f (by decide) (Nd.t rfl (Nd.ret (fin rfl)))
  | true=>exact Nd.f (by decide) (Nd.f (by decide) (Nd.ret (fin (t2 rfl rfl))))
end
end Go.Proofs.Ytggheaclnklhaaa.D
