/- EvlogRoom -/
import Derived.ChangeArms
import GoSem.ClaimJoined
import Derived.Test.YtejkaciimmfgcaaPEvlogRoomA
import Derived.Test.YtejkaciimmfgcaaPEvlogRoomB
import Derived.Test.YtejkaciimmfgcaaPEvlogRoomC
namespace Go.Proofs.Ytejkaciimmfgcaa.D
open Go
set_option linter.unusedVariables false
set_option linter.unusedSimpArgs false
set_option maxHeartbeats 1000000
set_option maxRecDepth 100000
noncomputable section
theorem aAH {D:Dk} {base pos:Int} (hbt:D.Bt):∀ {m:Nat} {i want:Int} {all:List Int} {r:Int×List Int×Int},D.rcd base pos m i want all=some r->bU all->bU r.2.1/\r.2.1.length<=all.length+59*m
 | 0,_,_,_,_,h,_=>by cases h
 | m+1,i,want,all,r,h,ha=>by
  have hgl:=vL (D.look base pos i);have hgb:bU (bL (D.look base pos i)).2.1:=qU (nU hbt);have hab:bU (all++(bL (D.look base pos i)).2.1):=fun b hb=>by
   rcases aIG.1 hb with h' | h'
   .exact ha b h'
   exact hgb b h'
  unfold Dk.rcd at h;split at h
  .split at h
   .split at h
    .cases h
    cases h;refine⟨fun b hb=>hab b (aJC hb),?_⟩;simp only[aIY,aIE];omega
   have:=aAH hbt h hab;refine⟨this.1,?_⟩;have h2:=this.2;rw[aIE] at h2;omega
  cases h
structure aFl (o:Int×Int×List (Int×List Int)):Prop where
 f0:1<=o.1
 f1:o.1<=16
 h0:0<=o.2.1
 h1:o.2.1<=1099511627776
 rn:(o.2.2.length:Int)<o.1
 rb:∀ r∈o.2.2,r.2.length<=1000/\bU r.2/\r.1<=o.2.1
theorem aEa {D:Dk} {base pos:Int} (hbt:D.Bt):∀ (m:Nat) (e h:Int) (rs:List (Int×List Int)),aFl (e,h,rs)->aFl (D.seg base pos m e h rs)
 | 0,e,h,rs,hs=>hs
 | m+1,e,h,rs,hs=>by
  have f0:=hs.f0;have f1:=hs.f1;have h0:=hs.h0;have h1:=hs.h1;have rn:=hs.rn;have rb:=hs.rb;simp only at f0 f1 h0 h1 rn rb;unfold Dk.seg;split
  .rename_i t b nx hr;have hn:e+1<=nx/\nx<=e+((16-e).toNat:Int):=rR hr;have hb:=aAH hbt hr (fun b hb=>by cases hb);split
   .rename_i hc;refine aEa hbt m nx t _ ⟨by simp only;omega,by simp only;omega,by simp only;omega,hc.2,by simp only[aIE,aIH,aIS];omega,fun r hr'=>?_⟩;rcases aIG.1 hr' with h' | h'
    .have:=rb r h';exact⟨this.1,this.2.1,by simp only;omega⟩
    simp at h';subst h';refine⟨?_,hb.1,aIZ _⟩;have:=hb.2;simp only[aIS] at this;simp only;omega
   exact hs
  exact hs
theorem aEh {D:Dk} {base pos:Int}:∀ (m:Nat) (e h:Int) (rs:List (Int×List Int)),h<=(D.seg base pos m e h rs).2.1
 | 0,e,h,rs=>aIZ _
 | m+1,e,h,rs=>by
  unfold Dk.seg;split
  .split
   .rename_i t b nx _ hc;have:=aEh (D:=D) (base:=base) (pos:=pos) m nx t (rs++[(t,b)]);omega
   exact aIZ _
  exact aIZ _
theorem aBW {D:Dk} {base segs:Int} (hbt:D.Bt):∀ {us:List Sg} {h:Int} {ds:List Sg},(∀ s∈us,0<=s.pos/\s.pos<segs/\1<=s.seq/\s.seq<=4611686018427387904/\s.fin=1/\0<=s.high/\s.high<=1099511627776/\s.recs=[])->0<=h->h<=1099511627776->(∀ s∈ds,s.Wf segs/\s.high<=h) ->
  (∀ s∈(D.segs base us h ds).2,s.Wf segs/\s.high<=(D.segs base us h ds).1)/\0<=(D.segs base us h ds).1/\(D.segs base us h ds).1<=1099511627776
 | [],h,ds,hu,h0,h1,hd=>⟨hd,h0,h1⟩
 | u::us,h,ds,hu,h0,h1,hd=>by
  obtain⟨a1,a2,a3,a4,a5,a6,a7,a8⟩:=hu u (by simp);have ho:=aEa (base:=base) (pos:=u.pos) hbt 16 u.fin (max h u.high) [] ⟨by simp only;omega,by simp only;omega,by simp only;omega,by simp only;omega,by simp only[aIS];omega,fun r hr=>by cases hr⟩;have hmx:=(aEh (D:=D) (base:=base) (pos:=u.pos) 16 u.fin (max h u.high) []);rw[Dk.segs];refine aBW hbt (fun s hs=>hu s (by simp[hs])) ho.h0 ho.h1 fun s hs=>?_;rcases aIG.1 hs with h' | h'
  .exact⟨(hd s h').1,by have:=(hd s h').2;omega⟩
  simp at h';subst h';exact⟨⟨a1,a2,a3,a4,ho.f0,ho.f1,ho.h0,ho.h1,ho.rn,ho.rb⟩,aIZ _⟩
theorem wV {x:Sg}:∀ {l:List Sg},(qC x l).Perm (x::l)
 | []=>List.Perm.refl _
 | y::l=>by
  unfold qC;split
  .exact(List.Perm.cons y wV).trans (List.Perm.swap _ _ _)
  exact List.Perm.refl _
theorem aCI {x:Sg} {l:List Sg}:(jM l x).Perm (x::l):=by
 unfold jM;exact(List.reverse_perm _).trans (wV.trans (List.Perm.cons x (List.reverse_perm l)))
theorem uL:∀ {us l:List Sg},(us.foldl jM l).Perm (us++l)
 | [],l=>List.Perm.refl _
 | u::us,l=>by
  rw[aJn];exact uL.trans ((List.Perm.append_left us aCI).trans aKi)
theorem aAi {D:Dk} {base:Int}:∀ (n:Nat),((D.heads base n).map fun s=>s.pos).Nodup
 | 0=>by simp[Dk.heads]
 | n+1=>by
  rw[sM,aLq,aLc];refine⟨aAi n,?_,fun a ha b hb=>?_⟩
  .cases nA (n:Int) (D.look base n 0)<;>simp
  obtain⟨s,hs,rfl⟩:=aIP.1 ha;obtain⟨u,hu,rfl⟩:=aIP.1 hb;have h1:=pC hs
  cases hh:nA (n:Int) (D.look base n 0) with
  | none=>rw[hh] at hu;simp at hu
  | some v =>
   rw[hh] at hu;simp at hu;subst hu;have:=(aAE hh).1;omega
theorem aAD {D:Dk} {base segs:Int} (hbt:D.Bt) (hs:D.S.length<=512) (hl:mQ D.S.length base segs=true):(D.readL base segs).Wf:=by
 obtain⟨s0,s1,b0,b1⟩:=uB hl;have hr:=aFH (D:=D) (base:=base) (i:=0) (aIZ _);have hh:∀ s∈(D.heads base segs.toNat).foldl jM [],s∈D.heads base segs.toNat:=fun s hs=>by
  rcases mX hs with h | h
  .exact h
  cases h
 have hk:=aBW (D:=D) (base:=base) (segs:=segs) hbt (us:=(D.heads base segs.toNat).foldl jM []) (h:=0) (ds:=[]) (fun s hs=>by have:=pC (hh s hs);exact⟨this.1,by omega,this.2.2⟩) (aIZ _) (by decide) (fun s hs=>by cases hs);refine⟨b0,by show base<=512;omega,s0,s1,?_,hr.1,?_,fun s hs=>(hk.1 s hs).1,?_,fun s hs=>?_⟩
 .show max _ _<=(1099511627776:Int);omega
 .show(D.get base 1 0).1<=max _ _;omega
 .show((D.segs base ((D.heads base segs.toNat).foldl jM []) 0 []).2.map fun s=>s.pos).Nodup;rw[vI];have hp:((D.heads base segs.toNat).foldl jM []).Perm (D.heads base segs.toNat):=by simpa using uL (us:=D.heads base segs.toNat) (l:=[])
  simpa using(hp.map fun s=>s.pos).nodup_iff.2 (aAi _)
 have:=(hk.1 s hs).2;show s.high<=max _ _;omega
theorem vB {base rel:Int}:∀ {us:List Sg} {D:Dk},((D.free base rel us).2.2).Sublist us
 | [],D=>List.Sublist.refl _
 | u::us,D=>by
  rw[jG];split
  .exact List.Sublist.cons_cons u vB
  split
  .exact List.Sublist.cons u vB
  exact List.nil_sublist _
theorem Lg.Wf.sub {l:Lg} (h:l.Wf) {us:List Sg} (hs:us.Sublist l.used):(⟨l.base,l.segs,l.age,l.high,l.rel,us⟩:Lg).Wf :=
 ⟨h.b0,h.b1,h.s0,h.s1,h.h1,h.r0,h.r1,fun s hs'=>h.seg s (hs.subset hs'),(hs.map _).nodup h.nd,fun s hs'=>h.hh s (hs.subset hs')⟩
theorem aCd {D:Dk} {l k:Lg} (h:l.Wf) (hk:(D.tidy l).2.2=some k):k={ l with used:=(D.free l.base l.rel l.used).2.2 }/\k.Wf:=by
 have:k={ l with used:=(D.free l.base l.rel l.used).2.2 }:=by
  unfold Dk.tidy at hk;split at hk;· cases hk
  split at hk;· cases hk
  split at hk
  .split at hk
   .cases hk
   cases hk;rfl
  cases hk;rfl
 refine⟨this,?_⟩;rw[this];exact h.sub vB
theorem aAJ {base:Int} {us:List Sg} (D:Dk) (h:∀ s∈us,1<=s.fin):D.To (wipeLast D base us).2.2 16:=by
 unfold wipeLast;split
 .rename_i s hs;have:=h s (aIL hs);have h1:=tC (base:=base) (pos:=s.pos) (16-s.fin).toNat D s.fin 0;exact h1.t (Dk.To.r (k:=0)) (by omega)
 exact Dk.To.r
theorem aEU {D:Dk} {l:Lg} (h:∀ s∈l.used,1<=s.fin) (hl:l.used.length<=16):D.To (D.tidy l).2.1 1000:=by
 have h1:=rD (base:=l.base) (rel:=l.rel) l.used D;have h2:D.To (wipeLast (D.free l.base l.rel l.used).2.1 l.base (D.free l.base l.rel l.used).2.2).2.2 40:=h1.t (aAJ _ (fun s hs=>h s (nH hs))) (by omega);unfold Dk.tidy;split;· exact h1.t (Dk.To.r (k:=0)) (by omega)
 split;· exact h2.t (Dk.To.r (k:=0)) (by omega)
 split
 .split<;>exact(h2.t (rT _) (aIv _)).t (Dk.To.r (k:=0)) (by omega)
 exact h2.t (Dk.To.r (k:=0)) (by omega)
theorem aEy {D:Dk} {base segs:Int}:D.To (D.openL base segs).2.1 1000:=by
 unfold Dk.openL;split;· exact Dk.To.r
 split
 .rename_i hl;obtain⟨s0,s1,b0,b1⟩:=uB hl;have:=uF (D:=D) (base:=base) (segs:=segs);exact aEU (fun s hs=>by have:=rZ hs;omega) (by omega)
 exact Dk.To.r
theorem aEX {D:Dk} {base segs:Int} {l:Lg} (hbt:D.Bt) (hs:D.S.length<=512) (h:(D.openL base segs).2.2=some l):l.Wf/\l.base=base/\l.segs=segs/\l.age=D.age/\base+2+segs*16<=D.S.length:=by
 unfold Dk.openL at h;split at h;· cases h
 split at h
 .rename_i hl;obtain⟨s0,s1,b0,b1⟩:=uB hl;obtain⟨hk,hw⟩:=aCd (aAD hbt hs hl) h;refine⟨hw,?_,?_,?_,by omega⟩<;>rw[hk]<;>rfl
 cases h
theorem aFv {D:Dk} {l:Lg} (h:(D.fresh l).1=0):¬ l.segs<=l.used.length/\¬ 4611686018427387904<nJ l.used:=by
 unfold Dk.fresh at h;split at h;· simp at h
 split at h;· simp at h
 rename_i h1 h2;exact⟨h1,h2⟩
theorem wZ {D:Dk} {l:Lg} {t:Int} {body:List Int} (hw:l.Wf) (hb:bU body):(D.appendL l t body).2.2.Wf/\(D.appendL l t body).2.2.base=l.base/\(D.appendL l t body).2.2.segs=l.segs/\(D.appendL l t body).2.2.age=l.age:=by
 unfold Dk.appendL;split;· exact⟨hw,rfl,rfl,rfl⟩
 split;· exact⟨hw,rfl,rfl,rfl⟩
 split;· exact⟨hw,rfl,rfl,rfl⟩
 rename_i h1 h2 h3;by_cases h4:fY l.used (bN body)=true/\(D.fresh l).1≠0
 .rw[if_pos h4];exact⟨hw,rfl,rfl,rfl⟩
 rw[if_neg h4];obtain⟨r,hr⟩:∃ r,(if fY l.used (bN body)=true then (D.fresh l).2 else D).puts l.base (iR l (bN body)).pos (bN body) (iR l (bN body)).fin 2 (fK t++body)=r:=⟨_,rfl⟩;rw[hr];by_cases h5:r.1≠0
 .rw[if_pos h5];exact⟨hw,rfl,rfl,rfl⟩
 rw[if_neg h5];refine⟨?_,rfl,rfl,rfl⟩;have hr0:=hw.r0;have hr1:=hw.r1;have hs0:=hw.s0;have hsb:bN body<=7/\1<=bN body:=by unfold bN;omega
 have hf:=nL (us:=l.used) (segs:=l.segs) (by omega) hw.nd (fun s hs=>⟨(hw.seg s hs).p0,(hw.seg s hs).p1⟩)
 -- the segment,as it was
 have cur:∃ pre:List Sg,(if fY l.used (bN body)=true then l.used else l.used.dropLast)=pre/\pre.Sublist l.used/\(∀ s∈pre,s.pos≠(iR l (bN body)).pos)/\0<=(iR l (bN body)).pos/\(iR l (bN body)).pos<l.segs/\1<=(iR l (bN body)).seq/\(iR l (bN body)).seq<=4611686018427387904/\1<=(iR l (bN body)).fin/\(iR l (bN body)).fin+bN body<=16 /\
   ((iR l (bN body)).recs.length:Int)<(iR l (bN body)).fin/\∀ r∈(iR l (bN body)).recs,r.2.length<=1000/\bU r.2/\r.1<t:=by
  unfold iR
  cases hbg:fY l.used (bN body) with
  | true =>
   have h0:=aFv (D:=D) (l:=l) (by simpa[hbg] using h4);have hq:1<=nJ l.used:=by
    unfold nJ
    cases h:l.used.getLast? with
    | none=>simp
    | some u=>have:=(hw.seg u (aIL h)).q0;simp only;omega
   refine⟨l.used,by simp,List.Sublist.refl _,?_,?_⟩
   .intro s hs he;have:=vT (us:=l.used);exact this (aIP.2 ⟨s,hs,by simpa using he⟩)
   simp only[if_true,aIS];exact⟨hf.1,by have:=hf.2.1;have:=hf.2.2;omega,hq,by omega,by omega,by omega,by omega,fun r hr=>by cases hr⟩
  | false =>
   cases hg:l.used.getLast? with
   | none=>unfold fY at hbg;rw[hg] at hbg;cases hbg
   | some u =>
    have hu:=aIL hg;have hsw:=hw.seg u hu;have hbf:¬ 16<u.fin+(bN body:Int):=by unfold fY at hbg;rw[hg] at hbg;simpa using hbg
    have hne:l.used≠[]:=by intro e;rw[e] at hg;cases hg
    have hus:l.used=l.used.dropLast++[u]:=by
     have:=aJP hne;rw[aKj hne] at hg;cases hg;exact this.symm
    have hnd:=hw.nd;rw[hus,aLq,aLc] at hnd;refine⟨l.used.dropLast,by simp,List.dropLast_sublist _,?_,?_⟩
    .intro s hs he;exact hnd.2.2 s.pos (aIP.2 ⟨s,hs,rfl⟩) u.pos (by simp) (by simpa using he)
    simp only[aJb];simp;exact⟨hsw.p0,hsw.p1,hsw.q0,hsw.q1,hsw.f0,by omega,hsw.rn,fun a b hr=>by have:=hsw.rb (a,b) hr;exact⟨this.1,this.2.1,by have:=this.2.2;have:=hw.hh u hu;simp only at *;omega⟩⟩
 obtain⟨pre,hpre,hsub,hpos,c1,c2,c3,c4,c5,c6,c7,c8⟩:=cur;unfold oF;rw[hpre];refine⟨hw.b0,hw.b1,hw.s0,hw.s1,?_,hw.r0,?_,fun s hs=>?_,?_,fun s hs=>?_⟩
 .show t<=1099511627776;omega
 .show l.rel<=t;omega
 .rcases aIG.1 hs with h' | h'
  .exact hw.seg s (hsub.subset h')
  simp at h';subst h';refine⟨c1,c2,c3,c4,by simp only;omega,by simp only;omega,by simp only;omega,by simp only;omega,by simp only[aIE,aIH,aIS];omega,fun r hr=>?_⟩;rcases aIG.1 hr with h' | h'
  .have:=c8 r h';exact⟨this.1,this.2.1,by simp only;omega⟩
  simp at h';subst h';exact⟨by simp only;omega,hb,aIZ _⟩
 .show(List.map (fun s:Sg=>s.pos) (pre++[_])).Nodup;rw[aLq,aLc];refine⟨(hsub.map _).nodup hw.nd,by simp,fun a ha b hb=>?_⟩;obtain⟨s,hs,rfl⟩:=aIP.1 ha;simp at hb;rw[hb];exact hpos s hs
 rcases aIG.1 hs with h' | h'
 .have:=hw.hh s (hsub.subset h');show s.high<=t;omega
 simp at h';subst h';exact aIZ _
theorem zD {D:Dk} {l:Lg} {t:Int} (hw:l.Wf):(D.chopL l t).2.2.Wf/\(D.chopL l t).2.2.base=l.base/\(D.chopL l t).2.2.segs=l.segs/\(D.chopL l t).2.2.age=l.age:=by
 unfold Dk.chopL;split;· exact⟨hw,rfl,rfl,rfl⟩
 split;· exact⟨hw,rfl,rfl,rfl⟩
 split;· exact⟨hw,rfl,rfl,rfl⟩
 split;· exact⟨hw,rfl,rfl,rfl⟩
 split;· exact⟨hw,rfl,rfl,rfl⟩
 rename_i h1 h2 h3 h4 h5;have h:=hw.sub (us:=((D.put l.base 1 0 t).2.free l.base t l.used).2.2) vB;have hr0:=hw.r0;have key:(⟨l.base,l.segs,l.age,l.high,t,((D.put l.base 1 0 t).2.free l.base t l.used).2.2⟩:Lg).Wf:=⟨h.b0,h.b1,h.s0,h.s1,h.h1,by show 0<=t;omega,by show t<=l.high;omega,h.seg,h.nd,h.hh⟩;split
 .split
  .exact⟨hw,rfl,rfl,rfl⟩
  exact⟨key,rfl,rfl,rfl⟩
 exact⟨key,rfl,rfl,rfl⟩
structure Dk.Calm (D:Dk):Prop where
 l:D.left=0
 d:D.down=false
theorem Dk.Calm.trips {D:Dk} (h:D.Calm):D.trips=(false,D):=by unfold Dk.trips;rw[if_pos h.l]
theorem qO {D:Dk} (h:D.Calm) {i:Int} {b:List Int} (hi:0<=i/\i<D.S.length) (hb:b.length<=64):(D.write i b).1=0/\(D.write i b).2.Calm:=by
 unfold Dk.write;rw[if_neg (by simp[h.d]),if_neg (by simp[Dk.bad];omega),if_neg (by omega),h.trips];simp only[aIx,if_false,true_and];exact⟨h.l,h.d⟩
theorem aAn {D:Dk} (h:D.Calm) (i:Int) (b:List Int):(D.write i b).2.Calm:=by
 unfold Dk.write;split;· exact h
 split;· exact h
 split;· exact h
 rw[h.trips];simp only[aIx,if_false];exact⟨h.l,h.d⟩
theorem xJ {D:Dk} (h:D.Calm):D.sync.1=0/\D.sync.2.Calm:=by
 unfold Dk.sync;rw[if_neg (by simp[h.d]),h.trips];simp only[aIx,if_false,true_and];exact⟨h.l,h.d⟩
theorem uC {base rel segs:Int} (h0:0<=base):∀ {us:List Sg} {D:Dk},D.Calm->(∀ s∈us,0<=s.pos/\s.pos<segs)->base+2+segs*16<=D.S.length->(D.free base rel us).1=0/\(D.free base rel us).2.1.Calm
 | [],D,h,_,_=>⟨rfl,h⟩
 | s::l,D,h,hs,hn=>by
  rw[jG];have h1:=hs s (by simp);split
  .exact uC h0 h (fun x hx=>hs x (by simp[hx])) hn
  obtain⟨e,c⟩:=qO h (i:=base+2+s.pos*16+0) (b:=[]) (by omega) (by simp);rw[if_pos e];exact uC h0 c (fun x hx=>hs x (by simp[hx])) (by rw[rB];exact hn)
theorem rU {base pos:Int} (h0:0<=base+2+pos*16):∀ (m:Nat) (D:Dk) (i n:Int),D.Calm->0<=i->i+m<=16->base+2+pos*16+16<=D.S.length->(D.wipe base pos m i n).2.1=0/\(D.wipe base pos m i n).2.2.Calm
 | 0,D,i,n,h,_,_,_=>⟨rfl,h⟩
 | m+1,D,i,n,h,hi,hm,hn=>by
  unfold Dk.wipe;split
  .exact rU h0 m D (i+1) n h (by omega) (by omega) hn
  obtain⟨e,c⟩:=qO h (i:=base+2+pos*16+i) (b:=[]) (by omega) (by simp);rw[if_pos e];exact rU h0 m _ (i+1) (n+1) c (by omega) (by omega) (by rw[rB];exact hn)
theorem wM {base segs:Int} (h0:0<=base) {us:List Sg} {D:Dk} (h:D.Calm) (hs:∀ s∈us,0<=s.pos/\s.pos<segs/\1<=s.fin/\s.fin<=16) (hn:base+2+segs*16<=D.S.length):(wipeLast D base us).2.1=0/\(wipeLast D base us).2.2.Calm:=by
 unfold wipeLast;split
 .rename_i s hg;have:=hs s (aIL hg);exact rU (by omega) _ D s.fin 0 h (by omega) (by omega) (by omega)
 exact⟨rfl,h⟩
theorem aCr {D:Dk} {base segs:Int} (h:D.Calm) (hl:mQ D.S.length base segs=true):(D.openL base segs).1=0/\(D.openL base segs).2.1.Calm/\∃ l,(D.openL base segs).2.2=some l:=by
 obtain⟨s0,s1,b0,b1⟩:=uB hl;have hm:∀ s∈(D.readL base segs).used,0<=s.pos/\s.pos<segs/\1<=s.fin/\s.fin<=16:=fun s hs=>by have:=rZ hs;omega
 unfold Dk.openL;rw[if_neg (by simp[h.d]),if_pos hl];obtain⟨R,hR⟩:∃ R,D.readL base segs=R:=⟨_,rfl⟩;have hRb:R.base=base:=by rw[<-hR];rfl
 rw[hR] at hm ⊢;unfold Dk.tidy;rw[hRb];obtain⟨e1,c1⟩:=uC (rel:=R.rel) b0 h (fun s hs=>⟨(hm s hs).1,(hm s hs).2.1⟩) (by omega);have hS:=(rD (base:=base) (rel:=R.rel) R.used D).s;obtain⟨e2,c2⟩:=wM (us:=(D.free base R.rel R.used).2.2) b0 c1 (fun s hs=>hm s (nH hs)) (by omega);obtain⟨e3,c3⟩:=xJ c2;rw[if_neg (by simp[e1]),if_neg (by simp[e2])];split
 .rw[if_neg (by simp[e3])];exact⟨rfl,c3,_,rfl⟩
 exact⟨rfl,c2,_,rfl⟩
theorem aAm {k:Int} {p:List Int} {b:Bool} (h:p.length<=59):(lL k p b).length<=64:=by
 unfold lL;simp only[aIE,aIH,aIS,aIM];omega
theorem aBr {D:Dk} {l:Lg} (h:D.Calm) (hw:l.Wf) (hn:l.base+2+l.segs*16<=D.S.length) (hu:l.used.length<l.segs) (hq:nJ l.used<=4611686018427387904):(D.fresh l).1=0/\(D.fresh l).2.Calm:=by
 have hf:=nL (us:=l.used) (segs:=l.segs) (by omega) hw.nd (fun s hs=>⟨(hw.seg s hs).p0,(hw.seg s hs).p1⟩);have hb:=hw.b0;obtain⟨pp,hpp⟩:∃ pp,iI l.used l.used.length 0=pp:=⟨_,rfl⟩;rw[hpp] at hf;unfold Dk.fresh;rw[if_neg (by omega),if_neg (by omega),hpp];have hlt:pp<l.segs:=by have:=hf.2.1;have:=hf.2.2;omega
 obtain⟨e1,c1⟩:=rU (base:=l.base) (pos:=pp) (by omega) 16 D 0 0 h (by omega) (by omega) (by omega);have hS:=(tC (base:=l.base) (pos:=pp) 16 D 0 0).s;obtain⟨e2,c2⟩:=xJ c1;rw[if_neg (by simp[e1]),if_neg (by simp[e2])];exact qO c2 (by rw[aBe,hS];omega) (aAm (by simp[gU]))
theorem wT {base pos:Int} (h0:0<=base+2+pos*16):∀ (m:Nat) (D:Dk) (i k:Int) (all:List Int),D.Calm->0<=i->i+m<=16->base+2+pos*16+16<=D.S.length->(D.puts base pos m i k all).1=0/\(D.puts base pos m i k all).2.Calm
 | 0,D,i,k,all,h,_,_,_=>⟨rfl,h⟩
 | m+1,D,i,k,all,h,hi,hm,hn=>by
  unfold Dk.puts;split
  .exact⟨rfl,h⟩
  obtain⟨e,c⟩:=qO h (i:=base+2+pos*16+i) (b:=lL k (all.take (min 59 all.length)) (min 59 all.length==all.length)) (by omega) (aAm (by rw[aIN];omega));rw[if_pos e];exact wT h0 m _ (i+1) 3 _ c (by omega) (by omega) (by rw[rB];exact hn)
structure PL {α:Type} (R:Gh->World->List Value->α->Prop) (sz:Nat) (g:Gh) (w:World) (s:Sl) (xs:List α):Prop where
 len:s.n=xs.length
 at_:∀ (i:Nat) (x:α),xs[i]?=some x->∃ a cs,ix s (i:Int) sz=some a/\g a.block/\cs.length=sz/\R g w cs x/\∀ j v,cs[j]?=some v->w.cell? (a.add j)=some v
theorem PL.mo {α:Type} {R:Gh->World->List Value->α->Prop} (hR:∀ {g w g' w' cs x},R g w cs x->Mo g w g' w'->R g' w' cs x) {sz:Nat} {g g':Gh} {w w':World} {s:Sl} {xs:List α} (h:PL R sz g w s xs) (m:Mo g w g' w'):PL R sz g' w' s xs :=
 ⟨h.len,fun i x hx=>by
  obtain⟨a,cs,e,hg,hl,hr,hc⟩:=h.at_ i x hx;have hb:∀ j,(a.add j).block=a.block:=fun j=>by unfold Addr.add;split<;>rfl
  exact⟨a,cs,e,(m.keep _ hg).1,hl,hR hr m,fun j v hv=>m.cell (by rw[hb];exact hg) (hc j v hv)⟩⟩
theorem PL.nil {α:Type} {R:Gh->World->List Value->α->Prop} {sz:Nat} {g:Gh} {w:World} {s:Sl} (h:s.n=0):PL R sz g w s []:=⟨by simp[h],fun i x hx=>by simp at hx⟩
def old (w:World):Gh:=fun k=>k<w.heap.size
theorem aFZ (w:World):∀ k,old w k->k<w.heap.size:=fun _ h=>h
theorem PR.of_arg {w:World} {s:Sl} {sz:Nat} {cs:List Value} (h:Arg w.heap.size w s sz cs):PR (old w) w s sz cs:=⟨h.rd,fun a ha h0=>h.lo a ha h0⟩
theorem Hp.fin {g g0:Gh} {w w0:World} {L:List Rs} (H:Hp (fun _=>False) g0 w0 g w L) {S:Nat->Prop}:Fr S w0 w:=H.sp.fr.mono fun _ h=>h.elim
structure Bp (g:Gh) (w:World) (b:Nat) (cs:List Value) (T:TypeId):Prop where
 per:g b
 at_:B w b=some (cs,T)
theorem Bp.mo {g g':Gh} {w w':World} {b:Nat} {cs:List Value} {T:TypeId} (h:Bp g w b cs T) (m:Mo g w g' w'):Bp g' w' b cs T :=
 ⟨(m.keep _ h.per).1,by have:=(m.keep _ h.per).2;have h2:=h.at_;unfold B at h2 ⊢;rw[this];exact h2⟩
theorem Hp.boxK {F0:Nat->Prop} {g g0:Gh} {w w0:World} {L:List Rs} (H:Hp F0 g0 w0 g w L) (T:TypeId) (cs:List Value):∃ b g' w',D.mk w T cs=some (⟨b,0,none⟩,w')/\Hp F0 g0 w0 g' w' L/\Mo g w g' w'/\Bp g' w' b cs T:=by
 obtain⟨b,w',e,H1,m1⟩:=H.box (T:=T) (cs:=cs);have hb:=H1.bx;obtain⟨g',F,h1,h2,H2,m2⟩:=H1.keep;exact⟨b,g',w',e,H2,m1.t m2,h2 _ ((h1.2 _).2 rfl),hb⟩
section
variable {H : Type} {enc : TypeId × Value -> H} {P : Program} {w : World} {base fuel : Nat} {spare : Nat -> Bool} {held : Bool} {t e : TypeId} {cs : List Value} {x : DataW H × List MemPlace} {Bd : Nat}
theorem aFc {el:List (DataW H)} {y:DataW H} (hy:y∈el):∀ v∈y.weights P e,v∈DataW.weightsAll P e el:=by
 induction el with
 | nil=>cases hy
 | cons d el ih =>
  intro v hv;simp only[DataW.weightsAll,aIG];rcases aJI.1 hy with rfl | hy
  .exact .inl hv
  exact .inr (ih hy v hv)
theorem xD {el sp:List (DataW H)} (ht:P.underlying t=some (.slice e)) (h:∀ v∈(DataW.slice el sp).weights P t,v<=Bd):(el.length+sp.length)*P.bytesOf e<=Bd/\∀ y∈el,∀ v∈y.weights P e,v<=Bd:=by
 simp only[DataW.weights,ht] at h;exact⟨h _ (List.mem_cons_self ..),fun y hy v hv=>h v (aKM _ (aIG.2 (.inl (aFc hy v hv))))⟩
theorem vD:∀ (ts:List TypeId) (l:List (DataW H)) (i:Nat) (t:TypeId) (d:DataW H),ts[i]?=some t->l[i]?=some d->∀ v∈d.weights P t,v∈DataW.weightsEach P ts l
 | [],_,_,_,_,h,_=>by simp at h
 | _::_,[],_,_,_,_,h=>by simp at h
 | t'::ts,d'::l,0,t,d,h,k=>by
  simp at h k;subst h;subst k;intro v hv;simp only[DataW.weightsEach,aIG];exact .inl hv
 | t'::ts,d'::l,i+1,t,d,h,k=>by
  intro v hv;simp only[DataW.weightsEach,aIG];exact .inr (vD ts l i t d (by simpa using h) (by simpa using k) v hv)
theorem vW {parts:List (DataW H)} {fs:Array Field} (ht:P.underlying t=some (.struct fs)) (h:∀ v∈(DataW.agg parts).weights P t,v<=Bd) (i:Nat) (f:Field) (p:DataW H) (hf:fs[i]?=some f) (hp:parts[i]?=some p):∀ v∈p.weights P f.type,v<=Bd:=by
 simp only[DataW.weights,ht] at h;exact fun v hv=>h v (vD _ _ i f.type p (by rw[aJA,Array.getElem?_toList,hf];rfl) hp v hv)
theorem sized_arg {ts:List TypeId} {l:List (DataW H)} (h:(DataW.weightsEach P ts l).all (·<=reachBytes)=true) {i:Nat} {t:TypeId} {d:DataW H} (ht:ts[i]?=some t) (hd:l[i]?=some d):∀ v∈d.weights P t,v<=140737488351232:=by
 intro v hv;have:=aIw.1 h v (vD ts l i t d ht hd v hv);exact of_decide_eq_true this
theorem aBf {k:IntKind} (ht:P.underlying t=some (.slice e)) (he:P.underlying e=some (.int k)) (hc:P.cellsOf e=1) (hb:0<P.bytesOf e) (h:DataW.trod enc P w base spare held fuel t cs=some x) (hx:∀ v∈x.1.weights P t,v<=Bd) :
  ∃ s xs,cs=[Sl.v s]/\Rd w s 1 (nums k xs)/\s.n<=Bd:=by
 rcases ChangeShapes.open_ints ht he hc h with⟨rfl,_⟩ | ⟨a,len,cap,zs,rfl,_,hl,hm,hz,hx1,hcell,hw⟩
 .exact⟨Sl.nil,[],rfl,Rd.nil rfl,aLe _⟩
 have hle:len<=zs.length:=by rw[hz];split<;>omega
 rw[hx1] at hx;have hsz:=(xD ht hx).1;have h1:len<=Bd:=by
  refine aJe ?_ hsz;refine aJe ?_ (aKA _ hb);simp[ChangeShapes.lits];omega
 refine⟨⟨some a,len,cap⟩,zs.take len,rfl,⟨by simp;omega,fun _=>⟨a,rfl,fun j v hv=>?_⟩⟩,h1⟩;rw[lY,aIV] at hv;split at hv
 .rename_i hj;have:=hcell j (by omega);rw[aIs (by omega)] at hv;simp only[aIT,Option.some.injEq] at hv;rw[this,<-hv,aIu,aIs (by omega)];rfl
 cases hv
theorem aCv {α:Type} {R:Gh->World->List Value->α->Prop} {sz:Nat} (ht:P.underlying t=some (.slice e)) (hc:P.cellsOf e=sz) (hsz:0<sz)
  (hel:∀ (m:Nat) (c:List Value) (y:DataW H×List MemPlace),DataW.trod enc P w base spare held m e c=some y->(∀ v∈y.1.weights P e,v<=Bd)->∃ d:α,R (old w) w c d)
  (h:DataW.trod enc P w base spare held fuel t cs=some x) (hx:∀ v∈x.1.weights P t,v<=Bd):∃ (s:Sl) (ds:List α),cs=[Sl.v s]/\PL R sz (old w) w s ds:=by
 subst hc;rcases DataW.trod_slice ht h with⟨rfl,_⟩ | ⟨a,len,cap,elems,rest,m,hfu,rfl,hx1,hb,hl,hm,hlen,hee,_,_⟩
 .exact⟨Sl.nil,[],rfl,PL.nil rfl⟩
 rw[hx1] at hx;obtain⟨_,hxs⟩:=xD ht hx;have each:∀ i,i<len->∃ c d,c.length=P.cellsOf e/\R (old w) w c d/\∀ j v,c[j]?=some v->w.cell? (a.add (i*P.cellsOf e+j))=some v:=by
  intro i hi;have:=hee i hi;rw[aIs (by omega)] at this;obtain⟨c,hc,hy⟩:=Option.bind_eq_some_iff.1 this;have hk:=World.cells?_some hc;obtain⟨d,hd⟩:=hel _ c _ hy (hxs _ (List.mem_map_of_mem (aJy _)));refine⟨c,d,hk.2.1,hd,fun j v hv=>?_⟩;have hj:j<P.cellsOf e:=by have:=(aIt.1 hv).1;rw[hk.2.1] at this;exact this
  rw[<-wC a (i*P.cellsOf e) j,hk.2.2 j hj];exact hv
 have main:∀ m',m'<=len->∃ ds:List α,ds.length=m'/\∀ (i:Nat) (d:α),ds[i]?=some d->∃ c,c.length=P.cellsOf e/\R (old w) w c d/\∀ j v,c[j]?=some v->w.cell? (a.add (i*P.cellsOf e+j))=some v:=by
  intro m'
  induction m' with
  | zero=>intro _;exact⟨[],rfl,fun i d h=>by simp at h⟩
  | succ m' ih =>
   intro hm';obtain⟨ds,l1,l2⟩:=ih (by omega);obtain⟨c,d,k1,k2,k3⟩:=each m' (by omega);refine⟨ds++[d],by simp[l1],fun i d' hd'=>?_⟩;rcases aLj i m' with hi | hi
   .rw[aID (by omega)] at hd';exact l2 i d' hd'
   rw[aII (by omega)] at hd';have h0:i-ds.length=0:=by have:=(aIt.1 hd').1;simpa using this
   rw[h0] at hd';simp at hd';subst hd';have:i=m':=by omega
   subst this;exact⟨c,k1,k2,k3⟩
 obtain⟨ds,l1,l2⟩:=main len (aIv _);refine⟨⟨some a,len,cap⟩,ds,rfl,l1.symm,fun i d hd=>?_⟩;obtain⟨c,k1,k2,k3⟩:=l2 i d hd;have hi:i<len:=by have:=(aIt.1 hd).1;omega
 have hb':(a.add (i*P.cellsOf e)).block=a.block:=by unfold Addr.add;split<;>rfl
 refine⟨a.add (i*P.cellsOf e),c,?_,?_,k1,k2,fun j v hv=>by rw[wC];exact k3 j v hv⟩
 .unfold ix;simp only[aLx];rw[if_pos ⟨by omega,by omega⟩];simp
 show(a.add _).block<w.heap.size
 cases c with
 | nil=>simp at k1;omega
 | cons v c=>exact yW (k3 0 v rfl)
theorem aAy {n:Int} (h:(Lit.int .u8 n).wf=true):0<=n/\n<256:=by
 simp[Lit.wf,IntKind.min,IntKind.max,IntKind.signed,IntKind.bits] at h;omega
theorem xH {n:Int} (h:(Lit.int .i64 n).wf=true) : -9223372036854775808<=n/\n<=9223372036854775807:=by
 simp[Lit.wf,IntKind.min,IntKind.max,IntKind.signed,IntKind.bits] at h;omega
theorem vM {k:IntKind} (ht:P.underlying t=some (.slice e)) (he:P.underlying e=some (.int k)) (hc:P.cellsOf e=1) (hb:0<P.bytesOf e) (h:DataW.trod enc P w base spare held fuel t cs=some x) (hx:∀ v∈x.1.weights P t,v<=Bd) :
  ∃ s xs,cs=[Sl.v s]/\PR (old w) w s 1 (nums k xs)/\s.n<=Bd/\s.n<=s.c/\∀ n∈xs,(Lit.int k n).wf=true:=by
 obtain⟨s,xs,e1,r1,hw,hl,_⟩:=open_nums ht he hc h;obtain⟨s2,xs2,e2,_,n2⟩:=aBf ht he hc hb h hx;rw[e1] at e2;have:s.n=s2.n:=by simpa[Sl.v] using congrArg (fun l:List Value=>match l with | [.slice _ n _]=>n | _=>0) e2
 exact⟨s,xs,e1,PR.of_arg (arg_of r1 (by decide)),by omega,hl,hw⟩
end
def evC (rel a b:Int) (r:Int×List Int):Bool:=decide (a<=r.1)&&decide (r.1<=b)&&decide (rel<r.1)
section
variable {F0 : Nat -> Prop} {g g0 : Gh} {w0 : World} {L : List Rs} {s : Sl} {x c p : Nat} {D : Dk} {base segs age high rel t a b : Int} {l : Lg} {rs : List (Int × List Int)}
theorem RcL.at_ {w:World} {z:Sl} (h:RcL g w z rs) {j:Nat} {q:Int×List Int} (hq:rs[j]?=some q):∃ ad zb,ix z (j:Int) 2=some ad/\ldA 2 w ad 0=some (rcC q.1 zb)/\PR g w zb 1 (nums .u8 q.2):=by
 have hn:=h.n;obtain⟨rz,h1,h2,h3⟩:=h;have hj:j<rs.length:=(aIt.1 hq).1;obtain⟨ad,ea,la,-⟩:=uO (i:=j) h1.rd (by omega);have hr:rz[j]?=some rz[j]:=aIs (by omega);obtain⟨e1,e2⟩:=h3 j _ q hr hq;have hch:=uT (f:=rcF) (sz:=2) rz j jP (by omega);rw[hch] at la;exact⟨ad,rz[j].2,ea,by rw[la];unfold rcF;rw[e1],e2⟩
theorem aAX {v:Sl} (hb:∀ r∈rs,r.2.length<=100000) (hv:v.n<=100000):∀ (m j:Nat) (z:Sl) (acc:List (Int×List Int)) (w:World),m+j=rs.length->acc.length+m<=100000->RcL g w v rs->Hp F0 g0 w0 g w (wL z acc::lbR p (lgC x c base segs age high rel s)::L) ->
  ∃ z' w',bM (fun r:Sl×Int×World=>eP v a b (some ⟨p,0,none⟩) r.1 r.2.1 r.2.2) (z,(j:Int),w)=some (z',w')/\Hp F0 g0 w0 g w' (wL z' (acc++(rs.drop j).filter (evC rel a b))::lbR p (lgC x c base segs age high rel s)::L)/\Mo g w g w'
 | 0,j,z,acc,w,hm,ha,hr,H=>by
  have hn:=hr.n;refine⟨z,w,bS ?_,?_,Mo.r⟩
  .unfold eP;rw[if_neg (by simp;omega)]
  rw[aIU (by omega)];simpa using H
 | m+1,j,z,acc,w,hm,ha,hr,H=>by
  have hn:=hr.n;have hj:j<rs.length:=by omega
  have hq:rs[j]?=some rs[j]:=aIs hj;obtain⟨q,hqe⟩:∃ q,rs[j]=q:=⟨_,rfl⟩;have hqm:q∈rs:=by rw[<-hqe];exact aJy hj
  have hd:rs.drop j=q::rs.drop (j+1):=by rw[aJa hj,hqe]
  rw[hqe] at hq;obtain⟨ad,zb,e1,e2,p2⟩:=hr.at_ hq;obtain⟨pb,w3,e3,H3,m3⟩:=H.box (T:=87) (cs:=rcC 0 Sl.nil);have e3':mk w 87 [.int .i64 0,.slice none 0 0]=some (⟨pb,0,none⟩,w3):=e3;obtain⟨w4,e4,H4,m4,l4⟩:=H3.stA' (vs:=rcC q.1 zb) rfl gX;obtain⟨w5,e5,H5,m5⟩:=H4.dr;have l5:ldI .i64 w5 ⟨pb,0,none⟩=some q.1:=H5.ldI rfl;have l5r:ldI .i64 w5 ⟨p,6,none⟩=some rel:=H5.m2.ldI rfl;have hlt:decide ((j:Int)<(v.n:Int))=true:=by simp;omega
  have mm:=m3.t (m4.t m5);have test:(if decide (a<=q.1)=true then ((ldI .i64 w5 ((⟨pb,0,none⟩:Addr).add 0)).bind fun v59=>if decide (v59<=b)=true then ((ldI .i64 w5 ((⟨pb,0,none⟩:Addr).add 0)).bind fun v62=>(some (⟨p,0,none⟩:Addr)).bind fun p64=>(ldI .i64 w5 (p64.add 6)).bind fun v66=>some ((decide (v66<v62)),w5)) else (some (false,w5))) else (some (false,w5)))=some (evC rel a b q,w5):=by
   rw[aD,aLy,l5,aLx,aLx,aLx,aD,aLy,l5r,aLx,ifA,ifA];unfold evC;rw[Bool.and_assoc]
  have hop:∀ {γ:Type} (k:Bool->World->Option γ),(aN ((dr w4).bind fun w54=>(ldI .i64 w54 ((⟨pb,0,none⟩:Addr).add 0)).bind fun v56=>if (decide (a<=v56))=true then ((ldI .i64 w54 ((⟨pb,0,none⟩:Addr).add 0)).bind fun v59=>if (decide (v59<=b))=true then ((ldI .i64 w54 ((⟨pb,0,none⟩:Addr).add 0)).bind fun v62=>(some (⟨p,0,none⟩:Addr)).bind fun p64=>(ldI .i64 w54 (p64.add 6)).bind fun v66=>some ((decide (v66<v62)),w54)) else (some (false,w54))) else (some (false,w54))) k)=k (evC rel a b q) w5:=fun k=>by
   have l5':ldI .i64 w5 ((⟨pb,0,none⟩:Addr).add 0)=some q.1:=by rw[aD];exact l5
   rw[e5,aLx,l5',aLx];rw[l5'] at test;rw[test,aE]
  rw[hd];by_cases hc:evC rel a b q=true
  .obtain⟨w6,e6,H6,m6⟩:=H5.dr;have l6:ldI .i64 w6 ⟨pb,0,none⟩=some q.1:=H6.ldI rfl;have l6z:ldL w6 ⟨pb,1,none⟩=some zb:=H6.ldL rfl;obtain⟨z7,w7,e7,H7,m7⟩:=xR H6 (p2.mo (mm.t m6)).rd (hb q hqm);have l7:ldI .i64 w7 ⟨pb,0,none⟩=some q.1:=H7.sw.ldI rfl;obtain⟨z8,w8,e8,n8,_,H8,m8⟩:=H7.bsl (T:=87) (sz:=2) (ps:=[rcC q.1 z7]) (by intro v hv;simp at hv;subst hv;rfl) (by simp);obtain⟨z9,w9,e9,n9,H9,m9⟩:=aCH (y:=z8) (t:=q.1) H8.tl.m2.sw (by have:=H8.ow.rd;simpa using this) (by omega);have mm9:=mm.t (m6.t (m7.t (m8.t m9)));obtain⟨z',w',e',H',m'⟩:=aAX hb hv m (j+1) z9 (acc++[(q.1,q.2)]) w9 (by omega) (by simp;omega) (hr.mo mm9) H9.sw.tl;refine⟨z',w',?_,?_,mm9.t m'⟩
   .rw[<-e'];refine cH ?_;unfold eP;rw[if_pos hlt,e1,aLx,e2,aLx,e3',aE,e4,aLx,hop,if_pos hc,e6,aLx,aD,aLy,l6,aLx,aD,aLy,l6z,aLx,e7,aE];have e8':bsl w7 87 2 [([.int .i64 q.1,Sl.v z7])]=some (z8,w8):=e8;rw[e8',aE,e9,aE,gR l7,aE,cC (by omega)]
   rw[List.filter_cons_of_pos (by simpa using hc)];simpa using H'
  obtain⟨z',w',e',H',m'⟩:=aAX hb hv m (j+1) z acc w5 (by omega) (by omega) (hr.mo mm) H5.tl;refine⟨z',w',?_,?_,mm.t m'⟩
  .rw[<-e'];refine cH ?_;unfold eP;rw[if_pos hlt,e1,aLx,e2,aLx,e3',aE,e4,aLx,hop,if_neg hc,aE,cC (by omega)]
  rw[List.filter_cons_of_neg (by simpa using hc)];exact H'
theorem aEj {dz:List (Sg×Sl)} (hb:∀ q∈dz,q.1.recs.length<=100/\∀ r∈q.1.recs,r.2.length<=100000) (hs:s.n<=100):∀ (m j:Nat) (z:Sl) (acc:List (Int×List Int)) (w:World),m+j=dz.length->acc.length+m*100<=100000->uV g w dz->Hp F0 g0 w0 g w (wL z acc::lbR p (lgC x c base segs age high rel s)::seR s dz::L) ->
  ∃ z' w',bM (fun r:Sl×Int×World=>fQ s a b (some ⟨p,0,none⟩) r.1 r.2.1 r.2.2) (z,(j:Int),w)=some (z',w')/\Hp F0 g0 w0 g w' (wL z' (acc++(((dz.map Prod.fst).drop j).flatMap fun s=>s.recs).filter (evC rel a b))::lbR p (lgC x c base segs age high rel s)::seR s dz::L)/\Mo g w g w'
 | 0,j,z,acc,w,hm,ha,hr,H=>by
  have hl:dz.length=s.n:=by have:=H.m2.ow.len;rw[cQ dL] at this;omega
  refine⟨z,w,bS ?_,?_,Mo.r⟩
  .unfold fQ;rw[if_neg (by simp;omega)]
  rw[aIU (by simp;omega)];simpa using H
 | m+1,j,z,acc,w,hm,ha,hr,H=>by
  have hl:dz.length=s.n:=by have:=H.m2.ow.len;rw[cQ dL] at this;omega
  have hj:j<dz.length:=by omega
  obtain⟨q,hq⟩:∃ q,dz[j]?=some q:=⟨_,aIs hj⟩;have hqm:=aIF hq;have hrq:=hr q hqm;have hrn:=hrq.n;have hbq:=hb q hqm;obtain⟨bb,el⟩:=H.m2.el dL (by decide) hq;obtain⟨pb,w2,e2,H2,m2⟩:=H.box (T:=125) (cs:=sg0);have e2':mk w 125 (List.replicate 4 (.int .i64 0)++[.slice none 0 0])=some (⟨pb,0,none⟩,w2):=e2;obtain⟨w3,e3,H3,m3,l3⟩:=H2.stA' (vs:=sgF q) rfl mH;have l3s:ldL w3 ⟨pb,4,none⟩=some q.2:=H3.ldL rfl;obtain⟨z4,w4,e4,H4,m4⟩:=aAX (a:=a) (b:=b) hbq.2 (by omega) q.1.recs.length 0 z acc w3 (by omega) (by omega) (hrq.mo (m2.t m3)) H3.b2;have mm:=m2.t (m3.t m4);have hfl:(q.1.recs.filter (evC rel a b)).length<=q.1.recs.length:=aJU _ _;rw[aJj] at H4;obtain⟨z',w',e',H',m'⟩:=aEj hb hs m (j+1) z4 (acc++q.1.recs.filter (evC rel a b)) w4 (by omega) (by rw[aIE];omega) (hr.mo mm) H4.m2.tl;refine⟨z',w',?_,?_,mm.t m'⟩
  .rw[<-e'];refine cH ?_;unfold fQ;have e4':bM (fun r:Sl×Int×World=>eP q.2 a b (some ⟨p,0,none⟩) r.1 r.2.1 r.2.2) (z,0,w3)=some (z4,w4):=e4;rw[if_pos (by simp;omega),el.ix,aLx,el.ldA,aLx,e2',aE,e3,aLx,aD,aLy,l3s,aLx,e4',aE,cC (by omega)]
  rw[aAA hq,aIQ,aJB,<-aIK];exact H'
theorem xI (hb:∀ q∈l.used,q.recs.length<=100/\∀ r∈q.recs,r.2.length<=100000) (hn:l.used.length<=100) {w:World} (H:Hp F0 g0 w0 g w (lgR p x l::L)) :
  ∃ z w',fG (some ⟨p,0,none⟩) a b w=some (z,w')/\Hp F0 g0 w0 g w' (wL z (l.events a b)::lgR p x l::L)/\Mo g w g w':=by
 obtain⟨c,s,dz,h1,h2,h3,H1⟩:=H.lgo;have hl:dz.length=s.n:=by have:=H1.sw.ow.len;rw[cQ dL] at this;omega
 have hdl:dz.length=l.used.length:=by rw[<-h1];simp
 have l0:ldL w ⟨p,7,none⟩=some s:=H1.ldL rfl;obtain⟨z',w',e',H',m'⟩:=aEj (a:=a) (b:=b) (fun q hq=>hb q.1 (by rw[<-h1];exact aIP.2 ⟨q,hq,rfl⟩)) (by omega) dz.length 0 Sl.nil [] w (by omega) (by simp;omega) h3 (aDj H1.onil);have e'':bM (fun r:Sl×Int×World=>fQ s a b (some ⟨p,0,none⟩) r.1 r.2.1 r.2.2) (Sl.nil,0,w)=some (z',w'):=e';refine⟨z',w',?_,?_,m'⟩
 .unfold fG;rw[if_neg (by simp),aLx,aD,aLy,l0,aLx,e'',aE]
 rw[aJL,aJj,h1] at H';exact(Hp.lgi h1 (h2.mo m') (h3.mo m') H'.b2).sw
end
def fX (a0:Int) (p7:Addr) (x10:Int) (w11:World):Option ((Int×World)⊕(World)) :=
 if (decide (x10<a0))=true then
 ((dr w11).bind fun w18 =>
 (ldL w18 (p7.add 0)).bind fun v20 =>
 aN (mkS Try.prog 72 64 64 w18) fun s22 w23 =>
 aN (bsl w23 72 1 [[(Sl.v s22)]]) fun s25 w26 =>
 aN (apS Try.prog 112 v20 s25 w26) fun s28 w29 =>
 (stV w29 (p7.add 0) (Sl.v s28)).bind fun w31 =>
 chk (ldL w23 (p7.add 0)=some v20) <|
 chk (ldL w26 (p7.add 0)=some v20) <|
 some (.inl ((IntKind.wrap .i64 (x10+1)),w31)))
 else
 (some (.inr w11))
noncomputable def gI (a0:Int) (w:World):Option ((Option Addr)×Int×World) :=
 aN (if (decide (a0<1))=true then
 (some (true,w))
 else
 (some ((decide (512<a0)),w))) fun v1 w2 =>
 if v1=true then
 (some (none,2,w2))
 else
 (aN (mk w2 115 ([.slice none 0 0,.slice none 0 0,.int .i64 0,.bool false,.int .i64 0])) fun p7 w8 =>
 (bM (fun s:Int×World=>fX a0 p7 s.1 s.2) (0,w8)).bind fun w14 =>
 some ((some p7),0,w14))
theorem rG {a0 w w' r0 r1} (h:gI a0 w=some (r0,r1,w')):Calls Try.prog 31 #[(.int .i64 a0)] w fun e w''=>e=.returned (.tuple #[(.pointer r0),(.int .i64 r1)])/\w''=w':=by
 refine aP (n:=30) Try.func31 rfl Try.ntmps31 (by simp) fun a u=>?_;unfold gI at h;refine wp_seq<|aA<|qa u rfl fun a u=>qa u rfl fun a u=>aB<|t_n<|wp_seq<|wp_seq<|?_;have⟨v1,w2,e3,h⟩:=bs2 h;refine bP (n:=30) (L:=[(11,(bV v1)),(0,(iV a0))]) (w':=w2) (fun a u=>?_) (fun hk4=>?_)
 .refine t_n<|?_;refine aO u rfl h (fun b6 h=>?_) (fun b6 h=>?_)
  .refine wp_seq<|aA<|qa u rfl fun a u=>qa u rfl fun a u=>aB<|t_n<|wp_ret<|t_r<|?_;have y:=u;cases h;exact jA Try.results31 y rfl rfl ⟨rfl,rfl⟩
  refine wp_skip<|t_n<|wp_seq<|aA<|q u (dZ (vs:=[]) (pl:=#[(0,1),(1,1),(2,1),(3,1),(4,1)]) (cs:=([.slice none 0 0,.slice none 0 0,.int .i64 0,.bool false,.int .i64 0])) u trivial Try.zeroValue115 aGS (by intro w;kernel_rfl) (by kernel_rfl)) fun a u=>?_;have⟨p7,w8,e9,h⟩:=bs2 h;refine q u (rF u rfl rfl e9) fun a u=>qa u rfl fun a u=>aB<|t_n<|wp_seq<|wp_seq<|aA<|qa u rfl fun a u=>aB<|t_n<|wp_block<|?_;have⟨w14,e13,h⟩:=bs1 h;refine gT (n:=30) (L:=[(4,(pV (some p7)))]) (w':=w14) (e:=.exit 0) (I:=fun (s:Int×World) a w=>Has 30 [(5,(iV s.1)),(0,(iV a0)),(4,(pV (some p7)))] a/\w=s.2) ⟨u.sub ⟨rfl,rfl,rfl,aLz⟩,rfl⟩ e13 (fun a u=>?_) (fun hk15=>?_)
  .refine eC<|t_n<|wp_seq<|aA<|qm u rfl fun a u=>qa u rfl fun a u=>qa u rfl fun a u=>aB<|t_n<|wp_ret<|?_;have y:=u;cases h;exact jA Try.results31 y rfl rfl ⟨rfl,rfl⟩
  clear h;rintro⟨x10,w11⟩ a wq o ⟨u,hwq⟩ h hr16;obtain rfl:w11=wq:=hwq.symm;have u:Has 30 [(5,(iV x10)),(0,(iV a0)),(4,(pV (some p7)))] a:=u;have h:fX a0 p7 x10 w11=some o:=h;unfold fX at h;refine wp_seq<|wp_seq<|aA<|qm u rfl fun a u=>qm u rfl fun a u=>q u (dK u rfl rfl) fun a u=>aB<|t_n<|?_;refine aO u rfl h (fun b17 h=>?_) (fun b17 h=>?_)
  .refine wp_skip<|t_n<|wp_seq<|wp_block<|?_;have⟨w18,e19,h⟩:=bs1 h;have⟨v20,e21,h⟩:=bs1 h;have⟨s22,w23,e24,h⟩:=bs2 h;have⟨s25,w26,e27,h⟩:=bs2 h;have⟨s28,w29,e30,h⟩:=bs2 h;have⟨w31,e32,h⟩:=bs1 h;obtain⟨e33,h⟩:=bO h;obtain⟨e34,h⟩:=bO h;have u:Has 30 [(0,(iV a0)),(4,(pV (some p7))),(5,(iV x10))] a:=u.sb rfl;refine aM (n:=30) (ds:=(aI (pV (some p7)) false 0 3 [] [(4,(pV (some p7)))]::aI (pV (some p7)) false 0 2 [] [(4,(pV (some p7)))]::aI (pV (some p7)) false 0 2 [1] [(20,(pV (some p7)))]::aI (pV (some (p7.add 0))) false 0 2 [1,2] [(21,(pV (some p7)))]::aI (Sl.v v20) false 0 2 [1,2,3] [(22,(pV (some (p7.add 0))))]::aI (Sl.v s22) true 0 0 [] []::aI (Sl.v s25) true 1 1 [5] [(24,(Sl.v s22))]::aI (Sl.v s28) true 2 2 (rn 1 6) [(23,(Sl.v v20)),(25,(Sl.v s25))]::aS (pV (some p7)) 3 (rn 0 8) 19::aG (pV (some (p7.add 0))) 3 (rn 0 9) 27 (pV (some p7))::aI (undef) true 3 3 (rn 0 10) [(28,(pV (some (p7.add 0)))),(26,(Sl.v s28))]::[])) (W:=(fun j=>match j with | 0=>w18 | 1=>w23 | 2=>w26 | 3=>w29 | 4=>w31 | _=>w31)) (by kernel_rfl) u (cY e19) (by kernel_rfl) ?_ (aR (by kernel_rfl)) (by kernel_rfl) (m:=4) (by kernel_rfl) (fun a u=>?_)
   .refine⟨oa (aC · rfl),oa (aC · rfl),oa (lX · rfl),oa (aK · rfl aGS rfl rfl aHX),?_,oc 0 (kd (uQ · rfl rfl e24)),oc 1 (kd (iK (vs:=[(0,(Sl.v s22))]) (ps:=[[(Sl.v s22)]]) · ⟨rfl,rfl,aLz⟩ ⟨rfl,rfl,aLz⟩ rfl aHP aHJ Try.zeroValue72 (by decide) e27)),oc 2 (kd (iF · rfl rfl e30)),oa (lX · rfl),oa (aK · rfl aGS rfl rfl aHX),oc 3 (kd (fO · rfl rfl aHX e32)),aLz⟩;intro j h1 h2;have h1:0<=j:=h1;have h2:j<=2:=h2;rcases(by omega:j=0\/j=1\/j=2) with rfl | rfl | rfl
    .exact kd (aJ · rfl aHY (aV e21))
    .exact kd (aJ · rfl aHY (aV e33))
    exact kd (aJ · rfl aHY (aV e34))
   have u:Has 30 [(0,(iV a0)),(4,(pV (some p7))),(5,(iV x10))] a:=u.sb rfl;refine b_n<|t_n<|aA<|qm u rfl fun a u=>q u (bJ u rfl rfl) fun a u=>qa u rfl fun a u=>aB<|?_;have y:=u;cases h;exact dS ⟨y.sb rfl,rfl⟩
  refine wp_exit<|t_x<|?_;have y:=u;cases h;cases hr16 _ rfl;refine lM<|?_;exact hk15 _ (y.sb rfl)
 clear h;have h:=e3;refine aA<|qm u rfl fun a u=>q u (dK u rfl rfl) fun a u=>qm u rfl fun a u=>?_;refine bW h (fun b5 h=>?_) (fun b5 h=>?_)
 .refine qn u 8 (tn b5) fun a u=>qn u 8 (tn b5) fun a u=>q u (aF u rfl b5 rfl) fun a u=>aB<|?_;have y:=u;cases h;exact hk4 _ (y.sb rfl)
 refine qg u 8 (nt b5) (aC u rfl) fun a u=>qg u 8 (nt b5) (gF u rfl rfl) fun a u=>q u (aL u rfl b5 rfl) fun a u=>aB<|?_;have y:=u;cases h;exact hk4 _ (y.sb rfl)
noncomputable def dW (a0:Option Addr) (w:World):Option (Bool×World) :=
 (a0).bind fun p1 =>
 (ldI .i64 w (p1.add 2)).bind fun v3 =>
 if (decide (0<v3))=true then
 ((ldI .i64 w (p1.add 2)).bind fun v6 =>
 (stV w (p1.add 2) (.int .i64 (IntKind.wrap .i64 (v6-1)))).bind fun w8 =>
 (ldI .i64 w8 (p1.add 2)).bind fun v10 =>
 (stV w8 (p1.add 3) (.bool (v10==0))).bind fun w12 =>
 (ldB w12 (p1.add 3)).bind fun v14 =>
 some (v14,w12))
 else
 (some (false,w))
theorem kX {a0 w w' r0} (h:dW a0 w=some (r0,w')):Calls Try.prog 118 #[(.pointer a0)] w fun e w''=>e=.returned (.bool r0)/\w''=w':=by
 refine aP (n:=27) Try.func118 rfl Try.ntmps118 (by simp) fun a u=>?_;unfold dW at h;refine wp_seq<|aA<|qa u rfl fun a u=>aB<|t_n<|wp_seq<|wp_seq<|aA<|qm u rfl fun a u=>?_;have⟨p1,e2,h⟩:=bs1 h;refine q u (aH u rfl e2) fun a u=>q u (aK u rfl aGS rfl rfl aGL) fun a u=>?_;have⟨v3,e4,h⟩:=bs1 h;refine q u (aJ u rfl aGN (aQ e4)) fun a u=>q u (gF u rfl rfl) fun a u=>aB<|t_n<|?_;refine aO u rfl h (fun b5 h=>?_) (fun b5 h=>?_)
 .refine wp_seq<|aA<|qm u rfl fun a u=>q u (aH u rfl e2) fun a u=>q u (aK u rfl aGS rfl rfl aGL) fun a u=>?_;have⟨v6,e7,h⟩:=bs1 h;refine q u (aJ u rfl aGN (aQ e7)) fun a u=>q u (iB u rfl rfl) fun a u=>q u (aH u rfl e2) fun a u=>q u (aK u rfl aGS rfl rfl aGL) fun a u=>?_;have⟨w8,e9,h⟩:=bs1 h;refine q u (fO u rfl rfl aGL e9) fun a u=>aB<|t_n<|wp_seq<|aA<|qm u rfl fun a u=>qm u rfl fun a u=>q u (aH u rfl e2) fun a u=>q u (aK u rfl aGS rfl rfl aGL) fun a u=>?_;have⟨v10,e11,h⟩:=bs1 h;refine q u (aJ u rfl aGN (aQ e11)) fun a u=>q u (gD u rfl rfl) fun a u=>q u (aH u rfl e2) fun a u=>q u (aK u rfl aGS rfl rfl aHz) fun a u=>?_;have⟨w12,e13,h⟩:=bs1 h;refine q u (fO u rfl rfl aHz e13) fun a u=>aB<|t_n<|wp_seq<|aA<|qm u rfl fun a u=>q u (aH u rfl e2) fun a u=>q u (aK u rfl aGS rfl rfl aHz) fun a u=>?_;have⟨v14,e15,h⟩:=bs1 h;refine q u (aJ u rfl aHR (oO e15)) fun a u=>qa u rfl fun a u=>aB<|t_n<|wp_ret<|t_r<|?_;have y:=u;cases h;exact bI Try.results118 y rfl ⟨rfl,rfl⟩
 refine wp_skip<|t_n<|wp_seq<|aA<|qa u rfl fun a u=>aB<|t_n<|wp_ret<|?_;have y:=u;cases h;exact bI Try.results118 y rfl ⟨rfl,rfl⟩
noncomputable def cJ (a0:Option Addr) (a1:List Value) (a2:Int) (w:World):Option (World) :=
 aN (mk w 172 a1) fun p1 w2 =>
 aN (bsl w2 5 1 []) fun s4 w5 =>
 (ldL w5 (p1.add 1)).bind fun v7 =>
 (slS v7 0 a2 (v7.c:Int) 1).bind fun s9 =>
 aN (apS Try.prog 72 s4 s9 w5) fun s11 w12 =>
 (dr w12).bind fun w14 =>
 (a0).bind fun p16 =>
 (ldL w14 (p16.add 0)).bind fun v18 =>
 (ldI .i64 w14 (p1.add 0)).bind fun v20 =>
 (ldL w14 (p16.add 0)).bind fun v22 =>
 (ldI .i64 w14 (p1.add 0)).bind fun v24 =>
 (ix v22 v24 1).bind fun p26 =>
 (ldL w14 p26).bind fun v28 =>
 (slS v28 a2 (v28.n:Int) (v28.c:Int) 1).bind fun s30 =>
 aN (apS Try.prog 72 s11 s30 w14) fun s32 w33 =>
 (ix v18 v20 1).bind fun p35 =>
 (stV w33 p35 (Sl.v s32)).bind fun w37 =>
 chk (ldL w33 (p16.add 0)=some v18) <|
 chk (ldI .i64 w33 (p1.add 0)=some v20) <|
 some w37
theorem jL {a0 a1 a2 w w'} (h:cJ a0 a1 a2 w=some w'):Calls Try.prog 119 #[(.pointer a0),(.agg (List.toArray a1)),(.int .i64 a2)] w fun e w''=>e=.returned (.tuple #[])/\w''=w':=by
 refine aP (n:=32) Try.func119 rfl Try.ntmps119 (by simp) fun a u=>?_;unfold cJ at h;refine wp_seq<|aA<|?_;have⟨p1,w2,e3,h⟩:=bs2 h;refine q u (rF u rfl rfl e3) fun a u=>aB<|t_n<|wp_seq<|aA<|?_;have⟨s4,w5,e6,h⟩:=bs2 h;refine q u (iK (vs:=[]) (ps:=[]) u trivial trivial rfl aGK aGT aHG (by decide) e6) fun a u=>q u (aK u rfl aHU rfl rfl aHJ) fun a u=>?_;have⟨v7,e8,h⟩:=bs1 h;refine q u (aJ u rfl aHN (aV e8)) fun a u=>qm u rfl fun a u=>?_;have⟨s9,e10,h⟩:=bs1 h;refine q u (oG u rfl aGK aGT rfl ⟨_,rfl⟩ rfl (by simp) e10) fun a u=>?_;have⟨s11,w12,e13,h⟩:=bs2 h;refine q u (iF u rfl rfl e13) fun a u=>qa u rfl fun a u=>aB<|t_n<|?_;have⟨w14,e15,h⟩:=bs1 h;have⟨p16,e17,h⟩:=bs1 h;have⟨v18,e19,h⟩:=bs1 h;have⟨v20,e21,h⟩:=bs1 h;have⟨v22,e23,h⟩:=bs1 h;have⟨v24,e25,h⟩:=bs1 h;have⟨p26,e27,h⟩:=bs1 h;have⟨v28,e29,h⟩:=bs1 h;have⟨s30,e31,h⟩:=bs1 h;have⟨s32,w33,e34,h⟩:=bs2 h;have⟨p35,e36,h⟩:=bs1 h;have⟨w37,e38,h⟩:=bs1 h;obtain⟨e39,h⟩:=bO h;obtain⟨e40,h⟩:=bO h;have u:Has 32 [(0,(pV a0)),(2,(iV a2)),(4,(pV (some p1))),(6,(Sl.v s11))] a:=u.sb rfl;refine aM (n:=32) (ds:=(aI (pV a0) false 0 1 [] [(0,(pV a0))]::aI (pV (some p16)) false 0 1 [0] [(13,(pV a0))]::aI (pV (some (p16.add 0))) false 0 1 [0,1] [(14,(pV (some p16)))]::aI (Sl.v v18) false 0 1 [0,1,2] [(15,(pV (some (p16.add 0))))]::aI (pV (some (p1.add 0))) false 0 1 [] [(4,(pV (some p1)))]::aI (iV v20) false 0 1 [4] [(17,(pV (some (p1.add 0))))]::aS (Sl.v s11) 0 [] 6::aS (pV a0) 0 [] 0::aG (pV (some p16)) 0 [7] 20 (pV a0)::aG (pV (some (p16.add 0))) 0 [7,8] 21 (pV (some p16))::aG (Sl.v v22) 0 [7,8,9] 22 (pV (some (p16.add 0)))::aG (pV (some (p1.add 0))) 0 [] 4 (pV (some p1))::aG (iV v24) 0 [11] 24 (pV (some (p1.add 0)))::aT (pV (some p26)) 0 (rn 7 6) [(23,(Sl.v v22)),(25,(iV v24))]::aG (Sl.v v28) 0 (rn 7 7) 26 (pV (some p26))::aS (iV a2) 0 [] 2::aT (Sl.v s30) 0 (rn 7 9) [(27,(Sl.v v28)),(28,(iV a2))]::aI (Sl.v s32) true 0 0 (rn 6 11) [(19,(Sl.v s11)),(29,(Sl.v s30))]::aT (pV (some p35)) 1 (rn 0 18) [(16,(Sl.v v18)),(18,(iV v20))]::aI (undef) true 1 1 (rn 0 19) [(31,(pV (some p35))),(30,(Sl.v s32))]::[])) (W:=(fun j=>match j with | 0=>w14 | 1=>w33 | 2=>w37 | _=>w37)) (by kernel_rfl) u (cY e15) (by kernel_rfl) ?_ (aR (by kernel_rfl)) (by kernel_rfl) (m:=2) (by kernel_rfl) (fun a u=>?_)
 .refine⟨oa (aC · rfl),oa (aH · rfl e17),oa (aK · rfl aGS rfl rfl aHX),?_,oa (aK · rfl aHU rfl rfl aGL),?_,oa (aC · rfl),oa (aC · rfl),oa (aH · rfl e17),oa (aK · rfl aGS rfl rfl aHX),oc 0 (kd (aJ · rfl aHY (aV e23))),oa (aK · rfl aHU rfl rfl aGL),oc 0 (kd (aJ · rfl aGN (aQ e25))),oa (bZ · rfl rfl aHP aHJ e27),oc 0 (kd (aJ · rfl aHN (aV e29))),oa (aC · rfl),oa (oG · rfl aGK aGT ⟨_,rfl⟩ rfl rfl (by simp) e31),oc 0 (kd (iF · rfl rfl e34)),oa (bZ · rfl rfl aHP aHJ e36),oc 1 (kd (fO · rfl rfl aHJ e38)),aLz⟩
  .intro j h1 h2;have h1:0<=j:=h1;have h2:j<=1:=h2;rcases(by omega:j=0\/j=1) with rfl | rfl
   .exact kd (aJ · rfl aHY (aV e19))
   exact kd (aJ · rfl aHY (aV e39))
  intro j h1 h2;have h1:0<=j:=h1;have h2:j<=1:=h2;rcases(by omega:j=0\/j=1) with rfl | rfl
  .exact kd (aJ · rfl aGN (aQ e21))
  exact kd (aJ · rfl aGN (aQ e40))
 have u:Has 32 [] a:=u.sb rfl;have y:=u;cases h;exact aCp Try.results119 y ⟨rfl,rfl⟩
noncomputable def cO (a0:Option Addr) (x15:Int) (w16:World):Option ((Int×World)⊕(World)) :=
 (a0).bind fun p22 =>
 (ldL w16 (p22.add 1)).bind fun v24 =>
 if (decide (x15<(v24.n:Int)))=true then
 ((ldL w16 (p22.add 1)).bind fun v27 =>
 (ix v27 x15 2).bind fun p29 =>
 (ldA 2 w16 p29 0).bind fun c31 =>
 (cJ a0 c31 64 w16).bind fun w33 =>
 some (.inl ((IntKind.wrap .i64 (x15+1)),w33)))
 else
 (some (.inr w16))
noncomputable def bK (a0:Option Addr) (w:World):Option (Int×World) :=
 if (a0.isNone)=true then
 (some (1,w))
 else
 (aN ((a0).bind fun p6 =>
 (ldB w (p6.add 3)).bind fun v8 =>
 if v8=true then
 (some (true,w))
 else
 (aN (dW a0 w) fun v11 w12 =>
 some (v11,w12))) fun v2 w3 =>
 if v2=true then
 (some (10,w3))
 else
 ((bM (fun s:Int×World=>cO a0 s.1 s.2) (0,w3)).bind fun w19 =>
 (a0).bind fun p35 =>
 (stV w19 (p35.add 1) (Sl.v Sl.nil)).bind fun w37 =>
 some (0,w37)))
theorem eR {a0 w w' r0} (h:bK a0 w=some (r0,w')):Calls Try.prog 76 #[(.pointer a0)] w fun e w''=>e=.returned (.int .i64 r0)/\w''=w':=by
 refine aP (n:=35) Try.func76 rfl Try.ntmps76 (by simp) fun a u=>?_;unfold bK at h;refine wp_seq<|aA<|qa u rfl fun a u=>aB<|t_n<|wp_seq<|wp_seq<|aA<|qm u rfl fun a u=>q u (jJ u rfl rfl aHS) fun a u=>aB<|t_n<|?_;refine aO u rfl h (fun b1 h=>?_) (fun b1 h=>?_)
 .refine wp_seq<|aA<|qa u rfl fun a u=>aB<|t_n<|wp_ret<|t_r<|?_;have y:=u;cases h;exact bI Try.results76 y rfl ⟨rfl,rfl⟩
 refine wp_skip<|t_n<|wp_seq<|wp_seq<|?_;have⟨v2,w3,e4,h⟩:=bs2 h;refine bP (n:=35) (L:=[(13,(bV v2)),(0,(pV a0))]) (w':=w3) (fun a u=>?_) (fun hk5=>?_)
 .refine t_n<|?_;refine aO u rfl h (fun b14 h=>?_) (fun b14 h=>?_)
  .refine wp_seq<|aA<|qa u rfl fun a u=>aB<|t_n<|wp_ret<|t_r<|?_;have y:=u;cases h;exact bI Try.results76 y rfl ⟨rfl,rfl⟩
  refine wp_skip<|t_n<|wp_seq<|wp_seq<|aA<|qa u rfl fun a u=>aB<|t_n<|wp_block<|?_;have⟨w19,e18,h⟩:=bs1 h;refine gT (n:=35) (L:=[(0,(pV a0))]) (w':=w19) (e:=.exit 0) (I:=fun (s:Int×World) a w=>Has 35 [(3,(iV s.1)),(0,(pV a0))] a/\w=s.2) ⟨u.sub ⟨rfl,rfl,aLz⟩,rfl⟩ e18 (fun a u=>?_) (fun hk20=>?_)
  .refine eC<|t_n<|wp_seq<|aA<|qm u rfl fun a u=>?_;have⟨p35,e36,h⟩:=bs1 h;refine q u (aH u rfl e36) fun a u=>q u (aK u rfl aGS rfl rfl aHF) fun a u=>?_;have⟨w37,e38,h⟩:=bs1 h;refine q u (fO u rfl rfl aHF e38) fun a u=>aB<|t_n<|wp_seq<|aA<|qa u rfl fun a u=>aB<|t_n<|wp_ret<|?_;have y:=u;cases h;exact bI Try.results76 y rfl ⟨rfl,rfl⟩
  clear h;rintro⟨x15,w16⟩ a wq o ⟨u,hwq⟩ h hr21;obtain rfl:w16=wq:=hwq.symm;have u:Has 35 [(3,(iV x15)),(0,(pV a0))] a:=u;have h:cO a0 x15 w16=some o:=h;unfold cO at h;refine wp_seq<|wp_seq<|aA<|qm u rfl fun a u=>qm u rfl fun a u=>?_;have⟨p22,e23,h⟩:=bs1 h;refine q u (aH u rfl e23) fun a u=>q u (aK u rfl aGS rfl rfl aHF) fun a u=>?_;have⟨v24,e25,h⟩:=bs1 h;refine q u (aJ u rfl aHV (aV e25)) fun a u=>q u (aZ u rfl aHE) fun a u=>q u (dK u rfl rfl) fun a u=>aB<|t_n<|?_;refine aO u rfl h (fun b26 h=>?_) (fun b26 h=>?_)
  .refine wp_skip<|t_n<|wp_seq<|wp_block<|aA<|qm u rfl fun a u=>qm u rfl fun a u=>q u (aH u rfl e23) fun a u=>q u (aK u rfl aGS rfl rfl aHF) fun a u=>?_;have⟨v27,e28,h⟩:=bs1 h;refine q u (aJ u rfl aHV (aV e28)) fun a u=>qm u rfl fun a u=>?_;have⟨p29,e30,h⟩:=bs1 h;refine q u (bZ u rfl rfl aHE aHZ e30) fun a u=>?_;have⟨c31,e32,h⟩:=bs1 h;refine q u (gC u rfl Try.isAgg172 aHZ e32) fun a u=>?_;have⟨w33,e34,h⟩:=bs1 h;refine q u (dc3 u rfl rfl rfl Try.call119 (jL e34)) fun a u=>aB<|b_n<|t_n<|aA<|qm u rfl fun a u=>q u (bJ u rfl rfl) fun a u=>qa u rfl fun a u=>aB<|?_;have y:=u;cases h;exact dS ⟨y.sb rfl,rfl⟩
  refine wp_exit<|t_x<|?_;have y:=u;cases h;cases hr21 _ rfl;refine lM<|?_;exact hk20 _ (y.sb rfl)
 clear h;have h:=e4;refine aA<|qm u rfl fun a u=>?_;have⟨p6,e7,h⟩:=bs1 h;refine q u (aH u rfl e7) fun a u=>q u (aK u rfl aGS rfl rfl aHz) fun a u=>?_;have⟨v8,e9,h⟩:=bs1 h;refine q u (aJ u rfl aHR (oO e9)) fun a u=>qm u rfl fun a u=>?_;refine bW h (fun b10 h=>?_) (fun b10 h=>?_)
 .refine qn u 10 (tn b10) fun a u=>qn u 10 (tn b10) fun a u=>q u (aF u rfl b10 rfl) fun a u=>aB<|?_;have y:=u;cases h;exact hk5 _ (y.sb rfl)
 refine qg u 10 (nt b10) (aC u rfl) fun a u=>?_;have⟨v11,w12,e13,h⟩:=bs2 h;refine qg u 10 (nt b10) (dc1 u rfl Try.call118 (kX e13)) fun a u=>q u (aL u rfl b10 rfl) fun a u=>aB<|?_;have y:=u;cases h;exact hk5 _ (y.sb rfl)
noncomputable def dQ (a0:Option Addr) (a1:Int) (w:World):Option (Bool×World) :=
 aN (if (decide (0<=a1))=true then
 ((a0).bind fun p6 =>
 (ldL w (p6.add 0)).bind fun v8 =>
 some ((decide (a1<(v8.n:Int))),w))
 else
 (some (false,w))) fun v1 w2 =>
 some (v1,w2)
theorem lO {a0 a1 w w' r0} (h:dQ a0 a1 w=some (r0,w')):Calls Try.prog 123 #[(.pointer a0),(.int .i64 a1)] w fun e w''=>e=.returned (.bool r0)/\w''=w':=by
 refine aP (n:=16) Try.func123 rfl Try.ntmps123 (by simp) fun a u=>?_;unfold dQ at h;refine wp_seq<|aA<|qa u rfl fun a u=>aB<|t_n<|wp_seq<|?_;have⟨v1,w2,e3,h⟩:=bs2 h;refine bP (n:=16) (L:=[(4,(bV v1))]) (w':=w2) (fun a u=>?_) (fun hk4=>?_)
 .refine t_n<|wp_ret<|?_;have y:=u;cases h;exact bI Try.results123 y rfl ⟨rfl,rfl⟩
 clear h;have h:=e3;refine aA<|qm u rfl fun a u=>q u (pP u rfl rfl) fun a u=>qm u rfl fun a u=>?_;refine bW h (fun b5 h=>?_) (fun b5 h=>?_)
 .refine qg u 7 b5 (aC u rfl) fun a u=>qg u 7 b5 (aC u rfl) fun a u=>?_;have⟨p6,e7,h⟩:=bs1 h;refine qg u 7 b5 (aH u rfl e7) fun a u=>qg u 7 b5 (aK u rfl aGS rfl rfl aHX) fun a u=>?_;have⟨v8,e9,h⟩:=bs1 h;refine qg u 7 b5 (aJ u rfl aHY (aV e9)) fun a u=>qg u 7 b5 (aZ u rfl aHP) fun a u=>qg u 7 b5 (dK u rfl rfl) fun a u=>q u (aF u rfl b5 rfl) fun a u=>qa u rfl fun a u=>aB<|?_;have y:=u;cases h;exact hk4 _ (y.sb rfl)
 refine qn u 7 (nm b5) fun a u=>qn u 7 (nm b5) fun a u=>qn u 7 (nm b5) fun a u=>qn u 7 (nm b5) fun a u=>qn u 7 (nm b5) fun a u=>qn u 7 (nm b5) fun a u=>qn u 7 (nm b5) fun a u=>q u (aL u rfl b5 rfl) fun a u=>qa u rfl fun a u=>aB<|?_;have y:=u;cases h;exact hk4 _ (y.sb rfl)
noncomputable def bE (a0:Option Addr) (a1:Int) (a2:Sl) (w:World):Option (Int×World) :=
 if (a0.isNone)=true then
 (some (1,w))
 else
 ((a0).bind fun p2 =>
 (ldB w (p2.add 3)).bind fun v4 =>
 if v4=true then
 (some (10,w))
 else
 (aN (dQ a0 a1 w) fun v7 w8 =>
 if (!v7)=true then
 (some (2,w8))
 else
 (if (decide (64<(a2.n:Int)))=true then
 (some (6,w8))
 else
 (aN (dW a0 w8) fun v12 w13 =>
 if v12=true then
 (some (10,w13))
 else
 (aN (bsl w13 5 1 []) fun s16 w17 =>
 aN (apS Try.prog 72 s16 a2 w17) fun s19 w20 =>
 aN (apZ Try.prog 72 3 s19 (IntKind.wrap .i64 (64-(a2.n:Int))) w20) fun s22 w23 =>
 (ldL w23 (p2.add 1)).bind fun v25 =>
 aN (bsl w23 172 2 [([.int .i64 a1,Sl.v s22])]) fun s27 w28 =>
 aN (apS Try.prog 113 v25 s27 w28) fun s30 w31 =>
 (stV w31 (p2.add 1) (Sl.v s30)).bind fun w33 =>
 some (0,w33))))))
theorem cL {a0 a1 a2 w w' r0} (h:bE a0 a1 a2 w=some (r0,w')):Calls Try.prog 89 #[(.pointer a0),(.int .i64 a1),(Sl.v a2)] w fun e w''=>e=.returned (.int .i64 r0)/\w''=w':=by
 refine aP (n:=42) Try.func89 rfl Try.ntmps89 (by simp) fun a u=>?_;unfold bE at h;refine wp_seq<|aA<|qa u rfl fun a u=>aB<|t_n<|wp_seq<|wp_seq<|aA<|qm u rfl fun a u=>q u (jJ u rfl rfl aHS) fun a u=>aB<|t_n<|?_;refine aO u rfl h (fun b1 h=>?_) (fun b1 h=>?_)
 .refine wp_seq<|aA<|qa u rfl fun a u=>aB<|t_n<|wp_ret<|t_r<|?_;have y:=u;cases h;exact bI Try.results89 y rfl ⟨rfl,rfl⟩
 refine wp_skip<|t_n<|wp_seq<|wp_seq<|aA<|qm u rfl fun a u=>?_;have⟨p2,e3,h⟩:=bs1 h;refine q u (aH u rfl e3) fun a u=>q u (aK u rfl aGS rfl rfl aHz) fun a u=>?_;have⟨v4,e5,h⟩:=bs1 h;refine q u (aJ u rfl aHR (oO e5)) fun a u=>aB<|t_n<|?_;refine aO u rfl h (fun b6 h=>?_) (fun b6 h=>?_)
 .refine wp_seq<|aA<|qa u rfl fun a u=>aB<|t_n<|wp_ret<|t_r<|?_;have y:=u;cases h;exact bI Try.results89 y rfl ⟨rfl,rfl⟩
 refine wp_skip<|t_n<|wp_seq<|wp_seq<|aA<|qm u rfl fun a u=>qm u rfl fun a u=>?_;have⟨v7,w8,e9,h⟩:=bs2 h;refine q u (dc2 u rfl rfl Try.call123 (lO e9)) fun a u=>q u (pR u rfl) fun a u=>aB<|t_n<|?_;refine aO u rfl h (fun b10 h=>?_) (fun b10 h=>?_)
 .refine wp_seq<|aA<|qa u rfl fun a u=>aB<|t_n<|wp_ret<|t_r<|?_;have y:=u;cases h;exact bI Try.results89 y rfl ⟨rfl,rfl⟩
 refine wp_skip<|t_n<|wp_seq<|wp_seq<|aA<|qm u rfl fun a u=>q u (aZ u rfl aGK) fun a u=>q u (gF u rfl rfl) fun a u=>aB<|t_n<|?_;refine aO u rfl h (fun b11 h=>?_) (fun b11 h=>?_)
 .refine wp_seq<|aA<|qa u rfl fun a u=>aB<|t_n<|wp_ret<|t_r<|?_;have y:=u;cases h;exact bI Try.results89 y rfl ⟨rfl,rfl⟩
 refine wp_skip<|t_n<|wp_seq<|wp_seq<|aA<|qm u rfl fun a u=>?_;have⟨v12,w13,e14,h⟩:=bs2 h;refine q u (dc1 u rfl Try.call118 (kX e14)) fun a u=>aB<|t_n<|?_;refine aO u rfl h (fun b15 h=>?_) (fun b15 h=>?_)
 .refine wp_seq<|aA<|qa u rfl fun a u=>aB<|t_n<|wp_ret<|t_r<|?_;have y:=u;cases h;exact bI Try.results89 y rfl ⟨rfl,rfl⟩
 refine wp_skip<|t_n<|wp_seq<|aA<|?_;have⟨s16,w17,e18,h⟩:=bs2 h;refine q u (iK (vs:=[]) (ps:=[]) u trivial trivial rfl aGK aGT aHG (by decide) e18) fun a u=>qm u rfl fun a u=>?_;have⟨s19,w20,e21,h⟩:=bs2 h;refine q u (iF u rfl rfl e21) fun a u=>qm u rfl fun a u=>q u (aZ u rfl aGK) fun a u=>q u (iB u rfl rfl) fun a u=>?_;have⟨s22,w23,e24,h⟩:=bs2 h;refine q u (aFk u rfl rfl e24) fun a u=>qa u rfl fun a u=>aB<|t_n<|wp_seq<|aA<|qm u rfl fun a u=>qm u rfl fun a u=>q u (aH u rfl e3) fun a u=>q u (aK u rfl aGS rfl rfl aHF) fun a u=>?_;have⟨v25,e26,h⟩:=bs1 h;refine q u (aJ u rfl aHV (aV e26)) fun a u=>qm u rfl fun a u=>qm u rfl fun a u=>q u (dZ (vs:=[(0,(iV a1)),(1,(Sl.v s22))]) (pl:=#[(0,1),(1,1)]) (cs:=([.int .i64 a1,Sl.v s22])) u ⟨rfl,rfl,rfl,rfl,aLz⟩ Try.zeroValue172 aHU (by intro w;kernel_rfl) (by kernel_rfl)) fun a u=>?_;have⟨s27,w28,e29,h⟩:=bs2 h;refine q u (iK (vs:=[(0,(.agg (List.toArray ([.int .i64 a1,Sl.v s22]))))]) (ps:=[([.int .i64 a1,Sl.v s22])]) u ⟨rfl,rfl,aLz⟩ ⟨rfl,rfl,aLz⟩ rfl aHE aHZ Try.zeroValue172 (by decide) e29) fun a u=>?_;have⟨s30,w31,e32,h⟩:=bs2 h;refine q u (iF u rfl rfl e32) fun a u=>q u (aH u rfl e3) fun a u=>q u (aK u rfl aGS rfl rfl aHF) fun a u=>?_;have⟨w33,e34,h⟩:=bs1 h;refine q u (fO u rfl rfl aHF e34) fun a u=>aB<|t_n<|wp_seq<|aA<|qa u rfl fun a u=>aB<|t_n<|wp_ret<|?_;have y:=u;cases h;exact bI Try.results89 y rfl ⟨rfl,rfl⟩
noncomputable def dF (a0:Option Addr) (a1:Int) (w:World):Option (Int×World) :=
 if (a0.isNone)=true then
 (some (1,w))
 else
 ((a0).bind fun p2 =>
 (ldB w (p2.add 3)).bind fun v4 =>
 if v4=true then
 (some (10,w))
 else
 (if (decide (a1<0))=true then
 (some (2,w))
 else
 ((stV w (p2.add 2) (.int .i64 a1)).bind fun w8 =>
 some (0,w8))))
theorem oU {a0 a1 w w' r0} (h:dF a0 a1 w=some (r0,w')):Calls Try.prog 95 #[(.pointer a0),(.int .i64 a1)] w fun e w''=>e=.returned (.int .i64 r0)/\w''=w':=by
 refine aP (n:=17) Try.func95 rfl Try.ntmps95 (by simp) fun a u=>?_;unfold dF at h;refine wp_seq<|aA<|qa u rfl fun a u=>aB<|t_n<|wp_seq<|wp_seq<|aA<|qm u rfl fun a u=>q u (jJ u rfl rfl aHS) fun a u=>aB<|t_n<|?_;refine aO u rfl h (fun b1 h=>?_) (fun b1 h=>?_)
 .refine wp_seq<|aA<|qa u rfl fun a u=>aB<|t_n<|wp_ret<|t_r<|?_;have y:=u;cases h;exact bI Try.results95 y rfl ⟨rfl,rfl⟩
 refine wp_skip<|t_n<|wp_seq<|wp_seq<|aA<|qm u rfl fun a u=>?_;have⟨p2,e3,h⟩:=bs1 h;refine q u (aH u rfl e3) fun a u=>q u (aK u rfl aGS rfl rfl aHz) fun a u=>?_;have⟨v4,e5,h⟩:=bs1 h;refine q u (aJ u rfl aHR (oO e5)) fun a u=>aB<|t_n<|?_;refine aO u rfl h (fun b6 h=>?_) (fun b6 h=>?_)
 .refine wp_seq<|aA<|qa u rfl fun a u=>aB<|t_n<|wp_ret<|t_r<|?_;have y:=u;cases h;exact bI Try.results95 y rfl ⟨rfl,rfl⟩
 refine wp_skip<|t_n<|wp_seq<|wp_seq<|aA<|qm u rfl fun a u=>q u (dK u rfl rfl) fun a u=>aB<|t_n<|?_;refine aO u rfl h (fun b7 h=>?_) (fun b7 h=>?_)
 .refine wp_seq<|aA<|qa u rfl fun a u=>aB<|t_n<|wp_ret<|t_r<|?_;have y:=u;cases h;exact bI Try.results95 y rfl ⟨rfl,rfl⟩
 refine wp_skip<|t_n<|wp_seq<|aA<|qm u rfl fun a u=>qm u rfl fun a u=>q u (aH u rfl e3) fun a u=>q u (aK u rfl aGS rfl rfl aGL) fun a u=>?_;have⟨w8,e9,h⟩:=bs1 h;refine q u (fO u rfl rfl aGL e9) fun a u=>aB<|t_n<|wp_seq<|aA<|qa u rfl fun a u=>aB<|t_n<|wp_ret<|?_;have y:=u;cases h;exact bI Try.results95 y rfl ⟨rfl,rfl⟩
noncomputable def cB (a0:Option Addr) (a1:Sl) (x2:Int) (w3:World):Option ((Int×World)⊕(World)) :=
 (a0).bind fun p9 =>
 (ldL w3 (p9.add 1)).bind fun v11 =>
 if (decide (x2<(v11.n:Int)))=true then
 ((aN (if (decide (x2<(a1.n:Int)))=true then
 ((ix a1 x2 1).bind fun p22 =>
 (ldI .i64 w3 p22).bind fun v24 =>
 some ((IntKind.wrap .u64 v24),w3))
 else
 (some (0,w3))) fun v17 w18 =>
 ((rmI v17 3).bind fun v29 =>
 if (v29==1)=true then
 ((ldL w18 (p9.add 1)).bind fun v32 =>
 (ix v32 x2 2).bind fun p34 =>
 (ldA 2 w18 p34 0).bind fun c36 =>
 (cJ a0 c36 64 w18).bind fun w38 =>
 some w38)
 else
 (some w18)).bind fun w26 =>
 (rmI v17 3).bind fun v40 =>
 if (v40==2)=true then
 ((ldL w26 (p9.add 1)).bind fun v43 =>
 (ix v43 x2 2).bind fun p45 =>
 (ldA 2 w26 p45 0).bind fun c47 =>
 (dvI .u64 v17 3).bind fun v49 =>
 (rmI v49 64).bind fun v51 =>
 (cJ a0 c47 (IntKind.wrap .i64 v51) w26).bind fun w53 =>
 some w53)
 else
 (some w26)).bind fun w14 =>
 some (.inl ((IntKind.wrap .i64 (x2+1)),w14)))
 else
 (some (.inr w3))
noncomputable def cZ (a0:Option Addr) (a1:Sl) (w:World):Option (Int×World) :=
 if (a0.isNone)=true then
 (some (1,w))
 else
 ((bM (fun s:Int×World=>cB a0 a1 s.1 s.2) (0,w)).bind fun w6 =>
 (a0).bind fun p55 =>
 (stV w6 (p55.add 1) (Sl.v Sl.nil)).bind fun w57 =>
 (stV w57 (p55.add 2) (.int .i64 0)).bind fun w59 =>
 (stV w59 (p55.add 3) (.bool false)).bind fun w61 =>
 (ldI .i64 w61 (p55.add 4)).bind fun v63 =>
 (stV w61 (p55.add 4) (.int .i64 (IntKind.wrap .i64 (v63+1)))).bind fun w65 =>
 some (0,w65))
theorem lA {a0 a1 w w' r0} (h:cZ a0 a1 w=some (r0,w')):Calls Try.prog 96 #[(.pointer a0),(Sl.v a1)] w fun e w''=>e=.returned (.int .i64 r0)/\w''=w':=by
 refine aP (n:=71) Try.func96 rfl Try.ntmps96 (by simp) fun a u=>?_;unfold cZ at h;refine wp_seq<|aA<|qa u rfl fun a u=>aB<|t_n<|wp_seq<|wp_seq<|aA<|qm u rfl fun a u=>q u (jJ u rfl rfl aHS) fun a u=>aB<|t_n<|?_;refine aO u rfl h (fun b1 h=>?_) (fun b1 h=>?_)
 .refine wp_seq<|aA<|qa u rfl fun a u=>aB<|t_n<|wp_ret<|t_r<|?_;have y:=u;cases h;exact bI Try.results96 y rfl ⟨rfl,rfl⟩
 refine wp_skip<|t_n<|wp_seq<|wp_seq<|aA<|qa u rfl fun a u=>aB<|t_n<|wp_block<|?_;have⟨w6,e5,h⟩:=bs1 h;refine gT (n:=71) (L:=[(0,(pV a0))]) (w':=w6) (e:=.exit 0) (I:=fun (s:Int×World) a w=>Has 71 [(5,(iV s.1)),(0,(pV a0)),(1,(Sl.v a1))] a/\w=s.2) ⟨u.sub ⟨rfl,rfl,rfl,aLz⟩,rfl⟩ e5 (fun a u=>?_) (fun hk7=>?_)
 .refine eC<|t_n<|wp_seq<|aA<|qm u rfl fun a u=>?_;have⟨p55,e56,h⟩:=bs1 h;refine q u (aH u rfl e56) fun a u=>q u (aK u rfl aGS rfl rfl aHF) fun a u=>?_;have⟨w57,e58,h⟩:=bs1 h;refine q u (fO u rfl rfl aHF e58) fun a u=>aB<|t_n<|wp_seq<|aA<|qm u rfl fun a u=>q u (aH u rfl e56) fun a u=>q u (aK u rfl aGS rfl rfl aGL) fun a u=>?_;have⟨w59,e60,h⟩:=bs1 h;refine q u (fO u rfl rfl aGL e60) fun a u=>aB<|t_n<|wp_seq<|aA<|qm u rfl fun a u=>q u (aH u rfl e56) fun a u=>q u (aK u rfl aGS rfl rfl aHz) fun a u=>?_;have⟨w61,e62,h⟩:=bs1 h;refine q u (fO u rfl rfl aHz e62) fun a u=>aB<|t_n<|wp_seq<|aA<|qm u rfl fun a u=>q u (aH u rfl e56) fun a u=>q u (aK u rfl aGS rfl rfl aGL) fun a u=>?_;have⟨v63,e64,h⟩:=bs1 h;refine q u (aJ u rfl aGN (aQ e64)) fun a u=>q u (bJ u rfl rfl) fun a u=>q u (aH u rfl e56) fun a u=>q u (aK u rfl aGS rfl rfl aGL) fun a u=>?_;have⟨w65,e66,h⟩:=bs1 h;refine q u (fO u rfl rfl aGL e66) fun a u=>aB<|t_n<|wp_seq<|aA<|qa u rfl fun a u=>aB<|t_n<|wp_ret<|?_;have y:=u;cases h;exact bI Try.results96 y rfl ⟨rfl,rfl⟩
 clear h;rintro⟨x2,w3⟩ a wq o ⟨u,hwq⟩ h hr8;obtain rfl:w3=wq:=hwq.symm;have u:Has 71 [(5,(iV x2)),(0,(pV a0)),(1,(Sl.v a1))] a:=u;have h:cB a0 a1 x2 w3=some o:=h;unfold cB at h;refine wp_seq<|wp_seq<|aA<|qm u rfl fun a u=>qm u rfl fun a u=>?_;have⟨p9,e10,h⟩:=bs1 h;refine q u (aH u rfl e10) fun a u=>q u (aK u rfl aGS rfl rfl aHF) fun a u=>?_;have⟨v11,e12,h⟩:=bs1 h;refine q u (aJ u rfl aHV (aV e12)) fun a u=>q u (aZ u rfl aHE) fun a u=>q u (dK u rfl rfl) fun a u=>aB<|t_n<|?_;refine aO u rfl h (fun b13 h=>?_) (fun b13 h=>?_)
 .refine wp_skip<|t_n<|?_;have⟨w14,e15,h⟩:=bs1 h;refine gW (n:=71) (L:=[(0,(pV a0)),(1,(Sl.v a1)),(5,(iV x2))]) (w':=w14) (fun a u=>?_) (fun hk16=>?_)
  .refine aA<|qm u rfl fun a u=>q u (bJ u rfl rfl) fun a u=>qa u rfl fun a u=>aB<|?_;have y:=u;cases h;exact dS ⟨y.sb rfl,rfl⟩
  clear h;have h:=e15;refine wp_block<|wp_seq<|aA<|qa u rfl fun a u=>aB<|t_n<|?_;have⟨v17,w18,e19,h⟩:=bs2 h;refine gW (n:=71) (L:=[(6,(.int .u64 v17)),(0,(pV a0)),(1,(Sl.v a1)),(5,(iV x2))]) (w':=w18) (fun a u=>?_) (fun hk20=>?_)
  .have⟨w26,e27,h⟩:=bs1 h;refine gW (n:=71) (L:=[(0,(pV a0)),(1,(Sl.v a1)),(5,(iV x2)),(6,(.int .u64 v17))]) (w':=w26) (fun a u=>?_) (fun hk28=>?_)
   .refine wp_seq<|aA<|qm u rfl fun a u=>?_;have⟨v40,e41,h⟩:=bs1 h;refine q u (sH u rfl rfl e41) fun a u=>q u (gD u rfl rfl) fun a u=>aB<|t_n<|?_;refine aO u rfl h (fun b42 h=>?_) (fun b42 h=>?_)
    .refine aA<|qm u rfl fun a u=>qm u rfl fun a u=>q u (aH u rfl e10) fun a u=>q u (aK u rfl aGS rfl rfl aHF) fun a u=>?_;have⟨v43,e44,h⟩:=bs1 h;refine q u (aJ u rfl aHV (aV e44)) fun a u=>qm u rfl fun a u=>?_;have⟨p45,e46,h⟩:=bs1 h;refine q u (bZ u rfl rfl aHE aHZ e46) fun a u=>?_;have⟨c47,e48,h⟩:=bs1 h;refine q u (gC u rfl Try.isAgg172 aHZ e48) fun a u=>qm u rfl fun a u=>?_;have⟨v49,e50,h⟩:=bs1 h;refine q u (aAl u rfl rfl e50) fun a u=>?_;have⟨v51,e52,h⟩:=bs1 h;refine q u (sH u rfl rfl e52) fun a u=>q u (iP u rfl aHu aHl) fun a u=>?_;have⟨w53,e54,h⟩:=bs1 h;refine q u (dc3 u rfl rfl rfl Try.call119 (jL e54)) fun a u=>aB<|b_n<|?_;have y:=u;cases h;exact hk16 _ (y.sb rfl)
    refine wp_skip<|b_n<|?_;have y:=u;cases h;exact hk16 _ (y.sb rfl)
   clear h;have h:=e27;refine wp_seq<|aA<|qm u rfl fun a u=>?_;have⟨v29,e30,h⟩:=bs1 h;refine q u (sH u rfl rfl e30) fun a u=>q u (gD u rfl rfl) fun a u=>aB<|t_n<|?_;refine aO u rfl h (fun b31 h=>?_) (fun b31 h=>?_)
   .refine aA<|qm u rfl fun a u=>qm u rfl fun a u=>q u (aH u rfl e10) fun a u=>q u (aK u rfl aGS rfl rfl aHF) fun a u=>?_;have⟨v32,e33,h⟩:=bs1 h;refine q u (aJ u rfl aHV (aV e33)) fun a u=>qm u rfl fun a u=>?_;have⟨p34,e35,h⟩:=bs1 h;refine q u (bZ u rfl rfl aHE aHZ e35) fun a u=>?_;have⟨c36,e37,h⟩:=bs1 h;refine q u (gC u rfl Try.isAgg172 aHZ e37) fun a u=>?_;have⟨w38,e39,h⟩:=bs1 h;refine q u (dc3 u rfl rfl rfl Try.call119 (jL e39)) fun a u=>aB<|?_;have y:=u;cases h;exact hk28 _ (y.sb rfl)
   refine wp_skip<|?_;have y:=u;cases h;exact hk28 _ (y.sb rfl)
  clear h;have h:=e19;refine wp_seq<|aA<|qm u rfl fun a u=>qm u rfl fun a u=>q u (aZ u rfl aIf) fun a u=>q u (dK u rfl rfl) fun a u=>aB<|t_n<|?_;refine aO u rfl h (fun b21 h=>?_) (fun b21 h=>?_)
  .refine aA<|qm u rfl fun a u=>qm u rfl fun a u=>?_;have⟨p22,e23,h⟩:=bs1 h;refine q u (bZ u rfl rfl aIf aGL e23) fun a u=>?_;have⟨v24,e25,h⟩:=bs1 h;refine q u (aJ u rfl aGN (aQ e25)) fun a u=>q u (iP u rfl aHl aHu) fun a u=>qa u rfl fun a u=>aB<|?_;have y:=u;cases h;exact hk20 _ (y.sb rfl)
  refine wp_skip<|?_;have y:=u;cases h;exact hk20 _ (y.sb rfl)
 refine wp_exit<|t_x<|?_;have y:=u;cases h;cases hr8 _ rfl;refine lM<|?_;exact hk7 _ (y.sb rfl)
noncomputable def kB (a0:Option Addr) (a1:Int) (w:World):Option (Sl×Int×World) :=
 if (a0.isNone)=true then
 (some (Sl.nil,1,w))
 else
 (aN (dQ a0 a1 w) fun v2 w3 =>
 if (!v2)=true then
 (some (Sl.nil,2,w3))
 else
 (aN (bsl w3 5 1 []) fun s6 w7 =>
 (a0).bind fun p9 =>
 (ldL w7 (p9.add 0)).bind fun v11 =>
 (ix v11 a1 1).bind fun p13 =>
 (ldL w7 p13).bind fun v15 =>
 aN (apS Try.prog 72 s6 v15 w7) fun s17 w18 =>
 some (s17,0,w18)))
noncomputable def cM (a0:Option Addr) (a1:Int) (x17:Sl) (x18:Int) (w19:World):Option ((Sl×Int×World)⊕(Sl×World)) :=
 (a0).bind fun p26 =>
 (ldL w19 (p26.add 1)).bind fun v28 =>
 if (decide (x18<(v28.n:Int)))=true then
 (aN ((ldL w19 (p26.add 1)).bind fun v35 =>
 (ix v35 x18 2).bind fun p37 =>
 (ldI .i64 w19 (p37.add 0)).bind fun v39 =>
 if (v39==a1)=true then
 ((ldL w19 (p26.add 1)).bind fun v42 =>
 (ix v42 x18 2).bind fun p44 =>
 (ldL w19 (p44.add 1)).bind fun v46 =>
 some (v46,w19))
 else
 (some (x17,w19))) fun v31 w32 =>
 some (.inl (v31,(IntKind.wrap .i64 (x18+1)),w32)))
 else
 (some (.inr (x17,w19)))
noncomputable def bX (a0:Option Addr) (a1:Int) (w:World):Option (Sl×Int×World) :=
 if (a0.isNone)=true then
 (some (Sl.nil,1,w))
 else
 ((a0).bind fun p2 =>
 (ldB w (p2.add 3)).bind fun v4 =>
 if v4=true then
 (some (Sl.nil,10,w))
 else
 (aN (dQ a0 a1 w) fun v7 w8 =>
 if (!v7)=true then
 (some (Sl.nil,2,w8))
 else
 ((ldL w8 (p2.add 0)).bind fun v11 =>
 (ix v11 a1 1).bind fun p13 =>
 (ldL w8 p13).bind fun v15 =>
 aN (bM (fun s:Sl×Int×World=>cM a0 a1 s.1 s.2.1 s.2.2) (v15,0,w8)) fun v22 w23 =>
 aN (bsl w23 5 1 []) fun s48 w49 =>
 aN (apS Try.prog 72 s48 v22 w49) fun s51 w52 =>
 some (s51,0,w52))))
theorem gS {a0 a1 w w' r0 r1} (h:bX a0 a1 w=some (r0,r1,w')):Calls Try.prog 100 #[(.pointer a0),(.int .i64 a1)] w fun e w''=>e=.returned (.tuple #[(Sl.v r0),(.int .i64 r1)])/\w''=w':=by
 refine aP (n:=55) Try.func100 rfl Try.ntmps100 (by simp) fun a u=>?_;unfold bX at h;refine wp_seq<|aA<|qa u rfl fun a u=>qa u rfl fun a u=>aB<|t_n<|wp_seq<|wp_seq<|aA<|qm u rfl fun a u=>q u (jJ u rfl rfl aHS) fun a u=>aB<|t_n<|?_;refine aO u rfl h (fun b1 h=>?_) (fun b1 h=>?_)
 .refine wp_seq<|aA<|qa u rfl fun a u=>qa u rfl fun a u=>aB<|t_n<|wp_ret<|t_r<|?_;have y:=u;cases h;exact jA Try.results100 y rfl rfl ⟨rfl,rfl⟩
 refine wp_skip<|t_n<|wp_seq<|wp_seq<|aA<|qm u rfl fun a u=>?_;have⟨p2,e3,h⟩:=bs1 h;refine q u (aH u rfl e3) fun a u=>q u (aK u rfl aGS rfl rfl aHz) fun a u=>?_;have⟨v4,e5,h⟩:=bs1 h;refine q u (aJ u rfl aHR (oO e5)) fun a u=>aB<|t_n<|?_;refine aO u rfl h (fun b6 h=>?_) (fun b6 h=>?_)
 .refine wp_seq<|aA<|qa u rfl fun a u=>qa u rfl fun a u=>aB<|t_n<|wp_ret<|t_r<|?_;have y:=u;cases h;exact jA Try.results100 y rfl rfl ⟨rfl,rfl⟩
 refine wp_skip<|t_n<|wp_seq<|wp_seq<|aA<|qm u rfl fun a u=>qm u rfl fun a u=>?_;have⟨v7,w8,e9,h⟩:=bs2 h;refine q u (dc2 u rfl rfl Try.call123 (lO e9)) fun a u=>q u (pR u rfl) fun a u=>aB<|t_n<|?_;refine aO u rfl h (fun b10 h=>?_) (fun b10 h=>?_)
 .refine wp_seq<|aA<|qa u rfl fun a u=>qa u rfl fun a u=>aB<|t_n<|wp_ret<|t_r<|?_;have y:=u;cases h;exact jA Try.results100 y rfl rfl ⟨rfl,rfl⟩
 refine wp_skip<|t_n<|wp_seq<|aA<|qm u rfl fun a u=>q u (aH u rfl e3) fun a u=>q u (aK u rfl aGS rfl rfl aHX) fun a u=>?_;have⟨v11,e12,h⟩:=bs1 h;refine q u (aJ u rfl aHY (aV e12)) fun a u=>qm u rfl fun a u=>?_;have⟨p13,e14,h⟩:=bs1 h;refine q u (bZ u rfl rfl aHP aHJ e14) fun a u=>?_;have⟨v15,e16,h⟩:=bs1 h;refine q u (aJ u rfl aHN (aV e16)) fun a u=>qa u rfl fun a u=>aB<|t_n<|wp_seq<|wp_seq<|aA<|qa u rfl fun a u=>aB<|t_n<|wp_block<|?_;have⟨v22,w23,e21,h⟩:=bs2 h;refine gT (n:=55) (L:=[(6,(Sl.v v22))]) (w':=w23) (e:=.exit 0) (I:=fun (s:Sl×Int×World) a w=>Has 55 [(6,(Sl.v s.1)),(7,(iV s.2.1)),(0,(pV a0)),(1,(iV a1))] a/\w=s.2.2) ⟨u.sub ⟨rfl,rfl,rfl,rfl,aLz⟩,rfl⟩ e21 (fun a u=>?_) (fun hk24=>?_)
 .refine eC<|t_n<|wp_seq<|aA<|?_;have⟨s48,w49,e50,h⟩:=bs2 h;refine q u (iK (vs:=[]) (ps:=[]) u trivial trivial rfl aGK aGT aHG (by decide) e50) fun a u=>qm u rfl fun a u=>?_;have⟨s51,w52,e53,h⟩:=bs2 h;refine q u (iF u rfl rfl e53) fun a u=>qa u rfl fun a u=>qa u rfl fun a u=>aB<|t_n<|wp_ret<|?_;have y:=u;cases h;exact jA Try.results100 y rfl rfl ⟨rfl,rfl⟩
 clear h;rintro⟨x17,x18,w19⟩ a wq o ⟨u,hwq⟩ h hr25;obtain rfl:w19=wq:=hwq.symm;have u:Has 55 [(6,(Sl.v x17)),(7,(iV x18)),(0,(pV a0)),(1,(iV a1))] a:=u;have h:cM a0 a1 x17 x18 w19=some o:=h;unfold cM at h;refine wp_seq<|wp_seq<|aA<|qm u rfl fun a u=>qm u rfl fun a u=>?_;have⟨p26,e27,h⟩:=bs1 h;refine q u (aH u rfl e27) fun a u=>q u (aK u rfl aGS rfl rfl aHF) fun a u=>?_;have⟨v28,e29,h⟩:=bs1 h;refine q u (aJ u rfl aHV (aV e29)) fun a u=>q u (aZ u rfl aHE) fun a u=>q u (dK u rfl rfl) fun a u=>aB<|t_n<|?_;refine aO u rfl h (fun b30 h=>?_) (fun b30 h=>?_)
 .refine wp_skip<|t_n<|?_;have⟨v31,w32,e33,h⟩:=bs2 h;refine gW (n:=55) (L:=[(6,(Sl.v v31)),(0,(pV a0)),(1,(iV a1)),(7,(iV x18))]) (w':=w32) (fun a u=>?_) (fun hk34=>?_)
  .refine aA<|qm u rfl fun a u=>q u (bJ u rfl rfl) fun a u=>qa u rfl fun a u=>aB<|?_;have y:=u;cases h;exact dS ⟨y.sb rfl,rfl⟩
  clear h;have h:=e33;refine wp_block<|wp_seq<|aA<|qm u rfl fun a u=>q u (aH u rfl e27) fun a u=>q u (aK u rfl aGS rfl rfl aHF) fun a u=>?_;have⟨v35,e36,h⟩:=bs1 h;refine q u (aJ u rfl aHV (aV e36)) fun a u=>qm u rfl fun a u=>?_;have⟨p37,e38,h⟩:=bs1 h;refine q u (bZ u rfl rfl aHE aHZ e38) fun a u=>q u (aK u rfl aHU rfl rfl aGL) fun a u=>?_;have⟨v39,e40,h⟩:=bs1 h;refine q u (aJ u rfl aGN (aQ e40)) fun a u=>qm u rfl fun a u=>q u (gD u rfl rfl) fun a u=>aB<|t_n<|?_;refine aO u rfl h (fun b41 h=>?_) (fun b41 h=>?_)
  .refine aA<|qm u rfl fun a u=>q u (aH u rfl e27) fun a u=>q u (aK u rfl aGS rfl rfl aHF) fun a u=>?_;have⟨v42,e43,h⟩:=bs1 h;refine q u (aJ u rfl aHV (aV e43)) fun a u=>qm u rfl fun a u=>?_;have⟨p44,e45,h⟩:=bs1 h;refine q u (bZ u rfl rfl aHE aHZ e45) fun a u=>q u (aK u rfl aHU rfl rfl aHJ) fun a u=>?_;have⟨v46,e47,h⟩:=bs1 h;refine q u (aJ u rfl aHN (aV e47)) fun a u=>qa u rfl fun a u=>aB<|b_n<|?_;have y:=u;cases h;exact hk34 _ (y.sb rfl)
  refine wp_skip<|b_n<|?_;have y:=u;cases h;exact hk34 _ (y.sb rfl)
 refine wp_exit<|t_x<|?_;have y:=u;cases h;cases hr25 _ rfl;refine lM<|?_;exact hk24 _ (y.sb rfl)
def eQ (s1:Sl) (x4:Int) (x5:Int) (w6:World):Option ((Int×Int×World)⊕(World)) :=
 if (decide (0<=x5))=true then
 ((rmI x4 256).bind fun v13 =>
 (ix s1 x5 1).bind fun p15 =>
 (stV w6 p15 (.int .u8 (IntKind.wrap .u8 v13))).bind fun w17 =>
 (dvI .u64 x4 256).bind fun v19 =>
 some (.inl (v19,(IntKind.wrap .i64 (x5-1)),w17)))
 else
 (some (.inr w6))
noncomputable def dE (a0:Int) (w:World):Option (Sl×World) :=
 aN (mkS Try.prog 72 8 8 w) fun s1 w2 =>
 (bM (fun s:Int×Int×World=>eQ s1 s.1 s.2.1 s.2.2) ((IntKind.wrap .u64 ((IntKind.wrap .u64 a0)+9223372036854775808)),7,w2)).bind fun w9 =>
 some (s1,w9)
theorem iG {a0 w w' r0} (h:dE a0 w=some (r0,w')):Calls Try.prog 125 #[(.int .i64 a0)] w fun e w''=>e=.returned (Sl.v r0)/\w''=w':=by
 refine aP (n:=23) Try.func125 rfl Try.ntmps125 (by simp) fun a u=>?_;unfold dE at h;refine wp_seq<|aA<|qa u rfl fun a u=>aB<|t_n<|wp_seq<|aA<|qm u rfl fun a u=>q u (iP u rfl aIk aHu) fun a u=>q u (bJ u rfl rfl) fun a u=>qa u rfl fun a u=>aB<|t_n<|wp_seq<|aA<|?_;have⟨s1,w2,e3,h⟩:=bs2 h;refine q u (uQ u rfl rfl e3) fun a u=>qa u rfl fun a u=>aB<|t_n<|wp_seq<|wp_seq<|aA<|qa u rfl fun a u=>aB<|t_n<|wp_block<|?_;have⟨w9,e8,h⟩:=bs1 h;refine gT (n:=23) (L:=[(4,(Sl.v s1))]) (w':=w9) (e:=.exit 0) (I:=fun (s:Int×Int×World) a w=>Has 23 [(3,(.int .u64 s.1)),(5,(iV s.2.1)),(4,(Sl.v s1))] a/\w=s.2.2) ⟨u.sub ⟨rfl,rfl,rfl,aLz⟩,rfl⟩ e8 (fun a u=>?_) (fun hk10=>?_)
 .refine eC<|t_n<|wp_seq<|aA<|qm u rfl fun a u=>qa u rfl fun a u=>aB<|t_n<|wp_ret<|?_;have y:=u;cases h;exact bI Try.results125 y rfl ⟨rfl,rfl⟩
 clear h;rintro⟨x4,x5,w6⟩ a wq o ⟨u,hwq⟩ h hr11;obtain rfl:w6=wq:=hwq.symm;have u:Has 23 [(3,(.int .u64 x4)),(5,(iV x5)),(4,(Sl.v s1))] a:=u;have h:eQ s1 x4 x5 w6=some o:=h;unfold eQ at h;refine wp_seq<|wp_seq<|aA<|qm u rfl fun a u=>q u (pP u rfl rfl) fun a u=>aB<|t_n<|?_;refine aO u rfl h (fun b12 h=>?_) (fun b12 h=>?_)
 .refine wp_skip<|t_n<|wp_seq<|wp_block<|wp_seq<|aA<|qm u rfl fun a u=>qm u rfl fun a u=>qm u rfl fun a u=>?_;have⟨v13,e14,h⟩:=bs1 h;refine q u (sH u rfl rfl e14) fun a u=>q u (iP u rfl aHu aGZ) fun a u=>?_;have⟨p15,e16,h⟩:=bs1 h;refine q u (bZ u rfl rfl aGK aGT e16) fun a u=>?_;have⟨w17,e18,h⟩:=bs1 h;refine q u (fO u rfl rfl aGT e18) fun a u=>aB<|t_n<|aA<|qm u rfl fun a u=>?_;have⟨v19,e20,h⟩:=bs1 h;refine q u (aAl u rfl rfl e20) fun a u=>qa u rfl fun a u=>aB<|b_n<|t_n<|aA<|qm u rfl fun a u=>q u (iB u rfl rfl) fun a u=>qa u rfl fun a u=>aB<|?_;have y:=u;cases h;exact dS ⟨y.sb rfl,rfl⟩
 refine wp_exit<|t_x<|?_;have y:=u;cases h;cases hr11 _ rfl;refine lM<|?_;exact hk10 _ (y.sb rfl)
noncomputable def cX (a0:Sl) (a1:Int) (x8:Int) (x9:Int) (w10:World):Option ((Int×Int×World)⊕(Int×World)) :=
 if (decide (x9<8))=true then
 ((ix a0 (IntKind.wrap .i64 (a1+x9)) 1).bind fun p18 =>
 (ldI .u8 w10 p18).bind fun v20 =>
 some (.inl ((IntKind.wrap .u64 ((IntKind.wrap .u64 (256*x8))+(IntKind.wrap .u64 v20))),(IntKind.wrap .i64 (x9+1)),w10)))
 else
 (some (.inr (x8,w10)))
noncomputable def bF (a0:Sl) (a1:Int) (w:World):Option (Int×Int×Int×World) :=
 aN (if (decide (a1<0))=true then
 (some (true,w))
 else
 (some ((decide ((a0.n:Int)<a1)),w))) fun v1 w2 =>
 if v1=true then
 (some (0,0,2,w2))
 else
 (if (decide ((IntKind.wrap .i64 ((a0.n:Int)-a1))<8))=true then
 (some (0,0,3,w2))
 else
 (aN (bM (fun s:Int×Int×World=>cX a0 a1 s.1 s.2.1 s.2.2) (0,0,w2)) fun v13 w14 =>
 some ((IntKind.wrap .i64 (IntKind.wrap .u64 (v13-9223372036854775808))),(IntKind.wrap .i64 (a1+8)),0,w14)))
theorem fM {a0 a1 w w' r0 r1 r2} (h:bF a0 a1 w=some (r0,r1,r2,w')):Calls Try.prog 146 #[(Sl.v a0),(.int .i64 a1)] w fun e w''=>e=.returned (.tuple #[(.int .i64 r0),(.int .i64 r1),(.int .i64 r2)])/\w''=w':=by
 refine aP (n:=41) Try.func146 rfl Try.ntmps146 (by simp) fun a u=>?_;unfold bF at h;refine wp_seq<|aA<|qa u rfl fun a u=>qa u rfl fun a u=>qa u rfl fun a u=>aB<|t_n<|wp_seq<|wp_seq<|?_;have⟨v1,w2,e3,h⟩:=bs2 h;refine bP (n:=41) (L:=[(16,(bV v1)),(0,(Sl.v a0)),(1,(iV a1))]) (w':=w2) (fun a u=>?_) (fun hk4=>?_)
 .refine t_n<|?_;refine aO u rfl h (fun b6 h=>?_) (fun b6 h=>?_)
  .refine wp_seq<|aA<|qa u rfl fun a u=>qa u rfl fun a u=>qa u rfl fun a u=>aB<|t_n<|wp_ret<|t_r<|?_;have y:=u;cases h;exact oE Try.results146 y rfl rfl rfl ⟨rfl,rfl⟩
  refine wp_skip<|t_n<|wp_seq<|wp_seq<|aA<|qm u rfl fun a u=>q u (aZ u rfl aGK) fun a u=>qm u rfl fun a u=>q u (iB u rfl rfl) fun a u=>q u (dK u rfl rfl) fun a u=>aB<|t_n<|?_;refine aO u rfl h (fun b7 h=>?_) (fun b7 h=>?_)
  .refine wp_seq<|aA<|qa u rfl fun a u=>qa u rfl fun a u=>qa u rfl fun a u=>aB<|t_n<|wp_ret<|t_r<|?_;have y:=u;cases h;exact oE Try.results146 y rfl rfl rfl ⟨rfl,rfl⟩
  refine wp_skip<|t_n<|wp_seq<|aA<|qa u rfl fun a u=>aB<|t_n<|wp_seq<|wp_seq<|aA<|qa u rfl fun a u=>aB<|t_n<|wp_block<|?_;have⟨v13,w14,e12,h⟩:=bs2 h;refine gT (n:=41) (L:=[(7,(.int .u64 v13)),(1,(iV a1))]) (w':=w14) (e:=.exit 0) (I:=fun (s:Int×Int×World) a w=>Has 41 [(7,(.int .u64 s.1)),(8,(iV s.2.1)),(0,(Sl.v a0)),(1,(iV a1))] a/\w=s.2.2) ⟨u.sub ⟨rfl,rfl,rfl,rfl,aLz⟩,rfl⟩ e12 (fun a u=>?_) (fun hk15=>?_)
  .refine eC<|t_n<|wp_seq<|aA<|qm u rfl fun a u=>q u (iB u rfl rfl) fun a u=>q u (iP u rfl aHu aIk) fun a u=>qm u rfl fun a u=>q u (bJ u rfl rfl) fun a u=>qa u rfl fun a u=>qa u rfl fun a u=>qa u rfl fun a u=>aB<|t_n<|wp_ret<|?_;have y:=u;cases h;exact oE Try.results146 y rfl rfl rfl ⟨rfl,rfl⟩
  clear h;rintro⟨x8,x9,w10⟩ a wq o ⟨u,hwq⟩ h hr16;obtain rfl:w10=wq:=hwq.symm;have u:Has 41 [(7,(.int .u64 x8)),(8,(iV x9)),(0,(Sl.v a0)),(1,(iV a1))] a:=u;have h:cX a0 a1 x8 x9 w10=some o:=h;unfold cX at h;refine wp_seq<|wp_seq<|aA<|qm u rfl fun a u=>q u (dK u rfl rfl) fun a u=>aB<|t_n<|?_;refine aO u rfl h (fun b17 h=>?_) (fun b17 h=>?_)
  .refine wp_skip<|t_n<|wp_seq<|wp_block<|aA<|qm u rfl fun a u=>q u (oN u rfl rfl) fun a u=>qm u rfl fun a u=>qm u rfl fun a u=>qm u rfl fun a u=>q u (bJ u rfl rfl) fun a u=>?_;have⟨p18,e19,h⟩:=bs1 h;refine q u (bZ u rfl rfl aGK aGT e19) fun a u=>?_;have⟨v20,e21,h⟩:=bs1 h;refine q u (aJ u rfl aHs (aQ e21)) fun a u=>q u (iP u rfl aGZ aHu) fun a u=>q u (bJ u rfl rfl) fun a u=>qa u rfl fun a u=>aB<|b_n<|t_n<|aA<|qm u rfl fun a u=>q u (bJ u rfl rfl) fun a u=>qa u rfl fun a u=>aB<|?_;have y:=u;cases h;exact dS ⟨y.sb rfl,rfl⟩
  refine wp_exit<|t_x<|?_;have y:=u;cases h;cases hr16 _ rfl;refine lM<|?_;exact hk15 _ (y.sb rfl)
 clear h;have h:=e3;refine aA<|qm u rfl fun a u=>q u (dK u rfl rfl) fun a u=>qm u rfl fun a u=>?_;refine bW h (fun b5 h=>?_) (fun b5 h=>?_)
 .refine qn u 11 (tn b5) fun a u=>qn u 11 (tn b5) fun a u=>qn u 11 (tn b5) fun a u=>qn u 11 (tn b5) fun a u=>q u (aF u rfl b5 rfl) fun a u=>aB<|?_;have y:=u;cases h;exact hk4 _ (y.sb rfl)
 refine qg u 11 (nt b5) (aC u rfl) fun a u=>qg u 11 (nt b5) (aC u rfl) fun a u=>qg u 11 (nt b5) (aZ u rfl aGK) fun a u=>qg u 11 (nt b5) (gF u rfl rfl) fun a u=>q u (aL u rfl b5 rfl) fun a u=>aB<|?_;have y:=u;cases h;exact hk4 _ (y.sb rfl)
noncomputable def hH (a0:Option Addr) (a1:Int) (a2:Int) (w:World):Option ((Option Addr)×Int×World) :=
 if (a0.isNone)=true then
 (some (none,1,w))
 else
 (aN (if (decide (a2<1))=true then
 (some (true,w))
 else
 (if (decide (32<a2))=true then
 (some (true,w))
 else
 (if (decide (a1<0))=true then
 (some (true,w))
 else
 ((a0).bind fun p9 =>
 (ldL w (p9.add 0)).bind fun v11 =>
 some ((decide ((IntKind.wrap .i64 ((v11.n:Int)-(IntKind.wrap .i64 (2*a2))))<a1)),w))))) fun v2 w3 =>
 if v2=true then
 (some (none,2,w3))
 else
 (aN (mk w3 197 ([.pointer a0,.int .i64 a1,.int .i64 a2])) fun p14 w15 =>
 some ((some p14),0,w15)))
theorem nI {a0 a1 a2 w w' r0 r1} (h:hH a0 a1 a2 w=some (r0,r1,w')):Calls Try.prog 114 #[(.pointer a0),(.int .i64 a1),(.int .i64 a2)] w fun e w''=>e=.returned (.tuple #[(.pointer r0),(.int .i64 r1)])/\w''=w':=by
 refine aP (n:=37) Try.func114 rfl Try.ntmps114 (by simp) fun a u=>?_;unfold hH at h;refine wp_seq<|aA<|qa u rfl fun a u=>qa u rfl fun a u=>aB<|t_n<|wp_seq<|wp_seq<|aA<|qm u rfl fun a u=>q u (jJ u rfl rfl aHS) fun a u=>aB<|t_n<|?_;refine aO u rfl h (fun b1 h=>?_) (fun b1 h=>?_)
 .refine wp_seq<|aA<|qa u rfl fun a u=>qa u rfl fun a u=>aB<|t_n<|wp_ret<|t_r<|?_;have y:=u;cases h;exact jA Try.results114 y rfl rfl ⟨rfl,rfl⟩
 refine wp_skip<|t_n<|wp_seq<|wp_seq<|?_;have⟨v2,w3,e4,h⟩:=bs2 h;refine bP (n:=37) (L:=[(31,(bV v2)),(0,(pV a0)),(1,(iV a1)),(2,(iV a2))]) (w':=w3) (fun a u=>?_) (fun hk5=>?_)
 .refine t_n<|?_;refine aO u rfl h (fun b13 h=>?_) (fun b13 h=>?_)
  .refine wp_seq<|aA<|qa u rfl fun a u=>qa u rfl fun a u=>aB<|t_n<|wp_ret<|t_r<|?_;have y:=u;cases h;exact jA Try.results114 y rfl rfl ⟨rfl,rfl⟩
  refine wp_skip<|t_n<|wp_seq<|aA<|qm u rfl fun a u=>qm u rfl fun a u=>qm u rfl fun a u=>q u (dZ (vs:=[(0,(pV a0)),(1,(iV a1)),(2,(iV a2))]) (pl:=#[(0,1),(1,1),(2,1)]) (cs:=([.pointer a0,.int .i64 a1,.int .i64 a2])) u ⟨rfl,rfl,rfl,rfl,rfl,rfl,aLz⟩ Try.zeroValue197 aHw (by intro w;kernel_rfl) (by kernel_rfl)) fun a u=>?_;have⟨p14,w15,e16,h⟩:=bs2 h;refine q u (rF u rfl rfl e16) fun a u=>qa u rfl fun a u=>qa u rfl fun a u=>aB<|t_n<|wp_ret<|?_;have y:=u;cases h;exact jA Try.results114 y rfl rfl ⟨rfl,rfl⟩
 clear h;have h:=e4;refine aA<|qm u rfl fun a u=>q u (dK u rfl rfl) fun a u=>qm u rfl fun a u=>?_;refine bW h (fun b6 h=>?_) (fun b6 h=>?_)
 .refine qn u 12 (tn b6) fun a u=>qn u 12 (tn b6) fun a u=>q u (aF u rfl b6 rfl) fun a u=>qm u rfl fun a u=>qn u 16 (tn rfl) fun a u=>qn u 16 (tn rfl) fun a u=>q u (aF u rfl rfl rfl) fun a u=>qm u rfl fun a u=>qn u 20 (tn rfl) fun a u=>qn u 20 (tn rfl) fun a u=>qn u 20 (tn rfl) fun a u=>qn u 20 (tn rfl) fun a u=>qn u 20 (tn rfl) fun a u=>qn u 20 (tn rfl) fun a u=>qn u 20 (tn rfl) fun a u=>qn u 20 (tn rfl) fun a u=>qn u 20 (tn rfl) fun a u=>qn u 20 (tn rfl) fun a u=>q u (aF u rfl rfl rfl) fun a u=>aB<|?_;have y:=u;cases h;exact hk5 _ (y.sb rfl)
 refine qg u 12 (nt b6) (aC u rfl) fun a u=>qg u 12 (nt b6) (gF u rfl rfl) fun a u=>q u (aL u rfl b6 rfl) fun a u=>qm u rfl fun a u=>?_;refine bW h (fun b7 h=>?_) (fun b7 h=>?_)
 .refine qn u 16 (tn b7) fun a u=>qn u 16 (tn b7) fun a u=>q u (aF u rfl b7 rfl) fun a u=>qm u rfl fun a u=>qn u 20 (tn rfl) fun a u=>qn u 20 (tn rfl) fun a u=>qn u 20 (tn rfl) fun a u=>qn u 20 (tn rfl) fun a u=>qn u 20 (tn rfl) fun a u=>qn u 20 (tn rfl) fun a u=>qn u 20 (tn rfl) fun a u=>qn u 20 (tn rfl) fun a u=>qn u 20 (tn rfl) fun a u=>qn u 20 (tn rfl) fun a u=>q u (aF u rfl rfl rfl) fun a u=>aB<|?_;have y:=u;cases h;exact hk5 _ (y.sb rfl)
 refine qg u 16 (nt b7) (aC u rfl) fun a u=>qg u 16 (nt b7) (dK u rfl rfl) fun a u=>q u (aL u rfl b7 rfl) fun a u=>qm u rfl fun a u=>?_;refine bW h (fun b8 h=>?_) (fun b8 h=>?_)
 .refine qn u 20 (tn b8) fun a u=>qn u 20 (tn b8) fun a u=>qn u 20 (tn b8) fun a u=>qn u 20 (tn b8) fun a u=>qn u 20 (tn b8) fun a u=>qn u 20 (tn b8) fun a u=>qn u 20 (tn b8) fun a u=>qn u 20 (tn b8) fun a u=>qn u 20 (tn b8) fun a u=>qn u 20 (tn b8) fun a u=>q u (aF u rfl b8 rfl) fun a u=>aB<|?_;have y:=u;cases h;exact hk5 _ (y.sb rfl)
 refine qg u 20 (nt b8) (aC u rfl) fun a u=>?_;have⟨p9,e10,h⟩:=bs1 h;refine qg u 20 (nt b8) (aH u rfl e10) fun a u=>qg u 20 (nt b8) (aK u rfl aGS rfl rfl aHX) fun a u=>?_;have⟨v11,e12,h⟩:=bs1 h;refine qg u 20 (nt b8) (aJ u rfl aHY (aV e12)) fun a u=>qg u 20 (nt b8) (aZ u rfl aHP) fun a u=>qg u 20 (nt b8) (aC u rfl) fun a u=>qg u 20 (nt b8) (oN u rfl rfl) fun a u=>qg u 20 (nt b8) (iB u rfl rfl) fun a u=>qg u 20 (nt b8) (aC u rfl) fun a u=>qg u 20 (nt b8) (dK u rfl rfl) fun a u=>q u (aL u rfl b8 rfl) fun a u=>aB<|?_;have y:=u;cases h;exact hk5 _ (y.sb rfl)
noncomputable def cU (a0:Sl) (x34:Bool) (x35:Int) (w36:World):Option ((Bool×Int×World)⊕(Bool×World)) :=
 if (decide (x35<63))=true then
 (aN (if x34=true then
 ((ix a0 x35 1).bind fun p49 =>
 (ldI .u8 w36 p49).bind fun v51 =>
 some ((v51==0),w36))
 else
 (some (false,w36))) fun v44 w45 =>
 some (.inl (v44,(IntKind.wrap .i64 (x35+1)),w45)))
 else
 (some (.inr (x34,w36)))
noncomputable def gM (a0:Sl) (w:World):Option (Int×Int×Bool×World) :=
 aN ((dr w).bind fun w5 =>
 if ((a0.n:Int) !=64)=true then
 (some (true,w5))
 else
 ((ix a0 0 1).bind fun p8 =>
 (ldI .u8 w5 p8).bind fun v10 =>
 (ix a0 63 1).bind fun p12 =>
 (ldI .u8 w5 p12).bind fun v14 =>
 some ((v10 !=v14),w5))) fun v1 w2 =>
 if v1=true then
 (some (0,0,false,w2))
 else
 (kE (bF a0 1 w2) fun v17 v18 v19 w20 =>
 kE (bF a0 9 w20) fun v22 v23 v24 w25 =>
 aN (if (decide (1<=v17))=true then
 (if (decide (v17<=4611686018427387904))=true then
 (if (decide (0<=v22))=true then
 (some ((decide (v22<=1099511627776)),w25))
 else
 (some (false,w25)))
 else
 (some (false,w25)))
 else
 (some (false,w25))) fun v27 w28 =>
 aN (bM (fun s:Bool×Int×World=>cU a0 s.1 s.2.1 s.2.2) (v27,17,w28)) fun v39 w40 =>
 if (!v39)=true then
 (some (0,0,false,w40))
 else
 (some (v17,v22,true,w40)))
theorem mZ {a0 w w' r0 r1 r2} (h:gM a0 w=some (r0,r1,r2,w')):Calls Try.prog 158 #[(Sl.v a0)] w fun e w''=>e=.returned (.tuple #[(.int .i64 r0),(.int .i64 r1),(.bool r2)])/\w''=w':=by
 refine aP (n:=67) Try.func158 rfl Try.ntmps158 (by simp) fun a u=>?_;unfold gM at h;refine wp_seq<|aA<|qa u rfl fun a u=>qa u rfl fun a u=>qa u rfl fun a u=>aB<|t_n<|wp_seq<|wp_seq<|?_;have⟨v1,w2,e3,h⟩:=bs2 h;refine bP (n:=67) (L:=[(24,(bV v1)),(0,(Sl.v a0))]) (w':=w2) (fun a u=>?_) (fun hk4=>?_)
 .refine t_n<|?_;refine aO u rfl h (fun b16 h=>?_) (fun b16 h=>?_)
  .refine wp_seq<|aA<|qa u rfl fun a u=>qa u rfl fun a u=>qa u rfl fun a u=>aB<|t_n<|wp_ret<|t_r<|?_;have y:=u;cases h;exact oE Try.results158 y rfl rfl rfl ⟨rfl,rfl⟩
  refine wp_skip<|t_n<|wp_seq<|aA<|qm u rfl fun a u=>?_;have⟨v17,v18,v19,w20,e21,h⟩:=bs4 h;refine q u (dc2 u rfl rfl Try.call146 (fM e21)) fun a u=>qm u rfl fun a u=>q u (aW u rfl rfl) fun a u=>q u (aW u rfl rfl) fun a u=>q u (aW u rfl rfl) fun a u=>qa u rfl fun a u=>qa u rfl fun a u=>qa u rfl fun a u=>aB<|t_n<|wp_seq<|aA<|qm u rfl fun a u=>?_;have⟨v22,v23,v24,w25,e26,h⟩:=bs4 h;refine q u (dc2 u rfl rfl Try.call146 (fM e26)) fun a u=>qm u rfl fun a u=>q u (aW u rfl rfl) fun a u=>q u (aW u rfl rfl) fun a u=>q u (aW u rfl rfl) fun a u=>qa u rfl fun a u=>qa u rfl fun a u=>qa u rfl fun a u=>aB<|t_n<|wp_seq<|?_;have⟨v27,w28,e29,h⟩:=bs2 h;refine bP (n:=67) (L:=[(11,(bV v27)),(0,(Sl.v a0)),(5,(iV v17)),(8,(iV v22))]) (w':=w28) (fun a u=>?_) (fun hk30=>?_)
  .refine t_n<|wp_seq<|wp_seq<|aA<|qa u rfl fun a u=>aB<|t_n<|wp_block<|?_;have⟨v39,w40,e38,h⟩:=bs2 h;refine gT (n:=67) (L:=[(11,(bV v39)),(5,(iV v17)),(8,(iV v22))]) (w':=w40) (e:=.exit 0) (I:=fun (s:Bool×Int×World) a w=>Has 67 [(11,(bV s.1)),(12,(iV s.2.1)),(0,(Sl.v a0)),(5,(iV v17)),(8,(iV v22))] a/\w=s.2.2) ⟨u.sub ⟨rfl,rfl,rfl,rfl,rfl,aLz⟩,rfl⟩ e38 (fun a u=>?_) (fun hk41=>?_)
   .refine eC<|t_n<|wp_seq<|wp_seq<|aA<|qm u rfl fun a u=>q u (pR u rfl) fun a u=>aB<|t_n<|?_;refine aO u rfl h (fun b53 h=>?_) (fun b53 h=>?_)
    .refine wp_seq<|aA<|qa u rfl fun a u=>qa u rfl fun a u=>qa u rfl fun a u=>aB<|t_n<|wp_ret<|t_r<|?_;have y:=u;cases h;exact oE Try.results158 y rfl rfl rfl ⟨rfl,rfl⟩
    refine wp_skip<|t_n<|wp_seq<|aA<|qm u rfl fun a u=>qm u rfl fun a u=>qa u rfl fun a u=>qa u rfl fun a u=>qa u rfl fun a u=>aB<|t_n<|wp_ret<|?_;have y:=u;cases h;exact oE Try.results158 y rfl rfl rfl ⟨rfl,rfl⟩
   clear h;rintro⟨x34,x35,w36⟩ a wq o ⟨u,hwq⟩ h hr42;obtain rfl:w36=wq:=hwq.symm;have u:Has 67 [(11,(bV x34)),(12,(iV x35)),(0,(Sl.v a0)),(5,(iV v17)),(8,(iV v22))] a:=u;have h:cU a0 x34 x35 w36=some o:=h;unfold cU at h;refine wp_seq<|wp_seq<|aA<|qm u rfl fun a u=>q u (dK u rfl rfl) fun a u=>aB<|t_n<|?_;refine aO u rfl h (fun b43 h=>?_) (fun b43 h=>?_)
   .refine wp_skip<|t_n<|wp_seq<|wp_block<|?_;have⟨v44,w45,e46,h⟩:=bs2 h;refine bP (n:=67) (L:=[(11,(bV v44)),(0,(Sl.v a0)),(5,(iV v17)),(8,(iV v22)),(12,(iV x35))]) (w':=w45) (fun a u=>?_) (fun hk47=>?_)
    .refine b_n<|t_n<|aA<|qm u rfl fun a u=>q u (bJ u rfl rfl) fun a u=>qa u rfl fun a u=>aB<|?_;have y:=u;cases h;exact dS ⟨y.sb rfl,rfl⟩
    clear h;have h:=e46;refine aA<|qm u rfl fun a u=>qm u rfl fun a u=>?_;refine bW h (fun b48 h=>?_) (fun b48 h=>?_)
    .refine qg u 56 b48 (aC u rfl) fun a u=>qg u 56 b48 (aC u rfl) fun a u=>?_;have⟨p49,e50,h⟩:=bs1 h;refine qg u 56 b48 (bZ u rfl rfl aGK aGT e50) fun a u=>?_;have⟨v51,e52,h⟩:=bs1 h;refine qg u 56 b48 (aJ u rfl aHs (aQ e52)) fun a u=>qg u 56 b48 (gD u rfl rfl) fun a u=>q u (aF u rfl b48 rfl) fun a u=>qa u rfl fun a u=>aB<|?_;have y:=u;cases h;exact hk47 _ (y.sb rfl)
    refine qn u 56 (nm b48) fun a u=>qn u 56 (nm b48) fun a u=>qn u 56 (nm b48) fun a u=>qn u 56 (nm b48) fun a u=>qn u 56 (nm b48) fun a u=>q u (aL u rfl b48 rfl) fun a u=>qa u rfl fun a u=>aB<|?_;have y:=u;cases h;exact hk47 _ (y.sb rfl)
   refine wp_exit<|t_x<|?_;have y:=u;cases h;cases hr42 _ rfl;refine lM<|?_;exact hk41 _ (y.sb rfl)
  clear h;have h:=e29;refine aA<|qm u rfl fun a u=>q u (pP u rfl rfl) fun a u=>qm u rfl fun a u=>?_;refine bW h (fun b31 h=>?_) (fun b31 h=>?_)
  .refine qg u 39 b31 (aC u rfl) fun a u=>qg u 39 b31 (sU u rfl rfl) fun a u=>q u (aF u rfl b31 rfl) fun a u=>qm u rfl fun a u=>?_;refine bW h (fun b32 h=>?_) (fun b32 h=>?_)
   .refine qg u 43 b32 (aC u rfl) fun a u=>qg u 43 b32 (pP u rfl rfl) fun a u=>q u (aF u rfl b32 rfl) fun a u=>qm u rfl fun a u=>?_;refine bW h (fun b33 h=>?_) (fun b33 h=>?_)
    .refine qg u 47 b33 (aC u rfl) fun a u=>qg u 47 b33 (sU u rfl rfl) fun a u=>q u (aF u rfl b33 rfl) fun a u=>qa u rfl fun a u=>aB<|?_;have y:=u;cases h;exact hk30 _ (y.sb rfl)
    refine qn u 47 (nm b33) fun a u=>qn u 47 (nm b33) fun a u=>q u (aL u rfl b33 rfl) fun a u=>qa u rfl fun a u=>aB<|?_;have y:=u;cases h;exact hk30 _ (y.sb rfl)
   refine qn u 43 (nm b32) fun a u=>qn u 43 (nm b32) fun a u=>q u (aL u rfl b32 rfl) fun a u=>qm u rfl fun a u=>qn u 47 (nm aIr) fun a u=>qn u 47 (nm aIr) fun a u=>q u (aL u rfl aIr rfl) fun a u=>qa u rfl fun a u=>aB<|?_;have y:=u;cases h;exact hk30 _ (y.sb rfl)
  refine qn u 39 (nm b31) fun a u=>qn u 39 (nm b31) fun a u=>q u (aL u rfl b31 rfl) fun a u=>qm u rfl fun a u=>qn u 43 (nm aIr) fun a u=>qn u 43 (nm aIr) fun a u=>q u (aL u rfl aIr rfl) fun a u=>qm u rfl fun a u=>qn u 47 (nm aIr) fun a u=>qn u 47 (nm aIr) fun a u=>q u (aL u rfl aIr rfl) fun a u=>qa u rfl fun a u=>aB<|?_;have y:=u;cases h;exact hk30 _ (y.sb rfl)
 clear h;have h:=e3;have⟨w5,e6,h⟩:=bs1 h;refine bW h (fun b7 h=>?_) (fun b7 h=>?_)
 .have u:Has 67 [(0,(Sl.v a0))] a:=u.sb rfl;refine aM (n:=67) (ds:=(aS (Sl.v a0) 0 [] 0::aG (iV (a0.n:Int)) 0 [0] 13 (Sl.v a0)::aG (bV ((a0.n:Int) !=64)) 0 [0,1] 14 (iV (a0.n:Int))::aS (bV ((a0.n:Int) !=64)) 0 [0,1,2] 15::aG (undef) 0 (rn 0 4) 16 (bV ((a0.n:Int) !=64))::aG (undef) 0 (rn 0 5) 16 (bV ((a0.n:Int) !=64))::aG (undef) 0 (rn 0 6) 16 (bV ((a0.n:Int) !=64))::aG (undef) 0 (rn 0 4) 16 (bV ((a0.n:Int) !=64))::aG (undef) 0 (rn 0 4++[7]) 16 (bV ((a0.n:Int) !=64))::aG (undef) 0 (rn 0 4++[7,8]) 16 (bV ((a0.n:Int) !=64))::aG (undef) 0 (rn 0 10) 16 (bV ((a0.n:Int) !=64))::aT (bV true) 0 (rn 0 11) [(16,(bV ((a0.n:Int) !=64))),(23,undef)]::[])) (W:=(fun _=>w5)) (by kernel_rfl) u (cY e6) (by kernel_rfl) ?_ (aR (by kernel_rfl)) (by kernel_rfl) (m:=0) (by kernel_rfl) (fun a u=>?_)
  .exact⟨oa (aC · rfl),oa (aZ · rfl aGK),oa (fJ · rfl rfl),oa (aC · rfl),on 16 (tn b7),on 16 (tn b7),on 16 (tn b7),on 16 (tn b7),on 16 (tn b7),on 16 (tn b7),on 16 (tn b7),oa (aF · rfl b7 rfl),aLz⟩
  have u:Has 67 [(0,(Sl.v a0)),(24,(bV true))] a:=u.sb rfl;have y:=u;cases h;exact hk4 _ (y.sb rfl)
 have⟨p8,e9,h⟩:=bs1 h;have⟨v10,e11,h⟩:=bs1 h;have⟨p12,e13,h⟩:=bs1 h;have⟨v14,e15,h⟩:=bs1 h;have u:Has 67 [(0,(Sl.v a0))] a:=u.sb rfl;refine aM (n:=67) (ds:=(aS (Sl.v a0) 0 [] 0::aG (iV (a0.n:Int)) 0 [0] 13 (Sl.v a0)::aG (bV ((a0.n:Int) !=64)) 0 [0,1] 14 (iV (a0.n:Int))::aS (bV ((a0.n:Int) !=64)) 0 [0,1,2] 15::aT (Sl.v a0) 0 (rn 0 4) [(0,(Sl.v a0)),(16,(bV ((a0.n:Int) !=64)))]::aT (pV (some p8)) 0 (rn 0 5) [(17,(Sl.v a0)),(16,(bV ((a0.n:Int) !=64)))]::aT (.int .u8 v10) 0 (rn 0 6) [(18,(pV (some p8))),(16,(bV ((a0.n:Int) !=64)))]::aT (Sl.v a0) 0 (rn 0 4) [(0,(Sl.v a0)),(16,(bV ((a0.n:Int) !=64)))]::aT (pV (some p12)) 0 (rn 0 4++[7]) [(20,(Sl.v a0)),(16,(bV ((a0.n:Int) !=64)))]::aT (.int .u8 v14) 0 (rn 0 4++[7,8]) [(21,(pV (some p12))),(16,(bV ((a0.n:Int) !=64)))]::aT (bV (v10 !=v14)) 0 (rn 0 10) [(19,(.int .u8 v10)),(22,(.int .u8 v14)),(16,(bV ((a0.n:Int) !=64)))]::aT (bV (v10 !=v14)) 0 (rn 0 11) [(16,(bV ((a0.n:Int) !=64))),(23,(bV (v10 !=v14)))]::[])) (W:=(fun _=>w5)) (by kernel_rfl) u (cY e6) (by kernel_rfl) ?_ (aR (by kernel_rfl)) (by kernel_rfl) (m:=0) (by kernel_rfl) (fun a u=>?_)
 .exact⟨oa (aC · rfl),oa (aZ · rfl aGK),oa (fJ · rfl rfl),oa (aC · rfl),oag 16 (nt b7) (aC · rfl),oag 16 (nt b7) (bZ · rfl rfl aGK aGT e9),oc (e:=false) 0 (kg 16 (nt b7) (aJ · rfl aHs (aQ e11))),oag 16 (nt b7) (aC · rfl),oag 16 (nt b7) (bZ · rfl rfl aGK aGT e13),oc (e:=false) 0 (kg 16 (nt b7) (aJ · rfl aHs (aQ e15))),oag 16 (nt b7) (fJ · rfl rfl),oa (aL · rfl b7 rfl),aLz⟩
 have u:Has 67 [(0,(Sl.v a0)),(24,(bV (v10 !=v14)))] a:=u.sb rfl;have y:=u;cases h;exact hk4 _ (y.sb rfl)
noncomputable def dH (a0:Option Addr) (a1:Int) (w:World):Option (Int×Int×Int×World) :=
 (dr w).bind fun w1 =>
 (a0).bind fun p3 =>
 (ldP w1 (p3.add 0)).bind fun v5 =>
 (ldI .i64 w1 (p3.add 1)).bind fun v7 =>
 oM (bX v5 (IntKind.wrap .i64 (v7+(IntKind.wrap .i64 (2*a1)))) w1) fun v9 v10 w11 =>
 (dr w11).bind fun w13 =>
 (ldP w13 (p3.add 0)).bind fun v15 =>
 (ldI .i64 w13 (p3.add 1)).bind fun v17 =>
 oM (bX v15 (IntKind.wrap .i64 ((IntKind.wrap .i64 (v17+(IntKind.wrap .i64 (2*a1))))+1)) w13) fun v19 v20 w21 =>
 kE (gM v9 w21) fun v23 v24 v25 w26 =>
 kE (gM v19 w26) fun v28 v29 v30 w31 =>
 aN (if v25=true then
 (if (!v30)=true then
 (some (true,w31))
 else
 (some ((decide (v28<=v23)),w31)))
 else
 (some (false,w31))) fun v33 w34 =>
 if v33=true then
 (some (0,v23,v24,w34))
 else
 (if v30=true then
 (some (1,v28,v29,w34))
 else
 (some (2,0,0,w34)))
theorem kP {a0 a1 w w' r0 r1 r2} (h:dH a0 a1 w=some (r0,r1,r2,w')):Calls Try.prog 147 #[(.pointer a0),(.int .i64 a1)] w fun e w''=>e=.returned (.tuple #[(.int .i64 r0),(.int .i64 r1),(.int .i64 r2)])/\w''=w':=by
 refine aP (n:=75) Try.func147 rfl Try.ntmps147 (by simp) fun a u=>?_;unfold dH at h;refine wp_seq<|aA<|qa u rfl fun a u=>qa u rfl fun a u=>qa u rfl fun a u=>aB<|t_n<|wp_seq<|?_;have⟨w1,e2,h⟩:=bs1 h;have⟨p3,e4,h⟩:=bs1 h;have⟨v5,e6,h⟩:=bs1 h;have⟨v7,e8,h⟩:=bs1 h;have⟨v9,v10,w11,e12,h⟩:=bs3 h;have u:Has 75 [(0,(pV a0)),(1,(iV a1))] a:=u.sb rfl;refine aM (n:=75) (ds:=(aS (pV a0) 0 [] 0::aG (pV (some p3)) 0 [0] 18 (pV a0)::aG (pV (some (p3.add 0))) 0 [0,1] 19 (pV (some p3))::aG (pV v5) 0 [0,1,2] 20 (pV (some (p3.add 0)))::aS (pV a0) 0 [] 0::aG (pV (some p3)) 0 [4] 22 (pV a0)::aG (pV (some (p3.add 1))) 0 [4,5] 23 (pV (some p3))::aG (iV v7) 0 [4,5,6] 24 (pV (some (p3.add 1)))::aS (iV a1) 0 [] 1::aG (iV (IntKind.wrap .i64 (2*a1))) 0 [8] 26 (iV a1)::aT (iV (IntKind.wrap .i64 (v7+(IntKind.wrap .i64 (2*a1))))) 0 (rn 4 6) [(25,(iV v7)),(27,(iV (IntKind.wrap .i64 (2*a1))))]::aI (.tuple #[(Sl.v v9),(iV v10)]) true 0 0 (rn 0 11) [(21,(pV v5)),(28,(iV (IntKind.wrap .i64 (v7+(IntKind.wrap .i64 (2*a1))))))]::aS (.tuple #[(Sl.v v9),(iV v10)]) 1 (rn 0 12) 29::aG (Sl.v v9) 1 (rn 0 13) 17 (.tuple #[(Sl.v v9),(iV v10)])::aG (iV v10) 1 (rn 0 13) 17 (.tuple #[(Sl.v v9),(iV v10)])::aS (Sl.v v9) 1 (rn 0 14) 30::aS (iV v10) 1 (rn 0 16) 31::[])) (W:=(fun j=>match j with | 0=>w1 | 1=>w11 | _=>w11)) (by kernel_rfl) u (cY e2) (by kernel_rfl) ?_ (aR (by kernel_rfl)) (by kernel_rfl) (m:=1) (by kernel_rfl) (fun a u=>?_)
 .exact⟨oa (aC · rfl),oa (aH · rfl e4),oa (aK · rfl aHw rfl rfl aHp),oc 0 (kd (aJ · rfl aHi (bA e6))),oa (aC · rfl),oa (aH · rfl e4),oa (aK · rfl aHw rfl rfl aGL),oc 0 (kd (aJ · rfl aGN (aQ e8))),oa (aC · rfl),oa (oN · rfl rfl),oa (bJ · rfl rfl),oc 0 (kd (dc2 · rfl rfl Try.call100 (gS e12))),oa (aC · rfl),oa (aW · rfl rfl),oa (aW · rfl rfl),oa (bD · rfl),oa (bD · rfl),aLz⟩
 have u:Has 75 [(0,(pV a0)),(1,(iV a1)),(7,(Sl.v v9))] a:=u.sb rfl;refine t_n<|wp_seq<|?_;have⟨w13,e14,h⟩:=bs1 h;have⟨v15,e16,h⟩:=bs1 h;have⟨v17,e18,h⟩:=bs1 h;have⟨v19,v20,w21,e22,h⟩:=bs3 h;have u:Has 75 [(0,(pV a0)),(1,(iV a1)),(7,(Sl.v v9))] a:=u.sb rfl;refine aM (n:=75) (ds:=(aS (pV a0) 0 [] 0::aG (pV (some p3)) 0 [0] 33 (pV a0)::aG (pV (some (p3.add 0))) 0 [0,1] 34 (pV (some p3))::aG (pV v15) 0 [0,1,2] 35 (pV (some (p3.add 0)))::aS (pV a0) 0 [] 0::aG (pV (some p3)) 0 [4] 37 (pV a0)::aG (pV (some (p3.add 1))) 0 [4,5] 38 (pV (some p3))::aG (iV v17) 0 [4,5,6] 39 (pV (some (p3.add 1)))::aS (iV a1) 0 [] 1::aG (iV (IntKind.wrap .i64 (2*a1))) 0 [8] 41 (iV a1)::aT (iV (IntKind.wrap .i64 (v17+(IntKind.wrap .i64 (2*a1))))) 0 (rn 4 6) [(40,(iV v17)),(42,(iV (IntKind.wrap .i64 (2*a1))))]::aG (iV (IntKind.wrap .i64 ((IntKind.wrap .i64 (v17+(IntKind.wrap .i64 (2*a1))))+1))) 0 (rn 4 7) 43 (iV (IntKind.wrap .i64 (v17+(IntKind.wrap .i64 (2*a1)))))::aI (.tuple #[(Sl.v v19),(iV v20)]) true 0 0 (rn 0 12) [(36,(pV v15)),(44,(iV (IntKind.wrap .i64 ((IntKind.wrap .i64 (v17+(IntKind.wrap .i64 (2*a1))))+1))))]::aS (.tuple #[(Sl.v v19),(iV v20)]) 1 (rn 0 13) 45::aG (Sl.v v19) 1 (rn 0 14) 32 (.tuple #[(Sl.v v19),(iV v20)])::aG (iV v20) 1 (rn 0 14) 32 (.tuple #[(Sl.v v19),(iV v20)])::aS (Sl.v v19) 1 (rn 0 15) 46::aS (iV v20) 1 (rn 0 17) 47::[])) (W:=(fun j=>match j with | 0=>w13 | 1=>w21 | _=>w21)) (by kernel_rfl) u (cY e14) (by kernel_rfl) ?_ (aR (by kernel_rfl)) (by kernel_rfl) (m:=1) (by kernel_rfl) (fun a u=>?_)
 .exact⟨oa (aC · rfl),oa (aH · rfl e4),oa (aK · rfl aHw rfl rfl aHp),oc 0 (kd (aJ · rfl aHi (bA e16))),oa (aC · rfl),oa (aH · rfl e4),oa (aK · rfl aHw rfl rfl aGL),oc 0 (kd (aJ · rfl aGN (aQ e18))),oa (aC · rfl),oa (oN · rfl rfl),oa (bJ · rfl rfl),oa (bJ · rfl rfl),oc 0 (kd (dc2 · rfl rfl Try.call100 (gS e22))),oa (aC · rfl),oa (aW · rfl rfl),oa (aW · rfl rfl),oa (bD · rfl),oa (bD · rfl),aLz⟩
 have u:Has 75 [(7,(Sl.v v9)),(9,(Sl.v v19))] a:=u.sb rfl;refine t_n<|wp_seq<|aA<|qm u rfl fun a u=>?_;have⟨v23,v24,v25,w26,e27,h⟩:=bs4 h;refine q u (dc1 u rfl Try.call158 (mZ e27)) fun a u=>qm u rfl fun a u=>q u (aW u rfl rfl) fun a u=>q u (aW u rfl rfl) fun a u=>q u (aW u rfl rfl) fun a u=>qa u rfl fun a u=>qa u rfl fun a u=>qa u rfl fun a u=>aB<|t_n<|wp_seq<|aA<|qm u rfl fun a u=>?_;have⟨v28,v29,v30,w31,e32,h⟩:=bs4 h;refine q u (dc1 u rfl Try.call158 (mZ e32)) fun a u=>qm u rfl fun a u=>q u (aW u rfl rfl) fun a u=>q u (aW u rfl rfl) fun a u=>q u (aW u rfl rfl) fun a u=>qa u rfl fun a u=>qa u rfl fun a u=>qa u rfl fun a u=>aB<|t_n<|wp_seq<|wp_seq<|?_;have⟨v33,w34,e35,h⟩:=bs2 h;refine bP (n:=75) (L:=[(69,(bV v33)),(11,(iV v23)),(12,(iV v24)),(14,(iV v28)),(15,(iV v29)),(16,(bV v30))]) (w':=w34) (fun a u=>?_) (fun hk36=>?_)
 .refine t_n<|?_;refine aO u rfl h (fun b39 h=>?_) (fun b39 h=>?_)
  .refine wp_seq<|aA<|qm u rfl fun a u=>qm u rfl fun a u=>qa u rfl fun a u=>qa u rfl fun a u=>qa u rfl fun a u=>aB<|t_n<|wp_ret<|t_r<|?_;have y:=u;cases h;exact oE Try.results147 y rfl rfl rfl ⟨rfl,rfl⟩
  refine wp_skip<|t_n<|wp_seq<|wp_seq<|aA<|qm u rfl fun a u=>aB<|t_n<|?_;refine aO u rfl h (fun b40 h=>?_) (fun b40 h=>?_)
  .refine wp_seq<|aA<|qm u rfl fun a u=>qm u rfl fun a u=>qa u rfl fun a u=>qa u rfl fun a u=>qa u rfl fun a u=>aB<|t_n<|wp_ret<|t_r<|?_;have y:=u;cases h;exact oE Try.results147 y rfl rfl rfl ⟨rfl,rfl⟩
  refine wp_skip<|t_n<|wp_seq<|aA<|qa u rfl fun a u=>qa u rfl fun a u=>qa u rfl fun a u=>aB<|t_n<|wp_ret<|?_;have y:=u;cases h;exact oE Try.results147 y rfl rfl rfl ⟨rfl,rfl⟩
 clear h;have h:=e35;refine aA<|qm u rfl fun a u=>qm u rfl fun a u=>?_;refine bW h (fun b37 h=>?_) (fun b37 h=>?_)
 .refine qg u 61 b37 (aC u rfl) fun a u=>qg u 61 b37 (pR u rfl) fun a u=>qg u 61 b37 (aC u rfl) fun a u=>?_;refine bW h (fun b38 h=>?_) (fun b38 h=>?_)
  .refine qn u 64 (tn b38) fun a u=>qn u 64 (tn b38) fun a u=>qn u 64 (tn b38) fun a u=>qg u 61 b37 (aF u rfl b38 rfl) fun a u=>q u (aF u rfl b37 rfl) fun a u=>aB<|?_;have y:=u;cases h;exact hk36 _ (y.sb rfl)
  refine qg u 64 (nt b38) (aC u rfl) fun a u=>qg u 64 (nt b38) (aC u rfl) fun a u=>qg u 64 (nt b38) (pP u rfl rfl) fun a u=>qg u 61 b37 (aL u rfl b38 rfl) fun a u=>q u (aF u rfl b37 rfl) fun a u=>aB<|?_;have y:=u;cases h;exact hk36 _ (y.sb rfl)
 refine qn u 61 (nm b37) fun a u=>qn u 61 (nm b37) fun a u=>qn u 61 (nm b37) fun a u=>qu u 64 fun a u=>qu u 64 fun a u=>qu u 64 fun a u=>qn u 61 (nm b37) fun a u=>q u (aL u rfl b37 rfl) fun a u=>aB<|?_;have y:=u;cases h;exact hk36 _ (y.sb rfl)
noncomputable def eI (a0:Option Addr) (a1:Int) (w:World):Option (Int×Bool×World) :=
 aN (if (a0.isNone)=true then
 (some (true,w))
 else
 (if (decide (a1<0))=true then
 (some (true,w))
 else
 ((a0).bind fun p7 =>
 (ldI .i64 w (p7.add 2)).bind fun v9 =>
 some ((decide (v9<=a1)),w)))) fun v1 w2 =>
 if v1=true then
 (some (0,false,w2))
 else
 (kE (dH a0 a1 w2) fun v12 v13 v14 w15 =>
 some (v14,(decide (v12<2)),w15))
theorem oP {a0 a1 w w' r0 r1} (h:eI a0 a1 w=some (r0,r1,w')):Calls Try.prog 115 #[(.pointer a0),(.int .i64 a1)] w fun e w''=>e=.returned (.tuple #[(.int .i64 r0),(.bool r1)])/\w''=w':=by
 refine aP (n:=33) Try.func115 rfl Try.ntmps115 (by simp) fun a u=>?_;unfold eI at h;refine wp_seq<|aA<|qa u rfl fun a u=>qa u rfl fun a u=>aB<|t_n<|wp_seq<|wp_seq<|?_;have⟨v1,w2,e3,h⟩:=bs2 h;refine bP (n:=33) (L:=[(22,(bV v1)),(0,(pV a0)),(1,(iV a1))]) (w':=w2) (fun a u=>?_) (fun hk4=>?_)
 .refine t_n<|?_;refine aO u rfl h (fun b11 h=>?_) (fun b11 h=>?_)
  .refine wp_seq<|aA<|qa u rfl fun a u=>qa u rfl fun a u=>aB<|t_n<|wp_ret<|t_r<|?_;have y:=u;cases h;exact jA Try.results115 y rfl rfl ⟨rfl,rfl⟩
  refine wp_skip<|t_n<|wp_seq<|aA<|qm u rfl fun a u=>qm u rfl fun a u=>?_;have⟨v12,v13,v14,w15,e16,h⟩:=bs4 h;refine q u (dc2 u rfl rfl Try.call147 (kP e16)) fun a u=>qm u rfl fun a u=>q u (aW u rfl rfl) fun a u=>q u (aW u rfl rfl) fun a u=>q u (aW u rfl rfl) fun a u=>qa u rfl fun a u=>qa u rfl fun a u=>qa u rfl fun a u=>aB<|t_n<|wp_seq<|aA<|qm u rfl fun a u=>qm u rfl fun a u=>q u (dK u rfl rfl) fun a u=>qa u rfl fun a u=>qa u rfl fun a u=>aB<|t_n<|wp_ret<|?_;have y:=u;cases h;exact jA Try.results115 y rfl rfl ⟨rfl,rfl⟩
 clear h;have h:=e3;refine aA<|qm u rfl fun a u=>q u (jJ u rfl rfl Try.runUnderlying167) fun a u=>qm u rfl fun a u=>?_;refine bW h (fun b5 h=>?_) (fun b5 h=>?_)
 .refine qn u 11 (tn b5) fun a u=>qn u 11 (tn b5) fun a u=>q u (aF u rfl b5 rfl) fun a u=>qm u rfl fun a u=>qn u 15 (tn rfl) fun a u=>qn u 15 (tn rfl) fun a u=>qn u 15 (tn rfl) fun a u=>qn u 15 (tn rfl) fun a u=>qn u 15 (tn rfl) fun a u=>qn u 15 (tn rfl) fun a u=>q u (aF u rfl rfl rfl) fun a u=>aB<|?_;have y:=u;cases h;exact hk4 _ (y.sb rfl)
 refine qg u 11 (nt b5) (aC u rfl) fun a u=>qg u 11 (nt b5) (dK u rfl rfl) fun a u=>q u (aL u rfl b5 rfl) fun a u=>qm u rfl fun a u=>?_;refine bW h (fun b6 h=>?_) (fun b6 h=>?_)
 .refine qn u 15 (tn b6) fun a u=>qn u 15 (tn b6) fun a u=>qn u 15 (tn b6) fun a u=>qn u 15 (tn b6) fun a u=>qn u 15 (tn b6) fun a u=>qn u 15 (tn b6) fun a u=>q u (aF u rfl b6 rfl) fun a u=>aB<|?_;have y:=u;cases h;exact hk4 _ (y.sb rfl)
 refine qg u 15 (nt b6) (aC u rfl) fun a u=>qg u 15 (nt b6) (aC u rfl) fun a u=>?_;have⟨p7,e8,h⟩:=bs1 h;refine qg u 15 (nt b6) (aH u rfl e8) fun a u=>qg u 15 (nt b6) (aK u rfl aHw rfl rfl aGL) fun a u=>?_;have⟨v9,e10,h⟩:=bs1 h;refine qg u 15 (nt b6) (aJ u rfl aGN (aQ e10)) fun a u=>qg u 15 (nt b6) (pP u rfl rfl) fun a u=>q u (aL u rfl b6 rfl) fun a u=>aB<|?_;have y:=u;cases h;exact hk4 _ (y.sb rfl)
noncomputable def gA (a0:Option Addr) (a1:Int) (a2:Int) (w:World):Option (Int×World) :=
 if (a0.isNone)=true then
 (some (1,w))
 else
 ((a0).bind fun p2 =>
 (ldP w (p2.add 0)).bind fun v4 =>
 (v4).bind fun p6 =>
 (ldB w (p6.add 3)).bind fun v8 =>
 if v8=true then
 (some (10,w))
 else
 (aN (if (decide (a1<0))=true then
 (some (true,w))
 else
 ((ldI .i64 w (p2.add 2)).bind fun v16 =>
 if (decide (v16<=a1))=true then
 (some (true,w))
 else
 (if (decide (a2<0))=true then
 (some (true,w))
 else
 (some ((decide (1099511627776<a2)),w))))) fun v11 w12 =>
 if v11=true then
 (some (2,w12))
 else
 (kE (dH a0 a1 w12) fun v21 v22 v23 w24 =>
 if (decide (4611686018427387904<=v22))=true then
 (some (6,w24))
 else
 ((ldI .i64 w24 (p2.add 1)).bind fun v27 =>
 aN (if (v21==0)=true then
 (some ((IntKind.wrap .i64 ((IntKind.wrap .i64 (v27+(IntKind.wrap .i64 (2*a1))))+1)),w24))
 else
 (some ((IntKind.wrap .i64 (v27+(IntKind.wrap .i64 (2*a1)))),w24))) fun v29 w30 =>
 (ldP w30 (p2.add 0)).bind fun v34 =>
 oM (bX v34 v29 w30) fun v36 v37 w38 =>
 (ix v36 63 1).bind fun p40 =>
 (ldI .u8 w38 p40).bind fun v42 =>
 (rmI (IntKind.wrap .i64 ((IntKind.wrap .i64 v42)+1)) 256).bind fun v44 =>
 aN (bsl w38 5 1 [[(.int .u8 (IntKind.wrap .u8 v44))]]) fun s46 w47 =>
 aN (dE (IntKind.wrap .i64 (v22+1)) w47) fun v49 w50 =>
 aN (apS Try.prog 72 s46 v49 w50) fun s52 w53 =>
 aN (dE a2 w53) fun v55 w56 =>
 aN (apS Try.prog 72 s52 v55 w56) fun s58 w59 =>
 aN (apZ Try.prog 72 3 s58 46 w59) fun s61 w62 =>
 (dr w62).bind fun w64 =>
 (ldP w64 (p2.add 0)).bind fun v66 =>
 aN (bsl w64 5 1 [[(.int .u8 (IntKind.wrap .u8 v44))]]) fun s68 w69 =>
 aN (apS Try.prog 72 s61 s68 w69) fun s71 w72 =>
 aN (bE v66 v29 s71 w72) fun v74 w75 =>
 chk (ldP w69 (p2.add 0)=some v66) <|
 chk (ldP w72 (p2.add 0)=some v66) <|
 aN (if (v74==0)=true then
 ((ldP w75 (p2.add 0)).bind fun v84 =>
 aN (bK v84 w75) fun v86 w87 =>
 some (v86,w87))
 else
 (some (v74,w75))) fun v79 w80 =>
 some (v79,w80)))))
theorem oW {a0 a1 a2 w w' r0} (h:gA a0 a1 a2 w=some (r0,w')):Calls Try.prog 128 #[(.pointer a0),(.int .i64 a1),(.int .i64 a2)] w fun e w''=>e=.returned (.int .i64 r0)/\w''=w':=by
 refine aP (n:=109) Try.func128 rfl Try.ntmps128 (by simp) fun a u=>?_;unfold gA at h;refine wp_seq<|aA<|qa u rfl fun a u=>aB<|t_n<|wp_seq<|wp_seq<|aA<|qm u rfl fun a u=>q u (jJ u rfl rfl Try.runUnderlying167) fun a u=>aB<|t_n<|?_;refine aO u rfl h (fun b1 h=>?_) (fun b1 h=>?_)
 .refine wp_seq<|aA<|qa u rfl fun a u=>aB<|t_n<|wp_ret<|t_r<|?_;have y:=u;cases h;exact bI Try.results128 y rfl ⟨rfl,rfl⟩
 refine wp_skip<|t_n<|wp_seq<|wp_seq<|aA<|qm u rfl fun a u=>?_;have⟨p2,e3,h⟩:=bs1 h;refine q u (aH u rfl e3) fun a u=>q u (aK u rfl aHw rfl rfl aHp) fun a u=>?_;have⟨v4,e5,h⟩:=bs1 h;refine q u (aJ u rfl aHi (bA e5)) fun a u=>?_;have⟨p6,e7,h⟩:=bs1 h;refine q u (aH u rfl e7) fun a u=>q u (aK u rfl aGS rfl rfl aHz) fun a u=>?_;have⟨v8,e9,h⟩:=bs1 h;refine q u (aJ u rfl aHR (oO e9)) fun a u=>aB<|t_n<|?_;refine aO u rfl h (fun b10 h=>?_) (fun b10 h=>?_)
 .refine wp_seq<|aA<|qa u rfl fun a u=>aB<|t_n<|wp_ret<|t_r<|?_;have y:=u;cases h;exact bI Try.results128 y rfl ⟨rfl,rfl⟩
 refine wp_skip<|t_n<|wp_seq<|wp_seq<|?_;have⟨v11,w12,e13,h⟩:=bs2 h;refine bP (n:=109) (L:=[(42,(bV v11)),(0,(pV a0)),(1,(iV a1)),(2,(iV a2))]) (w':=w12) (fun a u=>?_) (fun hk14=>?_)
 .refine t_n<|?_;refine aO u rfl h (fun b20 h=>?_) (fun b20 h=>?_)
  .refine wp_seq<|aA<|qa u rfl fun a u=>aB<|t_n<|wp_ret<|t_r<|?_;have y:=u;cases h;exact bI Try.results128 y rfl ⟨rfl,rfl⟩
  refine wp_skip<|t_n<|wp_seq<|aA<|qm u rfl fun a u=>qm u rfl fun a u=>?_;have⟨v21,v22,v23,w24,e25,h⟩:=bs4 h;refine q u (dc2 u rfl rfl Try.call147 (kP e25)) fun a u=>qm u rfl fun a u=>q u (aW u rfl rfl) fun a u=>q u (aW u rfl rfl) fun a u=>q u (aW u rfl rfl) fun a u=>qa u rfl fun a u=>qa u rfl fun a u=>qa u rfl fun a u=>aB<|t_n<|wp_seq<|wp_seq<|aA<|qm u rfl fun a u=>q u (pP u rfl rfl) fun a u=>aB<|t_n<|?_;refine aO u rfl h (fun b26 h=>?_) (fun b26 h=>?_)
  .refine wp_seq<|aA<|qa u rfl fun a u=>aB<|t_n<|wp_ret<|t_r<|?_;have y:=u;cases h;exact bI Try.results128 y rfl ⟨rfl,rfl⟩
  refine wp_skip<|t_n<|wp_seq<|aA<|qm u rfl fun a u=>q u (aH u rfl e3) fun a u=>q u (aK u rfl aHw rfl rfl aGL) fun a u=>?_;have⟨v27,e28,h⟩:=bs1 h;refine q u (aJ u rfl aGN (aQ e28)) fun a u=>qm u rfl fun a u=>q u (oN u rfl rfl) fun a u=>q u (bJ u rfl rfl) fun a u=>qa u rfl fun a u=>aB<|t_n<|?_;have⟨v29,w30,e31,h⟩:=bs2 h;refine gW (n:=109) (L:=[(10,(iV v29)),(0,(pV a0)),(2,(iV a2)),(8,(iV v22))]) (w':=w30) (fun a u=>?_) (fun hk32=>?_)
  .refine wp_seq<|aA<|qm u rfl fun a u=>q u (aH u rfl e3) fun a u=>q u (aK u rfl aHw rfl rfl aHp) fun a u=>?_;have⟨v34,e35,h⟩:=bs1 h;refine q u (aJ u rfl aHi (bA e35)) fun a u=>qm u rfl fun a u=>?_;have⟨v36,v37,w38,e39,h⟩:=bs3 h;refine q u (dc2 u rfl rfl Try.call100 (gS e39)) fun a u=>qm u rfl fun a u=>q u (aW u rfl rfl) fun a u=>q u (aW u rfl rfl) fun a u=>qa u rfl fun a u=>qa u rfl fun a u=>aB<|t_n<|wp_seq<|aA<|qm u rfl fun a u=>?_;have⟨p40,e41,h⟩:=bs1 h;refine q u (bZ u rfl rfl aGK aGT e41) fun a u=>?_;have⟨v42,e43,h⟩:=bs1 h;refine q u (aJ u rfl aHs (aQ e43)) fun a u=>q u (iP u rfl aGZ aHl) fun a u=>q u (bJ u rfl rfl) fun a u=>?_;have⟨v44,e45,h⟩:=bs1 h;refine q u (sH u rfl rfl e45) fun a u=>q u (iP u rfl aHl aGZ) fun a u=>qa u rfl fun a u=>aB<|t_n<|wp_seq<|aA<|qm u rfl fun a u=>?_;have⟨s46,w47,e48,h⟩:=bs2 h;refine q u (iK (vs:=[(0,(.int .u8 (IntKind.wrap .u8 v44)))]) (ps:=[[(.int .u8 (IntKind.wrap .u8 v44))]]) u ⟨rfl,rfl,aLz⟩ ⟨rfl,rfl,aLz⟩ rfl aGK aGT aHG (by decide) e48) fun a u=>qm u rfl fun a u=>q u (bJ u rfl rfl) fun a u=>?_;have⟨v49,w50,e51,h⟩:=bs2 h;refine q u (dc1 u rfl Try.call125 (iG e51)) fun a u=>?_;have⟨s52,w53,e54,h⟩:=bs2 h;refine q u (iF u rfl rfl e54) fun a u=>qa u rfl fun a u=>aB<|t_n<|wp_seq<|aA<|qm u rfl fun a u=>qm u rfl fun a u=>?_;have⟨v55,w56,e57,h⟩:=bs2 h;refine q u (dc1 u rfl Try.call125 (iG e57)) fun a u=>?_;have⟨s58,w59,e60,h⟩:=bs2 h;refine q u (iF u rfl rfl e60) fun a u=>qa u rfl fun a u=>aB<|t_n<|wp_seq<|aA<|qm u rfl fun a u=>?_;have⟨s61,w62,e63,h⟩:=bs2 h;refine q u (aFk u rfl rfl e63) fun a u=>qa u rfl fun a u=>aB<|t_n<|wp_seq<|?_;have⟨w64,e65,h⟩:=bs1 h;have⟨v66,e67,h⟩:=bs1 h;have⟨s68,w69,e70,h⟩:=bs2 h;have⟨s71,w72,e73,h⟩:=bs2 h;have⟨v74,w75,e76,h⟩:=bs2 h;obtain⟨e77,h⟩:=bO h;obtain⟨e78,h⟩:=bO h;have u:Has 109 [(0,(pV a0)),(10,(iV v29)),(13,(.int .u8 (IntKind.wrap .u8 v44))),(14,(Sl.v s61))] a:=u.sb rfl;refine aM (n:=109) (ds:=(aI (pV a0) false 0 2 [] [(0,(pV a0))]::aI (pV (some p2)) false 0 2 [0] [(91,(pV a0))]::aI (pV (some (p2.add 0))) false 0 2 [0,1] [(92,(pV (some p2)))]::aI (pV v66) false 0 2 [0,1,2] [(93,(pV (some (p2.add 0))))]::aI (iV v29) false 0 2 [] [(10,(iV v29))]::aI (Sl.v s61) false 0 1 [] [(14,(Sl.v s61))]::aS (.int .u8 (IntKind.wrap .u8 v44)) 0 [] 13::aI (Sl.v s68) true 0 0 [6] [(97,(.int .u8 (IntKind.wrap .u8 v44)))]::aI (Sl.v s71) true 1 1 [5,6,7] [(96,(Sl.v s61)),(98,(Sl.v s68))]::aI (iV v74) true 2 2 (rn 0 9) [(94,(pV v66)),(95,(iV v29)),(99,(Sl.v s71))]::aS (iV v74) 3 (rn 0 10) 100::[])) (W:=(fun j=>match j with | 0=>w64 | 1=>w69 | 2=>w72 | 3=>w75 | _=>w75)) (by kernel_rfl) u (cY e65) (by kernel_rfl) ?_ (aR (by kernel_rfl)) (by kernel_rfl) (m:=3) (by kernel_rfl) (fun a u=>?_)
   .refine⟨oa (aC · rfl),oa (aH · rfl e3),oa (aK · rfl aHw rfl rfl aHp),?_,oa (aC · rfl),oa (aC · rfl),oa (aC · rfl),oc 0 (kd (iK (vs:=[(0,(.int .u8 (IntKind.wrap .u8 v44)))]) (ps:=[[(.int .u8 (IntKind.wrap .u8 v44))]]) · ⟨rfl,rfl,aLz⟩ ⟨rfl,rfl,aLz⟩ rfl aGK aGT aHG (by decide) e70)),oc 1 (kd (iF · rfl rfl e73)),oc 2 (kd (dc3 · rfl rfl rfl Try.call89 (cL e76))),oa (bD · rfl),aLz⟩;intro j h1 h2;have h1:0<=j:=h1;have h2:j<=2:=h2;rcases(by omega:j=0\/j=1\/j=2) with rfl | rfl | rfl
    .exact kd (aJ · rfl aHi (bA e67))
    .exact kd (aJ · rfl aHi (bA e77))
    exact kd (aJ · rfl aHi (bA e78))
   have u:Has 109 [(0,(pV a0)),(15,(iV v74))] a:=u.sb rfl;refine t_n<|?_;have⟨v79,w80,e81,h⟩:=bs2 h;refine gW (n:=109) (L:=[(15,(iV v79))]) (w':=w80) (fun a u=>?_) (fun hk82=>?_)
   .refine wp_seq<|aA<|qm u rfl fun a u=>qa u rfl fun a u=>aB<|t_n<|wp_ret<|?_;have y:=u;cases h;exact bI Try.results128 y rfl ⟨rfl,rfl⟩
   clear h;have h:=e81;refine wp_seq<|aA<|qm u rfl fun a u=>q u (gD u rfl rfl) fun a u=>aB<|t_n<|?_;refine aO u rfl h (fun b83 h=>?_) (fun b83 h=>?_)
   .refine aA<|qm u rfl fun a u=>q u (aH u rfl e3) fun a u=>q u (aK u rfl aHw rfl rfl aHp) fun a u=>?_;have⟨v84,e85,h⟩:=bs1 h;refine q u (aJ u rfl aHi (bA e85)) fun a u=>?_;have⟨v86,w87,e88,h⟩:=bs2 h;refine q u (dc1 u rfl Try.call76 (eR e88)) fun a u=>qa u rfl fun a u=>aB<|?_;have y:=u;cases h;exact hk82 _ (y.sb rfl)
   refine wp_skip<|?_;have y:=u;cases h;exact hk82 _ (y.sb rfl)
  clear h;have h:=e31;refine wp_seq<|aA<|qm u rfl fun a u=>q u (gD u rfl rfl) fun a u=>aB<|t_n<|?_;refine aO u rfl h (fun b33 h=>?_) (fun b33 h=>?_)
  .refine aA<|qm u rfl fun a u=>q u (bJ u rfl rfl) fun a u=>qa u rfl fun a u=>aB<|?_;have y:=u;cases h;exact hk32 _ (y.sb rfl)
  refine wp_skip<|?_;have y:=u;cases h;exact hk32 _ (y.sb rfl)
 clear h;have h:=e13;refine aA<|qm u rfl fun a u=>q u (dK u rfl rfl) fun a u=>qm u rfl fun a u=>?_;refine bW h (fun b15 h=>?_) (fun b15 h=>?_)
 .refine qn u 27 (tn b15) fun a u=>qn u 27 (tn b15) fun a u=>qn u 27 (tn b15) fun a u=>qn u 27 (tn b15) fun a u=>qn u 27 (tn b15) fun a u=>qn u 27 (tn b15) fun a u=>q u (aF u rfl b15 rfl) fun a u=>qm u rfl fun a u=>qn u 35 (tn rfl) fun a u=>qn u 35 (tn rfl) fun a u=>q u (aF u rfl rfl rfl) fun a u=>qm u rfl fun a u=>qn u 39 (tn rfl) fun a u=>qn u 39 (tn rfl) fun a u=>q u (aF u rfl rfl rfl) fun a u=>aB<|?_;have y:=u;cases h;exact hk14 _ (y.sb rfl)
 refine qg u 27 (nt b15) (aC u rfl) fun a u=>qg u 27 (nt b15) (aC u rfl) fun a u=>qg u 27 (nt b15) (aH u rfl e3) fun a u=>qg u 27 (nt b15) (aK u rfl aHw rfl rfl aGL) fun a u=>?_;have⟨v16,e17,h⟩:=bs1 h;refine qg u 27 (nt b15) (aJ u rfl aGN (aQ e17)) fun a u=>qg u 27 (nt b15) (pP u rfl rfl) fun a u=>q u (aL u rfl b15 rfl) fun a u=>qm u rfl fun a u=>?_;refine bW h (fun b18 h=>?_) (fun b18 h=>?_)
 .refine qn u 35 (tn b18) fun a u=>qn u 35 (tn b18) fun a u=>q u (aF u rfl b18 rfl) fun a u=>qm u rfl fun a u=>qn u 39 (tn rfl) fun a u=>qn u 39 (tn rfl) fun a u=>q u (aF u rfl rfl rfl) fun a u=>aB<|?_;have y:=u;cases h;exact hk14 _ (y.sb rfl)
 refine qg u 35 (nt b18) (aC u rfl) fun a u=>qg u 35 (nt b18) (dK u rfl rfl) fun a u=>q u (aL u rfl b18 rfl) fun a u=>qm u rfl fun a u=>?_;refine bW h (fun b19 h=>?_) (fun b19 h=>?_)
 .refine qn u 39 (tn b19) fun a u=>qn u 39 (tn b19) fun a u=>q u (aF u rfl b19 rfl) fun a u=>aB<|?_;have y:=u;cases h;exact hk14 _ (y.sb rfl)
 refine qg u 39 (nt b19) (aC u rfl) fun a u=>qg u 39 (nt b19) (gF u rfl rfl) fun a u=>q u (aL u rfl b19 rfl) fun a u=>aB<|?_;have y:=u;cases h;exact hk14 _ (y.sb rfl)
def cE (a0:Option Addr) (a1:Int) (a2:Int) (w:World):Option (Int×World) :=
 (a0).bind fun p1 =>
 (ldI .i64 w (p1.add 1)).bind fun v3 =>
 some ((IntKind.wrap .i64 ((IntKind.wrap .i64 ((IntKind.wrap .i64 (v3+2))+(IntKind.wrap .i64 (16*a1))))+a2)),w)
theorem eS {a0 a1 a2 w w' r0} (h:cE a0 a1 a2 w=some (r0,w')):Calls Try.prog 116 #[(.pointer a0),(.int .i64 a1),(.int .i64 a2)] w fun e w''=>e=.returned (.int .i64 r0)/\w''=w':=by
 refine aP (n:=17) Try.func116 rfl Try.ntmps116 (by simp) fun a u=>?_;unfold cE at h;refine wp_seq<|aA<|qa u rfl fun a u=>aB<|t_n<|wp_seq<|aA<|qm u rfl fun a u=>?_;have⟨p1,e2,h⟩:=bs1 h;refine q u (aH u rfl e2) fun a u=>q u (aK u rfl aGP rfl rfl aGL) fun a u=>?_;have⟨v3,e4,h⟩:=bs1 h;refine q u (aJ u rfl aGN (aQ e4)) fun a u=>q u (bJ u rfl rfl) fun a u=>qm u rfl fun a u=>q u (oN u rfl rfl) fun a u=>q u (bJ u rfl rfl) fun a u=>qm u rfl fun a u=>q u (bJ u rfl rfl) fun a u=>qa u rfl fun a u=>aB<|t_n<|wp_ret<|?_;have y:=u;cases h;exact bI Try.results116 y rfl ⟨rfl,rfl⟩
noncomputable def bR (a0:Option Addr) (a1:Int) (a2:Int) (w:World):Option (Sl×World) :=
 (dr w).bind fun w1 =>
 (a0).bind fun p3 =>
 (ldP w1 (p3.add 0)).bind fun v5 =>
 aN (cE a0 a1 a2 w1) fun v7 w8 =>
 oM (bX v5 v7 w8) fun v10 v11 w12 =>
 chk (ldP w8 (p3.add 0)=some v5) <|
 some (v10,w12)
theorem gE {a0 a1 a2 w w' r0} (h:bR a0 a1 a2 w=some (r0,w')):Calls Try.prog 117 #[(.pointer a0),(.int .i64 a1),(.int .i64 a2)] w fun e w''=>e=.returned (Sl.v r0)/\w''=w':=by
 refine aP (n:=22) Try.func117 rfl Try.ntmps117 (by simp) fun a u=>?_;unfold bR at h;refine wp_seq<|aA<|qa u rfl fun a u=>aB<|t_n<|wp_seq<|?_;have⟨w1,e2,h⟩:=bs1 h;have⟨p3,e4,h⟩:=bs1 h;have⟨v5,e6,h⟩:=bs1 h;have⟨v7,w8,e9,h⟩:=bs2 h;have⟨v10,v11,w12,e13,h⟩:=bs3 h;obtain⟨e14,h⟩:=bO h;have u:Has 22 [(0,(pV a0)),(1,(iV a1)),(2,(iV a2))] a:=u.sb rfl;refine aM (n:=22) (ds:=(aI (pV a0) false 0 1 [] [(0,(pV a0))]::aI (pV (some p3)) false 0 1 [0] [(10,(pV a0))]::aI (pV (some (p3.add 0))) false 0 1 [0,1] [(11,(pV (some p3)))]::aI (pV v5) false 0 1 [0,1,2] [(12,(pV (some (p3.add 0))))]::aS (pV a0) 0 [] 0::aS (iV a1) 0 [] 1::aS (iV a2) 0 [] 2::aI (iV v7) true 0 0 [4,5,6] [(14,(pV a0)),(15,(iV a1)),(16,(iV a2))]::aI (.tuple #[(Sl.v v10),(iV v11)]) true 1 1 (rn 0 8) [(13,(pV v5)),(17,(iV v7))]::aS (.tuple #[(Sl.v v10),(iV v11)]) 2 (rn 0 9) 18::aG (Sl.v v10) 2 (rn 0 10) 9 (.tuple #[(Sl.v v10),(iV v11)])::aG (iV v11) 2 (rn 0 10) 9 (.tuple #[(Sl.v v10),(iV v11)])::aS (Sl.v v10) 2 (rn 0 11) 19::aS (iV v11) 2 (rn 0 13) 20::[])) (W:=(fun j=>match j with | 0=>w1 | 1=>w8 | 2=>w12 | _=>w12)) (by kernel_rfl) u (cY e2) (by kernel_rfl) ?_ (aR (by kernel_rfl)) (by kernel_rfl) (m:=2) (by kernel_rfl) (fun a u=>?_)
 .refine⟨oa (aC · rfl),oa (aH · rfl e4),oa (aK · rfl aGP rfl rfl aHp),?_,oa (aC · rfl),oa (aC · rfl),oa (aC · rfl),oc 0 (kd (dc3 · rfl rfl rfl Try.call116 (eS e9))),oc 1 (kd (dc2 · rfl rfl Try.call100 (gS e13))),oa (aC · rfl),oa (aW · rfl rfl),oa (aW · rfl rfl),oa (bD · rfl),oa (bD · rfl),aLz⟩;intro j h1 h2;have h1:0<=j:=h1;have h2:j<=1:=h2;rcases(by omega:j=0\/j=1) with rfl | rfl
  .exact kd (aJ · rfl aHi (bA e6))
  exact kd (aJ · rfl aHi (bA e14))
 have u:Has 22 [(7,(Sl.v v10))] a:=u.sb rfl;refine t_n<|wp_seq<|aA<|qm u rfl fun a u=>qa u rfl fun a u=>aB<|t_n<|wp_ret<|?_;have y:=u;cases h;exact bI Try.results117 y rfl ⟨rfl,rfl⟩
noncomputable def fI (x15:Sl) (w16:World):Option ((Sl×World)⊕(Sl×World)) :=
 if (decide ((x15.n:Int)<63))=true then
 (aN (bsl w16 5 1 [[(.int .u8 0)]]) fun s24 w25 =>
 aN (apS Try.prog 72 x15 s24 w25) fun s27 w28 =>
 some (.inl (s27,w28)))
 else
 (some (.inr (x15,w16)))
noncomputable def eN (a0:Int) (a1:Sl) (a2:Bool) (w:World):Option (Sl×World) :=
 aN (bsl w 5 1 [[(.int .u8 231)],[(.int .u8 (IntKind.wrap .u8 a0))],[(.int .u8 (IntKind.wrap .u8 (a1.n:Int)))],[(.int .u8 0)]]) fun s1 w2 =>
 aN (apS Try.prog 72 s1 a1 w2) fun s4 w5 =>
 (if a2=true then
 ((ix s4 3 1).bind fun p11 =>
 (stV w5 p11 (.int .u8 1)).bind fun w13 =>
 some w13)
 else
 (some w5)).bind fun w7 =>
 aN (bM (fun s:Sl×World=>fI s.1 s.2) (s4,w7)) fun v19 w20 =>
 aN (bsl w20 5 1 [[(.int .u8 231)]]) fun s30 w31 =>
 aN (apS Try.prog 72 v19 s30 w31) fun s33 w34 =>
 some (s33,w34)
theorem gV {a0 a1 a2 w w' r0} (h:eN a0 a1 a2 w=some (r0,w')):Calls Try.prog 127 #[(.int .i64 a0),(Sl.v a1),(.bool a2)] w fun e w''=>e=.returned (Sl.v r0)/\w''=w':=by
 refine aP (n:=28) Try.func127 rfl Try.ntmps127 (by simp) fun a u=>?_;unfold eN at h;refine wp_seq<|aA<|qa u rfl fun a u=>aB<|t_n<|wp_seq<|aA<|qm u rfl fun a u=>q u (iP u rfl aHl aGZ) fun a u=>qm u rfl fun a u=>q u (aZ u rfl aGK) fun a u=>q u (iP u rfl aHl aGZ) fun a u=>?_;have⟨s1,w2,e3,h⟩:=bs2 h;refine q u (iK (vs:=[(0,(.int .u8 231)),(1,(.int .u8 (IntKind.wrap .u8 a0))),(2,(.int .u8 (IntKind.wrap .u8 (a1.n:Int)))),(3,(.int .u8 0))]) (ps:=[[(.int .u8 231)],[(.int .u8 (IntKind.wrap .u8 a0))],[(.int .u8 (IntKind.wrap .u8 (a1.n:Int)))],[(.int .u8 0)]]) u ⟨rfl,rfl,rfl,rfl,rfl,rfl,rfl,rfl,aLz⟩ ⟨rfl,rfl,rfl,rfl,rfl,rfl,rfl,rfl,aLz⟩ rfl aGK aGT aHG (by decide) e3) fun a u=>qm u rfl fun a u=>?_;have⟨s4,w5,e6,h⟩:=bs2 h;refine q u (iF u rfl rfl e6) fun a u=>qa u rfl fun a u=>aB<|t_n<|?_;have⟨w7,e8,h⟩:=bs1 h;refine gW (n:=28) (L:=[(7,(Sl.v s4))]) (w':=w7) (fun a u=>?_) (fun hk9=>?_)
 .refine wp_seq<|wp_block<|?_;have⟨v19,w20,e18,h⟩:=bs2 h;refine gT (n:=28) (L:=[(7,(Sl.v v19))]) (w':=w20) (e:=.exit 0) (I:=fun (s:Sl×World) a w=>Has 28 [(7,(Sl.v s.1))] a/\w=s.2) ⟨u.sub ⟨rfl,aLz⟩,rfl⟩ e18 (fun a u=>?_) (fun hk21=>?_)
  .refine eC<|t_n<|wp_seq<|aA<|qm u rfl fun a u=>?_;have⟨s30,w31,e32,h⟩:=bs2 h;refine q u (iK (vs:=[(0,(.int .u8 231))]) (ps:=[[(.int .u8 231)]]) u ⟨rfl,rfl,aLz⟩ ⟨rfl,rfl,aLz⟩ rfl aGK aGT aHG (by decide) e32) fun a u=>?_;have⟨s33,w34,e35,h⟩:=bs2 h;refine q u (iF u rfl rfl e35) fun a u=>qa u rfl fun a u=>aB<|t_n<|wp_ret<|?_;have y:=u;cases h;exact bI Try.results127 y rfl ⟨rfl,rfl⟩
  clear h;rintro⟨x15,w16⟩ a wq o ⟨u,hwq⟩ h hr22;obtain rfl:w16=wq:=hwq.symm;have u:Has 28 [(7,(Sl.v x15))] a:=u;have h:fI x15 w16=some o:=h;unfold fI at h;refine wp_seq<|wp_seq<|aA<|qm u rfl fun a u=>q u (aZ u rfl aGK) fun a u=>q u (dK u rfl rfl) fun a u=>aB<|t_n<|?_;refine aO u rfl h (fun b23 h=>?_) (fun b23 h=>?_)
  .refine wp_skip<|t_n<|wp_block<|aA<|qm u rfl fun a u=>?_;have⟨s24,w25,e26,h⟩:=bs2 h;refine q u (iK (vs:=[(0,(.int .u8 0))]) (ps:=[[(.int .u8 0)]]) u ⟨rfl,rfl,aLz⟩ ⟨rfl,rfl,aLz⟩ rfl aGK aGT aHG (by decide) e26) fun a u=>?_;have⟨s27,w28,e29,h⟩:=bs2 h;refine q u (iF u rfl rfl e29) fun a u=>qa u rfl fun a u=>aB<|b_n<|?_;have y:=u;cases h;exact dS ⟨y.sb rfl,rfl⟩
  refine wp_exit<|t_x<|?_;have y:=u;cases h;cases hr22 _ rfl;refine lM<|?_;exact hk21 _ (y.sb rfl)
 clear h;have h:=e8;refine wp_seq<|aA<|qm u rfl fun a u=>aB<|t_n<|?_;refine aO u rfl h (fun b10 h=>?_) (fun b10 h=>?_)
 .refine aA<|qm u rfl fun a u=>?_;have⟨p11,e12,h⟩:=bs1 h;refine q u (bZ u rfl rfl aGK aGT e12) fun a u=>?_;have⟨w13,e14,h⟩:=bs1 h;refine q u (fO u rfl rfl aGT e14) fun a u=>aB<|?_;have y:=u;cases h;exact hk9 _ (y.sb rfl)
 refine wp_skip<|?_;have y:=u;cases h;exact hk9 _ (y.sb rfl)
noncomputable def iA (a0:Sl) (w:World):Option (Int×Sl×Bool×World) :=
 aN (if ((a0.n:Int) !=64)=true then
 (some (true,w))
 else
 ((ix a0 1 1).bind fun p6 =>
 (ldI .u8 w p6).bind fun v8 =>
 if (decide (v8<1))=true then
 (some (true,w))
 else
 ((ix a0 1 1).bind fun p11 =>
 (ldI .u8 w p11).bind fun v13 =>
 if (decide (3<v13))=true then
 (some (true,w))
 else
 ((ix a0 2 1).bind fun p16 =>
 (ldI .u8 w p16).bind fun v18 =>
 some ((decide (59<v18)),w))))) fun v1 w2 =>
 if v1=true then
 (some (0,Sl.nil,false,w2))
 else
 ((ix a0 2 1).bind fun p21 =>
 (ldI .u8 w2 p21).bind fun v23 =>
 (slS a0 4 (IntKind.wrap .i64 (4+(IntKind.wrap .i64 v23))) (a0.c:Int) 1).bind fun s25 =>
 (ix a0 3 1).bind fun p27 =>
 (ldI .u8 w2 p27).bind fun v29 =>
 aN ((dr w2).bind fun w35 =>
 (ix a0 1 1).bind fun p37 =>
 (ldI .u8 w35 p37).bind fun v39 =>
 aN (eN (IntKind.wrap .i64 v39) s25 (v29==1) w35) fun v41 w42 =>
 (b2s v41 w42).bind fun s44 =>
 (b2s a0 w42).bind fun s46 =>
 if (!sEq s44 s46)=true then
 (chk (b2s a0 w35=some s46) <|
 some (true,w42))
 else
 (if (!(v29==1))=true then
 (chk (b2s a0 w35=some s46) <|
 some (((s25.n:Int) !=59),w42))
 else
 (chk (b2s a0 w35=some s46) <|
 some (false,w42)))) fun v31 w32 =>
 if v31=true then
 (some (0,Sl.nil,false,w32))
 else
 ((ix a0 1 1).bind fun p54 =>
 (ldI .u8 w32 p54).bind fun v56 =>
 some ((IntKind.wrap .i64 v56),s25,(v29==1),w32)))
theorem nF {a0 w w' r0 r1 r2} (h:iA a0 w=some (r0,r1,r2,w')):Calls Try.prog 145 #[(Sl.v a0)] w fun e w''=>e=.returned (.tuple #[(.int .i64 r0),(Sl.v r1),(.bool r2)])/\w''=w':=by
 refine aP (n:=65) Try.func145 rfl Try.ntmps145 (by simp) fun a u=>?_;unfold iA at h;refine wp_seq<|aA<|qa u rfl fun a u=>qa u rfl fun a u=>qa u rfl fun a u=>aB<|t_n<|wp_seq<|wp_seq<|?_;have⟨v1,w2,e3,h⟩:=bs2 h;refine bP (n:=65) (L:=[(27,(bV v1)),(0,(Sl.v a0))]) (w':=w2) (fun a u=>?_) (fun hk4=>?_)
 .refine t_n<|?_;refine aO u rfl h (fun b20 h=>?_) (fun b20 h=>?_)
  .refine wp_seq<|aA<|qa u rfl fun a u=>qa u rfl fun a u=>qa u rfl fun a u=>aB<|t_n<|wp_ret<|t_r<|?_;have y:=u;cases h;exact oE Try.results145 y rfl rfl rfl ⟨rfl,rfl⟩
  refine wp_skip<|t_n<|wp_seq<|aA<|qm u rfl fun a u=>qm u rfl fun a u=>?_;have⟨p21,e22,h⟩:=bs1 h;refine q u (bZ u rfl rfl aGK aGT e22) fun a u=>?_;have⟨v23,e24,h⟩:=bs1 h;refine q u (aJ u rfl aHs (aQ e24)) fun a u=>q u (iP u rfl aGZ aHl) fun a u=>q u (bJ u rfl rfl) fun a u=>?_;have⟨s25,e26,h⟩:=bs1 h;refine q u (oG u rfl aGK aGT ⟨_,rfl⟩ ⟨_,rfl⟩ rfl (by simp) e26) fun a u=>qa u rfl fun a u=>aB<|t_n<|wp_seq<|aA<|qm u rfl fun a u=>?_;have⟨p27,e28,h⟩:=bs1 h;refine q u (bZ u rfl rfl aGK aGT e28) fun a u=>?_;have⟨v29,e30,h⟩:=bs1 h;refine q u (aJ u rfl aHs (aQ e30)) fun a u=>q u (gD u rfl rfl) fun a u=>qa u rfl fun a u=>aB<|t_n<|wp_seq<|wp_seq<|?_;have⟨v31,w32,e33,h⟩:=bs2 h;refine bP (n:=65) (L:=[(58,(bV v31)),(0,(Sl.v a0)),(5,(Sl.v s25)),(6,(bV (v29==1)))]) (w':=w32) (fun a u=>?_) (fun hk34=>?_)
  .refine t_n<|?_;refine aO u rfl h (fun b53 h=>?_) (fun b53 h=>?_)
   .refine wp_seq<|aA<|qa u rfl fun a u=>qa u rfl fun a u=>qa u rfl fun a u=>aB<|t_n<|wp_ret<|t_r<|?_;have y:=u;cases h;exact oE Try.results145 y rfl rfl rfl ⟨rfl,rfl⟩
   refine wp_skip<|t_n<|wp_seq<|aA<|qm u rfl fun a u=>?_;have⟨p54,e55,h⟩:=bs1 h;refine q u (bZ u rfl rfl aGK aGT e55) fun a u=>?_;have⟨v56,e57,h⟩:=bs1 h;refine q u (aJ u rfl aHs (aQ e57)) fun a u=>q u (iP u rfl aGZ aHl) fun a u=>qm u rfl fun a u=>qm u rfl fun a u=>qa u rfl fun a u=>qa u rfl fun a u=>qa u rfl fun a u=>aB<|t_n<|wp_ret<|?_;have y:=u;cases h;exact oE Try.results145 y rfl rfl rfl ⟨rfl,rfl⟩
  clear h;have h:=e33;have⟨w35,e36,h⟩:=bs1 h;have⟨p37,e38,h⟩:=bs1 h;have⟨v39,e40,h⟩:=bs1 h;have⟨v41,w42,e43,h⟩:=bs2 h;have⟨s44,e45,h⟩:=bs1 h;have⟨s46,e47,h⟩:=bs1 h;refine bW h (fun b48 h=>?_) (fun b48 h=>?_)
  .obtain⟨e49,h⟩:=bO h;have u:Has 65 [(0,(Sl.v a0)),(5,(Sl.v s25)),(6,(bV (v29==1)))] a:=u.sb rfl;refine aM (n:=65) (ds:=(aS (Sl.v a0) 0 [] 0::aG (pV (some p37)) 0 [0] 39 (Sl.v a0)::aG (.int .u8 v39) 0 [0,1] 40 (pV (some p37))::aG (iV (IntKind.wrap .i64 v39)) 0 [0,1,2] 41 (.int .u8 v39)::aS (Sl.v s25) 0 [] 5::aS (bV (v29==1)) 0 [] 6::aI (Sl.v v41) true 0 0 (rn 0 6) [(42,(iV (IntKind.wrap .i64 v39))),(43,(Sl.v s25)),(44,(bV (v29==1)))]::aG (.string s44) 1 (rn 0 7) 45 (Sl.v v41)::aI (Sl.v a0) false 0 1 [] [(0,(Sl.v a0))]::aI (.string s46) false 0 1 [8] [(47,(Sl.v a0))]::aT (bV (!sEq s44 s46)) 1 (rn 0 10) [(46,(.string s44)),(48,(.string s46))]::aS (bV (!sEq s44 s46)) 1 (rn 0 11) 49::aG (undef) 1 (rn 0 12) 50 (bV (!sEq s44 s46))::aG (undef) 1 (rn 0 13) 50 (bV (!sEq s44 s46))::aG (undef) 1 (rn 0 14) 50 (bV (!sEq s44 s46))::aS (undef) 1 (rn 0 15) 53::aS (undef) 1 (rn 0 16) 53::aS (undef) 1 (rn 0 17) 53::aG (undef) 1 (rn 0 18) 50 (bV (!sEq s44 s46))::aT (bV true) 1 (rn 0 19) [(50,(bV (!sEq s44 s46))),(57,undef)]::[])) (W:=(fun j=>match j with | 0=>w35 | 1=>w42 | _=>w42)) (by kernel_rfl) u (cY e36) (by kernel_rfl) ?_ (aR (by kernel_rfl)) (by kernel_rfl) (m:=1) (by kernel_rfl) (fun a u=>?_)
   .refine⟨oa (aC · rfl),oa (bZ · rfl rfl aGK aGT e38),oc 0 (kd (aJ · rfl aHs (aQ e40))),oa (iP · rfl aGZ aHl),oa (aC · rfl),oa (aC · rfl),oc 0 (kd (dc3 · rfl rfl rfl Try.call127 (gV e43))),oc 1 (kd (nY · rfl aGK aHo aGZ e45)),oa (aC · rfl),?_,oa (wX · rfl rfl),oa (aC · rfl),on 50 (tn b48),on 50 (tn b48),on 50 (tn b48),?_,?_,?_,on 50 (tn b48),oa (aF · rfl b48 rfl),aLz⟩
    .intro j h1 h2;have h1:0<=j:=h1;have h2:j<=1:=h2;rcases(by omega:j=0\/j=1) with rfl | rfl
     .exact kd (nY · rfl aGK aHo aGZ e49)
     exact kd (nY · rfl aGK aHo aGZ e47)
    .intro j _ _;exact yC rfl rfl (rfl:List.lookup 53 _=_)
    .intro j _ _;exact yC rfl rfl (rfl:List.lookup 53 _=_)
    intro j _ _;exact yC rfl rfl (rfl:List.lookup 53 _=_)
   have u:Has 65 [(0,(Sl.v a0)),(5,(Sl.v s25)),(6,(bV (v29==1))),(58,(bV true))] a:=u.sb rfl;have y:=u;cases h;exact hk34 _ (y.sb rfl)
  refine bW h (fun b50 h=>?_) (fun b50 h=>?_)
  .obtain⟨e51,h⟩:=bO h;have u:Has 65 [(0,(Sl.v a0)),(5,(Sl.v s25)),(6,(bV (v29==1)))] a:=u.sb rfl;refine aM (n:=65) (ds:=(aS (Sl.v a0) 0 [] 0::aG (pV (some p37)) 0 [0] 39 (Sl.v a0)::aG (.int .u8 v39) 0 [0,1] 40 (pV (some p37))::aG (iV (IntKind.wrap .i64 v39)) 0 [0,1,2] 41 (.int .u8 v39)::aS (Sl.v s25) 0 [] 5::aS (bV (v29==1)) 0 [] 6::aI (Sl.v v41) true 0 0 (rn 0 6) [(42,(iV (IntKind.wrap .i64 v39))),(43,(Sl.v s25)),(44,(bV (v29==1)))]::aG (.string s44) 1 (rn 0 7) 45 (Sl.v v41)::aI (Sl.v a0) false 0 1 [] [(0,(Sl.v a0))]::aI (.string s46) false 0 1 [8] [(47,(Sl.v a0))]::aT (bV (!sEq s44 s46)) 1 (rn 0 10) [(46,(.string s44)),(48,(.string s46))]::aS (bV (!sEq s44 s46)) 1 (rn 0 11) 49::aT (bV (v29==1)) 1 (rn 0 12) [(6,(bV (v29==1))),(50,(bV (!sEq s44 s46)))]::aT (bV (!(v29==1))) 1 (rn 0 13) [(51,(bV (v29==1))),(50,(bV (!sEq s44 s46)))]::aT (bV (!(v29==1))) 1 (rn 0 14) [(52,(bV (!(v29==1)))),(50,(bV (!sEq s44 s46)))]::aT (Sl.v s25) 1 (rn 0 15) [(5,(Sl.v s25)),(53,(bV (!(v29==1))))]::aT (iV (s25.n:Int)) 1 (rn 0 16) [(54,(Sl.v s25)),(53,(bV (!(v29==1))))]::aT (bV ((s25.n:Int) !=59)) 1 (rn 0 17) [(55,(iV (s25.n:Int))),(53,(bV (!(v29==1))))]::aT (bV ((s25.n:Int) !=59)) 1 (rn 0 18) [(53,(bV (!(v29==1)))),(56,(bV ((s25.n:Int) !=59))),(50,(bV (!sEq s44 s46)))]::aT (bV ((s25.n:Int) !=59)) 1 (rn 0 19) [(50,(bV (!sEq s44 s46))),(57,(bV ((s25.n:Int) !=59)))]::[])) (W:=(fun j=>match j with | 0=>w35 | 1=>w42 | _=>w42)) (by kernel_rfl) u (cY e36) (by kernel_rfl) ?_ (aR (by kernel_rfl)) (by kernel_rfl) (m:=1) (by kernel_rfl) (fun a u=>?_)
   .refine⟨oa (aC · rfl),oa (bZ · rfl rfl aGK aGT e38),oc 0 (kd (aJ · rfl aHs (aQ e40))),oa (iP · rfl aGZ aHl),oa (aC · rfl),oa (aC · rfl),oc 0 (kd (dc3 · rfl rfl rfl Try.call127 (gV e43))),oc 1 (kd (nY · rfl aGK aHo aGZ e45)),oa (aC · rfl),?_,oa (wX · rfl rfl),oa (aC · rfl),oag 50 (nt b48) (aC · rfl),oag 50 (nt b48) (pR · rfl),oag 50 (nt b48) (aC · rfl),oag 53 b50 (aC · rfl),oag 53 b50 (aZ · rfl aGK),oag 53 b50 (fJ · rfl rfl),oag 50 (nt b48) (aF · rfl b50 rfl),oa (aL · rfl b48 rfl),aLz⟩;intro j h1 h2;have h1:0<=j:=h1;have h2:j<=1:=h2;rcases(by omega:j=0\/j=1) with rfl | rfl
    .exact kd (nY · rfl aGK aHo aGZ e51)
    exact kd (nY · rfl aGK aHo aGZ e47)
   have u:Has 65 [(0,(Sl.v a0)),(5,(Sl.v s25)),(6,(bV (v29==1))),(58,(bV ((s25.n:Int) !=59)))] a:=u.sb rfl;have y:=u;cases h;exact hk34 _ (y.sb rfl)
  obtain⟨e52,h⟩:=bO h;have u:Has 65 [(0,(Sl.v a0)),(5,(Sl.v s25)),(6,(bV (v29==1)))] a:=u.sb rfl;refine aM (n:=65) (ds:=(aS (Sl.v a0) 0 [] 0::aG (pV (some p37)) 0 [0] 39 (Sl.v a0)::aG (.int .u8 v39) 0 [0,1] 40 (pV (some p37))::aG (iV (IntKind.wrap .i64 v39)) 0 [0,1,2] 41 (.int .u8 v39)::aS (Sl.v s25) 0 [] 5::aS (bV (v29==1)) 0 [] 6::aI (Sl.v v41) true 0 0 (rn 0 6) [(42,(iV (IntKind.wrap .i64 v39))),(43,(Sl.v s25)),(44,(bV (v29==1)))]::aG (.string s44) 1 (rn 0 7) 45 (Sl.v v41)::aI (Sl.v a0) false 0 1 [] [(0,(Sl.v a0))]::aI (.string s46) false 0 1 [8] [(47,(Sl.v a0))]::aT (bV (!sEq s44 s46)) 1 (rn 0 10) [(46,(.string s44)),(48,(.string s46))]::aS (bV (!sEq s44 s46)) 1 (rn 0 11) 49::aT (bV (v29==1)) 1 (rn 0 12) [(6,(bV (v29==1))),(50,(bV (!sEq s44 s46)))]::aT (bV (!(v29==1))) 1 (rn 0 13) [(51,(bV (v29==1))),(50,(bV (!sEq s44 s46)))]::aT (bV (!(v29==1))) 1 (rn 0 14) [(52,(bV (!(v29==1)))),(50,(bV (!sEq s44 s46)))]::aG (undef) 1 (rn 0 15) 53 (bV (!(v29==1)))::aG (undef) 1 (rn 0 16) 53 (bV (!(v29==1)))::aG (undef) 1 (rn 0 17) 53 (bV (!(v29==1)))::aT (bV false) 1 (rn 0 18) [(53,(bV (!(v29==1)))),(56,undef),(50,(bV (!sEq s44 s46)))]::aT (bV false) 1 (rn 0 19) [(50,(bV (!sEq s44 s46))),(57,(bV false))]::[])) (W:=(fun j=>match j with | 0=>w35 | 1=>w42 | _=>w42)) (by kernel_rfl) u (cY e36) (by kernel_rfl) ?_ (aR (by kernel_rfl)) (by kernel_rfl) (m:=1) (by kernel_rfl) (fun a u=>?_)
  .refine⟨oa (aC · rfl),oa (bZ · rfl rfl aGK aGT e38),oc 0 (kd (aJ · rfl aHs (aQ e40))),oa (iP · rfl aGZ aHl),oa (aC · rfl),oa (aC · rfl),oc 0 (kd (dc3 · rfl rfl rfl Try.call127 (gV e43))),oc 1 (kd (nY · rfl aGK aHo aGZ e45)),oa (aC · rfl),?_,oa (wX · rfl rfl),oa (aC · rfl),oag 50 (nt b48) (aC · rfl),oag 50 (nt b48) (pR · rfl),oag 50 (nt b48) (aC · rfl),on 53 (nm b50),on 53 (nm b50),on 53 (nm b50),oag 50 (nt b48) (aL · rfl b50 rfl),oa (aL · rfl b48 rfl),aLz⟩;intro j h1 h2;have h1:0<=j:=h1;have h2:j<=1:=h2;rcases(by omega:j=0\/j=1) with rfl | rfl
   .exact kd (nY · rfl aGK aHo aGZ e52)
   exact kd (nY · rfl aGK aHo aGZ e47)
  have u:Has 65 [(0,(Sl.v a0)),(5,(Sl.v s25)),(6,(bV (v29==1))),(58,(bV false))] a:=u.sb rfl;have y:=u;cases h;exact hk34 _ (y.sb rfl)
 clear h;have h:=e3;refine aA<|qm u rfl fun a u=>q u (aZ u rfl aGK) fun a u=>q u (fJ u rfl rfl) fun a u=>qm u rfl fun a u=>?_;refine bW h (fun b5 h=>?_) (fun b5 h=>?_)
 .refine qn u 10 (tn b5) fun a u=>qn u 10 (tn b5) fun a u=>qn u 10 (tn b5) fun a u=>qn u 10 (tn b5) fun a u=>q u (aF u rfl b5 rfl) fun a u=>qm u rfl fun a u=>qn u 16 (tn rfl) fun a u=>qn u 16 (tn rfl) fun a u=>qn u 16 (tn rfl) fun a u=>qn u 16 (tn rfl) fun a u=>q u (aF u rfl rfl rfl) fun a u=>qm u rfl fun a u=>qn u 22 (tn rfl) fun a u=>qn u 22 (tn rfl) fun a u=>qn u 22 (tn rfl) fun a u=>qn u 22 (tn rfl) fun a u=>q u (aF u rfl rfl rfl) fun a u=>aB<|?_;have y:=u;cases h;exact hk4 _ (y.sb rfl)
 refine qg u 10 (nt b5) (aC u rfl) fun a u=>?_;have⟨p6,e7,h⟩:=bs1 h;refine qg u 10 (nt b5) (bZ u rfl rfl aGK aGT e7) fun a u=>?_;have⟨v8,e9,h⟩:=bs1 h;refine qg u 10 (nt b5) (aJ u rfl aHs (aQ e9)) fun a u=>qg u 10 (nt b5) (dK u rfl rfl) fun a u=>q u (aL u rfl b5 rfl) fun a u=>qm u rfl fun a u=>?_;refine bW h (fun b10 h=>?_) (fun b10 h=>?_)
 .refine qn u 16 (tn b10) fun a u=>qn u 16 (tn b10) fun a u=>qn u 16 (tn b10) fun a u=>qn u 16 (tn b10) fun a u=>q u (aF u rfl b10 rfl) fun a u=>qm u rfl fun a u=>qn u 22 (tn rfl) fun a u=>qn u 22 (tn rfl) fun a u=>qn u 22 (tn rfl) fun a u=>qn u 22 (tn rfl) fun a u=>q u (aF u rfl rfl rfl) fun a u=>aB<|?_;have y:=u;cases h;exact hk4 _ (y.sb rfl)
 refine qg u 16 (nt b10) (aC u rfl) fun a u=>?_;have⟨p11,e12,h⟩:=bs1 h;refine qg u 16 (nt b10) (bZ u rfl rfl aGK aGT e12) fun a u=>?_;have⟨v13,e14,h⟩:=bs1 h;refine qg u 16 (nt b10) (aJ u rfl aHs (aQ e14)) fun a u=>qg u 16 (nt b10) (gF u rfl rfl) fun a u=>q u (aL u rfl b10 rfl) fun a u=>qm u rfl fun a u=>?_;refine bW h (fun b15 h=>?_) (fun b15 h=>?_)
 .refine qn u 22 (tn b15) fun a u=>qn u 22 (tn b15) fun a u=>qn u 22 (tn b15) fun a u=>qn u 22 (tn b15) fun a u=>q u (aF u rfl b15 rfl) fun a u=>aB<|?_;have y:=u;cases h;exact hk4 _ (y.sb rfl)
 refine qg u 22 (nt b15) (aC u rfl) fun a u=>?_;have⟨p16,e17,h⟩:=bs1 h;refine qg u 22 (nt b15) (bZ u rfl rfl aGK aGT e17) fun a u=>?_;have⟨v18,e19,h⟩:=bs1 h;refine qg u 22 (nt b15) (aJ u rfl aHs (aQ e19)) fun a u=>qg u 22 (nt b15) (gF u rfl rfl) fun a u=>q u (aL u rfl b15 rfl) fun a u=>aB<|?_;have y:=u;cases h;exact hk4 _ (y.sb rfl)
noncomputable def fP (a0:Option Addr) (a1:Int) (w:World):Option (Int×Int×Bool×World) :=
 aN (bR a0 a1 0 w) fun v1 w2 =>
 kE (iA v1 w2) fun v4 v5 v6 w7 =>
 aN (if (v4 !=1)=true then
 (some (true,w7))
 else
 (if (!v6)=true then
 (some (true,w7))
 else
 (some (((v5.n:Int) !=16),w7)))) fun v9 w10 =>
 if v9=true then
 (some (0,0,false,w10))
 else
 (kE (bF v5 0 w10) fun v16 v17 v18 w19 =>
 kE (bF v5 8 w19) fun v21 v22 v23 w24 =>
 kE (if (decide (1<=v16))=true then
 (if (decide (v16<=4611686018427387904))=true then
 (if (decide (0<=v21))=true then
 (some (v16,v21,(decide (v21<=1099511627776)),w24))
 else
 (some (v16,v21,false,w24)))
 else
 (some (v16,v21,false,w24)))
 else
 (some (v16,v21,false,w24))) fun v26 v27 v28 w29 =>
 some (v26,v27,v28,w29))
theorem oC {a0 a1 w w' r0 r1 r2} (h:fP a0 a1 w=some (r0,r1,r2,w')):Calls Try.prog 112 #[(.pointer a0),(.int .i64 a1)] w fun e w''=>e=.returned (.tuple #[(.int .i64 r0),(.int .i64 r1),(.bool r2)])/\w''=w':=by
 refine aP (n:=63) Try.func112 rfl Try.ntmps112 (by simp) fun a u=>?_;unfold fP at h;refine wp_seq<|aA<|qa u rfl fun a u=>qa u rfl fun a u=>qa u rfl fun a u=>aB<|t_n<|wp_seq<|aA<|qm u rfl fun a u=>qm u rfl fun a u=>?_;have⟨v1,w2,e3,h⟩:=bs2 h;refine q u (dc3 u rfl rfl rfl Try.call117 (gE e3)) fun a u=>?_;have⟨v4,v5,v6,w7,e8,h⟩:=bs4 h;refine q u (dc1 u rfl Try.call145 (nF e8)) fun a u=>qm u rfl fun a u=>q u (aW u rfl rfl) fun a u=>q u (aW u rfl rfl) fun a u=>q u (aW u rfl rfl) fun a u=>qa u rfl fun a u=>qa u rfl fun a u=>qa u rfl fun a u=>aB<|t_n<|wp_seq<|wp_seq<|?_;have⟨v9,w10,e11,h⟩:=bs2 h;refine bP (n:=63) (L:=[(34,(bV v9)),(8,(Sl.v v5))]) (w':=w10) (fun a u=>?_) (fun hk12=>?_)
 .refine t_n<|?_;refine aO u rfl h (fun b15 h=>?_) (fun b15 h=>?_)
  .refine wp_seq<|aA<|qa u rfl fun a u=>qa u rfl fun a u=>qa u rfl fun a u=>aB<|t_n<|wp_ret<|t_r<|?_;have y:=u;cases h;exact oE Try.results112 y rfl rfl rfl ⟨rfl,rfl⟩
  refine wp_skip<|t_n<|wp_seq<|aA<|qm u rfl fun a u=>?_;have⟨v16,v17,v18,w19,e20,h⟩:=bs4 h;refine q u (dc2 u rfl rfl Try.call146 (fM e20)) fun a u=>qm u rfl fun a u=>q u (aW u rfl rfl) fun a u=>q u (aW u rfl rfl) fun a u=>q u (aW u rfl rfl) fun a u=>qa u rfl fun a u=>qa u rfl fun a u=>qa u rfl fun a u=>aB<|t_n<|wp_seq<|aA<|qm u rfl fun a u=>?_;have⟨v21,v22,v23,w24,e25,h⟩:=bs4 h;refine q u (dc2 u rfl rfl Try.call146 (fM e25)) fun a u=>qm u rfl fun a u=>q u (aW u rfl rfl) fun a u=>q u (aW u rfl rfl) fun a u=>q u (aW u rfl rfl) fun a u=>qa u rfl fun a u=>qa u rfl fun a u=>qa u rfl fun a u=>aB<|t_n<|wp_seq<|?_;have⟨v26,v27,v28,w29,e30,h⟩:=bs4 h;refine bP (n:=63) (L:=[(4,(iV v26)),(5,(iV v27)),(6,(bV v28))]) (w':=w29) (fun a u=>?_) (fun hk31=>?_)
  .refine t_n<|wp_ret<|?_;have y:=u;cases h;exact oE Try.results112 y rfl rfl rfl ⟨rfl,rfl⟩
  clear h;have h:=e30;refine aA<|qm u rfl fun a u=>qm u rfl fun a u=>qm u rfl fun a u=>q u (pP u rfl rfl) fun a u=>qm u rfl fun a u=>?_;refine bW h (fun b32 h=>?_) (fun b32 h=>?_)
  .refine qg u 51 b32 (aC u rfl) fun a u=>qg u 51 b32 (sU u rfl rfl) fun a u=>q u (aF u rfl b32 rfl) fun a u=>qm u rfl fun a u=>?_;refine bW h (fun b33 h=>?_) (fun b33 h=>?_)
   .refine qg u 55 b33 (aC u rfl) fun a u=>qg u 55 b33 (pP u rfl rfl) fun a u=>q u (aF u rfl b33 rfl) fun a u=>qm u rfl fun a u=>?_;refine bW h (fun b34 h=>?_) (fun b34 h=>?_)
    .refine qg u 59 b34 (aC u rfl) fun a u=>qg u 59 b34 (sU u rfl rfl) fun a u=>q u (aF u rfl b34 rfl) fun a u=>qa u rfl fun a u=>qa u rfl fun a u=>qa u rfl fun a u=>aB<|?_;have y:=u;cases h;exact hk31 _ (y.sb rfl)
    refine qn u 59 (nm b34) fun a u=>qn u 59 (nm b34) fun a u=>q u (aL u rfl b34 rfl) fun a u=>qa u rfl fun a u=>qa u rfl fun a u=>qa u rfl fun a u=>aB<|?_;have y:=u;cases h;exact hk31 _ (y.sb rfl)
   refine qn u 55 (nm b33) fun a u=>qn u 55 (nm b33) fun a u=>q u (aL u rfl b33 rfl) fun a u=>qm u rfl fun a u=>qn u 59 (nm aIr) fun a u=>qn u 59 (nm aIr) fun a u=>q u (aL u rfl aIr rfl) fun a u=>qa u rfl fun a u=>qa u rfl fun a u=>qa u rfl fun a u=>aB<|?_;have y:=u;cases h;exact hk31 _ (y.sb rfl)
  refine qn u 51 (nm b32) fun a u=>qn u 51 (nm b32) fun a u=>q u (aL u rfl b32 rfl) fun a u=>qm u rfl fun a u=>qn u 55 (nm aIr) fun a u=>qn u 55 (nm aIr) fun a u=>q u (aL u rfl aIr rfl) fun a u=>qm u rfl fun a u=>qn u 59 (nm aIr) fun a u=>qn u 59 (nm aIr) fun a u=>q u (aL u rfl aIr rfl) fun a u=>qa u rfl fun a u=>qa u rfl fun a u=>qa u rfl fun a u=>aB<|?_;have y:=u;cases h;exact hk31 _ (y.sb rfl)
 clear h;have h:=e11;refine aA<|qm u rfl fun a u=>q u (fJ u rfl rfl) fun a u=>qm u rfl fun a u=>?_;refine bW h (fun b13 h=>?_) (fun b13 h=>?_)
 .refine qn u 26 (tn b13) fun a u=>qn u 26 (tn b13) fun a u=>q u (aF u rfl b13 rfl) fun a u=>qm u rfl fun a u=>qn u 30 (tn rfl) fun a u=>qn u 30 (tn rfl) fun a u=>qn u 30 (tn rfl) fun a u=>q u (aF u rfl rfl rfl) fun a u=>aB<|?_;have y:=u;cases h;exact hk12 _ (y.sb rfl)
 refine qg u 26 (nt b13) (aC u rfl) fun a u=>qg u 26 (nt b13) (pR u rfl) fun a u=>q u (aL u rfl b13 rfl) fun a u=>qm u rfl fun a u=>?_;refine bW h (fun b14 h=>?_) (fun b14 h=>?_)
 .refine qn u 30 (tn b14) fun a u=>qn u 30 (tn b14) fun a u=>qn u 30 (tn b14) fun a u=>q u (aF u rfl b14 rfl) fun a u=>aB<|?_;have y:=u;cases h;exact hk12 _ (y.sb rfl)
 refine qg u 30 (nt b14) (aC u rfl) fun a u=>qg u 30 (nt b14) (aZ u rfl aGK) fun a u=>qg u 30 (nt b14) (fJ u rfl rfl) fun a u=>q u (aL u rfl b14 rfl) fun a u=>aB<|?_;have y:=u;cases h;exact hk12 _ (y.sb rfl)
noncomputable def eE (a0:Option Addr) (a1:Int) (a2:Int) (p1:Addr) (x7:Sl) (x8:Int) (w9:World):Option ((Sl×Int×World)⊕((World)⊕(Int×Bool×World))) :=
 if (decide (x8<16))=true then
 (aN (bR a0 a1 x8 w9) fun v20 w21 =>
 kE (iA v20 w21) fun v23 v24 v25 w26 =>
 aN (if (x8==a2)=true then
 (if (v23 !=2)=true then
 (some (true,w26))
 else
 (if (decide (a2<x8))=true then
 (some ((v23 !=3),w26))
 else
 (some (false,w26))))
 else
 (if (decide (a2<x8))=true then
 (some ((v23 !=3),w26))
 else
 (some (false,w26)))) fun v28 w29 =>
 if v28=true then
 ((stA w29 p1 0 ([.int .i64 0,.slice none 0 0])).bind fun w37 =>
 some (.inr (.inr (0,false,w37))))
 else
 (aN (apS Try.prog 72 x7 v24 w29) fun s39 w40 =>
 aN (if v25=true then
 (some ((decide ((s39.n:Int)<8)),w40))
 else
 (some (false,w40))) fun v42 w43 =>
 if v42=true then
 ((stA w43 p1 0 ([.int .i64 0,.slice none 0 0])).bind fun w48 =>
 some (.inr (.inr (0,false,w48))))
 else
 (if v25=true then
 (kE (bF s39 0 w43) fun v51 v52 v53 w54 =>
 (slS s39 8 (s39.n:Int) (s39.c:Int) 1).bind fun s56 =>
 (stA w54 p1 0 ([.int .i64 v51,Sl.v s56])).bind fun w58 =>
 some (.inr (.inr ((IntKind.wrap .i64 (x8+1)),(decide (v51<=1099511627776)),w58))))
 else
 (some (.inl (s39,(IntKind.wrap .i64 (x8+1)),w43))))))
 else
 (some (.inr (.inl w9)))
noncomputable def dV (a0:Option Addr) (a1:Int) (a2:Int) (w:World):Option ((List Value)×Int×Bool×World) :=
 aN (mk w 87 ([.int .i64 0,.slice none 0 0])) fun p1 w2 =>
 aN (bsl w2 5 1 []) fun s4 w5 =>
 (bM (fun s:Sl×Int×World=>eE a0 a1 a2 p1 s.1 s.2.1 s.2.2) (s4,a2,w5)).bind fun r10=>Sum.elim (fun (i:World)=>u1 i fun w12 =>
 (stA w12 p1 0 ([.int .i64 0,.slice none 0 0])).bind fun w60 =>
 (ldA 2 w60 p1 0).bind fun v62 =>
 some (v62,0,false,w60)) (fun (i:Int×Bool×World)=>u3 i fun v13 v14 w15 =>
 (ldA 2 w15 p1 0).bind fun v64 =>
 some (v64,v13,v14,w15)) r10
theorem kY {a0 a1 a2 w w' r0 r1 r2} (h:dV a0 a1 a2 w=some (r0,r1,r2,w')):Calls Try.prog 113 #[(.pointer a0),(.int .i64 a1),(.int .i64 a2)] w fun e w''=>e=.returned (.tuple #[(.agg (List.toArray r0)),(.int .i64 r1),(.bool r2)])/\w''=w':=by
 refine aP (n:=75) Try.func113 rfl Try.ntmps113 (by simp) fun a u=>?_;unfold dV at h;refine wp_seq<|aA<|?_;have⟨p1,w2,e3,h⟩:=bs2 h;refine q u (eX aHh (by kernel_rfl) e3) fun a u=>qa u rfl fun a u=>qa u rfl fun a u=>aB<|t_n<|wp_seq<|aA<|?_;have⟨s4,w5,e6,h⟩:=bs2 h;refine q u (iK (vs:=[]) (ps:=[]) u trivial trivial rfl aGK aGT aHG (by decide) e6) fun a u=>qa u rfl fun a u=>aB<|t_n<|wp_seq<|wp_seq<|aA<|qm u rfl fun a u=>qa u rfl fun a u=>aB<|t_n<|wp_block<|?_;have⟨r10,e11,h⟩:=bs1 h;refine oR (n:=75) (L1:=fun i=>[(6,(pV (some p1)))]) (w1:=fun i=>i) (L2:=fun i=>[(7,(iV i.1)),(8,(bV i.2.1)),(6,(pV (some p1)))]) (w2:=fun i=>i.2.2) (e1:=.exit 0) (e2:=.ret) (I:=fun (s:Sl×Int×World) a w=>Has 75 [(9,(Sl.v s.1)),(10,(iV s.2.1)),(0,(pV a0)),(1,(iV a1)),(2,(iV a2)),(6,(pV (some p1)))] a/\w=s.2.2) ⟨u.sub ⟨rfl,rfl,rfl,rfl,rfl,rfl,aLz⟩,rfl⟩ e11 (fun i hi a u=>?_) (fun i hi a u=>?_) (fun hk16 hk17=>?_)
 .subst hi;obtain⟨w12,rfl⟩:∃ x,x=i:=⟨i,rfl⟩;dsimp only[Sum.elim_inl,Sum.elim_inr,u1,u2,u3,u4,u5,u6] at h;have u:Has 75 [(6,(pV (some p1)))] a:=u;refine eC<|t_n<|wp_seq<|aA<|q u (dZ (vs:=[]) (pl:=#[(0,1),(1,1)]) (cs:=([.int .i64 0,.slice none 0 0])) u trivial aHh aHa (by intro w;kernel_rfl) (by kernel_rfl)) fun a u=>?_;have⟨w60,e61,h⟩:=bs1 h;refine q u (eW u rfl rfl aHe rfl e61) fun a u=>qa u rfl fun a u=>qa u rfl fun a u=>aB<|t_n<|wp_ret<|?_;have⟨v62,e63,h⟩:=bs1 h;have y:=u;cases h;exact uH (vs:=[_,_,_]) Try.results113 y ⟨⟨_,rfl,uI aHW aHe e63⟩,rfl,rfl,aLz⟩ ⟨rfl,rfl⟩
 .subst hi;obtain⟨v13,v14,w15⟩:=i;dsimp only[Sum.elim_inl,Sum.elim_inr,u1,u2,u3,u4,u5,u6] at h;have u:Has 75 [(7,(iV v13)),(8,(bV v14)),(6,(pV (some p1)))] a:=u;refine b_r<|t_r<|?_;have⟨v64,e65,h⟩:=bs1 h;have y:=u;cases h;exact uH (vs:=[_,_,_]) Try.results113 y ⟨⟨_,rfl,uI aHW aHe e65⟩,rfl,rfl,aLz⟩ ⟨rfl,rfl⟩
 clear h;rintro⟨x7,x8,w9⟩ a wq o ⟨u,hwq⟩ h hr18;obtain rfl:w9=wq:=hwq.symm;have u:Has 75 [(9,(Sl.v x7)),(10,(iV x8)),(0,(pV a0)),(1,(iV a1)),(2,(iV a2)),(6,(pV (some p1)))] a:=u;have h:eE a0 a1 a2 p1 x7 x8 w9=some o:=h;unfold eE at h;refine wp_seq<|wp_seq<|aA<|qm u rfl fun a u=>q u (dK u rfl rfl) fun a u=>aB<|t_n<|?_;refine aO u rfl h (fun b19 h=>?_) (fun b19 h=>?_)
 .refine wp_skip<|t_n<|wp_seq<|wp_block<|wp_seq<|aA<|qm u rfl fun a u=>qm u rfl fun a u=>qm u rfl fun a u=>?_;have⟨v20,w21,e22,h⟩:=bs2 h;refine q u (dc3 u rfl rfl rfl Try.call117 (gE e22)) fun a u=>?_;have⟨v23,v24,v25,w26,e27,h⟩:=bs4 h;refine q u (dc1 u rfl Try.call145 (nF e27)) fun a u=>qm u rfl fun a u=>q u (aW u rfl rfl) fun a u=>q u (aW u rfl rfl) fun a u=>q u (aW u rfl rfl) fun a u=>qa u rfl fun a u=>qa u rfl fun a u=>qa u rfl fun a u=>aB<|t_n<|wp_seq<|wp_seq<|?_;have⟨v28,w29,e30,h⟩:=bs2 h;refine bP (n:=75) (L:=[(47,(bV v28)),(0,(pV a0)),(1,(iV a1)),(2,(iV a2)),(6,(pV (some p1))),(9,(Sl.v x7)),(10,(iV x8)),(12,(Sl.v v24)),(13,(bV v25))]) (w':=w29) (fun a u=>?_) (fun hk31=>?_)
  .refine t_n<|?_;refine aO u rfl h (fun b36 h=>?_) (fun b36 h=>?_)
   .refine wp_seq<|aA<|q u (dZ (vs:=[]) (pl:=#[(0,1),(1,1)]) (cs:=([.int .i64 0,.slice none 0 0])) u trivial aHh aHa (by intro w;kernel_rfl) (by kernel_rfl)) fun a u=>?_;have⟨w37,e38,h⟩:=bs1 h;refine q u (eW u rfl rfl aHe rfl e38) fun a u=>qa u rfl fun a u=>qa u rfl fun a u=>aB<|t_n<|wp_ret<|t_r<|b_r<|t_r<|?_;have y:=u;cases h;cases hr18 _ rfl;refine vV<|?_;exact hk17 _ rfl _ (y.sb rfl)
   refine wp_skip<|t_n<|wp_seq<|aA<|qm u rfl fun a u=>qm u rfl fun a u=>?_;have⟨s39,w40,e41,h⟩:=bs2 h;refine q u (iF u rfl rfl e41) fun a u=>qa u rfl fun a u=>aB<|t_n<|wp_seq<|wp_seq<|?_;have⟨v42,w43,e44,h⟩:=bs2 h;refine bP (n:=75) (L:=[(57,(bV v42)),(0,(pV a0)),(1,(iV a1)),(2,(iV a2)),(6,(pV (some p1))),(9,(Sl.v s39)),(10,(iV x8)),(13,(bV v25))]) (w':=w43) (fun a u=>?_) (fun hk45=>?_)
   .refine t_n<|?_;refine aO u rfl h (fun b47 h=>?_) (fun b47 h=>?_)
    .refine wp_seq<|aA<|q u (dZ (vs:=[]) (pl:=#[(0,1),(1,1)]) (cs:=([.int .i64 0,.slice none 0 0])) u trivial aHh aHa (by intro w;kernel_rfl) (by kernel_rfl)) fun a u=>?_;have⟨w48,e49,h⟩:=bs1 h;refine q u (eW u rfl rfl aHe rfl e49) fun a u=>qa u rfl fun a u=>qa u rfl fun a u=>aB<|t_n<|wp_ret<|t_r<|b_r<|t_r<|?_;have y:=u;cases h;cases hr18 _ rfl;refine vV<|?_;exact hk17 _ rfl _ (y.sb rfl)
    refine wp_skip<|t_n<|wp_seq<|aA<|qm u rfl fun a u=>aB<|t_n<|?_;refine aO u rfl h (fun b50 h=>?_) (fun b50 h=>?_)
    .refine wp_seq<|aA<|qm u rfl fun a u=>?_;have⟨v51,v52,v53,w54,e55,h⟩:=bs4 h;refine q u (dc2 u rfl rfl Try.call146 (fM e55)) fun a u=>qm u rfl fun a u=>q u (aW u rfl rfl) fun a u=>q u (aW u rfl rfl) fun a u=>q u (aW u rfl rfl) fun a u=>qa u rfl fun a u=>qa u rfl fun a u=>qa u rfl fun a u=>aB<|t_n<|wp_seq<|aA<|qm u rfl fun a u=>qm u rfl fun a u=>?_;have⟨s56,e57,h⟩:=bs1 h;refine q u (oG u rfl aGK aGT ⟨_,rfl⟩ rfl rfl (by simp) e57) fun a u=>q u (dZ (vs:=[(0,(iV v51)),(1,(Sl.v s56))]) (pl:=#[(0,1),(1,1)]) (cs:=([.int .i64 v51,Sl.v s56])) u ⟨rfl,rfl,rfl,rfl,aLz⟩ aHh aHa (by intro w;kernel_rfl) (by kernel_rfl)) fun a u=>qm u rfl fun a u=>q u (bJ u rfl rfl) fun a u=>qm u rfl fun a u=>q u (sU u rfl rfl) fun a u=>?_;have⟨w58,e59,h⟩:=bs1 h;refine q u (eW u rfl rfl aHe rfl e59) fun a u=>qa u rfl fun a u=>qa u rfl fun a u=>aB<|t_n<|wp_ret<|b_r<|t_r<|?_;have y:=u;cases h;cases hr18 _ rfl;refine vV<|?_;exact hk17 _ rfl _ (y.sb rfl)
    refine wp_skip<|b_n<|t_n<|aA<|qm u rfl fun a u=>q u (bJ u rfl rfl) fun a u=>qa u rfl fun a u=>aB<|?_;have y:=u;cases h;exact dS ⟨y.sb rfl,rfl⟩
   clear h;have h:=e44;refine aA<|qm u rfl fun a u=>qm u rfl fun a u=>?_;refine bW h (fun b46 h=>?_) (fun b46 h=>?_)
   .refine qg u 53 b46 (aC u rfl) fun a u=>qg u 53 b46 (aZ u rfl aGK) fun a u=>qg u 53 b46 (dK u rfl rfl) fun a u=>q u (aF u rfl b46 rfl) fun a u=>aB<|?_;have y:=u;cases h;exact hk45 _ (y.sb rfl)
   refine qn u 53 (nm b46) fun a u=>qn u 53 (nm b46) fun a u=>qn u 53 (nm b46) fun a u=>q u (aL u rfl b46 rfl) fun a u=>aB<|?_;have y:=u;cases h;exact hk45 _ (y.sb rfl)
  clear h;have h:=e30;refine aA<|qm u rfl fun a u=>qm u rfl fun a u=>q u (gD u rfl rfl) fun a u=>qm u rfl fun a u=>?_;refine bW h (fun b32 h=>?_) (fun b32 h=>?_)
  .refine qg u 35 b32 (aC u rfl) fun a u=>qg u 35 b32 (fJ u rfl rfl) fun a u=>q u (aF u rfl b32 rfl) fun a u=>qm u rfl fun a u=>?_;refine bW h (fun b33 h=>?_) (fun b33 h=>?_)
   .refine qn u 39 (tn b33) fun a u=>qn u 39 (tn b33) fun a u=>qn u 39 (tn b33) fun a u=>qn u 39 (tn b33) fun a u=>qu u 43 fun a u=>qu u 43 fun a u=>qn u 39 (tn b33) fun a u=>q u (aF u rfl b33 rfl) fun a u=>aB<|?_;have y:=u;cases h;exact hk31 _ (y.sb rfl)
   refine qg u 39 (nt b33) (aC u rfl) fun a u=>qg u 39 (nt b33) (aC u rfl) fun a u=>qg u 39 (nt b33) (gF u rfl rfl) fun a u=>qg u 39 (nt b33) (aC u rfl) fun a u=>?_;refine bW h (fun b34 h=>?_) (fun b34 h=>?_)
   .refine qg u 43 b34 (aC u rfl) fun a u=>qg u 43 b34 (fJ u rfl rfl) fun a u=>qg u 39 (nt b33) (aF u rfl b34 rfl) fun a u=>q u (aL u rfl b33 rfl) fun a u=>aB<|?_;have y:=u;cases h;exact hk31 _ (y.sb rfl)
   refine qn u 43 (nm b34) fun a u=>qn u 43 (nm b34) fun a u=>qg u 39 (nt b33) (aL u rfl b34 rfl) fun a u=>q u (aL u rfl b33 rfl) fun a u=>aB<|?_;have y:=u;cases h;exact hk31 _ (y.sb rfl)
  refine qn u 35 (nm b32) fun a u=>qn u 35 (nm b32) fun a u=>q u (aL u rfl b32 rfl) fun a u=>qm u rfl fun a u=>qg u 39 (nt aIr) (aC u rfl) fun a u=>qg u 39 (nt aIr) (aC u rfl) fun a u=>qg u 39 (nt aIr) (gF u rfl rfl) fun a u=>qg u 39 (nt aIr) (aC u rfl) fun a u=>?_;refine bW h (fun b35 h=>?_) (fun b35 h=>?_)
  .refine qg u 43 b35 (aC u rfl) fun a u=>qg u 43 b35 (fJ u rfl rfl) fun a u=>qg u 39 (nt aIr) (aF u rfl b35 rfl) fun a u=>q u (aL u rfl aIr rfl) fun a u=>aB<|?_;have y:=u;cases h;exact hk31 _ (y.sb rfl)
  refine qn u 43 (nm b35) fun a u=>qn u 43 (nm b35) fun a u=>qg u 39 (nt aIr) (aL u rfl b35 rfl) fun a u=>q u (aL u rfl aIr rfl) fun a u=>aB<|?_;have y:=u;cases h;exact hk31 _ (y.sb rfl)
 refine wp_exit<|t_x<|?_;have y:=u;cases h;cases hr18 _ rfl;refine lM<|?_;exact hk16 _ rfl _ (y.sb rfl)
noncomputable def dN (p4:Addr) (x42:Int) (w43:World):ND ((Int×World)⊕(World)) :=
 cb2 (lb1 (dr w43) fun w53 =>
 if (decide (0<x42))=true then
 (lb1 (ldL w53 (p4.add 2)) fun v56 =>
 lb1 (ix v56 x42 4) fun p58 =>
 lb1 (ldI .i64 w53 (p58.add 1)) fun v60 =>
 lb1 (ldL w53 (p4.add 2)) fun v62 =>
 lb1 (ix v62 (IntKind.wrap .i64 (x42-1)) 4) fun p64 =>
 lb1 (ldI .i64 w53 (p64.add 1)) fun v66 =>
 aU ((decide (v60<v66)),w53))
 else
 (aU (false,w53))) fun v49 w50 =>
 if v49=true then
 (lb1 (ldL w50 (p4.add 2)) fun v69 =>
 lb1 (ix v69 x42 4) fun p71 =>
 lb1 (ldA 4 w50 p71 0) fun c73 =>
 lb2 (mk w50 136 (List.replicate 4 (.int .i64 0))) fun p75 w76 =>
 lb1 (stA w76 p75 0 c73) fun w78 =>
 lb1 (dr w78) fun w80 =>
 lb1 (ldL w80 (p4.add 2)) fun v82 =>
 lb1 (ldL w80 (p4.add 2)) fun v84 =>
 lb1 (ix v84 (IntKind.wrap .i64 (x42-1)) 4) fun p86 =>
 lb1 (ldA 4 w80 p86 0) fun c88 =>
 lb1 (ix v82 x42 4) fun p90 =>
 lb1 (stA w80 p90 0 c88) fun w92 =>
 lb1 (ldL w92 (p4.add 2)) fun v94 =>
 lb1 (ldA 4 w92 p75 0) fun c96 =>
 lb1 (ix v94 (IntKind.wrap .i64 (x42-1)) 4) fun p98 =>
 lb1 (stA w92 p98 0 c96) fun w100 =>
 aU (.inl ((IntKind.wrap .i64 (x42-1)),w100)))
 else
 (aU (.inr w50))
noncomputable def eZ (a0:Option Addr) (p4:Addr) (x9:Int) (w10:World):ND ((Int×World)⊕(World)) :=
 lb1 (a0) fun p16 =>
 lb1 (ldI .i64 w10 (p16.add 2)) fun v18 =>
 if (decide (x9<v18))=true then
 (cb1 (lb4 (fP a0 x9 w10) fun v24 v25 v26 w27 =>
 if (!v26)=true then
 (aU w27)
 else
 (lb1 (ldL w27 (p4.add 2)) fun v30 =>
 lb2 (bsl w27 136 4 [([.int .i64 x9,.int .i64 v24,.int .i64 1,.int .i64 v25])]) fun s32 w33 =>
 lb2 (apS Try.prog 128 v30 s32 w33) fun s35 w36 =>
 lb1 (stV w36 (p4.add 2) (Sl.v s35)) fun w38 =>
 lb1 (ldL w38 (p4.add 2)) fun v40 =>
 cb1 (fB (fun s:Int×World=>dN p4 s.1 s.2) ((IntKind.wrap .i64 ((v40.n:Int)-1)),w38)) fun w46 =>
 aU w46)) fun w21 =>
 aU (.inl ((IntKind.wrap .i64 (x9+1)),w21)))
 else
 (aU (.inr w10))
noncomputable def cG (p4:Addr) (x107:Int) (a0:Option Addr) (x140:Sl) (x141:Bool) (w142:World):ND ((Sl×Bool×World)⊕(Sl×World)) :=
 if x141=true then
 (cb4 (lb1 (dr w142) fun w156 =>
 lb1 (ldL w156 (p4.add 2)) fun v158 =>
 lb1 (ix v158 x107 4) fun p160 =>
 lb1 (ldI .i64 w156 (p160.add 0)) fun v162 =>
 lb1 (ldL w156 (p4.add 2)) fun v164 =>
 lb1 (ix v164 x107 4) fun p166 =>
 lb1 (ldI .i64 w156 (p166.add 2)) fun v168 =>
 aCA (lb4 (dV a0 v162 v168 w156) fun v170 v171 v172 w173 =>
 lb2 (mk w173 87 ([.int .i64 0,.slice none 0 0])) fun p175 w176 =>
 lb1 (stA w176 p175 0 v170) fun w179 =>
 nck ((v170).length=2) <|
 aU (p175,v171,v172,w179)) (lb2 (mk w156 87 ([.int .i64 0,.slice none 0 0])) fun p181 w182 =>
 lb4 (dV a0 v162 v168 w182) fun v184 v185 v186 w187 =>
 lb1 (stA w187 p181 0 v184) fun w190 =>
 nck ((v184).length=2) <|
 nck (ldL w182 (p4.add 2)=some v158) <|
 nck (ldI .i64 w182 (p160.add 0)=some v162) <|
 nck (ldL w182 (p4.add 2)=some v164) <|
 nck (ldI .i64 w182 (p166.add 2)=some v168) <|
 aU (p181,v185,v186,w190))) fun v150 v151 v152 w153 =>
 cb2 (if v152=true then
 (lb1 (ldI .i64 w153 (v150.add 0)) fun v201 =>
 lb1 (ldI .i64 w153 (p4.add 0)) fun v203 =>
 aU ((decide (v203<v201)),w153))
 else
 (aU (false,w153))) fun v196 w197 =>
 if v196=true then
 (lb1 (ldA 2 w197 v150 0) fun c206 =>
 lb2 (bsl w197 87 2 [c206]) fun s208 w209 =>
 lb2 (apS Try.prog 74 x140 s208 w209) fun s211 w212 =>
 lb1 (ldI .i64 w212 (v150.add 0)) fun v214 =>
 lb1 (stV w212 (p4.add 0) (.int .i64 v214)) fun w216 =>
 lb1 (ldL w216 (p4.add 2)) fun v218 =>
 lb1 (ix v218 x107 4) fun p220 =>
 lb1 (stV w216 (p220.add 2) (.int .i64 v151)) fun w222 =>
 aU (.inl (s211,v196,w222)))
 else
 (aU (.inl (x140,v196,w197))))
 else
 (aU (.inr (x140,w142)))
noncomputable def dR (p4:Addr) (a0:Option Addr) (x106:Sl) (x107:Int) (w108:World):ND ((Sl×Int×World)⊕(Sl×World)) :=
 lb1 (ldL w108 (p4.add 2)) fun v115 =>
 if (decide (x107<(v115.n:Int)))=true then
 (cb1 (lb1 (dr w108) fun w121 =>
 lb1 (ldL w121 (p4.add 2)) fun v123 =>
 lb1 (ix v123 x107 4) fun p125 =>
 lb1 (ldI .i64 w121 (p125.add 3)) fun v127 =>
 lb1 (ldI .i64 w121 (p4.add 0)) fun v129 =>
 if (decide (v129<v127))=true then
 (lb1 (ldL w121 (p4.add 2)) fun v132 =>
 lb1 (ix v132 x107 4) fun p134 =>
 lb1 (ldI .i64 w121 (p134.add 3)) fun v136 =>
 lb1 (stV w121 (p4.add 0) (.int .i64 v136)) fun w138 =>
 aU w138)
 else
 (aU w121)) fun w118 =>
 cb2 (fB (fun s:Sl×Bool×World=>cG p4 x107 a0 s.1 s.2.1 s.2.2) (x106,true,w118)) fun v145 w146 =>
 lb1 (ldL w146 (p4.add 2)) fun v224 =>
 lb1 (ldI .i64 w146 (p4.add 0)) fun v226 =>
 lb1 (ix v224 x107 4) fun p228 =>
 lb1 (stV w146 (p228.add 3) (.int .i64 v226)) fun w230 =>
 aU (.inl (v145,(IntKind.wrap .i64 (x107+1)),w230)))
 else
 (aU (.inr (x106,w108)))
noncomputable def fD (v111:Sl) (p4:Addr) (x263:Int) (w264:World):ND ((Int×World)⊕(World)) :=
 if (decide (x263<(v111.n:Int)))=true then
 (cb1 (lb1 (dr w264) fun w274 =>
 lb1 (ix v111 x263 2) fun p276 =>
 lb1 (ldI .i64 w274 (p276.add 0)) fun v278 =>
 lb1 (ldI .i64 w274 (p4.add 1)) fun v280 =>
 if (decide (v280<v278))=true then
 (lb1 (dr w274) fun w283 =>
 lb1 (ldL w283 (p4.add 3)) fun v285 =>
 lb1 (ix v111 x263 2) fun p287 =>
 lb1 (ldA 2 w283 p287 0) fun c289 =>
 lb2 (bsl w283 87 2 [c289]) fun s291 w292 =>
 lb2 (apS Try.prog 74 v285 s291 w292) fun s294 w295 =>
 lb1 (stV w295 (p4.add 3) (Sl.v s294)) fun w297 =>
 nck (ldL w292 (p4.add 3)=some v285) <|
 aU w297)
 else
 (aU w274)) fun w271 =>
 aU (.inl ((IntKind.wrap .i64 (x263+1)),w271)))
 else
 (aU (.inr w264))
noncomputable def gN (a0:Option Addr) (w:World):ND ((List Value)×World) :=
 lb2 (mk w 130 ([.int .i64 0,.int .i64 0,.slice none 0 0,.slice none 0 0])) fun p1 w2 =>
 lb2 (mk w2 130 ([.int .i64 0,.int .i64 0,.slice none 0 0,.slice none 0 0])) fun p4 w5 =>
 lb1 (stA w5 p4 0 ([.int .i64 0,.int .i64 0,.slice none 0 0,.slice none 0 0])) fun w7 =>
 cb1 (fB (fun s:Int×World=>eZ a0 p4 s.1 s.2) (0,w7)) fun w13 =>
 lb2 (bsl w13 87 2 []) fun s103 w104 =>
 cb2 (fB (fun s:Sl×Int×World=>dR p4 a0 s.1 s.2.1 s.2.2) (s103,0,w104)) fun v111 w112 =>
 lb1 (dr w112) fun w233 =>
 lb1 (a0) fun p235 =>
 lb1 (ldP w233 (p235.add 0)) fun v237 =>
 lb1 (ldI .i64 w233 (p235.add 1)) fun v239 =>
 lb3 (hH v237 v239 1 w233) fun v241 v242 w243 =>
 lb3 (eI v241 0 w243) fun v245 v246 w247 =>
 lb1 (stV w247 (p4.add 1) (.int .i64 v245)) fun w249 =>
 cb1 (lb1 (ldI .i64 w249 (p4.add 1)) fun v254 =>
 lb1 (ldI .i64 w249 (p4.add 0)) fun v256 =>
 if (decide (v256<v254))=true then
 (lb1 (ldI .i64 w249 (p4.add 1)) fun v259 =>
 lb1 (stV w249 (p4.add 0) (.int .i64 v259)) fun w261 =>
 aU w261)
 else
 (aU w249)) fun w251 =>
 cb1 (fB (fun s:Int×World=>fD v111 p4 s.1 s.2) (0,w251)) fun w267 =>
 lb1 (ldA 4 w267 p4 0) fun c300 =>
 lb1 (stA w267 p1 0 c300) fun w302 =>
 lb1 (ldA 4 w302 p1 0) fun v304 =>
 aU (v304,w302)
theorem pN {a0 w Q} (h:(gN a0 w).t Q):Calls Try.prog 73 #[(.pointer a0)] w fun e w''=>∃ i,e=.returned (.agg (List.toArray i.1))/\Q i/\w''=i.2:=by
 refine aP (n:=213) Try.func73 rfl Try.ntmps73 (by simp) fun a u=>?_;unfold gN at h;refine wp_seq<|aA<|?_;obtain⟨p1,w2,e3,h⟩:=h;refine q u (eX aIa (by kernel_rfl) e3) fun a u=>aB<|t_n<|wp_seq<|aA<|q u (dZ (vs:=[]) (pl:=#[(0,1),(1,1),(2,1),(3,1)]) (cs:=([.int .i64 0,.int .i64 0,.slice none 0 0,.slice none 0 0])) u trivial aIa aGM (by intro w;kernel_rfl) (by kernel_rfl)) fun a u=>?_;obtain⟨p4,w5,e6,h⟩:=h;refine q u (eX aIa (by kernel_rfl) e6) fun a u=>?_;obtain⟨w7,e8,h⟩:=h;refine q u (eW u rfl rfl aHd rfl e8) fun a u=>aB<|t_n<|wp_seq<|wp_seq<|aA<|qa u rfl fun a u=>aB<|t_n<|wp_block<|?_;refine lE (n:=213) (Lr:=fun i=>[(0,(pV a0)),(2,(pV (some p1))),(3,(pV (some p4)))]) (wr:=fun i=>i) (e:=.exit 0) (I:=fun (s:Int×World) a w=>Has 213 [(4,(iV s.1)),(0,(pV a0)),(2,(pV (some p1))),(3,(pV (some p4)))] a/\w=s.2) (un1 h) ⟨u.sub ⟨rfl,rfl,rfl,rfl,aLz⟩,rfl⟩ (fun i h a u=>?_) (fun hk14=>?_)
 .obtain⟨w13,rfl⟩:∃ x,x=i:=⟨i,rfl⟩;have u:Has 213 [(0,(pV a0)),(2,(pV (some p1))),(3,(pV (some p4)))] a:=u;refine eC<|t_n<|wp_seq<|aA<|?_;obtain⟨s103,w104,e105,h⟩:=h;refine q u (iK (vs:=[]) (ps:=[]) u trivial trivial rfl aGY aHe aHh (by decide) e105) fun a u=>qa u rfl fun a u=>aB<|t_n<|wp_seq<|wp_seq<|aA<|qa u rfl fun a u=>aB<|t_n<|wp_block<|?_;refine lE (n:=213) (Lr:=fun i=>[(10,(Sl.v i.1)),(0,(pV a0)),(2,(pV (some p1))),(3,(pV (some p4)))]) (wr:=fun i=>i.2) (e:=.exit 4) (I:=fun (s:Sl×Int×World) a w=>Has 213 [(10,(Sl.v s.1)),(11,(iV s.2.1)),(0,(pV a0)),(2,(pV (some p1))),(3,(pV (some p4)))] a/\w=s.2.2) (un2 h) ⟨u.sub ⟨rfl,rfl,rfl,rfl,rfl,aLz⟩,rfl⟩ (fun i h a u=>?_) (fun hk113=>?_)
  .obtain⟨v111,w112⟩:=i;have u:Has 213 [(10,(Sl.v v111)),(0,(pV a0)),(2,(pV (some p1))),(3,(pV (some p4)))] a:=u;refine eC<|t_n<|wp_seq<|?_;obtain⟨w233,e234,h⟩:=h;obtain⟨p235,e236,h⟩:=h;obtain⟨v237,e238,h⟩:=h;obtain⟨v239,e240,h⟩:=h;obtain⟨v241,v242,w243,e244,h⟩:=h;have u:Has 213 [(0,(pV a0)),(2,(pV (some p1))),(3,(pV (some p4))),(10,(Sl.v v111))] a:=u.sb rfl;refine aM (n:=213) (ds:=(aS (pV a0) 0 [] 0::aG (pV (some p235)) 0 [0] 164 (pV a0)::aG (pV (some (p235.add 0))) 0 [0,1] 165 (pV (some p235))::aG (pV v237) 0 [0,1,2] 166 (pV (some (p235.add 0)))::aS (pV a0) 0 [] 0::aG (pV (some p235)) 0 [4] 168 (pV a0)::aG (pV (some (p235.add 1))) 0 [4,5] 169 (pV (some p235))::aG (iV v239) 0 [4,5,6] 170 (pV (some (p235.add 1)))::aI (.tuple #[(pV v241),(iV v242)]) true 0 0 (rn 0 8) [(167,(pV v237)),(171,(iV v239))]::aS (.tuple #[(pV v241),(iV v242)]) 1 (rn 0 9) 172::aG (pV v241) 1 (rn 0 10) 163 (.tuple #[(pV v241),(iV v242)])::aG (iV v242) 1 (rn 0 10) 163 (.tuple #[(pV v241),(iV v242)])::aS (pV v241) 1 (rn 0 11) 173::aS (iV v242) 1 (rn 0 13) 174::[])) (W:=(fun j=>match j with | 0=>w233 | 1=>w243 | _=>w243)) (by kernel_rfl) u (cY e234) (by kernel_rfl) ?_ (aR (by kernel_rfl)) (by kernel_rfl) (m:=1) (by kernel_rfl) (fun a u=>?_)
   .exact⟨oa (aC · rfl),oa (aH · rfl e236),oa (aK · rfl aGP rfl rfl aHp),oc 0 (kd (aJ · rfl aHi (bA e238))),oa (aC · rfl),oa (aH · rfl e236),oa (aK · rfl aGP rfl rfl aGL),oc 0 (kd (aJ · rfl aGN (aQ e240))),oc 0 (kd (dc3 · rfl rfl rfl Try.call114 (nI e244))),oa (aC · rfl),oa (aW · rfl rfl),oa (aW · rfl rfl),oa (bD · rfl),oa (bD · rfl),aLz⟩
   have u:Has 213 [(2,(pV (some p1))),(3,(pV (some p4))),(10,(Sl.v v111)),(16,(pV v241))] a:=u.sb rfl;refine t_n<|wp_seq<|aA<|qm u rfl fun a u=>?_;obtain⟨v245,v246,w247,e248,h⟩:=h;refine q u (dc2 u rfl rfl Try.call115 (oP e248)) fun a u=>qm u rfl fun a u=>q u (aW u rfl rfl) fun a u=>q u (aW u rfl rfl) fun a u=>q u (aK u rfl aGM rfl rfl aGL) fun a u=>?_;obtain⟨w249,e250,h⟩:=h;refine q u (fO u rfl rfl aGL e250) fun a u=>aB<|t_n<|?_;refine gJ (n:=213) (ι:=World) (Lf:=fun i=>[(2,(pV (some p1))),(3,(pV (some p4))),(10,(Sl.v v111))]) (wf:=fun i=>i) (un1 h) (fun i h a u=>?_) (fun h hk253=>?_)
   .obtain⟨w251,rfl⟩:∃ x,x=i:=⟨i,rfl⟩;have u:Has 213 [(2,(pV (some p1))),(3,(pV (some p4))),(10,(Sl.v v111))] a:=u;refine wp_seq<|wp_seq<|aA<|qa u rfl fun a u=>aB<|t_n<|wp_block<|?_;refine lE (n:=213) (Lr:=fun i=>[(2,(pV (some p1))),(3,(pV (some p4)))]) (wr:=fun i=>i) (e:=.exit 8) (I:=fun (s:Int×World) a w=>Has 213 [(18,(iV s.1)),(2,(pV (some p1))),(3,(pV (some p4))),(10,(Sl.v v111))] a/\w=s.2) (un1 h) ⟨u.sub ⟨rfl,rfl,rfl,rfl,aLz⟩,rfl⟩ (fun i h a u=>?_) (fun hk268=>?_)
    .obtain⟨w267,rfl⟩:∃ x,x=i:=⟨i,rfl⟩;have u:Has 213 [(2,(pV (some p1))),(3,(pV (some p4)))] a:=u;refine eC<|t_n<|wp_seq<|aA<|?_;obtain⟨c300,e301,h⟩:=h;refine q u (gC u rfl aIp aHd e301) fun a u=>?_;obtain⟨w302,e303,h⟩:=h;refine q u (eW u rfl rfl aHd ((kR e301).1) e303) fun a u=>aB<|t_n<|wp_ret<|?_;obtain⟨v304,e305,h⟩:=h;exact uH (vs:=[_]) Try.results73 u ⟨⟨_,rfl,uI aIp aHd e305⟩,aLz⟩ ⟨(v304,w302),rfl,h,rfl⟩
    clear h;intro hX306;rintro⟨x263,w264⟩ a wq ⟨u,hwq⟩ h;obtain rfl:w264=wq:=hwq.symm;have u:Has 213 [(18,(iV x263)),(2,(pV (some p1))),(3,(pV (some p4))),(10,(Sl.v v111))] a:=u;have h:(fD v111 p4 x263 w264).t _:=h;unfold fD at h;refine wp_seq<|wp_seq<|aA<|qm u rfl fun a u=>qm u rfl fun a u=>q u (aZ u rfl aGY) fun a u=>q u (dK u rfl rfl) fun a u=>aB<|t_n<|?_;refine aX u rfl h (fun b270 h=>?_) (fun b270 h=>?_)
    .refine wp_skip<|t_n<|?_;refine gJ (n:=213) (ι:=World) (Lf:=fun i=>[(2,(pV (some p1))),(3,(pV (some p4))),(10,(Sl.v v111)),(18,(iV x263))]) (wf:=fun i=>i) (un1 h) (fun i h a u=>?_) (fun h hk273=>?_)
     .obtain⟨w271,rfl⟩:∃ x,x=i:=⟨i,rfl⟩;have u:Has 213 [(2,(pV (some p1))),(3,(pV (some p4))),(10,(Sl.v v111)),(18,(iV x263))] a:=u;refine aA<|qm u rfl fun a u=>q u (bJ u rfl rfl) fun a u=>qa u rfl fun a u=>aB<|?_;exact⟨((IntKind.wrap .i64 (x263+1)),w271),⟨u.sb rfl,rfl⟩,h⟩
     refine wp_block<|wp_seq<|?_;obtain⟨w274,e275,h⟩:=h;obtain⟨p276,e277,h⟩:=h;obtain⟨v278,e279,h⟩:=h;obtain⟨v280,e281,h⟩:=h;have u:Has 213 [(2,(pV (some p1))),(3,(pV (some p4))),(10,(Sl.v v111)),(18,(iV x263))] a:=u.sb rfl;refine aM (n:=213) (ds:=(aS (Sl.v v111) 0 [] 10::aS (iV x263) 0 [] 18::aT (pV (some p276)) 0 [0,1] [(195,(Sl.v v111)),(196,(iV x263))]::aG (pV (some (p276.add 0))) 0 [0,1,2] 197 (pV (some p276))::aG (iV v278) 0 (rn 0 4) 198 (pV (some (p276.add 0)))::aG (pV (some (p4.add 1))) 0 [] 3 (pV (some p4))::aG (iV v280) 0 [5] 200 (pV (some (p4.add 1)))::aT (bV (decide (v280<v278))) 0 (rn 0 7) [(199,(iV v278)),(201,(iV v280))]::[])) (W:=(fun _=>w274)) (by kernel_rfl) u (cY e275) (by kernel_rfl) ?_ (aR (by kernel_rfl)) (by kernel_rfl) (m:=0) (by kernel_rfl) (fun a u=>?_)
     .exact⟨oa (aC · rfl),oa (aC · rfl),oa (bZ · rfl rfl aGY aHe e277),oa (aK · rfl aHa rfl rfl aGL),oc (e:=false) 0 (kd (aJ · rfl aGN (aQ e279))),oa (aK · rfl aGM rfl rfl aGL),oc (e:=false) 0 (kd (aJ · rfl aGN (aQ e281))),oa (gF · rfl rfl),aLz⟩
     have u:Has 213 [(2,(pV (some p1))),(3,(pV (some p4))),(10,(Sl.v v111)),(18,(iV x263)),(202,(bV (decide (v280<v278))))] a:=u.sb rfl;refine t_n<|?_;refine aX u rfl h (fun b282 h=>?_) (fun b282 h=>?_)
     .obtain⟨w283,e284,h⟩:=h;obtain⟨v285,e286,h⟩:=h;obtain⟨p287,e288,h⟩:=h;obtain⟨c289,e290,h⟩:=h;obtain⟨s291,w292,e293,h⟩:=h;obtain⟨s294,w295,e296,h⟩:=h;obtain⟨w297,e298,h⟩:=h;obtain⟨e299,h⟩:=h;have u:Has 213 [(2,(pV (some p1))),(3,(pV (some p4))),(10,(Sl.v v111)),(18,(iV x263)),(202,(bV (decide (v280<v278))))] a:=u.sb rfl;refine aM (n:=213) (ds:=(aI (pV (some (p4.add 3))) false 0 1 [] [(3,(pV (some p4)))]::aI (Sl.v v285) false 0 1 [0] [(203,(pV (some (p4.add 3))))]::aS (Sl.v v111) 0 [] 10::aS (iV x263) 0 [] 18::aT (pV (some p287)) 0 [2,3] [(205,(Sl.v v111)),(206,(iV x263))]::aG (.agg (List.toArray c289)) 0 [2,3,4] 207 (pV (some p287))::aI (Sl.v s291) true 0 0 (rn 2 4) [(208,(.agg (List.toArray c289)))]::aI (Sl.v s294) true 1 1 (rn 0 7) [(204,(Sl.v v285)),(209,(Sl.v s291))]::aG (pV (some (p4.add 3))) 2 (rn 0 8) 3 (pV (some p4))::aI (undef) true 2 2 (rn 0 9) [(211,(pV (some (p4.add 3)))),(210,(Sl.v s294))]::[])) (W:=(fun j=>match j with | 0=>w283 | 1=>w292 | 2=>w295 | 3=>w297 | _=>w297)) (by kernel_rfl) u (cY e284) (by kernel_rfl) ?_ (aR (by kernel_rfl)) (by kernel_rfl) (m:=3) (by kernel_rfl) (fun a u=>?_)
      .refine⟨oa (aK · rfl aGM rfl rfl aHy),?_,oa (aC · rfl),oa (aC · rfl),oa (bZ · rfl rfl aGY aHe e288),oc 0 (kd (gC · rfl aHW aHe e290)),oc 0 (kd (iK (vs:=[(0,(.agg (List.toArray c289)))]) (ps:=[c289]) · ⟨rfl,rfl,aLz⟩ ⟨rfl,rfl,aLz⟩ rfl aGY aHe aHh (by decide) e293)),oc 1 (kd (iF · rfl rfl e296)),oa (aK · rfl aGM rfl rfl aHy),oc 2 (kd (fO · rfl rfl aHy e298)),aLz⟩;intro j h1 h2;have h1:0<=j:=h1;have h2:j<=1:=h2;rcases(by omega:j=0\/j=1) with rfl | rfl
       .exact kd (aJ · rfl aHI (aV e286))
       exact kd (aJ · rfl aHI (aV e299))
      have u:Has 213 [(2,(pV (some p1))),(3,(pV (some p4))),(10,(Sl.v v111)),(18,(iV x263))] a:=u.sb rfl;refine b_n<|?_;exact hk273 w297 h _ (u.sb rfl)
     refine wp_skip<|b_n<|?_;exact hk273 w274 h _ (u.sb rfl)
    refine wp_exit<|t_x<|t_x<|?_;exact hk268 w264 h _ (u.sb rfl)
   refine wp_seq<|aA<|q u (aK u rfl aGM rfl rfl aGL) fun a u=>?_;obtain⟨v254,e255,h⟩:=h;refine q u (aJ u rfl aGN (aQ e255)) fun a u=>q u (aK u rfl aGM rfl rfl aGL) fun a u=>?_;obtain⟨v256,e257,h⟩:=h;refine q u (aJ u rfl aGN (aQ e257)) fun a u=>q u (gF u rfl rfl) fun a u=>aB<|t_n<|?_;refine aX u rfl h (fun b258 h=>?_) (fun b258 h=>?_)
   .refine aA<|q u (aK u rfl aGM rfl rfl aGL) fun a u=>?_;obtain⟨v259,e260,h⟩:=h;refine q u (aJ u rfl aGN (aQ e260)) fun a u=>q u (aK u rfl aGM rfl rfl aGL) fun a u=>?_;obtain⟨w261,e262,h⟩:=h;refine q u (fO u rfl rfl aGL e262) fun a u=>aB<|?_;exact hk253 w261 h _ (u.sb rfl)
   refine wp_skip<|?_;exact hk253 w249 h _ (u.sb rfl)
  clear h;intro hX307;rintro⟨x106,x107,w108⟩ a wq ⟨u,hwq⟩ h;obtain rfl:w108=wq:=hwq.symm;have u:Has 213 [(10,(Sl.v x106)),(11,(iV x107)),(0,(pV a0)),(2,(pV (some p1))),(3,(pV (some p4)))] a:=u;have h:(dR p4 a0 x106 x107 w108).t _:=h;unfold dR at h;refine wp_seq<|wp_seq<|aA<|qm u rfl fun a u=>q u (aK u rfl aGM rfl rfl aHb) fun a u=>?_;obtain⟨v115,e116,h⟩:=h;refine q u (aJ u rfl aHc (aV e116)) fun a u=>q u (aZ u rfl aGR) fun a u=>q u (dK u rfl rfl) fun a u=>aB<|t_n<|?_;refine aX u rfl h (fun b117 h=>?_) (fun b117 h=>?_)
  .refine wp_skip<|t_n<|wp_seq<|wp_block<|?_;refine gJ (n:=213) (ι:=World) (Lf:=fun i=>[(0,(pV a0)),(2,(pV (some p1))),(3,(pV (some p4))),(10,(Sl.v x106)),(11,(iV x107))]) (wf:=fun i=>i) (un1 h) (fun i h a u=>?_) (fun h hk120=>?_)
   .obtain⟨w118,rfl⟩:∃ x,x=i:=⟨i,rfl⟩;have u:Has 213 [(0,(pV a0)),(2,(pV (some p1))),(3,(pV (some p4))),(10,(Sl.v x106)),(11,(iV x107))] a:=u;refine wp_seq<|aA<|qa u rfl fun a u=>aB<|t_n<|wp_seq<|wp_block<|?_;refine lE (n:=213) (Lr:=fun i=>[(10,(Sl.v i.1)),(0,(pV a0)),(2,(pV (some p1))),(3,(pV (some p4))),(11,(iV x107))]) (wr:=fun i=>i.2) (e:=.exit 6) (I:=fun (s:Sl×Bool×World) a w=>Has 213 [(10,(Sl.v s.1)),(12,(bV s.2.1)),(0,(pV a0)),(2,(pV (some p1))),(3,(pV (some p4))),(11,(iV x107))] a/\w=s.2.2) (un2 h) ⟨u.sub ⟨rfl,rfl,rfl,rfl,rfl,rfl,aLz⟩,rfl⟩ (fun i h a u=>?_) (fun hk147=>?_)
    .obtain⟨v145,w146⟩:=i;have u:Has 213 [(10,(Sl.v v145)),(0,(pV a0)),(2,(pV (some p1))),(3,(pV (some p4))),(11,(iV x107))] a:=u;refine eC<|t_n<|aA<|q u (aK u rfl aGM rfl rfl aHb) fun a u=>?_;obtain⟨v224,e225,h⟩:=h;refine q u (aJ u rfl aHc (aV e225)) fun a u=>qm u rfl fun a u=>q u (aK u rfl aGM rfl rfl aGL) fun a u=>?_;obtain⟨v226,e227,h⟩:=h;refine q u (aJ u rfl aGN (aQ e227)) fun a u=>?_;obtain⟨p228,e229,h⟩:=h;refine q u (bZ u rfl rfl aGR aHg e229) fun a u=>q u (aK u rfl aHf rfl rfl aGL) fun a u=>?_;obtain⟨w230,e231,h⟩:=h;refine q u (fO u rfl rfl aGL e231) fun a u=>aB<|b_n<|t_n<|aA<|qm u rfl fun a u=>q u (bJ u rfl rfl) fun a u=>qa u rfl fun a u=>aB<|?_;exact⟨(v145,(IntKind.wrap .i64 (x107+1)),w230),⟨u.sb rfl,rfl⟩,h⟩
    clear h;intro hX232;rintro⟨x140,x141,w142⟩ a wq ⟨u,hwq⟩ h;obtain rfl:w142=wq:=hwq.symm;have u:Has 213 [(10,(Sl.v x140)),(12,(bV x141)),(0,(pV a0)),(2,(pV (some p1))),(3,(pV (some p4))),(11,(iV x107))] a:=u;have h:(cG p4 x107 a0 x140 x141 w142).t _:=h;unfold cG at h;refine wp_seq<|wp_seq<|aA<|qm u rfl fun a u=>aB<|t_n<|?_;refine aX u rfl h (fun b149 h=>?_) (fun b149 h=>?_)
    .refine wp_skip<|t_n<|wp_block<|wp_seq<|?_;refine dD (n:=213) (ι:=Addr×Int×Bool×World) (Lf:=fun i=>[(13,(pV (some i.1))),(14,(iV i.2.1)),(15,(bV i.2.2.1)),(0,(pV a0)),(2,(pV (some p1))),(3,(pV (some p4))),(10,(Sl.v x140)),(11,(iV x107))]) (wf:=fun i=>i.2.2.2) (un4 h) (fun i h a u=>?_) (fun h hk155=>?_)
     .obtain⟨v150,v151,v152,w153⟩:=i;have u:Has 213 [(13,(pV (some v150))),(14,(iV v151)),(15,(bV v152)),(0,(pV a0)),(2,(pV (some p1))),(3,(pV (some p4))),(10,(Sl.v x140)),(11,(iV x107))] a:=u;refine t_n<|wp_seq<|?_;refine dD (n:=213) (ι:=Bool×World) (Lf:=fun i=>[(12,(bV i.1)),(0,(pV a0)),(2,(pV (some p1))),(3,(pV (some p4))),(10,(Sl.v x140)),(11,(iV x107)),(13,(pV (some v150))),(14,(iV v151))]) (wf:=fun i=>i.2) (un2 h) (fun i h a u=>?_) (fun h hk199=>?_)
      .obtain⟨v196,w197⟩:=i;have u:Has 213 [(12,(bV v196)),(0,(pV a0)),(2,(pV (some p1))),(3,(pV (some p4))),(10,(Sl.v x140)),(11,(iV x107)),(13,(pV (some v150))),(14,(iV v151))] a:=u;refine t_n<|wp_seq<|aA<|qm u rfl fun a u=>aB<|t_n<|?_;refine aX u rfl h (fun b205 h=>?_) (fun b205 h=>?_)
       .refine wp_seq<|aA<|qm u rfl fun a u=>?_;obtain⟨c206,e207,h⟩:=h;refine q u (gC u rfl aHW aHe e207) fun a u=>?_;obtain⟨s208,w209,e210,h⟩:=h;refine q u (iK (vs:=[(0,(.agg (List.toArray c206)))]) (ps:=[c206]) u ⟨rfl,rfl,aLz⟩ ⟨rfl,rfl,aLz⟩ rfl aGY aHe aHh (by decide) e210) fun a u=>?_;obtain⟨s211,w212,e213,h⟩:=h;refine q u (iF u rfl rfl e213) fun a u=>qa u rfl fun a u=>aB<|t_n<|wp_seq<|aA<|q u (aK u rfl aHa rfl rfl aGL) fun a u=>?_;obtain⟨v214,e215,h⟩:=h;refine q u (aJ u rfl aGN (aQ e215)) fun a u=>q u (aK u rfl aGM rfl rfl aGL) fun a u=>?_;obtain⟨w216,e217,h⟩:=h;refine q u (fO u rfl rfl aGL e217) fun a u=>aB<|t_n<|aA<|q u (aK u rfl aGM rfl rfl aHb) fun a u=>?_;obtain⟨v218,e219,h⟩:=h;refine q u (aJ u rfl aHc (aV e219)) fun a u=>qm u rfl fun a u=>qm u rfl fun a u=>?_;obtain⟨p220,e221,h⟩:=h;refine q u (bZ u rfl rfl aGR aHg e221) fun a u=>q u (aK u rfl aHf rfl rfl aGL) fun a u=>?_;obtain⟨w222,e223,h⟩:=h;refine q u (fO u rfl rfl aGL e223) fun a u=>aB<|b_n<|?_;exact⟨(s211,v196,w222),⟨u.sb rfl,rfl⟩,h⟩
       refine wp_skip<|b_n<|?_;exact⟨(x140,v196,w197),⟨u.sb rfl,rfl⟩,h⟩
      refine aA<|qm u rfl fun a u=>qm u rfl fun a u=>?_;refine iE h (fun b200 h=>?_) (fun b200 h=>?_)
      .refine qg u 135 b200 (aK u rfl aHa rfl rfl aGL) fun a u=>?_;obtain⟨v201,e202,h⟩:=h;refine qg u 135 b200 (aJ u rfl aGN (aQ e202)) fun a u=>qg u 135 b200 (aK u rfl aGM rfl rfl aGL) fun a u=>?_;obtain⟨v203,e204,h⟩:=h;refine qg u 135 b200 (aJ u rfl aGN (aQ e204)) fun a u=>qg u 135 b200 (gF u rfl rfl) fun a u=>q u (aF u rfl b200 rfl) fun a u=>qa u rfl fun a u=>aB<|?_;exact hk199 ((decide (v203<v201)),w153) h _ (u.sb rfl)
      refine qn u 135 (nm b200) fun a u=>qn u 135 (nm b200) fun a u=>qn u 135 (nm b200) fun a u=>qn u 135 (nm b200) fun a u=>qn u 135 (nm b200) fun a u=>q u (aL u rfl b200 rfl) fun a u=>qa u rfl fun a u=>aB<|?_;exact hk199 (false,w153) h _ (u.sb rfl)
     obtain⟨w156,e157,h⟩:=h;obtain⟨v158,e159,h⟩:=h;obtain⟨p160,e161,h⟩:=h;obtain⟨v162,e163,h⟩:=h;obtain⟨v164,e165,h⟩:=h;obtain⟨p166,e167,h⟩:=h;obtain⟨v168,e169,h⟩:=h;obtain⟨h,hB⟩:=h;obtain⟨v170,v171,v172,w173,e174,h⟩:=h;obtain⟨p175,w176,e177,h⟩:=h;obtain⟨w179,e180,h⟩:=h;obtain⟨e178,h⟩:=h;have hA:=h;have h:=hB;obtain⟨p181,w182,e183,h⟩:=h;obtain⟨v184,v185,v186,w187,e188,h⟩:=h;obtain⟨w190,e191,h⟩:=h;obtain⟨e189,h⟩:=h;obtain⟨e192,h⟩:=h;obtain⟨e193,h⟩:=h;obtain⟨e194,h⟩:=h;obtain⟨e195,h⟩:=h;have hB:=h;have u:Has 213 [(0,(pV a0)),(2,(pV (some p1))),(3,(pV (some p4))),(10,(Sl.v x140)),(11,(iV x107))] a:=u.sb rfl;refine qN (n:=213) (i:=13) (j:=18) (Dp:=[13,14,15,16,17,18,19,20,21]) (ds1:=(aS (pV a0) 0 [] 0::aG (pV (some (p4.add 2))) 0 [] 3 (pV (some p4))::aG (Sl.v v158) 0 [1] 118 (pV (some (p4.add 2)))::aS (iV x107) 0 [] 11::aT (pV (some p160)) 0 [2,1,3] [(119,(Sl.v v158)),(120,(iV x107))]::aG (pV (some (p160.add 0))) 0 [4,2,1,3] 121 (pV (some p160))::aG (iV v162) 0 [5,4,2,1,3] 122 (pV (some (p160.add 0)))::aG (pV (some (p4.add 2))) 0 [] 3 (pV (some p4))::aG (Sl.v v164) 0 [7] 124 (pV (some (p4.add 2)))::aS (iV x107) 0 [] 11::aT (pV (some p166)) 0 [8,7,9] [(125,(Sl.v v164)),(126,(iV x107))]::aG (pV (some (p166.add 2))) 0 [10,8,7,9] 127 (pV (some p166))::aG (iV v168) 0 [11,10,8,7,9] 128 (pV (some (p166.add 2)))::aI (.tuple #[(.agg (List.toArray v170)),(iV v171),(bV v172)]) true 0 0 (rn 0 13) [(117,(pV a0)),(123,(iV v162)),(129,(iV v168))]::aI (.tuple #[(.agg (List.toArray v170)),(iV v171),(bV v172)]) false 1 2 (rn 0 14) [(130,(.tuple #[(.agg (List.toArray v170)),(iV v171),(bV v172)]))]::aI (.agg (List.toArray v170)) false 1 2 (rn 0 15) [(116,(.tuple #[(.agg (List.toArray v170)),(iV v171),(bV v172)]))]::aI (iV v171) false 1 3 (rn 0 15) [(116,(.tuple #[(.agg (List.toArray v170)),(iV v171),(bV v172)]))]::aI (bV v172) false 1 3 (rn 0 15) [(116,(.tuple #[(.agg (List.toArray v170)),(iV v171),(bV v172)]))]::aI (pV (some p175)) true 1 1 (rn 0 14) []::aI (undef) true 2 2 (rn 0 16++[18]) [(13,(pV (some p175))),(131,(.agg (List.toArray v170)))]::aS (iV v171) 3 (rn 0 17++[18,19]) 132::aS (bV v172) 3 (rn 0 21) 133::[])) (ds2:=(aI (pV a0) false 0 1 [] [(0,(pV a0))]::aI (pV (some (p4.add 2))) false 0 1 [] [(3,(pV (some p4)))]::aI (Sl.v v158) false 0 1 [1] [(118,(pV (some (p4.add 2))))]::aI (iV x107) false 0 1 [] [(11,(iV x107))]::aI (pV (some p160)) false 0 1 [2,1,3] [(119,(Sl.v v158)),(120,(iV x107))]::aI (pV (some (p160.add 0))) false 0 1 [4,2,1,3] [(121,(pV (some p160)))]::aI (iV v162) false 0 1 [5,4,2,1,3] [(122,(pV (some (p160.add 0))))]::aI (pV (some (p4.add 2))) false 0 1 [] [(3,(pV (some p4)))]::aI (Sl.v v164) false 0 1 [7] [(124,(pV (some (p4.add 2))))]::aI (iV x107) false 0 1 [] [(11,(iV x107))]::aI (pV (some p166)) false 0 1 [8,7,9] [(125,(Sl.v v164)),(126,(iV x107))]::aI (pV (some (p166.add 2))) false 0 1 [10,8,7,9] [(127,(pV (some p166)))]::aI (iV v168) false 0 1 [11,10,8,7,9] [(128,(pV (some (p166.add 2))))]::aI (.tuple #[(.agg (List.toArray v184)),(iV v185),(bV v186)]) true 1 1 (rn 0 13++[18]) [(117,(pV a0)),(123,(iV v162)),(129,(iV v168))]::aS (.tuple #[(.agg (List.toArray v184)),(iV v185),(bV v186)]) 2 (rn 0 14++[18]) 130::aG (.agg (List.toArray v184)) 2 (rn 0 15++[18]) 116 (.tuple #[(.agg (List.toArray v184)),(iV v185),(bV v186)])::aI (iV v185) false 2 3 (rn 0 15++[18]) [(116,(.tuple #[(.agg (List.toArray v184)),(iV v185),(bV v186)]))]::aI (bV v186) false 2 3 (rn 0 15++[18]) [(116,(.tuple #[(.agg (List.toArray v184)),(iV v185),(bV v186)]))]::aI (pV (some p181)) true 0 0 [] []::aI (undef) true 2 2 (rn 0 16++[18]) [(13,(pV (some p181))),(131,(.agg (List.toArray v184)))]::aS (iV v185) 3 (rn 0 17++[18,19]) 132::aS (bV v186) 3 (rn 0 21) 133::[])) (W1:=(fun j=>match j with | 0=>w156 | 1=>w173 | 2=>w176 | 3=>w179 | _=>w179)) (W2:=(fun j=>match j with | 0=>w156 | 1=>w182 | 2=>w187 | 3=>w190 | _=>w190)) (m1:=3) (m2:=3) (by kernel_rfl) u (cY e157) (cY e157) rfl (by kernel_rfl) (by kernel_rfl) rfl rfl (by decide) (aR (by kernel_rfl)) (aR (by kernel_rfl)) ?_ ?_ (by kernel_rfl) (by kernel_rfl) (fun a u=>?_) (fun a u=>?_)
     .exact⟨oa (aC · rfl),oa (aK · rfl aGM rfl rfl aHb),oc 0 (kd (aJ · rfl aHc (aV e159))),oa (aC · rfl),oa (bZ · rfl rfl aGR aHg e161),oa (aK · rfl aHf rfl rfl aGL),oc 0 (kd (aJ · rfl aGN (aQ e163))),oa (aK · rfl aGM rfl rfl aHb),oc 0 (kd (aJ · rfl aHc (aV e165))),oa (aC · rfl),oa (bZ · rfl rfl aGR aHg e167),oa (aK · rfl aHf rfl rfl aGL),oc 0 (kd (aJ · rfl aGN (aQ e169))),oc 0 (kd (dc3 · rfl rfl rfl Try.call113 (kY e174))),oa (aC · rfl),oa (aW · rfl rfl),oa (aW · rfl rfl),oa (aW · rfl rfl),oc 1 (kd fun {a} u=>eX aHh (by kernel_rfl) e177),oc 2 (kd (eW · rfl rfl aHe e178 e180)),oa (bD · rfl),oa (bD · rfl),aLz⟩
     .refine⟨oa (aC · rfl),oa (aK · rfl aGM rfl rfl aHb),?_,oa (aC · rfl),oa (bZ · rfl rfl aGR aHg e161),oa (aK · rfl aHf rfl rfl aGL),?_,oa (aK · rfl aGM rfl rfl aHb),?_,oa (aC · rfl),oa (bZ · rfl rfl aGR aHg e167),oa (aK · rfl aHf rfl rfl aGL),?_,oc 1 (kd (dc3 · rfl rfl rfl Try.call113 (kY e188))),oa (aC · rfl),oa (aW · rfl rfl),oa (aW · rfl rfl),oa (aW · rfl rfl),oc 0 (kd fun {a} u=>eX aHh (by kernel_rfl) e183),oc 2 (kd (eW · rfl rfl aHe e189 e191)),oa (bD · rfl),oa (bD · rfl),aLz⟩
      .intro j h1 h2;have h1:0<=j:=h1;have h2:j<=1:=h2;rcases(by omega:j=0\/j=1) with rfl | rfl
       .exact kd (aJ · rfl aHc (aV e159))
       exact kd (aJ · rfl aHc (aV e192))
      .intro j h1 h2;have h1:0<=j:=h1;have h2:j<=1:=h2;rcases(by omega:j=0\/j=1) with rfl | rfl
       .exact kd (aJ · rfl aGN (aQ e163))
       exact kd (aJ · rfl aGN (aQ e193))
      .intro j h1 h2;have h1:0<=j:=h1;have h2:j<=1:=h2;rcases(by omega:j=0\/j=1) with rfl | rfl
       .exact kd (aJ · rfl aHc (aV e165))
       exact kd (aJ · rfl aHc (aV e194))
      intro j h1 h2;have h1:0<=j:=h1;have h2:j<=1:=h2;rcases(by omega:j=0\/j=1) with rfl | rfl
      .exact kd (aJ · rfl aGN (aQ e169))
      exact kd (aJ · rfl aGN (aQ e195))
     .have h:=hA;have u:Has 213 [(0,(pV a0)),(2,(pV (some p1))),(3,(pV (some p4))),(10,(Sl.v x140)),(11,(iV x107)),(13,(pV (some p175))),(14,(iV v171)),(15,(bV v172))] a:=u.sb rfl;exact hk155 (p175,v171,v172,w179) h _ (u.sb rfl)
     have h:=hB;have u:Has 213 [(0,(pV a0)),(2,(pV (some p1))),(3,(pV (some p4))),(10,(Sl.v x140)),(11,(iV x107)),(13,(pV (some p181))),(14,(iV v185)),(15,(bV v186))] a:=u.sb rfl;exact hk155 (p181,v185,v186,w190) h _ (u.sb rfl)
    refine wp_exit<|t_x<|t_x<|?_;exact hk147 (x140,w142) h _ (u.sb rfl)
   refine wp_seq<|?_;obtain⟨w121,e122,h⟩:=h;obtain⟨v123,e124,h⟩:=h;obtain⟨p125,e126,h⟩:=h;obtain⟨v127,e128,h⟩:=h;obtain⟨v129,e130,h⟩:=h;have u:Has 213 [(0,(pV a0)),(2,(pV (some p1))),(3,(pV (some p4))),(10,(Sl.v x106)),(11,(iV x107))] a:=u.sb rfl;refine aM (n:=213) (ds:=(aG (pV (some (p4.add 2))) 0 [] 3 (pV (some p4))::aG (Sl.v v123) 0 [0] 99 (pV (some (p4.add 2)))::aS (iV x107) 0 [] 11::aT (pV (some p125)) 0 [0,1,2] [(100,(Sl.v v123)),(101,(iV x107))]::aG (pV (some (p125.add 3))) 0 (rn 0 4) 102 (pV (some p125))::aG (iV v127) 0 (rn 0 5) 103 (pV (some (p125.add 3)))::aG (pV (some (p4.add 0))) 0 [] 3 (pV (some p4))::aG (iV v129) 0 [6] 105 (pV (some (p4.add 0)))::aT (bV (decide (v129<v127))) 0 (rn 0 8) [(104,(iV v127)),(106,(iV v129))]::[])) (W:=(fun _=>w121)) (by kernel_rfl) u (cY e122) (by kernel_rfl) ?_ (aR (by kernel_rfl)) (by kernel_rfl) (m:=0) (by kernel_rfl) (fun a u=>?_)
   .exact⟨oa (aK · rfl aGM rfl rfl aHb),oc (e:=false) 0 (kd (aJ · rfl aHc (aV e124))),oa (aC · rfl),oa (bZ · rfl rfl aGR aHg e126),oa (aK · rfl aHf rfl rfl aGL),oc (e:=false) 0 (kd (aJ · rfl aGN (aQ e128))),oa (aK · rfl aGM rfl rfl aGL),oc (e:=false) 0 (kd (aJ · rfl aGN (aQ e130))),oa (gF · rfl rfl),aLz⟩
   have u:Has 213 [(0,(pV a0)),(2,(pV (some p1))),(3,(pV (some p4))),(10,(Sl.v x106)),(11,(iV x107)),(107,(bV (decide (v129<v127))))] a:=u.sb rfl;refine t_n<|?_;refine aX u rfl h (fun b131 h=>?_) (fun b131 h=>?_)
   .refine aA<|q u (aK u rfl aGM rfl rfl aHb) fun a u=>?_;obtain⟨v132,e133,h⟩:=h;refine q u (aJ u rfl aHc (aV e133)) fun a u=>qm u rfl fun a u=>?_;obtain⟨p134,e135,h⟩:=h;refine q u (bZ u rfl rfl aGR aHg e135) fun a u=>q u (aK u rfl aHf rfl rfl aGL) fun a u=>?_;obtain⟨v136,e137,h⟩:=h;refine q u (aJ u rfl aGN (aQ e137)) fun a u=>q u (aK u rfl aGM rfl rfl aGL) fun a u=>?_;obtain⟨w138,e139,h⟩:=h;refine q u (fO u rfl rfl aGL e139) fun a u=>aB<|?_;exact hk120 w138 h _ (u.sb rfl)
   refine wp_skip<|?_;exact hk120 w121 h _ (u.sb rfl)
  refine wp_exit<|t_x<|t_x<|?_;exact hk113 (x106,w108) h _ (u.sb rfl)
 clear h;intro hX308;rintro⟨x9,w10⟩ a wq ⟨u,hwq⟩ h;obtain rfl:w10=wq:=hwq.symm;have u:Has 213 [(4,(iV x9)),(0,(pV a0)),(2,(pV (some p1))),(3,(pV (some p4)))] a:=u;have h:(eZ a0 p4 x9 w10).t _:=h;unfold eZ at h;refine wp_seq<|wp_seq<|aA<|qm u rfl fun a u=>qm u rfl fun a u=>?_;obtain⟨p16,e17,h⟩:=h;refine q u (aH u rfl e17) fun a u=>q u (aK u rfl aGP rfl rfl aGL) fun a u=>?_;obtain⟨v18,e19,h⟩:=h;refine q u (aJ u rfl aGN (aQ e19)) fun a u=>q u (dK u rfl rfl) fun a u=>aB<|t_n<|?_;refine aX u rfl h (fun b20 h=>?_) (fun b20 h=>?_)
 .refine wp_skip<|t_n<|?_;refine gJ (n:=213) (ι:=World) (Lf:=fun i=>[(0,(pV a0)),(2,(pV (some p1))),(3,(pV (some p4))),(4,(iV x9))]) (wf:=fun i=>i) (un1 h) (fun i h a u=>?_) (fun h hk23=>?_)
  .obtain⟨w21,rfl⟩:∃ x,x=i:=⟨i,rfl⟩;have u:Has 213 [(0,(pV a0)),(2,(pV (some p1))),(3,(pV (some p4))),(4,(iV x9))] a:=u;refine aA<|qm u rfl fun a u=>q u (bJ u rfl rfl) fun a u=>qa u rfl fun a u=>aB<|?_;exact⟨((IntKind.wrap .i64 (x9+1)),w21),⟨u.sb rfl,rfl⟩,h⟩
  refine wp_block<|wp_seq<|aA<|qm u rfl fun a u=>qm u rfl fun a u=>?_;obtain⟨v24,v25,v26,w27,e28,h⟩:=h;refine q u (dc2 u rfl rfl Try.call112 (oC e28)) fun a u=>qm u rfl fun a u=>q u (aW u rfl rfl) fun a u=>q u (aW u rfl rfl) fun a u=>q u (aW u rfl rfl) fun a u=>qa u rfl fun a u=>qa u rfl fun a u=>qa u rfl fun a u=>aB<|t_n<|wp_seq<|wp_seq<|aA<|qm u rfl fun a u=>q u (pR u rfl) fun a u=>aB<|t_n<|?_;refine aX u rfl h (fun b29 h=>?_) (fun b29 h=>?_)
  .refine wp_exit<|t_x<|eC<|?_;exact hk23 w27 h _ (u.sb rfl)
  refine wp_skip<|t_n<|wp_seq<|aA<|q u (aK u rfl aGM rfl rfl aHb) fun a u=>?_;obtain⟨v30,e31,h⟩:=h;refine q u (aJ u rfl aHc (aV e31)) fun a u=>qm u rfl fun a u=>qm u rfl fun a u=>qm u rfl fun a u=>q u (dZ (vs:=[(0,(iV x9)),(1,(iV v24)),(2,(iV 1)),(3,(iV v25))]) (pl:=#[(0,1),(1,1),(2,1),(3,1)]) (cs:=([.int .i64 x9,.int .i64 v24,.int .i64 1,.int .i64 v25])) u ⟨rfl,rfl,rfl,rfl,rfl,rfl,rfl,rfl,aLz⟩ aHQ aHf (by intro w;kernel_rfl) (by kernel_rfl)) fun a u=>?_;obtain⟨s32,w33,e34,h⟩:=h;refine q u (iK (vs:=[(0,(.agg (List.toArray ([.int .i64 x9,.int .i64 v24,.int .i64 1,.int .i64 v25]))))]) (ps:=[([.int .i64 x9,.int .i64 v24,.int .i64 1,.int .i64 v25])]) u ⟨rfl,rfl,aLz⟩ ⟨rfl,rfl,aLz⟩ rfl aGR aHg aHQ (by decide) e34) fun a u=>?_;obtain⟨s35,w36,e37,h⟩:=h;refine q u (iF u rfl rfl e37) fun a u=>q u (aK u rfl aGM rfl rfl aHb) fun a u=>?_;obtain⟨w38,e39,h⟩:=h;refine q u (fO u rfl rfl aHb e39) fun a u=>aB<|t_n<|wp_seq<|aA<|q u (aK u rfl aGM rfl rfl aHb) fun a u=>?_;obtain⟨v40,e41,h⟩:=h;refine q u (aJ u rfl aHc (aV e41)) fun a u=>q u (aZ u rfl aGR) fun a u=>q u (iB u rfl rfl) fun a u=>qa u rfl fun a u=>aB<|t_n<|wp_block<|?_;refine lE (n:=213) (Lr:=fun i=>[(0,(pV a0)),(2,(pV (some p1))),(3,(pV (some p4))),(4,(iV x9))]) (wr:=fun i=>i) (e:=.exit 2) (I:=fun (s:Int×World) a w=>Has 213 [(8,(iV s.1)),(0,(pV a0)),(2,(pV (some p1))),(3,(pV (some p4))),(4,(iV x9))] a/\w=s.2) (un1 h) ⟨u.sub ⟨rfl,rfl,rfl,rfl,rfl,aLz⟩,rfl⟩ (fun i h a u=>?_) (fun hk47=>?_)
  .obtain⟨w46,rfl⟩:∃ x,x=i:=⟨i,rfl⟩;have u:Has 213 [(0,(pV a0)),(2,(pV (some p1))),(3,(pV (some p4))),(4,(iV x9))] a:=u;refine eC<|b_n<|?_;exact hk23 w46 h _ (u.sb rfl)
  clear h;intro hX102;rintro⟨x42,w43⟩ a wq ⟨u,hwq⟩ h;obtain rfl:w43=wq:=hwq.symm;have u:Has 213 [(8,(iV x42)),(0,(pV a0)),(2,(pV (some p1))),(3,(pV (some p4))),(4,(iV x9))] a:=u;have h:(dN p4 x42 w43).t _:=h;unfold dN at h;refine wp_seq<|wp_seq<|?_;refine dD (n:=213) (ι:=Bool×World) (Lf:=fun i=>[(67,(bV i.1)),(0,(pV a0)),(2,(pV (some p1))),(3,(pV (some p4))),(4,(iV x9)),(8,(iV x42))]) (wf:=fun i=>i.2) (un2 h) (fun i h a u=>?_) (fun h hk52=>?_)
  .obtain⟨v49,w50⟩:=i;have u:Has 213 [(67,(bV v49)),(0,(pV a0)),(2,(pV (some p1))),(3,(pV (some p4))),(4,(iV x9)),(8,(iV x42))] a:=u;refine t_n<|?_;refine aX u rfl h (fun b68 h=>?_) (fun b68 h=>?_)
   .refine wp_skip<|t_n<|wp_seq<|wp_block<|wp_seq<|aA<|q u (aK u rfl aGM rfl rfl aHb) fun a u=>?_;obtain⟨v69,e70,h⟩:=h;refine q u (aJ u rfl aHc (aV e70)) fun a u=>qm u rfl fun a u=>?_;obtain⟨p71,e72,h⟩:=h;refine q u (bZ u rfl rfl aGR aHg e72) fun a u=>?_;obtain⟨c73,e74,h⟩:=h;refine q u (gC u rfl aIh aHg e74) fun a u=>?_;obtain⟨p75,w76,e77,h⟩:=h;refine q u (eX aHQ (by kernel_rfl) e77) fun a u=>?_;obtain⟨w78,e79,h⟩:=h;refine q u (eW u rfl rfl aHg ((kR e74).1) e79) fun a u=>aB<|t_n<|wp_seq<|?_;obtain⟨w80,e81,h⟩:=h;obtain⟨v82,e83,h⟩:=h;obtain⟨v84,e85,h⟩:=h;obtain⟨p86,e87,h⟩:=h;obtain⟨c88,e89,h⟩:=h;obtain⟨p90,e91,h⟩:=h;obtain⟨w92,e93,h⟩:=h;have u:Has 213 [(0,(pV a0)),(2,(pV (some p1))),(3,(pV (some p4))),(4,(iV x9)),(8,(iV x42)),(9,(pV (some p75)))] a:=u.sb rfl;refine aM (n:=213) (ds:=(aG (pV (some (p4.add 2))) 0 [] 3 (pV (some p4))::aG (Sl.v v82) 0 [0] 75 (pV (some (p4.add 2)))::aS (iV x42) 0 [] 8::aG (pV (some (p4.add 2))) 0 [] 3 (pV (some p4))::aG (Sl.v v84) 0 [3] 78 (pV (some (p4.add 2)))::aS (iV x42) 0 [] 8::aG (iV (IntKind.wrap .i64 (x42-1))) 0 [5] 80 (iV x42)::aT (pV (some p86)) 0 (rn 3 4) [(79,(Sl.v v84)),(81,(iV (IntKind.wrap .i64 (x42-1))))]::aG (.agg (List.toArray c88)) 0 (rn 3 5) 82 (pV (some p86))::aT (pV (some p90)) 0 (rn 0 9) [(76,(Sl.v v82)),(77,(iV x42))]::aI (undef) true 0 0 (rn 0 10) [(84,(pV (some p90))),(83,(.agg (List.toArray c88)))]::[])) (W:=(fun j=>match j with | 0=>w80 | 1=>w92 | _=>w92)) (by kernel_rfl) u (cY e81) (by kernel_rfl) ?_ (aR (by kernel_rfl)) (by kernel_rfl) (m:=1) (by kernel_rfl) (fun a u=>?_)
    .exact⟨oa (aK · rfl aGM rfl rfl aHb),oc 0 (kd (aJ · rfl aHc (aV e83))),oa (aC · rfl),oa (aK · rfl aGM rfl rfl aHb),oc 0 (kd (aJ · rfl aHc (aV e85))),oa (aC · rfl),oa (iB · rfl rfl),oa (bZ · rfl rfl aGR aHg e87),oc 0 (kd (gC · rfl aIh aHg e89)),oa (bZ · rfl rfl aGR aHg e91),oc 0 (kd (eW · rfl rfl aHg ((kR e89).1) e93)),aLz⟩
    have u:Has 213 [(0,(pV a0)),(2,(pV (some p1))),(3,(pV (some p4))),(4,(iV x9)),(8,(iV x42)),(9,(pV (some p75)))] a:=u.sb rfl;refine t_n<|aA<|q u (aK u rfl aGM rfl rfl aHb) fun a u=>?_;obtain⟨v94,e95,h⟩:=h;refine q u (aJ u rfl aHc (aV e95)) fun a u=>qm u rfl fun a u=>q u (iB u rfl rfl) fun a u=>?_;obtain⟨c96,e97,h⟩:=h;refine q u (gC u rfl aIh aHg e97) fun a u=>?_;obtain⟨p98,e99,h⟩:=h;refine q u (bZ u rfl rfl aGR aHg e99) fun a u=>?_;obtain⟨w100,e101,h⟩:=h;refine q u (eW u rfl rfl aHg ((kR e97).1) e101) fun a u=>aB<|b_n<|t_n<|aA<|qm u rfl fun a u=>q u (iB u rfl rfl) fun a u=>qa u rfl fun a u=>aB<|?_;exact⟨((IntKind.wrap .i64 (x42-1)),w100),⟨u.sb rfl,rfl⟩,h⟩
   refine wp_exit<|t_x<|t_x<|?_;exact hk47 w50 h _ (u.sb rfl)
  obtain⟨w53,e54,h⟩:=h;refine iE h (fun b55 h=>?_) (fun b55 h=>?_)
  .obtain⟨v56,e57,h⟩:=h;obtain⟨p58,e59,h⟩:=h;obtain⟨v60,e61,h⟩:=h;obtain⟨v62,e63,h⟩:=h;obtain⟨p64,e65,h⟩:=h;obtain⟨v66,e67,h⟩:=h;have u:Has 213 [(0,(pV a0)),(2,(pV (some p1))),(3,(pV (some p4))),(4,(iV x9)),(8,(iV x42))] a:=u.sb rfl;refine aM (n:=213) (ds:=(aS (iV x42) 0 [] 8::aG (bV (decide (0<x42))) 0 [0] 50 (iV x42)::aS (bV (decide (0<x42))) 0 [0,1] 51::aT (pV (some (p4.add 2))) 0 [0,1,2] [(3,(pV (some p4))),(52,(bV (decide (0<x42))))]::aT (Sl.v v56) 0 (rn 0 4) [(53,(pV (some (p4.add 2)))),(52,(bV (decide (0<x42))))]::aT (iV x42) 0 [0,1,2] [(8,(iV x42)),(52,(bV (decide (0<x42))))]::aT (pV (some p58)) 0 (rn 0 6) [(54,(Sl.v v56)),(55,(iV x42)),(52,(bV (decide (0<x42))))]::aT (pV (some (p58.add 1))) 0 (rn 0 7) [(56,(pV (some p58))),(52,(bV (decide (0<x42))))]::aT (iV v60) 0 (rn 0 8) [(57,(pV (some (p58.add 1)))),(52,(bV (decide (0<x42))))]::aT (pV (some (p4.add 2))) 0 [0,1,2] [(3,(pV (some p4))),(52,(bV (decide (0<x42))))]::aT (Sl.v v62) 0 [0,1,2,9] [(59,(pV (some (p4.add 2)))),(52,(bV (decide (0<x42))))]::aT (iV x42) 0 [0,1,2] [(8,(iV x42)),(52,(bV (decide (0<x42))))]::aT (iV (IntKind.wrap .i64 (x42-1))) 0 [0,1,2,11] [(61,(iV x42)),(52,(bV (decide (0<x42))))]::aT (pV (some p64)) 0 ([0,1,2]++rn 9 4) [(60,(Sl.v v62)),(62,(iV (IntKind.wrap .i64 (x42-1)))),(52,(bV (decide (0<x42))))]::aT (pV (some (p64.add 1))) 0 ([0,1,2]++rn 9 5) [(63,(pV (some p64))),(52,(bV (decide (0<x42))))]::aT (iV v66) 0 ([0,1,2]++rn 9 6) [(64,(pV (some (p64.add 1)))),(52,(bV (decide (0<x42))))]::aT (bV (decide (v60<v66))) 0 (rn 0 16) [(58,(iV v60)),(65,(iV v66)),(52,(bV (decide (0<x42))))]::aT (bV (decide (v60<v66))) 0 (rn 0 17) [(52,(bV (decide (0<x42)))),(66,(bV (decide (v60<v66))))]::[])) (W:=(fun _=>w53)) (by kernel_rfl) u (cY e54) (by kernel_rfl) ?_ (aR (by kernel_rfl)) (by kernel_rfl) (m:=0) (by kernel_rfl) (fun a u=>?_)
   .exact⟨oa (aC · rfl),oa (gF · rfl rfl),oa (aC · rfl),oag 52 b55 (aK · rfl aGM rfl rfl aHb),oc (e:=false) 0 (kg 52 b55 (aJ · rfl aHc (aV e57))),oag 52 b55 (aC · rfl),oag 52 b55 (bZ · rfl rfl aGR aHg e59),oag 52 b55 (aK · rfl aHf rfl rfl aGL),oc (e:=false) 0 (kg 52 b55 (aJ · rfl aGN (aQ e61))),oag 52 b55 (aK · rfl aGM rfl rfl aHb),oc (e:=false) 0 (kg 52 b55 (aJ · rfl aHc (aV e63))),oag 52 b55 (aC · rfl),oag 52 b55 (iB · rfl rfl),oag 52 b55 (bZ · rfl rfl aGR aHg e65),oag 52 b55 (aK · rfl aHf rfl rfl aGL),oc (e:=false) 0 (kg 52 b55 (aJ · rfl aGN (aQ e67))),oag 52 b55 (dK · rfl rfl),oa (aF · rfl b55 rfl),aLz⟩
   have u:Has 213 [(0,(pV a0)),(2,(pV (some p1))),(3,(pV (some p4))),(4,(iV x9)),(8,(iV x42)),(67,(bV (decide (v60<v66))))] a:=u.sb rfl;exact hk52 ((decide (v60<v66)),w53) h _ (u.sb rfl)
  have u:Has 213 [(0,(pV a0)),(2,(pV (some p1))),(3,(pV (some p4))),(4,(iV x9)),(8,(iV x42))] a:=u.sb rfl;refine aM (n:=213) (ds:=(aS (iV x42) 0 [] 8::aG (bV (decide (0<x42))) 0 [0] 50 (iV x42)::aS (bV (decide (0<x42))) 0 [0,1] 51::aG (undef) 0 [0,1,2] 52 (bV (decide (0<x42)))::aG (undef) 0 (rn 0 4) 52 (bV (decide (0<x42)))::aG (undef) 0 [0,1,2] 52 (bV (decide (0<x42)))::aG (undef) 0 (rn 0 6) 52 (bV (decide (0<x42)))::aG (undef) 0 (rn 0 7) 52 (bV (decide (0<x42)))::aG (undef) 0 (rn 0 8) 52 (bV (decide (0<x42)))::aG (undef) 0 [0,1,2] 52 (bV (decide (0<x42)))::aG (undef) 0 [0,1,2,9] 52 (bV (decide (0<x42)))::aG (undef) 0 [0,1,2] 52 (bV (decide (0<x42)))::aG (undef) 0 [0,1,2,11] 52 (bV (decide (0<x42)))::aG (undef) 0 ([0,1,2]++rn 9 4) 52 (bV (decide (0<x42)))::aG (undef) 0 ([0,1,2]++rn 9 5) 52 (bV (decide (0<x42)))::aG (undef) 0 ([0,1,2]++rn 9 6) 52 (bV (decide (0<x42)))::aG (undef) 0 (rn 0 16) 52 (bV (decide (0<x42)))::aT (bV false) 0 (rn 0 17) [(52,(bV (decide (0<x42)))),(66,undef)]::[])) (W:=(fun _=>w53)) (by kernel_rfl) u (cY e54) (by kernel_rfl) ?_ (aR (by kernel_rfl)) (by kernel_rfl) (m:=0) (by kernel_rfl) (fun a u=>?_)
  .exact⟨oa (aC · rfl),oa (gF · rfl rfl),oa (aC · rfl),on 52 (nm b55),on 52 (nm b55),on 52 (nm b55),on 52 (nm b55),on 52 (nm b55),on 52 (nm b55),on 52 (nm b55),on 52 (nm b55),on 52 (nm b55),on 52 (nm b55),on 52 (nm b55),on 52 (nm b55),on 52 (nm b55),on 52 (nm b55),oa (aL · rfl b55 rfl),aLz⟩
  have u:Has 213 [(0,(pV a0)),(2,(pV (some p1))),(3,(pV (some p4))),(4,(iV x9)),(8,(iV x42)),(67,(bV false))] a:=u.sb rfl;exact hk52 (false,w53) h _ (u.sb rfl)
 refine wp_exit<|t_x<|t_x<|?_;exact hk14 w10 h _ (u.sb rfl)
noncomputable def dP (a1:Sl) (a2:Int) (a0:Option Addr) (x1:Int) (x2:Int) (w3:World):Option ((Int×Int×World)⊕((Int×World)⊕(Int×Int×World))) :=
 if (decide ((IntKind.wrap .i64 (x2+1))<(a1.n:Int)))=true then
 (pS ((ix a1 x2 4).bind fun p22 =>
 (ldI .i64 w3 (p22.add 3)).bind fun v24 =>
 if (decide (v24<=a2))=true then
 ((dr w3).bind fun w27 =>
 (a0).bind fun p29 =>
 (ldP w27 (p29.add 0)).bind fun v31 =>
 (ix a1 x2 4).bind fun p33 =>
 (ldI .i64 w27 (p33.add 0)).bind fun v35 =>
 aN (cE a0 v35 0 w27) fun v37 w38 =>
 aN (bE v31 v37 Sl.nil w38) fun v40 w41 =>
 chk (ldP w38 (p29.add 0)=some v31) <|
 if (v40 !=0)=true then
 ((some (.inr (.inr (x1,v40,w41)))).bind fun g21=>some (.inl g21))
 else
 (some (.inr ((IntKind.wrap .i64 (x1+1)),w41))))
 else
 (some (.inr (x1,w3)))) some fun (i:Int×World)=>u2 i fun v15 w16 =>
 some (.inl (v15,(IntKind.wrap .i64 (x2+1)),w16)))
 else
 (some (.inr (.inl (x1,w3))))
noncomputable def eV (a0:Option Addr) (a1:Sl) (a2:Int) (w:World):Option (Int×Int×World) :=
 (bM (fun s:Int×Int×World=>dP a1 a2 a0 s.1 s.2.1 s.2.2) (0,0,w)).bind fun r4=>Sum.elim (fun (i:Int×World)=>u2 i fun v6 w7 =>
 some (v6,0,w7)) (fun (i:Int×Int×World)=>u3 i fun v8 v9 w10 =>
 some (v8,v9,w10)) r4
theorem mD {a0 a1 a2 w w' r0 r1} (h:eV a0 a1 a2 w=some (r0,r1,w')):Calls Try.prog 74 #[(.pointer a0),(Sl.v a1),(.int .i64 a2)] w fun e w''=>e=.returned (.tuple #[(.int .i64 r0),(.int .i64 r1)])/\w''=w':=by
 refine aP (n:=44) Try.func74 rfl Try.ntmps74 (by simp) fun a u=>?_;unfold eV at h;refine wp_seq<|aA<|qa u rfl fun a u=>qa u rfl fun a u=>aB<|t_n<|wp_seq<|aA<|qa u rfl fun a u=>aB<|t_n<|wp_seq<|wp_seq<|aA<|qa u rfl fun a u=>aB<|t_n<|wp_block<|?_;have⟨r4,e5,h⟩:=bs1 h;refine oR (n:=44) (L1:=fun i=>[(8,(iV i.1))]) (w1:=fun i=>i.2) (L2:=fun i=>[(6,(iV i.1)),(7,(iV i.2.1))]) (w2:=fun i=>i.2.2) (e1:=.exit 0) (e2:=.ret) (I:=fun (s:Int×Int×World) a w=>Has 44 [(8,(iV s.1)),(9,(iV s.2.1)),(0,(pV a0)),(1,(Sl.v a1)),(2,(iV a2))] a/\w=s.2.2) ⟨u.sub ⟨rfl,rfl,rfl,rfl,rfl,aLz⟩,rfl⟩ e5 (fun i hi a u=>?_) (fun i hi a u=>?_) (fun hk11 hk12=>?_)
 .subst hi;obtain⟨v6,w7⟩:=i;dsimp only[Sum.elim_inl,Sum.elim_inr,u1,u2,u3,u4,u5,u6] at h;have u:Has 44 [(8,(iV v6))] a:=u;refine eC<|t_n<|wp_seq<|aA<|qm u rfl fun a u=>qa u rfl fun a u=>qa u rfl fun a u=>aB<|t_n<|wp_ret<|?_;have y:=u;cases h;exact jA Try.results74 y rfl rfl ⟨rfl,rfl⟩
 .subst hi;obtain⟨v8,v9,w10⟩:=i;dsimp only[Sum.elim_inl,Sum.elim_inr,u1,u2,u3,u4,u5,u6] at h;have u:Has 44 [(6,(iV v8)),(7,(iV v9))] a:=u;refine b_r<|t_r<|?_;have y:=u;cases h;exact jA Try.results74 y rfl rfl ⟨rfl,rfl⟩
 clear h;rintro⟨x1,x2,w3⟩ a wq o ⟨u,hwq⟩ h hr13;obtain rfl:w3=wq:=hwq.symm;have u:Has 44 [(8,(iV x1)),(9,(iV x2)),(0,(pV a0)),(1,(Sl.v a1)),(2,(iV a2))] a:=u;have h:dP a1 a2 a0 x1 x2 w3=some o:=h;unfold dP at h;refine wp_seq<|wp_seq<|aA<|qm u rfl fun a u=>q u (bJ u rfl rfl) fun a u=>qm u rfl fun a u=>q u (aZ u rfl aGR) fun a u=>q u (dK u rfl rfl) fun a u=>aB<|t_n<|?_;refine aO u rfl h (fun b14 h=>?_) (fun b14 h=>?_)
 .refine wp_skip<|t_n<|?_;obtain⟨o19,e17,h18⟩:=bsX h;clear h;refine tT (n:=44) (ι:=Int×World) (Lf:=fun i=>[(8,(iV i.1)),(0,(pV a0)),(1,(Sl.v a1)),(2,(iV a2)),(9,(iV x2))]) (wf:=fun i=>i.2) (C:=fun i=>o19=.inr i) (fun i hi a u=>?_) (fun hk20=>?_)
  .subst hi;obtain⟨v15,w16⟩:=i;have h:=h18;dsimp only[pS,u1,u2,u3,u4,u5,u6] at h;have u:Has 44 [(8,(iV v15)),(0,(pV a0)),(1,(Sl.v a1)),(2,(iV a2)),(9,(iV x2))] a:=u;refine aA<|qm u rfl fun a u=>q u (bJ u rfl rfl) fun a u=>qa u rfl fun a u=>aB<|?_;have y:=u;cases h;exact dS ⟨y.sb rfl,rfl⟩
  have h:=e17;refine wp_block<|wp_seq<|aA<|qm u rfl fun a u=>qm u rfl fun a u=>?_;have⟨p22,e23,h⟩:=bs1 h;refine q u (bZ u rfl rfl aGR aHg e23) fun a u=>q u (aK u rfl aHf rfl rfl aGL) fun a u=>?_;have⟨v24,e25,h⟩:=bs1 h;refine q u (aJ u rfl aGN (aQ e25)) fun a u=>qm u rfl fun a u=>q u (sU u rfl rfl) fun a u=>aB<|t_n<|?_;refine aO u rfl h (fun b26 h=>?_) (fun b26 h=>?_)
  .refine wp_seq<|?_;have⟨w27,e28,h⟩:=bs1 h;have⟨p29,e30,h⟩:=bs1 h;have⟨v31,e32,h⟩:=bs1 h;have⟨p33,e34,h⟩:=bs1 h;have⟨v35,e36,h⟩:=bs1 h;have⟨v37,w38,e39,h⟩:=bs2 h;have⟨v40,w41,e42,h⟩:=bs2 h;obtain⟨e43,h⟩:=bO h;have u:Has 44 [(0,(pV a0)),(1,(Sl.v a1)),(2,(iV a2)),(8,(iV x1)),(9,(iV x2)),(24,(bV (decide (v24<=a2))))] a:=u.sb rfl;refine aM (n:=44) (ds:=(aI (pV a0) false 0 1 [] [(0,(pV a0))]::aI (pV (some p29)) false 0 1 [0] [(25,(pV a0))]::aI (pV (some (p29.add 0))) false 0 1 [0,1] [(26,(pV (some p29)))]::aI (pV v31) false 0 1 [0,1,2] [(27,(pV (some (p29.add 0))))]::aS (pV a0) 0 [] 0::aS (Sl.v a1) 0 [] 1::aS (iV x2) 0 [] 9::aT (pV (some p33)) 0 [5,6] [(30,(Sl.v a1)),(31,(iV x2))]::aG (pV (some (p33.add 0))) 0 [5,6,7] 32 (pV (some p33))::aG (iV v35) 0 (rn 5 4) 33 (pV (some (p33.add 0)))::aI (iV v37) true 0 0 (rn 4 6) [(29,(pV a0)),(34,(iV v35))]::aI (iV v40) true 1 1 (rn 0 11) [(28,(pV v31)),(35,(iV v37))]::aS (iV v40) 2 (rn 0 12) 36::[])) (W:=(fun j=>match j with | 0=>w27 | 1=>w38 | 2=>w41 | _=>w41)) (by kernel_rfl) u (cY e28) (by kernel_rfl) ?_ (aR (by kernel_rfl)) (by kernel_rfl) (m:=2) (by kernel_rfl) (fun a u=>?_)
   .refine⟨oa (aC · rfl),oa (aH · rfl e30),oa (aK · rfl aGP rfl rfl aHp),?_,oa (aC · rfl),oa (aC · rfl),oa (aC · rfl),oa (bZ · rfl rfl aGR aHg e34),oa (aK · rfl aHf rfl rfl aGL),oc 0 (kd (aJ · rfl aGN (aQ e36))),oc 0 (kd (dc3 · rfl rfl rfl Try.call116 (eS e39))),oc 1 (kd (mO (xs:=[_,_,_]) (vs:=[(pV v31),(iV v37),(Sl.v Sl.nil)]) · ⟨rfl,rfl,rfl,aLz⟩ Try.call89 (cL e42))),oa (bD · rfl),aLz⟩;intro j h1 h2;have h1:0<=j:=h1;have h2:j<=1:=h2;rcases(by omega:j=0\/j=1) with rfl | rfl
    .exact kd (aJ · rfl aHi (bA e32))
    exact kd (aJ · rfl aHi (bA e43))
   have u:Has 44 [(0,(pV a0)),(1,(Sl.v a1)),(2,(iV a2)),(8,(iV x1)),(9,(iV x2)),(10,(iV v40))] a:=u.sb rfl;refine t_n<|wp_seq<|wp_seq<|aA<|qm u rfl fun a u=>q u (fJ u rfl rfl) fun a u=>aB<|t_n<|?_;refine aO u rfl h (fun b44 h=>?_) (fun b44 h=>?_)
   .refine wp_seq<|aA<|qm u rfl fun a u=>qm u rfl fun a u=>qa u rfl fun a u=>qa u rfl fun a u=>aB<|t_n<|wp_ret<|t_r<|b_r<|?_;have y:=u;have⟨g21,e45,h⟩:=bs1 h;cases h;cases h18;have h:=e45;have u:=y;refine t_r<|?_;have y:=u;cases h;cases hr13 _ rfl;refine vV<|?_;exact hk12 _ rfl _ (y.sb rfl)
   refine wp_skip<|t_n<|aA<|qm u rfl fun a u=>q u (bJ u rfl rfl) fun a u=>qa u rfl fun a u=>aB<|b_n<|?_;have y:=u;cases h;exact hk20 _ rfl _ (y.sb rfl)
  refine wp_skip<|b_n<|?_;have y:=u;cases h;exact hk20 _ rfl _ (y.sb rfl)
 refine wp_exit<|t_x<|?_;have y:=u;cases h;cases hr13 _ rfl;refine lM<|?_;exact hk11 _ rfl _ (y.sb rfl)
noncomputable def bB (a0:Option Addr) (a1:Int) (x1:Int) (x2:Int) (w3:World):ND ((Int×Int×World)⊕((Int×World)⊕(Int×Int×World))) :=
 if (decide (x2<16))=true then
 (cbX (cb2 (lb1 (dr w3) fun w26 =>
 aCA (lb2 (bR a0 a1 x2 w26) fun v28 w29 =>
 lb1 (b2s v28 w29) fun s31 =>
 lb2 (mkS Try.prog 72 64 64 w29) fun s33 w34 =>
 lb1 (b2s s33 w34) fun s36 =>
 nck (b2s v28 w34=some s31) <|
 aU ((!sEq s31 s36),w34)) (lb2 (mkS Try.prog 72 64 64 w26) fun s39 w40 =>
 lb1 (b2s s39 w40) fun s42 =>
 lb2 (bR a0 a1 x2 w40) fun v44 w45 =>
 lb1 (b2s v44 w45) fun s47 =>
 nck (b2s s39 w45=some s42) <|
 aU ((!sEq s47 s42),w45))) fun v22 w23 =>
 if v22=true then
 (lb1 (dr w23) fun w51 =>
 lb1 (a0) fun p53 =>
 lb1 (ldP w51 (p53.add 0)) fun v55 =>
 lb2 (cE a0 a1 x2 w51) fun v57 w58 =>
 lb2 (bE v55 v57 Sl.nil w58) fun v60 w61 =>
 nck (ldP w58 (p53.add 0)=some v55) <|
 if (v60 !=0)=true then
 (cb1 (aU (.inr (.inr (x1,v60,w61)))) fun g21=>aU (.inl g21))
 else
 (aU (.inr ((IntKind.wrap .i64 (x1+1)),w61))))
 else
 (aU (.inr (x1,w23)))) fun (i:Int×World)=>u2 i fun v15 w16 =>
 aU (.inl (v15,(IntKind.wrap .i64 (x2+1)),w16)))
 else
 (aU (.inr (.inl (x1,w3))))
noncomputable def eT (a0:Option Addr) (a1:Int) (a2:Int) (w:World):ND (Int×Int×World) :=
 cb1 (fB (fun s:Int×Int×World=>bB a0 a1 s.1 s.2.1 s.2.2) (0,a2,w)) fun r4=>Sum.elim (fun (i:Int×World)=>u2 i fun v6 w7 =>
 aU (v6,0,w7)) (fun (i:Int×Int×World)=>u3 i fun v8 v9 w10 =>
 aU (v8,v9,w10)) r4
theorem lU {a0 a1 a2 w Q} (h:(eT a0 a1 a2 w).t Q):Calls Try.prog 75 #[(.pointer a0),(.int .i64 a1),(.int .i64 a2)] w fun e w''=>∃ i,e=.returned (.tuple #[(.int .i64 i.1),(.int .i64 i.2.1)])/\Q i/\w''=i.2.2:=by
 refine aP (n:=40) Try.func75 rfl Try.ntmps75 (by simp) fun a u=>?_;unfold eT at h;refine wp_seq<|aA<|qa u rfl fun a u=>qa u rfl fun a u=>aB<|t_n<|wp_seq<|aA<|qa u rfl fun a u=>aB<|t_n<|wp_seq<|wp_seq<|aA<|qm u rfl fun a u=>qa u rfl fun a u=>aB<|t_n<|wp_block<|?_;refine sW (n:=40) (L1:=fun i=>[(8,(iV i.1))]) (w1:=fun i=>i.2) (L2:=fun i=>[(6,(iV i.1)),(7,(iV i.2.1))]) (w2:=fun i=>i.2.2) (e1:=.exit 0) (e2:=.ret) (I:=fun (s:Int×Int×World) a w=>Has 40 [(8,(iV s.1)),(9,(iV s.2.1)),(0,(pV a0)),(1,(iV a1))] a/\w=s.2.2) (un1 h) ⟨u.sub ⟨rfl,rfl,rfl,rfl,aLz⟩,rfl⟩ (fun i h a u=>?_) (fun i h a u=>?_) (fun hk11 hk12=>?_)
 .obtain⟨v6,w7⟩:=i
  try dsimp only[Sum.elim_inl,Sum.elim_inr,u1,u2,u3,u4,u5,u6] at h
  have u:Has 40 [(8,(iV v6))] a:=u;refine eC<|t_n<|wp_seq<|aA<|qm u rfl fun a u=>qa u rfl fun a u=>qa u rfl fun a u=>aB<|t_n<|wp_ret<|?_;exact jA Try.results75 u rfl rfl ⟨(v6,0,w7),rfl,h,rfl⟩
 .obtain⟨v8,v9,w10⟩:=i
  try dsimp only[Sum.elim_inl,Sum.elim_inr,u1,u2,u3,u4,u5,u6] at h
  have u:Has 40 [(6,(iV v8)),(7,(iV v9))] a:=u;refine b_r<|t_r<|?_;exact jA Try.results75 u rfl rfl ⟨(v8,v9,w10),rfl,h,rfl⟩
 clear h;intro hX66;rintro⟨x1,x2,w3⟩ a wq ⟨u,hwq⟩ h;obtain rfl:w3=wq:=hwq.symm;have u:Has 40 [(8,(iV x1)),(9,(iV x2)),(0,(pV a0)),(1,(iV a1))] a:=u;have h:(bB a0 a1 x1 x2 w3).t _:=h;unfold bB at h;refine wp_seq<|wp_seq<|aA<|qm u rfl fun a u=>q u (dK u rfl rfl) fun a u=>aB<|t_n<|?_;refine aX u rfl h (fun b14 h=>?_) (fun b14 h=>?_)
 .refine wp_skip<|t_n<|?_;refine mU (n:=40) (ι:=Int×World) (Lf:=fun i=>[(8,(iV i.1)),(0,(pV a0)),(1,(iV a1)),(9,(iV x2))]) (wf:=fun i=>i.2) (unX h) (fun i h a u=>?_) (fun h hk20=>?_)
  .obtain⟨v15,w16⟩:=i
   try dsimp only[Sum.elim_inl,Sum.elim_inr,u1,u2,u3,u4,u5,u6] at h
   have u:Has 40 [(8,(iV v15)),(0,(pV a0)),(1,(iV a1)),(9,(iV x2))] a:=u;refine aA<|qm u rfl fun a u=>q u (bJ u rfl rfl) fun a u=>qa u rfl fun a u=>aB<|?_;exact⟨(v15,(IntKind.wrap .i64 (x2+1)),w16),⟨u.sb rfl,rfl⟩,h⟩
  refine wp_block<|wp_seq<|?_;refine dD (n:=40) (ι:=Bool×World) (Lf:=fun i=>[(23,(bV i.1)),(0,(pV a0)),(1,(iV a1)),(8,(iV x1)),(9,(iV x2))]) (wf:=fun i=>i.2) (un2 h) (fun i h a u=>?_) (fun h hk25=>?_)
  .obtain⟨v22,w23⟩:=i;have u:Has 40 [(23,(bV v22)),(0,(pV a0)),(1,(iV a1)),(8,(iV x1)),(9,(iV x2))] a:=u;refine t_n<|?_;refine aX u rfl h (fun b50 h=>?_) (fun b50 h=>?_)
   .refine wp_seq<|?_;obtain⟨w51,e52,h⟩:=h;obtain⟨p53,e54,h⟩:=h;obtain⟨v55,e56,h⟩:=h;obtain⟨v57,w58,e59,h⟩:=h;obtain⟨v60,w61,e62,h⟩:=h;obtain⟨e63,h⟩:=h;have u:Has 40 [(0,(pV a0)),(1,(iV a1)),(8,(iV x1)),(9,(iV x2)),(23,(bV v22))] a:=u.sb rfl;refine aM (n:=40) (ds:=(aI (pV a0) false 0 1 [] [(0,(pV a0))]::aI (pV (some p53)) false 0 1 [0] [(24,(pV a0))]::aI (pV (some (p53.add 0))) false 0 1 [0,1] [(25,(pV (some p53)))]::aI (pV v55) false 0 1 [0,1,2] [(26,(pV (some (p53.add 0))))]::aS (pV a0) 0 [] 0::aS (iV a1) 0 [] 1::aS (iV x2) 0 [] 9::aI (iV v57) true 0 0 [4,5,6] [(28,(pV a0)),(29,(iV a1)),(30,(iV x2))]::aI (iV v60) true 1 1 (rn 0 8) [(27,(pV v55)),(31,(iV v57))]::aS (iV v60) 2 (rn 0 9) 32::[])) (W:=(fun j=>match j with | 0=>w51 | 1=>w58 | 2=>w61 | _=>w61)) (by kernel_rfl) u (cY e52) (by kernel_rfl) ?_ (aR (by kernel_rfl)) (by kernel_rfl) (m:=2) (by kernel_rfl) (fun a u=>?_)
    .refine⟨oa (aC · rfl),oa (aH · rfl e54),oa (aK · rfl aGP rfl rfl aHp),?_,oa (aC · rfl),oa (aC · rfl),oa (aC · rfl),oc 0 (kd (dc3 · rfl rfl rfl Try.call116 (eS e59))),oc 1 (kd (mO (xs:=[_,_,_]) (vs:=[(pV v55),(iV v57),(Sl.v Sl.nil)]) · ⟨rfl,rfl,rfl,aLz⟩ Try.call89 (cL e62))),oa (bD · rfl),aLz⟩;intro j h1 h2;have h1:0<=j:=h1;have h2:j<=1:=h2;rcases(by omega:j=0\/j=1) with rfl | rfl
     .exact kd (aJ · rfl aHi (bA e56))
     exact kd (aJ · rfl aHi (bA e63))
    have u:Has 40 [(0,(pV a0)),(1,(iV a1)),(8,(iV x1)),(9,(iV x2)),(10,(iV v60))] a:=u.sb rfl;refine t_n<|wp_seq<|wp_seq<|aA<|qm u rfl fun a u=>q u (fJ u rfl rfl) fun a u=>aB<|t_n<|?_;refine aX u rfl h (fun b64 h=>?_) (fun b64 h=>?_)
    .refine wp_seq<|aA<|qm u rfl fun a u=>qm u rfl fun a u=>qa u rfl fun a u=>qa u rfl fun a u=>aB<|t_n<|wp_ret<|t_r<|b_r<|?_;have h:=unL h;refine t_r<|t_r<|?_;exact hk12 (x1,v60,w61) h _ (u.sb rfl)
    refine wp_skip<|t_n<|aA<|qm u rfl fun a u=>q u (bJ u rfl rfl) fun a u=>qa u rfl fun a u=>aB<|b_n<|?_;exact hk20 ((IntKind.wrap .i64 (x1+1)),w61) h _ (u.sb rfl)
   refine wp_skip<|b_n<|?_;exact hk20 (x1,w23) h _ (u.sb rfl)
  obtain⟨w26,e27,h⟩:=h;obtain⟨h,hB⟩:=h;obtain⟨v28,w29,e30,h⟩:=h;obtain⟨s31,e32,h⟩:=h;obtain⟨s33,w34,e35,h⟩:=h;obtain⟨s36,e37,h⟩:=h;obtain⟨e38,h⟩:=h;have hA:=h;have h:=hB;obtain⟨s39,w40,e41,h⟩:=h;obtain⟨s42,e43,h⟩:=h;obtain⟨v44,w45,e46,h⟩:=h;obtain⟨s47,e48,h⟩:=h;obtain⟨e49,h⟩:=h;have hB:=h;have u:Has 40 [(0,(pV a0)),(1,(iV a1)),(8,(iV x1)),(9,(iV x2))] a:=u.sb rfl;refine qN (n:=40) (i:=3) (j:=5) (Dp:=[3,4,5,6,7]) (ds1:=(aS (pV a0) 0 [] 0::aS (iV a1) 0 [] 1::aS (iV x2) 0 [] 9::aI (Sl.v v28) true 0 0 [0,1,2] [(16,(pV a0)),(17,(iV a1)),(18,(iV x2))]::aI (.string s31) false 1 2 (rn 0 4) [(19,(Sl.v v28))]::aI (Sl.v s33) true 1 1 (rn 0 4) []::aG (.string s36) 2 (rn 0 4++[5]) 21 (Sl.v s33)::aT (bV (!sEq s31 s36)) 2 (rn 0 7) [(20,(.string s31)),(22,(.string s36))]::[])) (ds2:=(aI (pV a0) false 0 1 [] [(0,(pV a0))]::aI (iV a1) false 0 1 [] [(1,(iV a1))]::aI (iV x2) false 0 1 [] [(9,(iV x2))]::aI (Sl.v v44) true 1 1 [0,1,2,5] [(16,(pV a0)),(17,(iV a1)),(18,(iV x2))]::aG (.string s47) 2 (rn 0 4++[5]) 19 (Sl.v v44)::aI (Sl.v s39) true 0 0 [] []::aI (.string s42) false 1 2 [5] [(21,(Sl.v s39))]::aT (bV (!sEq s47 s42)) 2 (rn 0 7) [(20,(.string s47)),(22,(.string s42))]::[])) (W1:=(fun j=>match j with | 0=>w26 | 1=>w29 | 2=>w34 | _=>w34)) (W2:=(fun j=>match j with | 0=>w26 | 1=>w40 | 2=>w45 | _=>w45)) (m1:=2) (m2:=2) (by kernel_rfl) u (cY e27) (cY e27) rfl (by kernel_rfl) (by kernel_rfl) rfl rfl (by decide) (aR (by kernel_rfl)) (aR (by kernel_rfl)) ?_ ?_ (by kernel_rfl) (by kernel_rfl) (fun a u=>?_) (fun a u=>?_)
  .refine⟨oa (aC · rfl),oa (aC · rfl),oa (aC · rfl),oc 0 (kd (dc3 · rfl rfl rfl Try.call117 (gE e30))),?_,oc 1 (kd (uQ · rfl rfl e35)),oc 2 (kd (nY · rfl aGK aHo aGZ e37)),oa (wX · rfl rfl),aLz⟩;intro j h1 h2;have h1:1<=j:=h1;have h2:j<=2:=h2;rcases(by omega:j=1\/j=2) with rfl | rfl
   .exact kd (nY · rfl aGK aHo aGZ e32)
   exact kd (nY · rfl aGK aHo aGZ e38)
  .refine⟨oa (aC · rfl),oa (aC · rfl),oa (aC · rfl),oc 1 (kd (dc3 · rfl rfl rfl Try.call117 (gE e46))),oc 2 (kd (nY · rfl aGK aHo aGZ e48)),oc 0 (kd (uQ · rfl rfl e41)),?_,oa (wX · rfl rfl),aLz⟩;intro j h1 h2;have h1:1<=j:=h1;have h2:j<=2:=h2;rcases(by omega:j=1\/j=2) with rfl | rfl
   .exact kd (nY · rfl aGK aHo aGZ e43)
   exact kd (nY · rfl aGK aHo aGZ e49)
  .have h:=hA;have u:Has 40 [(0,(pV a0)),(1,(iV a1)),(8,(iV x1)),(9,(iV x2)),(23,(bV (!sEq s31 s36)))] a:=u.sb rfl;exact hk25 ((!sEq s31 s36),w34) h _ (u.sb rfl)
  have h:=hB;have u:Has 40 [(0,(pV a0)),(1,(iV a1)),(8,(iV x1)),(9,(iV x2)),(23,(bV (!sEq s47 s42)))] a:=u.sb rfl;exact hk25 ((!sEq s47 s42),w45) h _ (u.sb rfl)
 refine wp_exit<|t_x<|t_x<|?_;exact hk11 (x1,w3) h _ (u.sb rfl)
noncomputable def dO (a0:Option Addr) (a1:Int) (x4:Sl) (x5:Int) (w6:World):Option ((Sl×Int×World)⊕(Sl×World)) :=
 (a0).bind fun p13 =>
 (ldL w6 ((p13.add 4).add 2)).bind fun v15 =>
 if (decide (x5<(v15.n:Int)))=true then
 (aN (aN ((ldL w6 ((p13.add 4).add 2)).bind fun v26 =>
 if (x5==(IntKind.wrap .i64 ((v26.n:Int)-1)))=true then
 (some (true,w6))
 else
 ((ldL w6 ((p13.add 4).add 2)).bind fun v29 =>
 (ix v29 x5 4).bind fun p31 =>
 (ldI .i64 w6 (p31.add 3)).bind fun v33 =>
 some ((decide (a1<v33)),w6))) fun v22 w23 =>
 if v22=true then
 ((ldL w23 ((p13.add 4).add 2)).bind fun v36 =>
 (ix v36 x5 4).bind fun p38 =>
 (ldA 4 w23 p38 0).bind fun c40 =>
 aN (bsl w23 136 4 [c40]) fun s42 w43 =>
 aN (apS Try.prog 128 x4 s42 w43) fun s45 w46 =>
 some (s45,w46))
 else
 (some (x4,w23))) fun v18 w19 =>
 some (.inl (v18,(IntKind.wrap .i64 (x5+1)),w19)))
 else
 (some (.inr (x4,w6)))
noncomputable def dM (a0:Option Addr) (a1:Int) (x51:Sl) (x52:Int) (w53:World):Option ((Sl×Int×World)⊕(Sl×World)) :=
 (a0).bind fun p60 =>
 (ldL w53 ((p60.add 4).add 3)).bind fun v62 =>
 if (decide (x52<(v62.n:Int)))=true then
 (aN ((ldL w53 ((p60.add 4).add 3)).bind fun v69 =>
 (ix v69 x52 2).bind fun p71 =>
 (ldI .i64 w53 (p71.add 0)).bind fun v73 =>
 if (decide (a1<v73))=true then
 ((ldL w53 ((p60.add 4).add 3)).bind fun v76 =>
 (ix v76 x52 2).bind fun p78 =>
 (ldA 2 w53 p78 0).bind fun c80 =>
 aN (bsl w53 87 2 [c80]) fun s82 w83 =>
 aN (apS Try.prog 74 x51 s82 w83) fun s85 w86 =>
 some (s85,w86))
 else
 (some (x51,w53))) fun v65 w66 =>
 some (.inl (v65,(IntKind.wrap .i64 (x52+1)),w66)))
 else
 (some (.inr (x51,w53)))
noncomputable def cT (a0:Option Addr) (a1:Int) (w:World):Option (World) :=
 aN (bsl w 136 4 []) fun s1 w2 =>
 aN (bM (fun s:Sl×Int×World=>dO a0 a1 s.1 s.2.1 s.2.2) (s1,0,w2)) fun v9 w10 =>
 aN (bsl w10 87 2 []) fun s48 w49 =>
 aN (bM (fun s:Sl×Int×World=>dM a0 a1 s.1 s.2.1 s.2.2) (s48,0,w49)) fun v56 w57 =>
 (a0).bind fun p88 =>
 (ldI .i64 w57 ((p88.add 4).add 0)).bind fun v90 =>
 (stA w57 (p88.add 4) 0 ([.int .i64 v90,.int .i64 a1,Sl.v v9,Sl.v v56])).bind fun w92 =>
 some w92
theorem lS {a0 a1 w w'} (h:cT a0 a1 w=some w'):Calls Try.prog 77 #[(.pointer a0),(.int .i64 a1)] w fun e w''=>e=.returned (.tuple #[])/\w''=w':=by
 refine aP (n:=97) Try.func77 rfl Try.ntmps77 (by simp) fun a u=>?_;unfold cT at h;refine wp_seq<|aA<|?_;have⟨s1,w2,e3,h⟩:=bs2 h;refine q u (iK (vs:=[]) (ps:=[]) u trivial trivial rfl aGR aHg aHQ (by decide) e3) fun a u=>qa u rfl fun a u=>aB<|t_n<|wp_seq<|wp_seq<|aA<|qa u rfl fun a u=>aB<|t_n<|wp_block<|?_;have⟨v9,w10,e8,h⟩:=bs2 h;refine gT (n:=97) (L:=[(4,(Sl.v v9)),(0,(pV a0)),(1,(iV a1))]) (w':=w10) (e:=.exit 0) (I:=fun (s:Sl×Int×World) a w=>Has 97 [(4,(Sl.v s.1)),(5,(iV s.2.1)),(0,(pV a0)),(1,(iV a1))] a/\w=s.2.2) ⟨u.sub ⟨rfl,rfl,rfl,rfl,aLz⟩,rfl⟩ e8 (fun a u=>?_) (fun hk11=>?_)
 .refine eC<|t_n<|wp_seq<|aA<|?_;have⟨s48,w49,e50,h⟩:=bs2 h;refine q u (iK (vs:=[]) (ps:=[]) u trivial trivial rfl aGY aHe aHh (by decide) e50) fun a u=>qa u rfl fun a u=>aB<|t_n<|wp_seq<|wp_seq<|aA<|qa u rfl fun a u=>aB<|t_n<|wp_block<|?_;have⟨v56,w57,e55,h⟩:=bs2 h;refine gT (n:=97) (L:=[(6,(Sl.v v56)),(0,(pV a0)),(1,(iV a1)),(4,(Sl.v v9))]) (w':=w57) (e:=.exit 2) (I:=fun (s:Sl×Int×World) a w=>Has 97 [(6,(Sl.v s.1)),(7,(iV s.2.1)),(0,(pV a0)),(1,(iV a1)),(4,(Sl.v v9))] a/\w=s.2.2) ⟨u.sub ⟨rfl,rfl,rfl,rfl,rfl,aLz⟩,rfl⟩ e55 (fun a u=>?_) (fun hk58=>?_)
  .refine eC<|t_n<|aA<|qm u rfl fun a u=>qm u rfl fun a u=>?_;have⟨p88,e89,h⟩:=bs1 h;refine q u (aH u rfl e89) fun a u=>q u (aK u rfl aGP rfl rfl aHd) fun a u=>q u (aK u rfl aGM rfl rfl aGL) fun a u=>?_;have⟨v90,e91,h⟩:=bs1 h;refine q u (aJ u rfl aGN (aQ e91)) fun a u=>qm u rfl fun a u=>qm u rfl fun a u=>qm u rfl fun a u=>q u (dZ (vs:=[(0,(iV v90)),(1,(iV a1)),(2,(Sl.v v9)),(3,(Sl.v v56))]) (pl:=#[(0,1),(1,1),(2,1),(3,1)]) (cs:=([.int .i64 v90,.int .i64 a1,Sl.v v9,Sl.v v56])) u ⟨rfl,rfl,rfl,rfl,rfl,rfl,rfl,rfl,aLz⟩ aIa aGM (by intro w;kernel_rfl) (by kernel_rfl)) fun a u=>q u (aH u rfl e89) fun a u=>q u (aK u rfl aGP rfl rfl aHd) fun a u=>?_;have⟨w92,e93,h⟩:=bs1 h;refine q u (eW u rfl rfl aHd rfl e93) fun a u=>aB<|?_;have y:=u;cases h;exact aCp Try.results77 y ⟨rfl,rfl⟩
  clear h;rintro⟨x51,x52,w53⟩ a wq o ⟨u,hwq⟩ h hr59;obtain rfl:w53=wq:=hwq.symm;have u:Has 97 [(6,(Sl.v x51)),(7,(iV x52)),(0,(pV a0)),(1,(iV a1)),(4,(Sl.v v9))] a:=u;have h:dM a0 a1 x51 x52 w53=some o:=h;unfold dM at h;refine wp_seq<|wp_seq<|aA<|qm u rfl fun a u=>qm u rfl fun a u=>?_;have⟨p60,e61,h⟩:=bs1 h;refine q u (aH u rfl e61) fun a u=>q u (aK u rfl aGP rfl rfl aHd) fun a u=>q u (aK u rfl aGM rfl rfl aHy) fun a u=>?_;have⟨v62,e63,h⟩:=bs1 h;refine q u (aJ u rfl aHI (aV e63)) fun a u=>q u (aZ u rfl aGY) fun a u=>q u (dK u rfl rfl) fun a u=>aB<|t_n<|?_;refine aO u rfl h (fun b64 h=>?_) (fun b64 h=>?_)
  .refine wp_skip<|t_n<|?_;have⟨v65,w66,e67,h⟩:=bs2 h;refine gW (n:=97) (L:=[(6,(Sl.v v65)),(0,(pV a0)),(1,(iV a1)),(4,(Sl.v v9)),(7,(iV x52))]) (w':=w66) (fun a u=>?_) (fun hk68=>?_)
   .refine aA<|qm u rfl fun a u=>q u (bJ u rfl rfl) fun a u=>qa u rfl fun a u=>aB<|?_;have y:=u;cases h;exact dS ⟨y.sb rfl,rfl⟩
   clear h;have h:=e67;refine wp_block<|wp_seq<|aA<|qm u rfl fun a u=>q u (aH u rfl e61) fun a u=>q u (aK u rfl aGP rfl rfl aHd) fun a u=>q u (aK u rfl aGM rfl rfl aHy) fun a u=>?_;have⟨v69,e70,h⟩:=bs1 h;refine q u (aJ u rfl aHI (aV e70)) fun a u=>qm u rfl fun a u=>?_;have⟨p71,e72,h⟩:=bs1 h;refine q u (bZ u rfl rfl aGY aHe e72) fun a u=>q u (aK u rfl aHa rfl rfl aGL) fun a u=>?_;have⟨v73,e74,h⟩:=bs1 h;refine q u (aJ u rfl aGN (aQ e74)) fun a u=>qm u rfl fun a u=>q u (gF u rfl rfl) fun a u=>aB<|t_n<|?_;refine aO u rfl h (fun b75 h=>?_) (fun b75 h=>?_)
   .refine aA<|qm u rfl fun a u=>qm u rfl fun a u=>q u (aH u rfl e61) fun a u=>q u (aK u rfl aGP rfl rfl aHd) fun a u=>q u (aK u rfl aGM rfl rfl aHy) fun a u=>?_;have⟨v76,e77,h⟩:=bs1 h;refine q u (aJ u rfl aHI (aV e77)) fun a u=>qm u rfl fun a u=>?_;have⟨p78,e79,h⟩:=bs1 h;refine q u (bZ u rfl rfl aGY aHe e79) fun a u=>?_;have⟨c80,e81,h⟩:=bs1 h;refine q u (gC u rfl aHW aHe e81) fun a u=>?_;have⟨s82,w83,e84,h⟩:=bs2 h;refine q u (iK (vs:=[(0,(.agg (List.toArray c80)))]) (ps:=[c80]) u ⟨rfl,rfl,aLz⟩ ⟨rfl,rfl,aLz⟩ rfl aGY aHe aHh (by decide) e84) fun a u=>?_;have⟨s85,w86,e87,h⟩:=bs2 h;refine q u (iF u rfl rfl e87) fun a u=>qa u rfl fun a u=>aB<|b_n<|?_;have y:=u;cases h;exact hk68 _ (y.sb rfl)
   refine wp_skip<|b_n<|?_;have y:=u;cases h;exact hk68 _ (y.sb rfl)
  refine wp_exit<|t_x<|?_;have y:=u;cases h;cases hr59 _ rfl;refine lM<|?_;exact hk58 _ (y.sb rfl)
 clear h;rintro⟨x4,x5,w6⟩ a wq o ⟨u,hwq⟩ h hr12;obtain rfl:w6=wq:=hwq.symm;have u:Has 97 [(4,(Sl.v x4)),(5,(iV x5)),(0,(pV a0)),(1,(iV a1))] a:=u;have h:dO a0 a1 x4 x5 w6=some o:=h;unfold dO at h;refine wp_seq<|wp_seq<|aA<|qm u rfl fun a u=>qm u rfl fun a u=>?_;have⟨p13,e14,h⟩:=bs1 h;refine q u (aH u rfl e14) fun a u=>q u (aK u rfl aGP rfl rfl aHd) fun a u=>q u (aK u rfl aGM rfl rfl aHb) fun a u=>?_;have⟨v15,e16,h⟩:=bs1 h;refine q u (aJ u rfl aHc (aV e16)) fun a u=>q u (aZ u rfl aGR) fun a u=>q u (dK u rfl rfl) fun a u=>aB<|t_n<|?_;refine aO u rfl h (fun b17 h=>?_) (fun b17 h=>?_)
 .refine wp_skip<|t_n<|?_;have⟨v18,w19,e20,h⟩:=bs2 h;refine gW (n:=97) (L:=[(4,(Sl.v v18)),(0,(pV a0)),(1,(iV a1)),(5,(iV x5))]) (w':=w19) (fun a u=>?_) (fun hk21=>?_)
  .refine aA<|qm u rfl fun a u=>q u (bJ u rfl rfl) fun a u=>qa u rfl fun a u=>aB<|?_;have y:=u;cases h;exact dS ⟨y.sb rfl,rfl⟩
  clear h;have h:=e20;refine wp_block<|wp_seq<|?_;have⟨v22,w23,e24,h⟩:=bs2 h;refine bP (n:=97) (L:=[(40,(bV v22)),(0,(pV a0)),(1,(iV a1)),(4,(Sl.v x4)),(5,(iV x5))]) (w':=w23) (fun a u=>?_) (fun hk25=>?_)
  .refine t_n<|?_;refine aO u rfl h (fun b35 h=>?_) (fun b35 h=>?_)
   .refine aA<|qm u rfl fun a u=>qm u rfl fun a u=>q u (aH u rfl e14) fun a u=>q u (aK u rfl aGP rfl rfl aHd) fun a u=>q u (aK u rfl aGM rfl rfl aHb) fun a u=>?_;have⟨v36,e37,h⟩:=bs1 h;refine q u (aJ u rfl aHc (aV e37)) fun a u=>qm u rfl fun a u=>?_;have⟨p38,e39,h⟩:=bs1 h;refine q u (bZ u rfl rfl aGR aHg e39) fun a u=>?_;have⟨c40,e41,h⟩:=bs1 h;refine q u (gC u rfl aIh aHg e41) fun a u=>?_;have⟨s42,w43,e44,h⟩:=bs2 h;refine q u (iK (vs:=[(0,(.agg (List.toArray c40)))]) (ps:=[c40]) u ⟨rfl,rfl,aLz⟩ ⟨rfl,rfl,aLz⟩ rfl aGR aHg aHQ (by decide) e44) fun a u=>?_;have⟨s45,w46,e47,h⟩:=bs2 h;refine q u (iF u rfl rfl e47) fun a u=>qa u rfl fun a u=>aB<|b_n<|?_;have y:=u;cases h;exact hk21 _ (y.sb rfl)
   refine wp_skip<|b_n<|?_;have y:=u;cases h;exact hk21 _ (y.sb rfl)
  clear h;have h:=e24;refine aA<|qm u rfl fun a u=>qm u rfl fun a u=>q u (aH u rfl e14) fun a u=>q u (aK u rfl aGP rfl rfl aHd) fun a u=>q u (aK u rfl aGM rfl rfl aHb) fun a u=>?_;have⟨v26,e27,h⟩:=bs1 h;refine q u (aJ u rfl aHc (aV e27)) fun a u=>q u (aZ u rfl aGR) fun a u=>q u (iB u rfl rfl) fun a u=>q u (gD u rfl rfl) fun a u=>qm u rfl fun a u=>?_;refine bW h (fun b28 h=>?_) (fun b28 h=>?_)
  .refine qn u 28 (tn b28) fun a u=>qn u 28 (tn b28) fun a u=>qn u 28 (tn b28) fun a u=>qn u 28 (tn b28) fun a u=>qn u 28 (tn b28) fun a u=>qn u 28 (tn b28) fun a u=>qn u 28 (tn b28) fun a u=>qn u 28 (tn b28) fun a u=>qn u 28 (tn b28) fun a u=>qn u 28 (tn b28) fun a u=>qn u 28 (tn b28) fun a u=>q u (aF u rfl b28 rfl) fun a u=>aB<|?_;have y:=u;cases h;exact hk25 _ (y.sb rfl)
  refine qg u 28 (nt b28) (aC u rfl) fun a u=>qg u 28 (nt b28) (aH u rfl e14) fun a u=>qg u 28 (nt b28) (aK u rfl aGP rfl rfl aHd) fun a u=>qg u 28 (nt b28) (aK u rfl aGM rfl rfl aHb) fun a u=>?_;have⟨v29,e30,h⟩:=bs1 h;refine qg u 28 (nt b28) (aJ u rfl aHc (aV e30)) fun a u=>qg u 28 (nt b28) (aC u rfl) fun a u=>?_;have⟨p31,e32,h⟩:=bs1 h;refine qg u 28 (nt b28) (bZ u rfl rfl aGR aHg e32) fun a u=>qg u 28 (nt b28) (aK u rfl aHf rfl rfl aGL) fun a u=>?_;have⟨v33,e34,h⟩:=bs1 h;refine qg u 28 (nt b28) (aJ u rfl aGN (aQ e34)) fun a u=>qg u 28 (nt b28) (aC u rfl) fun a u=>qg u 28 (nt b28) (gF u rfl rfl) fun a u=>q u (aL u rfl b28 rfl) fun a u=>aB<|?_;have y:=u;cases h;exact hk25 _ (y.sb rfl)
 refine wp_exit<|t_x<|?_;have y:=u;cases h;cases hr12 _ rfl;refine lM<|?_;exact hk11 _ (y.sb rfl)
noncomputable def iZ (a0:Option Addr) (a1:Int) (a2:Int) (w:World):ND ((Option Addr)×Int×World) :=
 if (a0.isNone)=true then
 (aU (none,1,w))
 else
 (lb1 (a0) fun p2 =>
 lb1 (ldB w (p2.add 3)) fun v4 =>
 if v4=true then
 (aU (none,10,w))
 else
 (cb2 (if (decide (a2<2))=true then
 (aU (true,w))
 else
 (if (decide (16<a2))=true then
 (aU (true,w))
 else
 (if (decide (a1<0))=true then
 (aU (true,w))
 else
 (lb1 (ldL w (p2.add 0)) fun v14 =>
 aU ((decide ((IntKind.wrap .i64 ((IntKind.wrap .i64 ((v14.n:Int)-2))-(IntKind.wrap .i64 (16*a2))))<a1)),w))))) fun v7 w8 =>
 if v7=true then
 (aU (none,2,w8))
 else
 (lb1 (ldI .i64 w8 (p2.add 4)) fun v17 =>
 lb2 (mk w8 132 ([.pointer a0,.int .i64 a1,.int .i64 a2,.int .i64 v17,.int .i64 0,.int .i64 0,.slice none 0 0,.slice none 0 0])) fun p19 w20 =>
 cb2 (gN (some p19) w20) fun v22 w23 =>
 lb2 (mk w23 130 ([.int .i64 0,.int .i64 0,.slice none 0 0,.slice none 0 0])) fun p25 w26 =>
 lb1 (stA w26 p25 0 v22) fun w29 =>
 nck ((v22).length=4) <|
 lb1 (ldL w29 (p25.add 2)) fun v31 =>
 lb1 (ldI .i64 w29 (p25.add 1)) fun v33 =>
 lb3 (eV (some p19) v31 v33 w29) fun v35 v36 w37 =>
 if (v36 !=0)=true then
 (aU (none,v36,w37))
 else
 (cbX (lb1 (ldL w37 (p25.add 2)) fun v47 =>
 if (decide (0<(v47.n:Int)))=true then
 (lb1 (ldL w37 (p25.add 2)) fun v50 =>
 lb1 (ldL w37 (p25.add 2)) fun v52 =>
 lb1 (ix v50 (IntKind.wrap .i64 ((v52.n:Int)-1)) 4) fun p54 =>
 lb1 (ldA 4 w37 p54 0) fun c56 =>
 lb2 (mk w37 136 (List.replicate 4 (.int .i64 0))) fun p58 w59 =>
 lb1 (stA w59 p58 0 c56) fun w61 =>
 lb1 (ldI .i64 w61 (p58.add 0)) fun v63 =>
 lb1 (ldI .i64 w61 (p58.add 2)) fun v65 =>
 cb3 (eT (some p19) v63 v65 w61) fun v67 v68 w69 =>
 if (v68 !=0)=true then
 (cb1 (aU (none,v68,w69)) fun g46=>aU (.inl g46))
 else
 (aU (.inr ((IntKind.wrap .i64 (v35+v67)),w69))))
 else
 (aU (.inr (v35,w37)))) fun (i:Int×World)=>u2 i fun v40 w41 =>
 cbX (if (decide (0<v40))=true then
 (lb2 (bK a0 w41) fun v80 w81 =>
 if (v80 !=0)=true then
 (cb1 (aU (none,v80,w81)) fun g78=>aU (.inl g78))
 else
 (aU (.inr w81)))
 else
 (aU (.inr w41))) fun (i:World)=>u1 i fun w73 =>
 lb1 (ldA 4 w73 p25 0) fun c85 =>
 lb1 (stA w73 (p19.add 4) 0 c85) fun w87 =>
 lb1 (ldI .i64 w87 (p25.add 1)) fun v89 =>
 lb1 (cT (some p19) v89 w87) fun w91 =>
 aU ((some p19),0,w91)))))
theorem qL {a0 a1 a2 w Q} (h:(iZ a0 a1 a2 w).t Q):Calls Try.prog 33 #[(.pointer a0),(.int .i64 a1),(.int .i64 a2)] w fun e w''=>∃ i,e=.returned (.tuple #[(.pointer i.1),(.int .i64 i.2.1)])/\Q i/\w''=i.2.2:=by
 refine aP (n:=110) Try.func33 rfl Try.ntmps33 (by simp) fun a u=>?_;unfold iZ at h;refine wp_seq<|aA<|qa u rfl fun a u=>qa u rfl fun a u=>aB<|t_n<|wp_seq<|wp_seq<|aA<|qm u rfl fun a u=>q u (jJ u rfl rfl aHS) fun a u=>aB<|t_n<|?_;refine aX u rfl h (fun b1 h=>?_) (fun b1 h=>?_)
 .refine wp_seq<|aA<|qa u rfl fun a u=>qa u rfl fun a u=>aB<|t_n<|wp_ret<|t_r<|?_;exact jA Try.results33 u rfl rfl ⟨(none,1,w),rfl,h,rfl⟩
 refine wp_skip<|t_n<|wp_seq<|wp_seq<|aA<|qm u rfl fun a u=>?_;obtain⟨p2,e3,h⟩:=h;refine q u (aH u rfl e3) fun a u=>q u (aK u rfl aGS rfl rfl aHz) fun a u=>?_;obtain⟨v4,e5,h⟩:=h;refine q u (aJ u rfl aHR (oO e5)) fun a u=>aB<|t_n<|?_;refine aX u rfl h (fun b6 h=>?_) (fun b6 h=>?_)
 .refine wp_seq<|aA<|qa u rfl fun a u=>qa u rfl fun a u=>aB<|t_n<|wp_ret<|t_r<|?_;exact jA Try.results33 u rfl rfl ⟨(none,10,w),rfl,h,rfl⟩
 refine wp_skip<|t_n<|wp_seq<|wp_seq<|?_;refine dD (n:=110) (ι:=Bool×World) (Lf:=fun i=>[(43,(bV i.1)),(0,(pV a0)),(1,(iV a1)),(2,(iV a2))]) (wf:=fun i=>i.2) (un2 h) (fun i h a u=>?_) (fun h hk10=>?_)
 .obtain⟨v7,w8⟩:=i;have u:Has 110 [(43,(bV v7)),(0,(pV a0)),(1,(iV a1)),(2,(iV a2))] a:=u;refine t_n<|?_;refine aX u rfl h (fun b16 h=>?_) (fun b16 h=>?_)
  .refine wp_seq<|aA<|qa u rfl fun a u=>qa u rfl fun a u=>aB<|t_n<|wp_ret<|t_r<|?_;exact jA Try.results33 u rfl rfl ⟨(none,2,w8),rfl,h,rfl⟩
  refine wp_skip<|t_n<|wp_seq<|aA<|qm u rfl fun a u=>qm u rfl fun a u=>qm u rfl fun a u=>qm u rfl fun a u=>q u (aH u rfl e3) fun a u=>q u (aK u rfl aGS rfl rfl aGL) fun a u=>?_;obtain⟨v17,e18,h⟩:=h;refine q u (aJ u rfl aGN (aQ e18)) fun a u=>q u (dZ (vs:=[(0,(pV a0)),(1,(iV a1)),(2,(iV a2)),(3,(iV v17))]) (pl:=#[(0,1),(1,1),(2,1),(3,1),(4,4)]) (cs:=([.pointer a0,.int .i64 a1,.int .i64 a2,.int .i64 v17,.int .i64 0,.int .i64 0,.slice none 0 0,.slice none 0 0])) u ⟨rfl,rfl,rfl,rfl,rfl,rfl,rfl,rfl,aLz⟩ Try.zeroValue132 aGP (by intro w;kernel_rfl) (by kernel_rfl)) fun a u=>?_;obtain⟨p19,w20,e21,h⟩:=h;refine q u (rF u rfl rfl e21) fun a u=>qa u rfl fun a u=>aB<|t_n<|wp_seq<|aA<|qm u rfl fun a u=>?_;refine jV (ι:=(List Value)×World) (pk:=fun i=>(.agg (List.toArray i.1))) (wf:=fun i=>i.2) (xs:=[_]) (vs:=[(pV (some p19))]) u ⟨rfl,aLz⟩ Try.call73 (pN (un2 h)) (fun i h a u=>?_);obtain⟨v22,w23⟩:=i;obtain⟨p25,w26,e27,h⟩:=h;refine q u (eX aIa (by kernel_rfl) e27) fun a u=>?_;obtain⟨w29,e30,h⟩:=h;obtain⟨e28,h⟩:=h;refine q u (eW u rfl rfl aHd e28 e30) fun a u=>aB<|t_n<|wp_seq<|aA<|qm u rfl fun a u=>q u (aK u rfl aGM rfl rfl aHb) fun a u=>?_;obtain⟨v31,e32,h⟩:=h;refine q u (aJ u rfl aHc (aV e32)) fun a u=>q u (aK u rfl aGM rfl rfl aGL) fun a u=>?_;obtain⟨v33,e34,h⟩:=h;refine q u (aJ u rfl aGN (aQ e34)) fun a u=>?_;obtain⟨v35,v36,w37,e38,h⟩:=h;refine q u (dc3 u rfl rfl rfl Try.call74 (mD e38)) fun a u=>qm u rfl fun a u=>q u (aW u rfl rfl) fun a u=>q u (aW u rfl rfl) fun a u=>qa u rfl fun a u=>qa u rfl fun a u=>aB<|t_n<|wp_seq<|wp_seq<|aA<|qm u rfl fun a u=>q u (fJ u rfl rfl) fun a u=>aB<|t_n<|?_;refine aX u rfl h (fun b39 h=>?_) (fun b39 h=>?_)
  .refine wp_seq<|aA<|qm u rfl fun a u=>qa u rfl fun a u=>qa u rfl fun a u=>aB<|t_n<|wp_ret<|t_r<|?_;exact jA Try.results33 u rfl rfl ⟨(none,v36,w37),rfl,h,rfl⟩
  refine wp_skip<|t_n<|?_;refine mU (n:=110) (ι:=Int×World) (Lf:=fun i=>[(10,(iV i.1)),(0,(pV a0)),(8,(pV (some p19))),(9,(pV (some p25)))]) (wf:=fun i=>i.2) (unX h) (fun i h a u=>?_) (fun h hk45=>?_)
  .obtain⟨v40,w41⟩:=i
   try dsimp only[Sum.elim_inl,Sum.elim_inr,u1,u2,u3,u4,u5,u6] at h
   have u:Has 110 [(10,(iV v40)),(0,(pV a0)),(8,(pV (some p19))),(9,(pV (some p25)))] a:=u;refine mU (n:=110) (ι:=World) (Lf:=fun i=>[(8,(pV (some p19))),(9,(pV (some p25)))]) (wf:=fun i=>i) (unX h) (fun i h a u=>?_) (fun h hk77=>?_)
   .obtain⟨w73,rfl⟩:∃ x,x=i:=⟨i,rfl⟩
    try dsimp only[Sum.elim_inl,Sum.elim_inr,u1,u2,u3,u4,u5,u6] at h
    have u:Has 110 [(8,(pV (some p19))),(9,(pV (some p25)))] a:=u;refine wp_seq<|aA<|qm u rfl fun a u=>?_;obtain⟨c85,e86,h⟩:=h;refine q u (gC u rfl aIp aHd e86) fun a u=>q u (lX u rfl) fun a u=>q u (aK u rfl aGP rfl rfl aHd) fun a u=>?_;obtain⟨w87,e88,h⟩:=h;refine q u (eW u rfl rfl aHd ((kR e86).1) e88) fun a u=>aB<|t_n<|wp_seq<|aA<|qm u rfl fun a u=>q u (aK u rfl aGM rfl rfl aGL) fun a u=>?_;obtain⟨v89,e90,h⟩:=h;refine q u (aJ u rfl aGN (aQ e90)) fun a u=>?_;obtain⟨w91,e92,h⟩:=h;refine q u (dc2 u rfl rfl Try.call77 (lS e92)) fun a u=>aB<|t_n<|wp_seq<|aA<|qm u rfl fun a u=>qa u rfl fun a u=>qa u rfl fun a u=>aB<|t_n<|wp_ret<|?_;exact jA Try.results33 u rfl rfl ⟨((some p19),0,w91),rfl,h,rfl⟩
   refine wp_seq<|aA<|qm u rfl fun a u=>q u (gF u rfl rfl) fun a u=>aB<|t_n<|?_;refine aX u rfl h (fun b79 h=>?_) (fun b79 h=>?_)
   .refine wp_seq<|aA<|qm u rfl fun a u=>?_;obtain⟨v80,w81,e82,h⟩:=h;refine q u (dc1 u rfl Try.call76 (eR e82)) fun a u=>qa u rfl fun a u=>aB<|t_n<|wp_seq<|aA<|qm u rfl fun a u=>q u (fJ u rfl rfl) fun a u=>aB<|t_n<|?_;refine aX u rfl h (fun b83 h=>?_) (fun b83 h=>?_)
    .refine wp_seq<|aA<|qm u rfl fun a u=>qa u rfl fun a u=>qa u rfl fun a u=>aB<|t_n<|wp_ret<|?_;have h:=unL h;refine t_r<|?_;exact jA Try.results33 u rfl rfl ⟨(none,v80,w81),rfl,h,rfl⟩
    refine wp_skip<|?_;exact hk77 w81 h _ (u.sb rfl)
   refine wp_skip<|?_;exact hk77 w41 h _ (u.sb rfl)
  refine wp_seq<|aA<|q u (aK u rfl aGM rfl rfl aHb) fun a u=>?_;obtain⟨v47,e48,h⟩:=h;refine q u (aJ u rfl aHc (aV e48)) fun a u=>q u (aZ u rfl aGR) fun a u=>q u (gF u rfl rfl) fun a u=>aB<|t_n<|?_;refine aX u rfl h (fun b49 h=>?_) (fun b49 h=>?_)
  .refine wp_seq<|aA<|q u (aK u rfl aGM rfl rfl aHb) fun a u=>?_;obtain⟨v50,e51,h⟩:=h;refine q u (aJ u rfl aHc (aV e51)) fun a u=>q u (aK u rfl aGM rfl rfl aHb) fun a u=>?_;obtain⟨v52,e53,h⟩:=h;refine q u (aJ u rfl aHc (aV e53)) fun a u=>q u (aZ u rfl aGR) fun a u=>q u (iB u rfl rfl) fun a u=>?_;obtain⟨p54,e55,h⟩:=h;refine q u (bZ u rfl rfl aGR aHg e55) fun a u=>?_;obtain⟨c56,e57,h⟩:=h;refine q u (gC u rfl aIh aHg e57) fun a u=>?_;obtain⟨p58,w59,e60,h⟩:=h;refine q u (eX aHQ (by kernel_rfl) e60) fun a u=>?_;obtain⟨w61,e62,h⟩:=h;refine q u (eW u rfl rfl aHg ((kR e57).1) e62) fun a u=>aB<|t_n<|wp_seq<|aA<|qm u rfl fun a u=>q u (aK u rfl aHf rfl rfl aGL) fun a u=>?_;obtain⟨v63,e64,h⟩:=h;refine q u (aJ u rfl aGN (aQ e64)) fun a u=>q u (aK u rfl aHf rfl rfl aGL) fun a u=>?_;obtain⟨v65,e66,h⟩:=h;refine q u (aJ u rfl aGN (aQ e66)) fun a u=>?_;refine jV (ι:=Int×Int×World) (pk:=fun i=>(.tuple #[(iV i.1),(iV i.2.1)])) (wf:=fun i=>i.2.2) (xs:=[_,_,_]) (vs:=[(pV (some p19)),(iV v63),(iV v65)]) u ⟨rfl,rfl,rfl,aLz⟩ Try.call75 (lU (un3 h)) (fun i h a u=>?_);obtain⟨v67,v68,w69⟩:=i;refine qm u rfl fun a u=>q u (aW u rfl rfl) fun a u=>q u (aW u rfl rfl) fun a u=>qa u rfl fun a u=>qa u rfl fun a u=>aB<|t_n<|wp_seq<|wp_seq<|aA<|qm u rfl fun a u=>q u (fJ u rfl rfl) fun a u=>aB<|t_n<|?_;refine aX u rfl h (fun b71 h=>?_) (fun b71 h=>?_)
   .refine wp_seq<|aA<|qm u rfl fun a u=>qa u rfl fun a u=>qa u rfl fun a u=>aB<|t_n<|wp_ret<|t_r<|?_;have h:=unL h;refine t_r<|?_;exact jA Try.results33 u rfl rfl ⟨(none,v68,w69),rfl,h,rfl⟩
   refine wp_skip<|t_n<|aA<|qm u rfl fun a u=>qm u rfl fun a u=>q u (bJ u rfl rfl) fun a u=>qa u rfl fun a u=>aB<|?_;exact hk45 ((IntKind.wrap .i64 (v35+v67)),w69) h _ (u.sb rfl)
  refine wp_skip<|?_;exact hk45 (v35,w37) h _ (u.sb rfl)
 refine aA<|qm u rfl fun a u=>q u (dK u rfl rfl) fun a u=>qm u rfl fun a u=>?_;refine iE h (fun b11 h=>?_) (fun b11 h=>?_)
 .refine qn u 23 (tn b11) fun a u=>qn u 23 (tn b11) fun a u=>q u (aF u rfl b11 rfl) fun a u=>qm u rfl fun a u=>qn u 27 (tn rfl) fun a u=>qn u 27 (tn rfl) fun a u=>q u (aF u rfl rfl rfl) fun a u=>qm u rfl fun a u=>qn u 31 (tn rfl) fun a u=>qn u 31 (tn rfl) fun a u=>qn u 31 (tn rfl) fun a u=>qn u 31 (tn rfl) fun a u=>qn u 31 (tn rfl) fun a u=>qn u 31 (tn rfl) fun a u=>qn u 31 (tn rfl) fun a u=>qn u 31 (tn rfl) fun a u=>qn u 31 (tn rfl) fun a u=>qn u 31 (tn rfl) fun a u=>qn u 31 (tn rfl) fun a u=>q u (aF u rfl rfl rfl) fun a u=>aB<|?_;exact hk10 (true,w) h _ (u.sb rfl)
 refine qg u 23 (nt b11) (aC u rfl) fun a u=>qg u 23 (nt b11) (gF u rfl rfl) fun a u=>q u (aL u rfl b11 rfl) fun a u=>qm u rfl fun a u=>?_;refine iE h (fun b12 h=>?_) (fun b12 h=>?_)
 .refine qn u 27 (tn b12) fun a u=>qn u 27 (tn b12) fun a u=>q u (aF u rfl b12 rfl) fun a u=>qm u rfl fun a u=>qn u 31 (tn rfl) fun a u=>qn u 31 (tn rfl) fun a u=>qn u 31 (tn rfl) fun a u=>qn u 31 (tn rfl) fun a u=>qn u 31 (tn rfl) fun a u=>qn u 31 (tn rfl) fun a u=>qn u 31 (tn rfl) fun a u=>qn u 31 (tn rfl) fun a u=>qn u 31 (tn rfl) fun a u=>qn u 31 (tn rfl) fun a u=>qn u 31 (tn rfl) fun a u=>q u (aF u rfl rfl rfl) fun a u=>aB<|?_;exact hk10 (true,w) h _ (u.sb rfl)
 refine qg u 27 (nt b12) (aC u rfl) fun a u=>qg u 27 (nt b12) (dK u rfl rfl) fun a u=>q u (aL u rfl b12 rfl) fun a u=>qm u rfl fun a u=>?_;refine iE h (fun b13 h=>?_) (fun b13 h=>?_)
 .refine qn u 31 (tn b13) fun a u=>qn u 31 (tn b13) fun a u=>qn u 31 (tn b13) fun a u=>qn u 31 (tn b13) fun a u=>qn u 31 (tn b13) fun a u=>qn u 31 (tn b13) fun a u=>qn u 31 (tn b13) fun a u=>qn u 31 (tn b13) fun a u=>qn u 31 (tn b13) fun a u=>qn u 31 (tn b13) fun a u=>qn u 31 (tn b13) fun a u=>q u (aF u rfl b13 rfl) fun a u=>aB<|?_;exact hk10 (true,w) h _ (u.sb rfl)
 refine qg u 31 (nt b13) (aC u rfl) fun a u=>qg u 31 (nt b13) (aH u rfl e3) fun a u=>qg u 31 (nt b13) (aK u rfl aGS rfl rfl aHX) fun a u=>?_;obtain⟨v14,e15,h⟩:=h;refine qg u 31 (nt b13) (aJ u rfl aHY (aV e15)) fun a u=>qg u 31 (nt b13) (aZ u rfl aHP) fun a u=>qg u 31 (nt b13) (iB u rfl rfl) fun a u=>qg u 31 (nt b13) (aC u rfl) fun a u=>qg u 31 (nt b13) (oN u rfl rfl) fun a u=>qg u 31 (nt b13) (iB u rfl rfl) fun a u=>qg u 31 (nt b13) (aC u rfl) fun a u=>qg u 31 (nt b13) (dK u rfl rfl) fun a u=>q u (aL u rfl b13 rfl) fun a u=>aB<|?_;exact hk10 ((decide ((IntKind.wrap .i64 ((IntKind.wrap .i64 ((v14.n:Int)-2))-(IntKind.wrap .i64 (16*a2))))<a1)),w) h _ (u.sb rfl)
noncomputable def eA (a0:Option Addr) (w:World):Option (Int×World) :=
 if (a0.isNone)=true then
 (some (1,w))
 else
 ((dr w).bind fun w2 =>
 (a0).bind fun p4 =>
 (ldP w2 (p4.add 0)).bind fun v6 =>
 (v6).bind fun p8 =>
 (ldI .i64 w2 (p8.add 4)).bind fun v10 =>
 (ldI .i64 w2 (p4.add 3)).bind fun v12 =>
 if (v10 !=v12)=true then
 (some (13,w2))
 else
 ((ldP w2 (p4.add 0)).bind fun v15 =>
 (v15).bind fun p17 =>
 (ldB w2 (p17.add 3)).bind fun v19 =>
 if v19=true then
 (some (10,w2))
 else
 (some (0,w2))))
theorem jR {a0 w w' r0} (h:eA a0 w=some (r0,w')):Calls Try.prog 124 #[(.pointer a0)] w fun e w''=>e=.returned (.int .i64 r0)/\w''=w':=by
 refine aP (n:=24) Try.func124 rfl Try.ntmps124 (by simp) fun a u=>?_;unfold eA at h;refine wp_seq<|aA<|qa u rfl fun a u=>aB<|t_n<|wp_seq<|wp_seq<|aA<|qm u rfl fun a u=>q u (jJ u rfl rfl Try.runUnderlying67) fun a u=>aB<|t_n<|?_;refine aO u rfl h (fun b1 h=>?_) (fun b1 h=>?_)
 .refine wp_seq<|aA<|qa u rfl fun a u=>aB<|t_n<|wp_ret<|t_r<|?_;have y:=u;cases h;exact bI Try.results124 y rfl ⟨rfl,rfl⟩
 refine wp_skip<|t_n<|wp_seq<|wp_seq<|?_;have⟨w2,e3,h⟩:=bs1 h;have⟨p4,e5,h⟩:=bs1 h;have⟨v6,e7,h⟩:=bs1 h;have⟨p8,e9,h⟩:=bs1 h;have⟨v10,e11,h⟩:=bs1 h;have⟨v12,e13,h⟩:=bs1 h;have u:Has 24 [(0,(pV a0))] a:=u.sb rfl;refine aM (n:=24) (ds:=(aS (pV a0) 0 [] 0::aG (pV (some p4)) 0 [0] 5 (pV a0)::aG (pV (some (p4.add 0))) 0 [0,1] 6 (pV (some p4))::aG (pV v6) 0 [0,1,2] 7 (pV (some (p4.add 0)))::aG (pV (some p8)) 0 (rn 0 4) 8 (pV v6)::aG (pV (some (p8.add 4))) 0 (rn 0 5) 9 (pV (some p8))::aG (iV v10) 0 (rn 0 6) 10 (pV (some (p8.add 4)))::aS (pV a0) 0 [] 0::aG (pV (some p4)) 0 [7] 12 (pV a0)::aG (pV (some (p4.add 3))) 0 [7,8] 13 (pV (some p4))::aG (iV v12) 0 [7,8,9] 14 (pV (some (p4.add 3)))::aT (bV (v10 !=v12)) 0 (rn 0 11) [(11,(iV v10)),(15,(iV v12))]::[])) (W:=(fun _=>w2)) (by kernel_rfl) u (cY e3) (by kernel_rfl) ?_ (aR (by kernel_rfl)) (by kernel_rfl) (m:=0) (by kernel_rfl) (fun a u=>?_)
 .exact⟨oa (aC · rfl),oa (aH · rfl e5),oa (aK · rfl aGP rfl rfl aHp),oc (e:=false) 0 (kd (aJ · rfl aHi (bA e7))),oa (aH · rfl e9),oa (aK · rfl aGS rfl rfl aGL),oc (e:=false) 0 (kd (aJ · rfl aGN (aQ e11))),oa (aC · rfl),oa (aH · rfl e5),oa (aK · rfl aGP rfl rfl aGL),oc (e:=false) 0 (kd (aJ · rfl aGN (aQ e13))),oa (fJ · rfl rfl),aLz⟩
 have u:Has 24 [(0,(pV a0)),(16,(bV (v10 !=v12)))] a:=u.sb rfl;refine t_n<|?_;refine aO u rfl h (fun b14 h=>?_) (fun b14 h=>?_)
 .refine wp_seq<|aA<|qa u rfl fun a u=>aB<|t_n<|wp_ret<|t_r<|?_;have y:=u;cases h;exact bI Try.results124 y rfl ⟨rfl,rfl⟩
 refine wp_skip<|t_n<|wp_seq<|wp_seq<|aA<|qm u rfl fun a u=>q u (aH u rfl e5) fun a u=>q u (aK u rfl aGP rfl rfl aHp) fun a u=>?_;have⟨v15,e16,h⟩:=bs1 h;refine q u (aJ u rfl aHi (bA e16)) fun a u=>?_;have⟨p17,e18,h⟩:=bs1 h;refine q u (aH u rfl e18) fun a u=>q u (aK u rfl aGS rfl rfl aHz) fun a u=>?_;have⟨v19,e20,h⟩:=bs1 h;refine q u (aJ u rfl aHR (oO e20)) fun a u=>aB<|t_n<|?_;refine aO u rfl h (fun b21 h=>?_) (fun b21 h=>?_)
 .refine wp_seq<|aA<|qa u rfl fun a u=>aB<|t_n<|wp_ret<|t_r<|?_;have y:=u;cases h;exact bI Try.results124 y rfl ⟨rfl,rfl⟩
 refine wp_skip<|t_n<|wp_seq<|aA<|qa u rfl fun a u=>aB<|t_n<|wp_ret<|?_;have y:=u;cases h;exact bI Try.results124 y rfl ⟨rfl,rfl⟩
noncomputable def dJ (a0:Option Addr) (x15:Int) (x16:Int) (w17:World):ND ((Int×Int×World)⊕(Int×World)) :=
 lb1 (a0) fun p24 =>
 lb1 (ldL w17 ((p24.add 4).add 2)) fun v26 =>
 if (decide (x16<(v26.n:Int)))=true then
 (lb1 (ldL w17 ((p24.add 4).add 2)) fun v29 =>
 lb1 (ix v29 x16 4) fun p31 =>
 lb1 (ldI .i64 w17 (p31.add 0)) fun v33 =>
 if (v33==x15)=true then
 (aU (.inr ((IntKind.wrap .i64 (x15+1)),w17)))
 else
 (aU (.inl (x15,(IntKind.wrap .i64 (x16+1)),w17))))
 else
 (aU (.inr (x15,w17)))
noncomputable def dI (a0:Option Addr) (x1:Int) (x2:Int) (w3:World):ND ((Int×Int×World)⊕(Int×World)) :=
 lb1 (a0) fun p10 =>
 lb1 (ldL w3 ((p10.add 4).add 2)) fun v12 =>
 if (decide (x2<(v12.n:Int)))=true then
 (cb2 (fB (fun s:Int×Int×World=>dJ a0 s.1 s.2.1 s.2.2) (x1,0,w3)) fun v20 w21 =>
 aU (.inl (v20,(IntKind.wrap .i64 (x2+1)),w21)))
 else
 (aU (.inr (x1,w3)))
noncomputable def gB (a0:Option Addr) (a1:Int) (w:World):ND (Int×Int×World) :=
 cb2 (fB (fun s:Int×Int×World=>dI a0 s.1 s.2.1 s.2.2) (0,0,w)) fun v6 w7 =>
 lb1 (dr w7) fun w37 =>
 lb1 (a0) fun p39 =>
 lb1 (ldL w37 ((p39.add 4).add 2)) fun v41 =>
 lb1 (ldI .i64 w37 (p39.add 2)) fun v43 =>
 if (decide (v43<=(v41.n:Int)))=true then
 (aU (0,9,w37))
 else
 (if (decide (4611686018427387904<a1))=true then
 (aU (0,6,w37))
 else
 (cb3 (eT a0 v6 0 w37) fun v47 v48 w49 =>
 cb2 (if (v48==0)=true then
 (lb1 (ldP w49 (p39.add 0)) fun v56 =>
 lb2 (bK v56 w49) fun v58 w59 =>
 aU (v58,w59))
 else
 (aU (v48,w49))) fun v51 w52 =>
 cb2 (if (v51==0)=true then
 (lb1 (dr w52) fun w66 =>
 lb2 (dE a1 w66) fun v68 w69 =>
 lb1 (ldI .i64 w69 ((p39.add 4).add 0)) fun v71 =>
 lb2 (dE v71 w69) fun v73 w74 =>
 lb2 (apS Try.prog 72 v68 v73 w74) fun s76 w77 =>
 nck (ldI .i64 w66 ((p39.add 4).add 0)=some v71) <|
 lb1 (dr w77) fun w80 =>
 lb1 (ldP w80 (p39.add 0)) fun v82 =>
 lb2 (cE a0 v6 0 w80) fun v84 w85 =>
 lb2 (eN 1 s76 true w85) fun v87 w88 =>
 lb2 (bE v82 v84 v87 w88) fun v90 w91 =>
 nck (ldP w85 (p39.add 0)=some v82) <|
 nck (ldP w88 (p39.add 0)=some v82) <|
 aU (v90,w91))
 else
 (aU (v51,w52))) fun v61 w62 =>
 aU (v6,v61,w62)))
theorem oS {a0 a1 w Q} (h:(gB a0 a1 w).t Q):Calls Try.prog 126 #[(.pointer a0),(.int .i64 a1)] w fun e w''=>∃ i,e=.returned (.tuple #[(.int .i64 i.1),(.int .i64 i.2.1)])/\Q i/\w''=i.2.2:=by
 refine aP (n:=94) Try.func126 rfl Try.ntmps126 (by simp) fun a u=>?_;unfold gB at h;refine wp_seq<|aA<|qa u rfl fun a u=>qa u rfl fun a u=>aB<|t_n<|wp_seq<|aA<|qa u rfl fun a u=>aB<|t_n<|wp_seq<|wp_seq<|aA<|qa u rfl fun a u=>aB<|t_n<|wp_block<|?_;refine lE (n:=94) (Lr:=fun i=>[(6,(iV i.1)),(0,(pV a0)),(1,(iV a1))]) (wr:=fun i=>i.2) (e:=.exit 0) (I:=fun (s:Int×Int×World) a w=>Has 94 [(6,(iV s.1)),(7,(iV s.2.1)),(0,(pV a0)),(1,(iV a1))] a/\w=s.2.2) (un2 h) ⟨u.sub ⟨rfl,rfl,rfl,rfl,aLz⟩,rfl⟩ (fun i h a u=>?_) (fun hk8=>?_)
 .obtain⟨v6,w7⟩:=i;have u:Has 94 [(6,(iV v6)),(0,(pV a0)),(1,(iV a1))] a:=u;refine eC<|t_n<|wp_seq<|wp_seq<|?_;obtain⟨w37,e38,h⟩:=h;obtain⟨p39,e40,h⟩:=h;obtain⟨v41,e42,h⟩:=h;obtain⟨v43,e44,h⟩:=h;have u:Has 94 [(0,(pV a0)),(1,(iV a1)),(6,(iV v6))] a:=u.sb rfl;refine aM (n:=94) (ds:=(aS (pV a0) 0 [] 0::aG (pV (some p39)) 0 [0] 45 (pV a0)::aG (pV (some (p39.add 4))) 0 [0,1] 46 (pV (some p39))::aG (pV (some ((p39.add 4).add 2))) 0 [0,1,2] 47 (pV (some (p39.add 4)))::aG (Sl.v v41) 0 (rn 0 4) 48 (pV (some ((p39.add 4).add 2)))::aG (iV (v41.n:Int)) 0 (rn 0 5) 49 (Sl.v v41)::aS (pV a0) 0 [] 0::aG (pV (some p39)) 0 [6] 51 (pV a0)::aG (pV (some (p39.add 2))) 0 [6,7] 52 (pV (some p39))::aG (iV v43) 0 [6,7,8] 53 (pV (some (p39.add 2)))::aT (bV (decide (v43<=(v41.n:Int)))) 0 (rn 0 10) [(50,(iV (v41.n:Int))),(54,(iV v43))]::[])) (W:=(fun _=>w37)) (by kernel_rfl) u (cY e38) (by kernel_rfl) ?_ (aR (by kernel_rfl)) (by kernel_rfl) (m:=0) (by kernel_rfl) (fun a u=>?_)
  .exact⟨oa (aC · rfl),oa (aH · rfl e40),oa (aK · rfl aGP rfl rfl aHd),oa (aK · rfl aGM rfl rfl aHb),oc (e:=false) 0 (kd (aJ · rfl aHc (aV e42))),oa (aZ · rfl aGR),oa (aC · rfl),oa (aH · rfl e40),oa (aK · rfl aGP rfl rfl aGL),oc (e:=false) 0 (kd (aJ · rfl aGN (aQ e44))),oa (pP · rfl rfl),aLz⟩
  have u:Has 94 [(0,(pV a0)),(1,(iV a1)),(6,(iV v6)),(55,(bV (decide (v43<=(v41.n:Int)))))] a:=u.sb rfl;refine t_n<|?_;refine aX u rfl h (fun b45 h=>?_) (fun b45 h=>?_)
  .refine wp_seq<|aA<|qa u rfl fun a u=>qa u rfl fun a u=>aB<|t_n<|wp_ret<|t_r<|?_;exact jA Try.results126 u rfl rfl ⟨(0,9,w37),rfl,h,rfl⟩
  refine wp_skip<|t_n<|wp_seq<|wp_seq<|aA<|qm u rfl fun a u=>q u (gF u rfl rfl) fun a u=>aB<|t_n<|?_;refine aX u rfl h (fun b46 h=>?_) (fun b46 h=>?_)
  .refine wp_seq<|aA<|qa u rfl fun a u=>qa u rfl fun a u=>aB<|t_n<|wp_ret<|t_r<|?_;exact jA Try.results126 u rfl rfl ⟨(0,6,w37),rfl,h,rfl⟩
  refine wp_skip<|t_n<|wp_seq<|aA<|qm u rfl fun a u=>qm u rfl fun a u=>?_;refine jV (ι:=Int×Int×World) (pk:=fun i=>(.tuple #[(iV i.1),(iV i.2.1)])) (wf:=fun i=>i.2.2) (xs:=[_,_,_]) (vs:=[(pV a0),(iV v6),(iV 0)]) u ⟨rfl,rfl,rfl,aLz⟩ Try.call75 (lU (un3 h)) (fun i h a u=>?_);obtain⟨v47,v48,w49⟩:=i;refine qm u rfl fun a u=>q u (aW u rfl rfl) fun a u=>q u (aW u rfl rfl) fun a u=>qa u rfl fun a u=>qa u rfl fun a u=>aB<|t_n<|?_;refine gJ (n:=94) (ι:=Int×World) (Lf:=fun i=>[(10,(iV i.1)),(0,(pV a0)),(1,(iV a1)),(6,(iV v6))]) (wf:=fun i=>i.2) (un2 h) (fun i h a u=>?_) (fun h hk54=>?_)
  .obtain⟨v51,w52⟩:=i;have u:Has 94 [(10,(iV v51)),(0,(pV a0)),(1,(iV a1)),(6,(iV v6))] a:=u;refine gJ (n:=94) (ι:=Int×World) (Lf:=fun i=>[(10,(iV i.1)),(6,(iV v6))]) (wf:=fun i=>i.2) (un2 h) (fun i h a u=>?_) (fun h hk64=>?_)
   .obtain⟨v61,w62⟩:=i;have u:Has 94 [(10,(iV v61)),(6,(iV v6))] a:=u;refine wp_seq<|aA<|qm u rfl fun a u=>qm u rfl fun a u=>qa u rfl fun a u=>qa u rfl fun a u=>aB<|t_n<|wp_ret<|?_;exact jA Try.results126 u rfl rfl ⟨(v6,v61,w62),rfl,h,rfl⟩
   refine wp_seq<|aA<|qm u rfl fun a u=>q u (gD u rfl rfl) fun a u=>aB<|t_n<|?_;refine aX u rfl h (fun b65 h=>?_) (fun b65 h=>?_)
   .refine wp_seq<|?_;obtain⟨w66,e67,h⟩:=h;obtain⟨v68,w69,e70,h⟩:=h;obtain⟨v71,e72,h⟩:=h;obtain⟨v73,w74,e75,h⟩:=h;obtain⟨s76,w77,e78,h⟩:=h;obtain⟨e79,h⟩:=h;have u:Has 94 [(0,(pV a0)),(1,(iV a1)),(6,(iV v6)),(10,(iV v51)),(72,(bV (v51==0)))] a:=u.sb rfl;refine aM (n:=94) (ds:=(aS (iV a1) 0 [] 1::aI (Sl.v v68) true 0 0 [0] [(73,(iV a1))]::aI (pV a0) false 0 1 [] [(0,(pV a0))]::aI (pV (some p39)) false 0 1 [2] [(75,(pV a0))]::aI (pV (some (p39.add 4))) false 0 1 [2,3] [(76,(pV (some p39)))]::aI (pV (some ((p39.add 4).add 0))) false 0 1 [2,3,4] [(77,(pV (some (p39.add 4))))]::aI (iV v71) false 0 1 (rn 2 4) [(78,(pV (some ((p39.add 4).add 0))))]::aI (Sl.v v73) true 1 1 (rn 0 7) [(79,(iV v71))]::aI (Sl.v s76) true 2 2 (rn 0 8) [(74,(Sl.v v68)),(80,(Sl.v v73))]::aS (Sl.v s76) 3 (rn 0 9) 81::[])) (W:=(fun j=>match j with | 0=>w66 | 1=>w69 | 2=>w74 | 3=>w77 | _=>w77)) (by kernel_rfl) u (cY e67) (by kernel_rfl) ?_ (aR (by kernel_rfl)) (by kernel_rfl) (m:=3) (by kernel_rfl) (fun a u=>?_)
    .refine⟨oa (aC · rfl),oc 0 (kd (dc1 · rfl Try.call125 (iG e70))),oa (aC · rfl),oa (aH · rfl e40),oa (aK · rfl aGP rfl rfl aHd),oa (aK · rfl aGM rfl rfl aGL),?_,oc 1 (kd (dc1 · rfl Try.call125 (iG e75))),oc 2 (kd (iF · rfl rfl e78)),oa (bD · rfl),aLz⟩;intro j h1 h2;have h1:0<=j:=h1;have h2:j<=1:=h2;rcases(by omega:j=0\/j=1) with rfl | rfl
     .exact kd (aJ · rfl aGN (aQ e79))
     exact kd (aJ · rfl aGN (aQ e72))
    have u:Has 94 [(0,(pV a0)),(6,(iV v6)),(11,(Sl.v s76))] a:=u.sb rfl;refine t_n<|?_;obtain⟨w80,e81,h⟩:=h;obtain⟨v82,e83,h⟩:=h;obtain⟨v84,w85,e86,h⟩:=h;obtain⟨v87,w88,e89,h⟩:=h;obtain⟨v90,w91,e92,h⟩:=h;obtain⟨e93,h⟩:=h;obtain⟨e94,h⟩:=h;have u:Has 94 [(0,(pV a0)),(6,(iV v6)),(11,(Sl.v s76))] a:=u.sb rfl;refine aM (n:=94) (ds:=(aI (pV a0) false 0 2 [] [(0,(pV a0))]::aI (pV (some p39)) false 0 2 [0] [(82,(pV a0))]::aI (pV (some (p39.add 0))) false 0 2 [0,1] [(83,(pV (some p39)))]::aI (pV v82) false 0 2 [0,1,2] [(84,(pV (some (p39.add 0))))]::aS (pV a0) 0 [] 0::aS (iV v6) 0 [] 6::aI (iV v84) true 0 0 [4,5] [(86,(pV a0)),(87,(iV v6))]::aI (Sl.v s76) false 0 1 [] [(11,(Sl.v s76))]::aI (Sl.v v87) true 1 1 (rn 4 4) [(89,(Sl.v s76))]::aI (iV v90) true 2 2 (rn 0 9) [(85,(pV v82)),(88,(iV v84)),(90,(Sl.v v87))]::aS (iV v90) 3 (rn 0 10) 91::[])) (W:=(fun j=>match j with | 0=>w80 | 1=>w85 | 2=>w88 | 3=>w91 | _=>w91)) (by kernel_rfl) u (cY e81) (by kernel_rfl) ?_ (aR (by kernel_rfl)) (by kernel_rfl) (m:=3) (by kernel_rfl) (fun a u=>?_)
    .refine⟨oa (aC · rfl),oa (aH · rfl e40),oa (aK · rfl aGP rfl rfl aHp),?_,oa (aC · rfl),oa (aC · rfl),oc 0 (kd (dc3 · rfl rfl rfl Try.call116 (eS e86))),oa (aC · rfl),oc 1 (kd (dc3 · rfl rfl rfl Try.call127 (gV e89))),oc 2 (kd (dc3 · rfl rfl rfl Try.call89 (cL e92))),oa (bD · rfl),aLz⟩;intro j h1 h2;have h1:0<=j:=h1;have h2:j<=2:=h2;rcases(by omega:j=0\/j=1\/j=2) with rfl | rfl | rfl
     .exact kd (aJ · rfl aHi (bA e83))
     .exact kd (aJ · rfl aHi (bA e93))
     exact kd (aJ · rfl aHi (bA e94))
    have u:Has 94 [(6,(iV v6)),(10,(iV v90))] a:=u.sb rfl;exact hk64 (v90,w91) h _ (u.sb rfl)
   refine wp_skip<|?_;exact hk64 (v51,w52) h _ (u.sb rfl)
  refine wp_seq<|aA<|qm u rfl fun a u=>q u (gD u rfl rfl) fun a u=>aB<|t_n<|?_;refine aX u rfl h (fun b55 h=>?_) (fun b55 h=>?_)
  .refine aA<|qm u rfl fun a u=>q u (aH u rfl e40) fun a u=>q u (aK u rfl aGP rfl rfl aHp) fun a u=>?_;obtain⟨v56,e57,h⟩:=h;refine q u (aJ u rfl aHi (bA e57)) fun a u=>?_;obtain⟨v58,w59,e60,h⟩:=h;refine q u (dc1 u rfl Try.call76 (eR e60)) fun a u=>qa u rfl fun a u=>aB<|?_;exact hk54 (v58,w59) h _ (u.sb rfl)
  refine wp_skip<|?_;exact hk54 (v48,w49) h _ (u.sb rfl)
 clear h;intro hX95;rintro⟨x1,x2,w3⟩ a wq ⟨u,hwq⟩ h;obtain rfl:w3=wq:=hwq.symm;have u:Has 94 [(6,(iV x1)),(7,(iV x2)),(0,(pV a0)),(1,(iV a1))] a:=u;have h:(dI a0 x1 x2 w3).t _:=h;unfold dI at h;refine wp_seq<|wp_seq<|aA<|qm u rfl fun a u=>qm u rfl fun a u=>?_;obtain⟨p10,e11,h⟩:=h;refine q u (aH u rfl e11) fun a u=>q u (aK u rfl aGP rfl rfl aHd) fun a u=>q u (aK u rfl aGM rfl rfl aHb) fun a u=>?_;obtain⟨v12,e13,h⟩:=h;refine q u (aJ u rfl aHc (aV e13)) fun a u=>q u (aZ u rfl aGR) fun a u=>q u (dK u rfl rfl) fun a u=>aB<|t_n<|?_;refine aX u rfl h (fun b14 h=>?_) (fun b14 h=>?_)
 .refine wp_skip<|t_n<|wp_seq<|wp_block<|wp_seq<|aA<|qa u rfl fun a u=>aB<|t_n<|wp_block<|?_;refine lE (n:=94) (Lr:=fun i=>[(6,(iV i.1)),(0,(pV a0)),(1,(iV a1)),(7,(iV x2))]) (wr:=fun i=>i.2) (e:=.exit 2) (I:=fun (s:Int×Int×World) a w=>Has 94 [(6,(iV s.1)),(8,(iV s.2.1)),(0,(pV a0)),(1,(iV a1)),(7,(iV x2))] a/\w=s.2.2) (un2 h) ⟨u.sub ⟨rfl,rfl,rfl,rfl,rfl,aLz⟩,rfl⟩ (fun i h a u=>?_) (fun hk22=>?_)
  .obtain⟨v20,w21⟩:=i;have u:Has 94 [(6,(iV v20)),(0,(pV a0)),(1,(iV a1)),(7,(iV x2))] a:=u;refine eC<|b_n<|t_n<|aA<|qm u rfl fun a u=>q u (bJ u rfl rfl) fun a u=>qa u rfl fun a u=>aB<|?_;exact⟨(v20,(IntKind.wrap .i64 (x2+1)),w21),⟨u.sb rfl,rfl⟩,h⟩
  clear h;intro hX36;rintro⟨x15,x16,w17⟩ a wq ⟨u,hwq⟩ h;obtain rfl:w17=wq:=hwq.symm;have u:Has 94 [(6,(iV x15)),(8,(iV x16)),(0,(pV a0)),(1,(iV a1)),(7,(iV x2))] a:=u;have h:(dJ a0 x15 x16 w17).t _:=h;unfold dJ at h;refine wp_seq<|wp_seq<|aA<|qm u rfl fun a u=>qm u rfl fun a u=>?_;obtain⟨p24,e25,h⟩:=h;refine q u (aH u rfl e25) fun a u=>q u (aK u rfl aGP rfl rfl aHd) fun a u=>q u (aK u rfl aGM rfl rfl aHb) fun a u=>?_;obtain⟨v26,e27,h⟩:=h;refine q u (aJ u rfl aHc (aV e27)) fun a u=>q u (aZ u rfl aGR) fun a u=>q u (dK u rfl rfl) fun a u=>aB<|t_n<|?_;refine aX u rfl h (fun b28 h=>?_) (fun b28 h=>?_)
  .refine wp_skip<|t_n<|wp_seq<|wp_block<|wp_seq<|aA<|qm u rfl fun a u=>q u (aH u rfl e25) fun a u=>q u (aK u rfl aGP rfl rfl aHd) fun a u=>q u (aK u rfl aGM rfl rfl aHb) fun a u=>?_;obtain⟨v29,e30,h⟩:=h;refine q u (aJ u rfl aHc (aV e30)) fun a u=>qm u rfl fun a u=>?_;obtain⟨p31,e32,h⟩:=h;refine q u (bZ u rfl rfl aGR aHg e32) fun a u=>q u (aK u rfl aHf rfl rfl aGL) fun a u=>?_;obtain⟨v33,e34,h⟩:=h;refine q u (aJ u rfl aGN (aQ e34)) fun a u=>qm u rfl fun a u=>q u (gD u rfl rfl) fun a u=>aB<|t_n<|?_;refine aX u rfl h (fun b35 h=>?_) (fun b35 h=>?_)
   .refine wp_seq<|aA<|qm u rfl fun a u=>q u (bJ u rfl rfl) fun a u=>qa u rfl fun a u=>aB<|t_n<|wp_exit<|b_x (by decide)<|t_x<|t_x<|?_;exact hk22 ((IntKind.wrap .i64 (x15+1)),w17) h _ (u.sb rfl)
   refine wp_skip<|b_n<|t_n<|aA<|qm u rfl fun a u=>q u (bJ u rfl rfl) fun a u=>qa u rfl fun a u=>aB<|?_;exact⟨(x15,(IntKind.wrap .i64 (x16+1)),w17),⟨u.sb rfl,rfl⟩,h⟩
  refine wp_exit<|t_x<|t_x<|?_;exact hk22 (x15,w17) h _ (u.sb rfl)
 refine wp_exit<|t_x<|t_x<|?_;exact hk8 (x1,w3) h _ (u.sb rfl)
def dA (v24:Int) (s19:Sl) (a0:Option Addr) (v66:Int) (v67:Int) (x81:Int) (w82:World):ND ((Int×World)⊕((World)⊕(Int×World))) :=
 if (decide (x81<v24))=true then
 (lb1 (slS s19 (IntKind.wrap .i64 (59*x81)) (s19.n:Int) (s19.c:Int) 1) fun s92 =>
 cb2 (if (decide (59<(s92.n:Int)))=true then
 (lb1 (slS s92 0 59 (s92.c:Int) 1) fun s99 =>
 aU (s99,w82))
 else
 (aU (s92,w82))) fun v94 w95 =>
 cb2 (if (x81==0)=true then
 (aU (2,w95))
 else
 (aU (3,w95))) fun v101 w102 =>
 lb1 (dr w102) fun w106 =>
 lb1 (a0) fun p108 =>
 lb1 (ldP w106 (p108.add 0)) fun v110 =>
 lb2 (cE a0 v66 (IntKind.wrap .i64 (v67+x81)) w106) fun v112 w113 =>
 lb2 (eN v101 v94 (x81==(IntKind.wrap .i64 (v24-1))) w113) fun v115 w116 =>
 lb2 (bE v110 v112 v115 w116) fun v118 w119 =>
 nck (ldP w113 (p108.add 0)=some v110) <|
 nck (ldP w116 (p108.add 0)=some v110) <|
 if (v118 !=0)=true then
 (aU (.inr (.inr (v118,w119))))
 else
 (aU (.inl ((IntKind.wrap .i64 (x81+1)),w119))))
 else
 (aU (.inr (.inl w82)))
noncomputable def fN (a0:Option Addr) (a1:Int) (a2:Sl) (w:World):ND (Int×World) :=
 lb2 (eA a0 w) fun v1 w2 =>
 if (v1 !=0)=true then
 (aU (v1,w2))
 else
 (if (decide (400<(a2.n:Int)))=true then
 (aU (6,w2))
 else
 (cb2 (lb1 (a0) fun p10 =>
 lb1 (ldI .i64 w2 ((p10.add 4).add 0)) fun v12 =>
 if (decide (a1<=v12))=true then
 (aU (true,w2))
 else
 (aU ((decide (1099511627776<a1)),w2))) fun v6 w7 =>
 if v6=true then
 (aU (14,w7))
 else
 (lb2 (dE a1 w7) fun v16 w17 =>
 lb2 (apS Try.prog 72 v16 a2 w17) fun s19 w20 =>
 lb1 (dvI .i64 (s19.n:Int) 59) fun v22 =>
 cb2 (lb1 (rmI (s19.n:Int) 59) fun v28 =>
 if (decide (0<v28))=true then
 (aU ((IntKind.wrap .i64 (v22+1)),w20))
 else
 (aU (v22,w20))) fun v24 w25 =>
 cb4 (lb1 (a0) fun p37 =>
 lb1 (ldL w25 ((p37.add 4).add 2)) fun v39 =>
 if (decide (0<(v39.n:Int)))=true then
 (lb1 (dr w25) fun w42 =>
 lb1 (ldL w42 ((p37.add 4).add 2)) fun v44 =>
 lb1 (ldL w42 ((p37.add 4).add 2)) fun v46 =>
 lb1 (ix v44 (IntKind.wrap .i64 ((v46.n:Int)-1)) 4) fun p48 =>
 lb1 (ldA 4 w42 p48 0) fun c50 =>
 lb2 (mk w42 136 (List.replicate 4 (.int .i64 0))) fun p52 w53 =>
 lb1 (stA w53 p52 0 c50) fun w55 =>
 nck (ldL w53 ((p37.add 4).add 2)=some v44) <|
 nck (ldL w53 ((p37.add 4).add 2)=some v46) <|
 nck (ldA 4 w53 p48 0=some c50) <|
 lb1 (ldI .i64 w55 (p52.add 0)) fun v60 =>
 lb1 (ldI .i64 w55 (p52.add 2)) fun v62 =>
 lb1 (ldI .i64 w55 (p52.add 1)) fun v64 =>
 aU (v60,v62,(IntKind.wrap .i64 (v64+1)),w55))
 else
 (aU (0,17,1,w25))) fun v31 v32 v33 w34 =>
 cbX (if (decide (16<(IntKind.wrap .i64 (v32+v24))))=true then
 (cb3 (gB a0 v33 w34) fun v75 v76 w77 =>
 if (v76 !=0)=true then
 (cb1 (aU (v76,w77)) fun g73=>aU (.inl g73))
 else
 (aU (.inr (v75,1,w77))))
 else
 (aU (.inr (v31,v32,w34)))) fun (i:Int×Int×World)=>u3 i fun v66 v67 w68 =>
 cb1 (fB (fun s:Int×World=>dA v24 s19 a0 v66 v67 s.1 s.2) (0,w68)) fun r83=>Sum.elim (fun (i:World)=>u1 i fun w85 =>
 cb1 (if (decide (16<(IntKind.wrap .i64 (v32+v24))))=true then
 (lb1 (a0) fun p128 =>
 lb1 (ldL w85 ((p128.add 4).add 2)) fun v130 =>
 lb2 (bsl w85 136 4 [([.int .i64 v66,.int .i64 v33,.int .i64 0,.int .i64 0])]) fun s132 w133 =>
 lb2 (apS Try.prog 128 v130 s132 w133) fun s135 w136 =>
 lb1 (stV w136 ((p128.add 4).add 2) (Sl.v s135)) fun w138 =>
 aU w138)
 else
 (aU w85)) fun w124 =>
 lb1 (dr w124) fun w140 =>
 lb1 (a0) fun p142 =>
 lb1 (ldL w140 ((p142.add 4).add 2)) fun v144 =>
 lb1 (ldL w140 ((p142.add 4).add 2)) fun v146 =>
 lb1 (ix v144 (IntKind.wrap .i64 ((v146.n:Int)-1)) 4) fun p148 =>
 lb1 (stV w140 (p148.add 2) (.int .i64 (IntKind.wrap .i64 (v67+v24)))) fun w150 =>
 lb1 (dr w150) fun w152 =>
 lb1 (ldL w152 ((p142.add 4).add 2)) fun v154 =>
 lb1 (ldL w152 ((p142.add 4).add 2)) fun v156 =>
 lb1 (ix v154 (IntKind.wrap .i64 ((v156.n:Int)-1)) 4) fun p158 =>
 lb1 (stV w152 (p158.add 3) (.int .i64 a1)) fun w160 =>
 lb1 (stV w160 ((p142.add 4).add 0) (.int .i64 a1)) fun w162 =>
 lb1 (dr w162) fun w164 =>
 lb1 (ldL w164 ((p142.add 4).add 3)) fun v166 =>
 lb2 (bsl w164 5 1 []) fun s168 w169 =>
 lb2 (apS Try.prog 72 s168 a2 w169) fun s171 w172 =>
 lb2 (bsl w172 87 2 [([.int .i64 a1,Sl.v s171])]) fun s174 w175 =>
 lb2 (apS Try.prog 74 v166 s174 w175) fun s177 w178 =>
 lb1 (stV w178 ((p142.add 4).add 3) (Sl.v s177)) fun w180 =>
 nck (ldL w169 ((p142.add 4).add 3)=some v166) <|
 nck (ldL w172 ((p142.add 4).add 3)=some v166) <|
 nck (ldL w175 ((p142.add 4).add 3)=some v166) <|
 aU (0,w180)) (fun (i:Int×World)=>u2 i fun v86 w87 =>
 aU (v86,w87)) r83)))
theorem oD {a0 a1 a2 w Q} (h:(fN a0 a1 a2 w).t Q):Calls Try.prog 92 #[(.pointer a0),(.int .i64 a1),(Sl.v a2)] w fun e w''=>∃ i,e=.returned (.int .i64 i.1)/\Q i/\w''=i.2:=by
 refine aP (n:=200) Try.func92 rfl Try.ntmps92 (by simp) fun a u=>?_;unfold fN at h;refine wp_seq<|aA<|qa u rfl fun a u=>aB<|t_n<|wp_seq<|aA<|qm u rfl fun a u=>?_;obtain⟨v1,w2,e3,h⟩:=h;refine q u (dc1 u rfl Try.call124 (jR e3)) fun a u=>qa u rfl fun a u=>aB<|t_n<|wp_seq<|wp_seq<|aA<|qm u rfl fun a u=>q u (fJ u rfl rfl) fun a u=>aB<|t_n<|?_;refine aX u rfl h (fun b4 h=>?_) (fun b4 h=>?_)
 .refine wp_seq<|aA<|qm u rfl fun a u=>qa u rfl fun a u=>aB<|t_n<|wp_ret<|t_r<|?_;exact bI Try.results92 u rfl ⟨(v1,w2),rfl,h,rfl⟩
 refine wp_skip<|t_n<|wp_seq<|wp_seq<|aA<|qm u rfl fun a u=>q u (aZ u rfl aGK) fun a u=>q u (gF u rfl rfl) fun a u=>aB<|t_n<|?_;refine aX u rfl h (fun b5 h=>?_) (fun b5 h=>?_)
 .refine wp_seq<|aA<|qa u rfl fun a u=>aB<|t_n<|wp_ret<|t_r<|?_;exact bI Try.results92 u rfl ⟨(6,w2),rfl,h,rfl⟩
 refine wp_skip<|t_n<|wp_seq<|wp_seq<|?_;refine dD (n:=200) (ι:=Bool×World) (Lf:=fun i=>[(38,(bV i.1)),(0,(pV a0)),(1,(iV a1)),(2,(Sl.v a2))]) (wf:=fun i=>i.2) (un2 h) (fun i h a u=>?_) (fun h hk9=>?_)
 .obtain⟨v6,w7⟩:=i;have u:Has 200 [(38,(bV v6)),(0,(pV a0)),(1,(iV a1)),(2,(Sl.v a2))] a:=u;refine t_n<|?_;refine aX u rfl h (fun b15 h=>?_) (fun b15 h=>?_)
  .refine wp_seq<|aA<|qa u rfl fun a u=>aB<|t_n<|wp_ret<|t_r<|?_;exact bI Try.results92 u rfl ⟨(14,w7),rfl,h,rfl⟩
  refine wp_skip<|t_n<|wp_seq<|aA<|qm u rfl fun a u=>?_;obtain⟨v16,w17,e18,h⟩:=h;refine q u (dc1 u rfl Try.call125 (iG e18)) fun a u=>qm u rfl fun a u=>?_;obtain⟨s19,w20,e21,h⟩:=h;refine q u (iF u rfl rfl e21) fun a u=>qa u rfl fun a u=>aB<|t_n<|wp_seq<|aA<|qm u rfl fun a u=>q u (aZ u rfl aGK) fun a u=>?_;obtain⟨v22,e23,h⟩:=h;refine q u (aAl u rfl rfl e23) fun a u=>qa u rfl fun a u=>aB<|t_n<|?_;refine gJ (n:=200) (ι:=Int×World) (Lf:=fun i=>[(9,(iV i.1)),(0,(pV a0)),(1,(iV a1)),(2,(Sl.v a2)),(8,(Sl.v s19))]) (wf:=fun i=>i.2) (un2 h) (fun i h a u=>?_) (fun h hk27=>?_)
  .obtain⟨v24,w25⟩:=i;have u:Has 200 [(9,(iV v24)),(0,(pV a0)),(1,(iV a1)),(2,(Sl.v a2)),(8,(Sl.v s19))] a:=u;refine wp_seq<|aA<|qa u rfl fun a u=>aB<|t_n<|wp_seq<|aA<|qa u rfl fun a u=>aB<|t_n<|wp_seq<|aA<|qa u rfl fun a u=>aB<|t_n<|?_;refine gJ (n:=200) (ι:=Int×Int×Int×World) (Lf:=fun i=>[(10,(iV i.1)),(11,(iV i.2.1)),(12,(iV i.2.2.1)),(0,(pV a0)),(1,(iV a1)),(2,(Sl.v a2)),(8,(Sl.v s19)),(9,(iV v24))]) (wf:=fun i=>i.2.2.2) (un4 h) (fun i h a u=>?_) (fun h hk36=>?_)
   .obtain⟨v31,v32,v33,w34⟩:=i;have u:Has 200 [(10,(iV v31)),(11,(iV v32)),(12,(iV v33)),(0,(pV a0)),(1,(iV a1)),(2,(Sl.v a2)),(8,(Sl.v s19)),(9,(iV v24))] a:=u;refine wp_seq<|aA<|qm u rfl fun a u=>qm u rfl fun a u=>q u (bJ u rfl rfl) fun a u=>q u (gF u rfl rfl) fun a u=>qa u rfl fun a u=>aB<|t_n<|?_;refine mU (n:=200) (ι:=Int×Int×World) (Lf:=fun i=>[(10,(iV i.1)),(11,(iV i.2.1)),(0,(pV a0)),(1,(iV a1)),(2,(Sl.v a2)),(8,(Sl.v s19)),(9,(iV v24)),(12,(iV v33)),(14,(bV (decide (16<(IntKind.wrap .i64 (v32+v24))))))]) (wf:=fun i=>i.2.2) (unX h) (fun i h a u=>?_) (fun h hk72=>?_)
    .obtain⟨v66,v67,w68⟩:=i
     try dsimp only[Sum.elim_inl,Sum.elim_inr,u1,u2,u3,u4,u5,u6] at h
     have u:Has 200 [(10,(iV v66)),(11,(iV v67)),(0,(pV a0)),(1,(iV a1)),(2,(Sl.v a2)),(8,(Sl.v s19)),(9,(iV v24)),(12,(iV v33)),(14,(bV (decide (16<(IntKind.wrap .i64 (v32+v24))))))] a:=u;refine wp_seq<|wp_seq<|aA<|qa u rfl fun a u=>aB<|t_n<|wp_block<|?_;refine sW (n:=200) (L1:=fun i=>[(0,(pV a0)),(1,(iV a1)),(2,(Sl.v a2)),(9,(iV v24)),(10,(iV v66)),(11,(iV v67)),(12,(iV v33)),(14,(bV (decide (16<(IntKind.wrap .i64 (v32+v24))))))]) (w1:=fun i=>i) (L2:=fun i=>[(6,(iV i.1))]) (w2:=fun i=>i.2) (e1:=.exit 0) (e2:=.ret) (I:=fun (s:Int×World) a w=>Has 200 [(17,(iV s.1)),(0,(pV a0)),(1,(iV a1)),(2,(Sl.v a2)),(8,(Sl.v s19)),(9,(iV v24)),(10,(iV v66)),(11,(iV v67)),(12,(iV v33)),(14,(bV (decide (16<(IntKind.wrap .i64 (v32+v24))))))] a/\w=s.2) (un1 h) ⟨u.sub ⟨rfl,rfl,rfl,rfl,rfl,rfl,rfl,rfl,rfl,rfl,aLz⟩,rfl⟩ (fun i h a u=>?_) (fun i h a u=>?_) (fun hk88 hk89=>?_)
     .obtain⟨w85,rfl⟩:∃ x,x=i:=⟨i,rfl⟩
      try dsimp only[Sum.elim_inl,Sum.elim_inr,u1,u2,u3,u4,u5,u6] at h
      have u:Has 200 [(0,(pV a0)),(1,(iV a1)),(2,(Sl.v a2)),(9,(iV v24)),(10,(iV v66)),(11,(iV v67)),(12,(iV v33)),(14,(bV (decide (16<(IntKind.wrap .i64 (v32+v24))))))] a:=u;refine eC<|t_n<|?_;refine gJ (n:=200) (ι:=World) (Lf:=fun i=>[(0,(pV a0)),(1,(iV a1)),(2,(Sl.v a2)),(9,(iV v24)),(11,(iV v67))]) (wf:=fun i=>i) (un1 h) (fun i h a u=>?_) (fun h hk126=>?_)
      .obtain⟨w124,rfl⟩:∃ x,x=i:=⟨i,rfl⟩;have u:Has 200 [(0,(pV a0)),(1,(iV a1)),(2,(Sl.v a2)),(9,(iV v24)),(11,(iV v67))] a:=u;refine wp_seq<|?_;obtain⟨w140,e141,h⟩:=h;obtain⟨p142,e143,h⟩:=h;obtain⟨v144,e145,h⟩:=h;obtain⟨v146,e147,h⟩:=h;obtain⟨p148,e149,h⟩:=h;obtain⟨w150,e151,h⟩:=h;have u:Has 200 [(0,(pV a0)),(1,(iV a1)),(2,(Sl.v a2)),(9,(iV v24)),(11,(iV v67))] a:=u.sb rfl;refine aM (n:=200) (ds:=(aS (pV a0) 0 [] 0::aG (pV (some p142)) 0 [0] 147 (pV a0)::aG (pV (some (p142.add 4))) 0 [0,1] 148 (pV (some p142))::aG (pV (some ((p142.add 4).add 2))) 0 [0,1,2] 149 (pV (some (p142.add 4)))::aG (Sl.v v144) 0 (rn 0 4) 150 (pV (some ((p142.add 4).add 2)))::aS (pV a0) 0 [] 0::aG (pV (some p142)) 0 [5] 152 (pV a0)::aG (pV (some (p142.add 4))) 0 [5,6] 153 (pV (some p142))::aG (pV (some ((p142.add 4).add 2))) 0 [5,6,7] 154 (pV (some (p142.add 4)))::aG (Sl.v v146) 0 (rn 5 4) 155 (pV (some ((p142.add 4).add 2)))::aG (iV (v146.n:Int)) 0 (rn 5 5) 156 (Sl.v v146)::aG (iV (IntKind.wrap .i64 ((v146.n:Int)-1))) 0 (rn 5 6) 157 (iV (v146.n:Int))::aS (iV v67) 0 [] 11::aS (iV v24) 0 [] 9::aT (iV (IntKind.wrap .i64 (v67+v24))) 0 [12,13] [(159,(iV v67)),(160,(iV v24))]::aT (pV (some p148)) 0 (rn 0 15) [(151,(Sl.v v144)),(158,(iV (IntKind.wrap .i64 ((v146.n:Int)-1))))]::aG (pV (some (p148.add 2))) 0 (rn 0 16) 162 (pV (some p148))::aI (undef) true 0 0 (rn 0 17) [(163,(pV (some (p148.add 2)))),(161,(iV (IntKind.wrap .i64 (v67+v24))))]::[])) (W:=(fun j=>match j with | 0=>w140 | 1=>w150 | _=>w150)) (by kernel_rfl) u (cY e141) (by kernel_rfl) ?_ (aR (by kernel_rfl)) (by kernel_rfl) (m:=1) (by kernel_rfl) (fun a u=>?_)
       .exact⟨oa (aC · rfl),oa (aH · rfl e143),oa (aK · rfl aGP rfl rfl aHd),oa (aK · rfl aGM rfl rfl aHb),oc 0 (kd (aJ · rfl aHc (aV e145))),oa (aC · rfl),oa (aH · rfl e143),oa (aK · rfl aGP rfl rfl aHd),oa (aK · rfl aGM rfl rfl aHb),oc 0 (kd (aJ · rfl aHc (aV e147))),oa (aZ · rfl aGR),oa (iB · rfl rfl),oa (aC · rfl),oa (aC · rfl),oa (bJ · rfl rfl),oa (bZ · rfl rfl aGR aHg e149),oa (aK · rfl aHf rfl rfl aGL),oc 0 (kd (fO · rfl rfl aGL e151)),aLz⟩
       have u:Has 200 [(0,(pV a0)),(1,(iV a1)),(2,(Sl.v a2))] a:=u.sb rfl;refine t_n<|wp_seq<|?_;obtain⟨w152,e153,h⟩:=h;obtain⟨v154,e155,h⟩:=h;obtain⟨v156,e157,h⟩:=h;obtain⟨p158,e159,h⟩:=h;obtain⟨w160,e161,h⟩:=h;have u:Has 200 [(0,(pV a0)),(1,(iV a1)),(2,(Sl.v a2))] a:=u.sb rfl;refine aM (n:=200) (ds:=(aS (pV a0) 0 [] 0::aG (pV (some p142)) 0 [0] 164 (pV a0)::aG (pV (some (p142.add 4))) 0 [0,1] 165 (pV (some p142))::aG (pV (some ((p142.add 4).add 2))) 0 [0,1,2] 166 (pV (some (p142.add 4)))::aG (Sl.v v154) 0 (rn 0 4) 167 (pV (some ((p142.add 4).add 2)))::aS (pV a0) 0 [] 0::aG (pV (some p142)) 0 [5] 169 (pV a0)::aG (pV (some (p142.add 4))) 0 [5,6] 170 (pV (some p142))::aG (pV (some ((p142.add 4).add 2))) 0 [5,6,7] 171 (pV (some (p142.add 4)))::aG (Sl.v v156) 0 (rn 5 4) 172 (pV (some ((p142.add 4).add 2)))::aG (iV (v156.n:Int)) 0 (rn 5 5) 173 (Sl.v v156)::aG (iV (IntKind.wrap .i64 ((v156.n:Int)-1))) 0 (rn 5 6) 174 (iV (v156.n:Int))::aS (iV a1) 0 [] 1::aT (pV (some p158)) 0 (rn 0 13) [(168,(Sl.v v154)),(175,(iV (IntKind.wrap .i64 ((v156.n:Int)-1))))]::aG (pV (some (p158.add 3))) 0 (rn 0 14) 177 (pV (some p158))::aI (undef) true 0 0 (rn 0 15) [(178,(pV (some (p158.add 3)))),(176,(iV a1))]::[])) (W:=(fun j=>match j with | 0=>w152 | 1=>w160 | _=>w160)) (by kernel_rfl) u (cY e153) (by kernel_rfl) ?_ (aR (by kernel_rfl)) (by kernel_rfl) (m:=1) (by kernel_rfl) (fun a u=>?_)
       .exact⟨oa (aC · rfl),oa (aH · rfl e143),oa (aK · rfl aGP rfl rfl aHd),oa (aK · rfl aGM rfl rfl aHb),oc 0 (kd (aJ · rfl aHc (aV e155))),oa (aC · rfl),oa (aH · rfl e143),oa (aK · rfl aGP rfl rfl aHd),oa (aK · rfl aGM rfl rfl aHb),oc 0 (kd (aJ · rfl aHc (aV e157))),oa (aZ · rfl aGR),oa (iB · rfl rfl),oa (aC · rfl),oa (bZ · rfl rfl aGR aHg e159),oa (aK · rfl aHf rfl rfl aGL),oc 0 (kd (fO · rfl rfl aGL e161)),aLz⟩
       have u:Has 200 [(0,(pV a0)),(1,(iV a1)),(2,(Sl.v a2))] a:=u.sb rfl;refine t_n<|wp_seq<|aA<|qm u rfl fun a u=>qm u rfl fun a u=>q u (aH u rfl e143) fun a u=>q u (aK u rfl aGP rfl rfl aHd) fun a u=>q u (aK u rfl aGM rfl rfl aGL) fun a u=>?_;obtain⟨w162,e163,h⟩:=h;refine q u (fO u rfl rfl aGL e163) fun a u=>aB<|t_n<|wp_seq<|?_;obtain⟨w164,e165,h⟩:=h;obtain⟨v166,e167,h⟩:=h;obtain⟨s168,w169,e170,h⟩:=h;obtain⟨s171,w172,e173,h⟩:=h;obtain⟨s174,w175,e176,h⟩:=h;obtain⟨s177,w178,e179,h⟩:=h;obtain⟨w180,e181,h⟩:=h;obtain⟨e182,h⟩:=h;obtain⟨e183,h⟩:=h;obtain⟨e184,h⟩:=h;have u:Has 200 [(0,(pV a0)),(1,(iV a1)),(2,(Sl.v a2))] a:=u.sb rfl;refine aM (n:=200) (ds:=(aI (pV a0) false 0 4 [] [(0,(pV a0))]::aI (pV a0) false 0 3 [] [(0,(pV a0))]::aI (pV (some p142)) false 0 3 [1] [(185,(pV a0))]::aI (pV (some (p142.add 4))) false 0 3 [1,2] [(186,(pV (some p142)))]::aI (pV (some ((p142.add 4).add 3))) false 0 3 [1,2,3] [(187,(pV (some (p142.add 4))))]::aI (Sl.v v166) false 0 3 (rn 1 4) [(188,(pV (some ((p142.add 4).add 3))))]::aI (iV a1) false 0 2 [] [(1,(iV a1))]::aI (Sl.v s168) true 0 0 [] []::aI (Sl.v a2) false 0 1 [] [(2,(Sl.v a2))]::aI (Sl.v s171) true 1 1 [7,8] [(191,(Sl.v s168)),(192,(Sl.v a2))]::aT (.agg (List.toArray ([.int .i64 a1,Sl.v s171]))) 2 (rn 6 4) [(190,(iV a1)),(193,(Sl.v s171))]::aI (Sl.v s174) true 2 2 (rn 6 5) [(194,(.agg (List.toArray ([.int .i64 a1,Sl.v s171]))))]::aI (Sl.v s177) true 3 3 (rn 1 11) [(189,(Sl.v v166)),(195,(Sl.v s174))]::aG (pV (some p142)) 4 (rn 0 13) 184 (pV a0)::aG (pV (some (p142.add 4))) 4 (rn 0 14) 197 (pV (some p142))::aG (pV (some ((p142.add 4).add 3))) 4 (rn 0 15) 198 (pV (some (p142.add 4)))::aI (undef) true 4 4 (rn 0 16) [(199,(pV (some ((p142.add 4).add 3)))),(196,(Sl.v s177))]::[])) (W:=(fun j=>match j with | 0=>w164 | 1=>w169 | 2=>w172 | 3=>w175 | 4=>w178 | 5=>w180 | _=>w180)) (by kernel_rfl) u (cY e165) (by kernel_rfl) ?_ (aR (by kernel_rfl)) (by kernel_rfl) (m:=5) (by kernel_rfl) (fun a u=>?_)
       .refine⟨oa (aC · rfl),oa (aC · rfl),oa (aH · rfl e143),oa (aK · rfl aGP rfl rfl aHd),oa (aK · rfl aGM rfl rfl aHy),?_,oa (aC · rfl),oc 0 (kd (iK (vs:=[]) (ps:=[]) · trivial trivial rfl aGK aGT aHG (by decide) e170)),oa (aC · rfl),oc 1 (kd (iF · rfl rfl e173)),oa (dZ (vs:=[(0,(iV a1)),(1,(Sl.v s171))]) (pl:=#[(0,1),(1,1)]) (cs:=([.int .i64 a1,Sl.v s171])) · ⟨rfl,rfl,rfl,rfl,aLz⟩ aHh aHa (by intro w;kernel_rfl) (by kernel_rfl)),oc 2 (kd (iK (vs:=[(0,(.agg (List.toArray ([.int .i64 a1,Sl.v s171]))))]) (ps:=[([.int .i64 a1,Sl.v s171])]) · ⟨rfl,rfl,aLz⟩ ⟨rfl,rfl,aLz⟩ rfl aGY aHe aHh (by decide) e176)),oc 3 (kd (iF · rfl rfl e179)),oa (aH · rfl e143),oa (aK · rfl aGP rfl rfl aHd),oa (aK · rfl aGM rfl rfl aHy),oc 4 (kd (fO · rfl rfl aHy e181)),aLz⟩;intro j h1 h2;have h1:0<=j:=h1;have h2:j<=3:=h2;rcases(by omega:j=0\/j=1\/j=2\/j=3) with rfl | rfl | rfl | rfl
        .exact kd (aJ · rfl aHI (aV e167))
        .exact kd (aJ · rfl aHI (aV e182))
        .exact kd (aJ · rfl aHI (aV e183))
        exact kd (aJ · rfl aHI (aV e184))
       have u:Has 200 [] a:=u.sb rfl;refine t_n<|wp_seq<|aA<|qa u rfl fun a u=>aB<|t_n<|wp_ret<|?_;exact bI Try.results92 u rfl ⟨(0,w180),rfl,h,rfl⟩
      refine wp_seq<|aA<|qm u rfl fun a u=>aB<|t_n<|?_;refine aX u rfl h (fun b127 h=>?_) (fun b127 h=>?_)
      .refine aA<|qm u rfl fun a u=>qm u rfl fun a u=>?_;obtain⟨p128,e129,h⟩:=h;refine q u (aH u rfl e129) fun a u=>q u (aK u rfl aGP rfl rfl aHd) fun a u=>q u (aK u rfl aGM rfl rfl aHb) fun a u=>?_;obtain⟨v130,e131,h⟩:=h;refine q u (aJ u rfl aHc (aV e131)) fun a u=>qm u rfl fun a u=>qm u rfl fun a u=>q u (dZ (vs:=[(0,(iV v66)),(1,(iV v33))]) (pl:=#[(0,1),(1,1),(2,1),(3,1)]) (cs:=([.int .i64 v66,.int .i64 v33,.int .i64 0,.int .i64 0])) u ⟨rfl,rfl,rfl,rfl,aLz⟩ aHQ aHf (by intro w;kernel_rfl) (by kernel_rfl)) fun a u=>?_;obtain⟨s132,w133,e134,h⟩:=h;refine q u (iK (vs:=[(0,(.agg (List.toArray ([.int .i64 v66,.int .i64 v33,.int .i64 0,.int .i64 0]))))]) (ps:=[([.int .i64 v66,.int .i64 v33,.int .i64 0,.int .i64 0])]) u ⟨rfl,rfl,aLz⟩ ⟨rfl,rfl,aLz⟩ rfl aGR aHg aHQ (by decide) e134) fun a u=>?_;obtain⟨s135,w136,e137,h⟩:=h;refine q u (iF u rfl rfl e137) fun a u=>q u (aH u rfl e129) fun a u=>q u (aK u rfl aGP rfl rfl aHd) fun a u=>q u (aK u rfl aGM rfl rfl aHb) fun a u=>?_;obtain⟨w138,e139,h⟩:=h;refine q u (fO u rfl rfl aHb e139) fun a u=>aB<|?_;exact hk126 w138 h _ (u.sb rfl)
      refine wp_skip<|?_;exact hk126 w85 h _ (u.sb rfl)
     .obtain⟨v86,w87⟩:=i
      try dsimp only[Sum.elim_inl,Sum.elim_inr,u1,u2,u3,u4,u5,u6] at h
      have u:Has 200 [(6,(iV v86))] a:=u;refine b_r<|t_r<|?_;exact bI Try.results92 u rfl ⟨(v86,w87),rfl,h,rfl⟩
     clear h;intro hX185;rintro⟨x81,w82⟩ a wq ⟨u,hwq⟩ h;obtain rfl:w82=wq:=hwq.symm;have u:Has 200 [(17,(iV x81)),(0,(pV a0)),(1,(iV a1)),(2,(Sl.v a2)),(8,(Sl.v s19)),(9,(iV v24)),(10,(iV v66)),(11,(iV v67)),(12,(iV v33)),(14,(bV (decide (16<(IntKind.wrap .i64 (v32+v24))))))] a:=u;have h:(dA v24 s19 a0 v66 v67 x81 w82).t _:=h;unfold dA at h;refine wp_seq<|wp_seq<|aA<|qm u rfl fun a u=>qm u rfl fun a u=>q u (dK u rfl rfl) fun a u=>aB<|t_n<|?_;refine aX u rfl h (fun b91 h=>?_) (fun b91 h=>?_)
     .refine wp_skip<|t_n<|wp_seq<|wp_block<|wp_seq<|aA<|qm u rfl fun a u=>qm u rfl fun a u=>q u (oN u rfl rfl) fun a u=>?_;obtain⟨s92,e93,h⟩:=h;refine q u (oG u rfl aGK aGT ⟨_,rfl⟩ rfl rfl (by simp) e93) fun a u=>qa u rfl fun a u=>aB<|t_n<|?_;refine gJ (n:=200) (ι:=Sl×World) (Lf:=fun i=>[(18,(Sl.v i.1)),(0,(pV a0)),(1,(iV a1)),(2,(Sl.v a2)),(8,(Sl.v s19)),(9,(iV v24)),(10,(iV v66)),(11,(iV v67)),(12,(iV v33)),(14,(bV (decide (16<(IntKind.wrap .i64 (v32+v24)))))),(17,(iV x81))]) (wf:=fun i=>i.2) (un2 h) (fun i h a u=>?_) (fun h hk97=>?_)
      .obtain⟨v94,w95⟩:=i;have u:Has 200 [(18,(Sl.v v94)),(0,(pV a0)),(1,(iV a1)),(2,(Sl.v a2)),(8,(Sl.v s19)),(9,(iV v24)),(10,(iV v66)),(11,(iV v67)),(12,(iV v33)),(14,(bV (decide (16<(IntKind.wrap .i64 (v32+v24)))))),(17,(iV x81))] a:=u;refine wp_seq<|aA<|qa u rfl fun a u=>aB<|t_n<|?_;refine gJ (n:=200) (ι:=Int×World) (Lf:=fun i=>[(19,(iV i.1)),(0,(pV a0)),(1,(iV a1)),(2,(Sl.v a2)),(8,(Sl.v s19)),(9,(iV v24)),(10,(iV v66)),(11,(iV v67)),(12,(iV v33)),(14,(bV (decide (16<(IntKind.wrap .i64 (v32+v24)))))),(17,(iV x81)),(18,(Sl.v v94))]) (wf:=fun i=>i.2) (un2 h) (fun i h a u=>?_) (fun h hk104=>?_)
       .obtain⟨v101,w102⟩:=i;have u:Has 200 [(19,(iV v101)),(0,(pV a0)),(1,(iV a1)),(2,(Sl.v a2)),(8,(Sl.v s19)),(9,(iV v24)),(10,(iV v66)),(11,(iV v67)),(12,(iV v33)),(14,(bV (decide (16<(IntKind.wrap .i64 (v32+v24)))))),(17,(iV x81)),(18,(Sl.v v94))] a:=u;refine wp_seq<|?_;obtain⟨w106,e107,h⟩:=h;obtain⟨p108,e109,h⟩:=h;obtain⟨v110,e111,h⟩:=h;obtain⟨v112,w113,e114,h⟩:=h;obtain⟨v115,w116,e117,h⟩:=h;obtain⟨v118,w119,e120,h⟩:=h;obtain⟨e121,h⟩:=h;obtain⟨e122,h⟩:=h;have u:Has 200 [(0,(pV a0)),(1,(iV a1)),(2,(Sl.v a2)),(8,(Sl.v s19)),(9,(iV v24)),(10,(iV v66)),(11,(iV v67)),(12,(iV v33)),(14,(bV (decide (16<(IntKind.wrap .i64 (v32+v24)))))),(17,(iV x81)),(18,(Sl.v v94)),(19,(iV v101))] a:=u.sb rfl;refine aM (n:=200) (ds:=(aI (pV a0) false 0 2 [] [(0,(pV a0))]::aI (pV (some p108)) false 0 2 [0] [(111,(pV a0))]::aI (pV (some (p108.add 0))) false 0 2 [0,1] [(112,(pV (some p108)))]::aI (pV v110) false 0 2 [0,1,2] [(113,(pV (some (p108.add 0))))]::aS (pV a0) 0 [] 0::aS (iV v66) 0 [] 10::aS (iV v67) 0 [] 11::aS (iV x81) 0 [] 17::aT (iV (IntKind.wrap .i64 (v67+x81))) 0 [6,7] [(117,(iV v67)),(118,(iV x81))]::aI (iV v112) true 0 0 (rn 4 5) [(115,(pV a0)),(116,(iV v66)),(119,(iV (IntKind.wrap .i64 (v67+x81))))]::aI (iV v101) false 0 1 [] [(19,(iV v101))]::aI (Sl.v v94) false 0 1 [] [(18,(Sl.v v94))]::aI (iV x81) false 0 1 [] [(17,(iV x81))]::aI (iV v24) false 0 1 [] [(9,(iV v24))]::aI (iV (IntKind.wrap .i64 (v24-1))) false 0 1 [13] [(124,(iV v24))]::aI (bV (x81==(IntKind.wrap .i64 (v24-1)))) false 0 1 [12,13,14] [(123,(iV x81)),(125,(iV (IntKind.wrap .i64 (v24-1))))]::aI (Sl.v v115) true 1 1 (rn 4 12) [(121,(iV v101)),(122,(Sl.v v94)),(126,(bV (x81==(IntKind.wrap .i64 (v24-1)))))]::aI (iV v118) true 2 2 (rn 0 17) [(114,(pV v110)),(120,(iV v112)),(127,(Sl.v v115))]::aS (iV v118) 3 (rn 0 18) 128::[])) (W:=(fun j=>match j with | 0=>w106 | 1=>w113 | 2=>w116 | 3=>w119 | _=>w119)) (by kernel_rfl) u (cY e107) (by kernel_rfl) ?_ (aR (by kernel_rfl)) (by kernel_rfl) (m:=3) (by kernel_rfl) (fun a u=>?_)
        .refine⟨oa (aC · rfl),oa (aH · rfl e109),oa (aK · rfl aGP rfl rfl aHp),?_,oa (aC · rfl),oa (aC · rfl),oa (aC · rfl),oa (aC · rfl),oa (bJ · rfl rfl),oc 0 (kd (dc3 · rfl rfl rfl Try.call116 (eS e114))),oa (aC · rfl),oa (aC · rfl),oa (aC · rfl),oa (aC · rfl),oa (iB · rfl rfl),oa (gD · rfl rfl),oc 1 (kd (dc3 · rfl rfl rfl Try.call127 (gV e117))),oc 2 (kd (dc3 · rfl rfl rfl Try.call89 (cL e120))),oa (bD · rfl),aLz⟩;intro j h1 h2;have h1:0<=j:=h1;have h2:j<=2:=h2;rcases(by omega:j=0\/j=1\/j=2) with rfl | rfl | rfl
         .exact kd (aJ · rfl aHi (bA e111))
         .exact kd (aJ · rfl aHi (bA e121))
         exact kd (aJ · rfl aHi (bA e122))
        have u:Has 200 [(0,(pV a0)),(1,(iV a1)),(2,(Sl.v a2)),(7,(iV v118)),(8,(Sl.v s19)),(9,(iV v24)),(10,(iV v66)),(11,(iV v67)),(12,(iV v33)),(14,(bV (decide (16<(IntKind.wrap .i64 (v32+v24)))))),(17,(iV x81))] a:=u.sb rfl;refine t_n<|wp_seq<|aA<|qm u rfl fun a u=>q u (fJ u rfl rfl) fun a u=>aB<|t_n<|?_;refine aX u rfl h (fun b123 h=>?_) (fun b123 h=>?_)
        .refine wp_seq<|aA<|qm u rfl fun a u=>qa u rfl fun a u=>aB<|t_n<|wp_ret<|b_r<|t_r<|t_r<|?_;exact hk89 (v118,w119) h _ (u.sb rfl)
        refine wp_skip<|b_n<|t_n<|aA<|qm u rfl fun a u=>q u (bJ u rfl rfl) fun a u=>qa u rfl fun a u=>aB<|?_;exact⟨((IntKind.wrap .i64 (x81+1)),w119),⟨u.sb rfl,rfl⟩,h⟩
       refine wp_seq<|aA<|qm u rfl fun a u=>q u (gD u rfl rfl) fun a u=>aB<|t_n<|?_;refine aX u rfl h (fun b105 h=>?_) (fun b105 h=>?_)
       .refine aA<|qa u rfl fun a u=>aB<|?_;exact hk104 (2,w95) h _ (u.sb rfl)
       refine wp_skip<|?_;exact hk104 (3,w95) h _ (u.sb rfl)
      refine wp_seq<|aA<|qm u rfl fun a u=>q u (aZ u rfl aGK) fun a u=>q u (gF u rfl rfl) fun a u=>aB<|t_n<|?_;refine aX u rfl h (fun b98 h=>?_) (fun b98 h=>?_)
      .refine aA<|qm u rfl fun a u=>?_;obtain⟨s99,e100,h⟩:=h;refine q u (oG u rfl aGK aGT rfl ⟨_,rfl⟩ rfl (by simp) e100) fun a u=>qa u rfl fun a u=>aB<|?_;exact hk97 (s99,w82) h _ (u.sb rfl)
      refine wp_skip<|?_;exact hk97 (s92,w82) h _ (u.sb rfl)
     refine wp_exit<|t_x<|t_x<|?_;exact hk88 w82 h _ (u.sb rfl)
    refine wp_seq<|aA<|qm u rfl fun a u=>aB<|t_n<|?_;refine aX u rfl h (fun b74 h=>?_) (fun b74 h=>?_)
    .refine wp_seq<|aA<|qm u rfl fun a u=>qm u rfl fun a u=>?_;refine jV (ι:=Int×Int×World) (pk:=fun i=>(.tuple #[(iV i.1),(iV i.2.1)])) (wf:=fun i=>i.2.2) (xs:=[_,_]) (vs:=[(pV a0),(iV v33)]) u ⟨rfl,rfl,aLz⟩ Try.call126 (oS (un3 h)) (fun i h a u=>?_);obtain⟨v75,v76,w77⟩:=i;refine qm u rfl fun a u=>q u (aW u rfl rfl) fun a u=>q u (aW u rfl rfl) fun a u=>qa u rfl fun a u=>qa u rfl fun a u=>aB<|t_n<|wp_seq<|wp_seq<|aA<|qm u rfl fun a u=>q u (fJ u rfl rfl) fun a u=>aB<|t_n<|?_;refine aX u rfl h (fun b79 h=>?_) (fun b79 h=>?_)
     .refine wp_seq<|aA<|qm u rfl fun a u=>qa u rfl fun a u=>aB<|t_n<|wp_ret<|t_r<|?_;have h:=unL h;refine t_r<|?_;exact bI Try.results92 u rfl ⟨(v76,w77),rfl,h,rfl⟩
     refine wp_skip<|t_n<|wp_seq<|aA<|qm u rfl fun a u=>qa u rfl fun a u=>aB<|t_n<|aA<|qa u rfl fun a u=>aB<|?_;exact hk72 (v75,1,w77) h _ (u.sb rfl)
    refine wp_skip<|?_;exact hk72 (v31,v32,w34) h _ (u.sb rfl)
   refine wp_seq<|aA<|qm u rfl fun a u=>?_;obtain⟨p37,e38,h⟩:=h;refine q u (aH u rfl e38) fun a u=>q u (aK u rfl aGP rfl rfl aHd) fun a u=>q u (aK u rfl aGM rfl rfl aHb) fun a u=>?_;obtain⟨v39,e40,h⟩:=h;refine q u (aJ u rfl aHc (aV e40)) fun a u=>q u (aZ u rfl aGR) fun a u=>q u (gF u rfl rfl) fun a u=>aB<|t_n<|?_;refine aX u rfl h (fun b41 h=>?_) (fun b41 h=>?_)
   .refine wp_seq<|?_;obtain⟨w42,e43,h⟩:=h;obtain⟨v44,e45,h⟩:=h;obtain⟨v46,e47,h⟩:=h;obtain⟨p48,e49,h⟩:=h;obtain⟨c50,e51,h⟩:=h;obtain⟨p52,w53,e54,h⟩:=h;obtain⟨w55,e56,h⟩:=h;obtain⟨e57,h⟩:=h;obtain⟨e58,h⟩:=h;obtain⟨e59,h⟩:=h;have u:Has 200 [(0,(pV a0)),(1,(iV a1)),(2,(Sl.v a2)),(8,(Sl.v s19)),(9,(iV v24)),(10,(iV 0)),(11,(iV 17)),(12,(iV 1)),(58,(bV (decide (0<(v39.n:Int)))))] a:=u.sb rfl;refine aM (n:=200) (ds:=(aI (pV a0) false 0 1 [] [(0,(pV a0))]::aI (pV (some p37)) false 0 1 [0] [(59,(pV a0))]::aI (pV (some (p37.add 4))) false 0 1 [0,1] [(60,(pV (some p37)))]::aI (pV (some ((p37.add 4).add 2))) false 0 1 [0,1,2] [(61,(pV (some (p37.add 4))))]::aI (Sl.v v44) false 0 1 (rn 0 4) [(62,(pV (some ((p37.add 4).add 2))))]::aI (pV a0) false 0 1 [] [(0,(pV a0))]::aI (pV (some p37)) false 0 1 [5] [(64,(pV a0))]::aI (pV (some (p37.add 4))) false 0 1 [5,6] [(65,(pV (some p37)))]::aI (pV (some ((p37.add 4).add 2))) false 0 1 [5,6,7] [(66,(pV (some (p37.add 4))))]::aI (Sl.v v46) false 0 1 (rn 5 4) [(67,(pV (some ((p37.add 4).add 2))))]::aI (iV (v46.n:Int)) false 0 1 (rn 5 5) [(68,(Sl.v v46))]::aI (iV (IntKind.wrap .i64 ((v46.n:Int)-1))) false 0 1 (rn 5 6) [(69,(iV (v46.n:Int)))]::aI (pV (some p48)) false 0 1 (rn 0 12) [(63,(Sl.v v44)),(70,(iV (IntKind.wrap .i64 ((v46.n:Int)-1))))]::aI (.agg (List.toArray c50)) false 0 1 (rn 0 13) [(71,(pV (some p48)))]::aI (pV (some p52)) true 0 0 [] []::aI (undef) true 1 1 (rn 0 15) [(13,(pV (some p52))),(72,(.agg (List.toArray c50)))]::[])) (W:=(fun j=>match j with | 0=>w42 | 1=>w53 | 2=>w55 | _=>w55)) (by kernel_rfl) u (cY e43) (by kernel_rfl) ?_ (aR (by kernel_rfl)) (by kernel_rfl) (m:=2) (by kernel_rfl) (fun a u=>?_)
    .refine⟨oa (aC · rfl),oa (aH · rfl e38),oa (aK · rfl aGP rfl rfl aHd),oa (aK · rfl aGM rfl rfl aHb),?_,oa (aC · rfl),oa (aH · rfl e38),oa (aK · rfl aGP rfl rfl aHd),oa (aK · rfl aGM rfl rfl aHb),?_,oa (aZ · rfl aGR),oa (iB · rfl rfl),oa (bZ · rfl rfl aGR aHg e49),?_,oc 0 (kd fun {a} u=>eX aHQ (by kernel_rfl) e54),oc 1 (kd (eW · rfl rfl aHg ((kR e51).1) e56)),aLz⟩
     .intro j h1 h2;have h1:0<=j:=h1;have h2:j<=1:=h2;rcases(by omega:j=0\/j=1) with rfl | rfl
      .exact kd (aJ · rfl aHc (aV e45))
      exact kd (aJ · rfl aHc (aV e57))
     .intro j h1 h2;have h1:0<=j:=h1;have h2:j<=1:=h2;rcases(by omega:j=0\/j=1) with rfl | rfl
      .exact kd (aJ · rfl aHc (aV e47))
      exact kd (aJ · rfl aHc (aV e58))
     intro j h1 h2;have h1:0<=j:=h1;have h2:j<=1:=h2;rcases(by omega:j=0\/j=1) with rfl | rfl
     .exact kd (gC · rfl aIh aHg e51)
     exact kd (gC · rfl aIh aHg e59)
    have u:Has 200 [(0,(pV a0)),(1,(iV a1)),(2,(Sl.v a2)),(8,(Sl.v s19)),(9,(iV v24)),(13,(pV (some p52)))] a:=u.sb rfl;refine t_n<|wp_seq<|aA<|q u (aK u rfl aHf rfl rfl aGL) fun a u=>?_;obtain⟨v60,e61,h⟩:=h;refine q u (aJ u rfl aGN (aQ e61)) fun a u=>qa u rfl fun a u=>aB<|t_n<|wp_seq<|aA<|q u (aK u rfl aHf rfl rfl aGL) fun a u=>?_;obtain⟨v62,e63,h⟩:=h;refine q u (aJ u rfl aGN (aQ e63)) fun a u=>qa u rfl fun a u=>aB<|t_n<|aA<|q u (aK u rfl aHf rfl rfl aGL) fun a u=>?_;obtain⟨v64,e65,h⟩:=h;refine q u (aJ u rfl aGN (aQ e65)) fun a u=>q u (bJ u rfl rfl) fun a u=>qa u rfl fun a u=>aB<|?_;exact hk36 (v60,v62,(IntKind.wrap .i64 (v64+1)),w55) h _ (u.sb rfl)
   refine wp_skip<|?_;exact hk36 (0,17,1,w25) h _ (u.sb rfl)
  refine wp_seq<|aA<|qm u rfl fun a u=>q u (aZ u rfl aGK) fun a u=>?_;obtain⟨v28,e29,h⟩:=h;refine q u (sH u rfl rfl e29) fun a u=>q u (gF u rfl rfl) fun a u=>aB<|t_n<|?_;refine aX u rfl h (fun b30 h=>?_) (fun b30 h=>?_)
  .refine aA<|qm u rfl fun a u=>q u (bJ u rfl rfl) fun a u=>qa u rfl fun a u=>aB<|?_;exact hk27 ((IntKind.wrap .i64 (v22+1)),w20) h _ (u.sb rfl)
  refine wp_skip<|?_;exact hk27 (v22,w20) h _ (u.sb rfl)
 refine aA<|qm u rfl fun a u=>qm u rfl fun a u=>?_;obtain⟨p10,e11,h⟩:=h;refine q u (aH u rfl e11) fun a u=>q u (aK u rfl aGP rfl rfl aHd) fun a u=>q u (aK u rfl aGM rfl rfl aGL) fun a u=>?_;obtain⟨v12,e13,h⟩:=h;refine q u (aJ u rfl aGN (aQ e13)) fun a u=>q u (sU u rfl rfl) fun a u=>qm u rfl fun a u=>?_;refine iE h (fun b14 h=>?_) (fun b14 h=>?_)
 .refine qn u 35 (tn b14) fun a u=>qn u 35 (tn b14) fun a u=>q u (aF u rfl b14 rfl) fun a u=>aB<|?_;exact hk9 (true,w2) h _ (u.sb rfl)
 refine qg u 35 (nt b14) (aC u rfl) fun a u=>qg u 35 (nt b14) (gF u rfl rfl) fun a u=>q u (aL u rfl b14 rfl) fun a u=>aB<|?_;exact hk9 ((decide (1099511627776<a1)),w2) h _ (u.sb rfl)
noncomputable def gP (a0:Option Addr) (w:World):Option (Int×World) :=
 aN (eA a0 w) fun v1 w2 =>
 if (v1 !=0)=true then
 (some (v1,w2))
 else
 ((a0).bind fun p5 =>
 (ldP w2 (p5.add 0)).bind fun v7 =>
 aN (bK v7 w2) fun v9 w10 =>
 some (v9,w10))
theorem pG {a0 w w' r0} (h:gP a0 w=some (r0,w')):Calls Try.prog 93 #[(.pointer a0)] w fun e w''=>e=.returned (.int .i64 r0)/\w''=w':=by
 refine aP (n:=14) Try.func93 rfl Try.ntmps93 (by simp) fun a u=>?_;unfold gP at h;refine wp_seq<|aA<|qa u rfl fun a u=>aB<|t_n<|wp_seq<|aA<|qm u rfl fun a u=>?_;have⟨v1,w2,e3,h⟩:=bs2 h;refine q u (dc1 u rfl Try.call124 (jR e3)) fun a u=>qa u rfl fun a u=>aB<|t_n<|wp_seq<|wp_seq<|aA<|qm u rfl fun a u=>q u (fJ u rfl rfl) fun a u=>aB<|t_n<|?_;refine aO u rfl h (fun b4 h=>?_) (fun b4 h=>?_)
 .refine wp_seq<|aA<|qm u rfl fun a u=>qa u rfl fun a u=>aB<|t_n<|wp_ret<|t_r<|?_;have y:=u;cases h;exact bI Try.results93 y rfl ⟨rfl,rfl⟩
 refine wp_skip<|t_n<|wp_seq<|aA<|qm u rfl fun a u=>?_;have⟨p5,e6,h⟩:=bs1 h;refine q u (aH u rfl e6) fun a u=>q u (aK u rfl aGP rfl rfl aHp) fun a u=>?_;have⟨v7,e8,h⟩:=bs1 h;refine q u (aJ u rfl aHi (bA e8)) fun a u=>?_;have⟨v9,w10,e11,h⟩:=bs2 h;refine q u (dc1 u rfl Try.call76 (eR e11)) fun a u=>qa u rfl fun a u=>aB<|t_n<|wp_ret<|?_;have y:=u;cases h;exact bI Try.results93 y rfl ⟨rfl,rfl⟩
noncomputable def gK (a0:Option Addr) (a1:Int) (w:World):Option (Int×World) :=
 aN (eA a0 w) fun v1 w2 =>
 if (v1 !=0)=true then
 (some (v1,w2))
 else
 (aN (if (decide (a1<0))=true then
 (some (true,w2))
 else
 ((a0).bind fun p10 =>
 (ldI .i64 w2 ((p10.add 4).add 0)).bind fun v12 =>
 some ((decide (v12<a1)),w2))) fun v5 w6 =>
 if v5=true then
 (some (2,w6))
 else
 ((a0).bind fun p15 =>
 (ldI .i64 w6 ((p15.add 4).add 1)).bind fun v17 =>
 if (decide (a1<=v17))=true then
 (some (0,w6))
 else
 ((dr w6).bind fun w20 =>
 (ldP w20 (p15.add 0)).bind fun v22 =>
 (ldI .i64 w20 (p15.add 1)).bind fun v24 =>
 oM (hH v22 v24 1 w20) fun v26 v27 w28 =>
 aN (gA v26 0 a1 w28) fun v30 w31 =>
 if (v30 !=0)=true then
 (some (v30,w31))
 else
 ((ldL w31 ((p15.add 4).add 2)).bind fun v34 =>
 oM (eV a0 v34 a1 w31) fun v36 v37 w38 =>
 aN (aN (if (v37==0)=true then
 (some ((decide (0<v36)),w38))
 else
 (some (false,w38))) fun v44 w45 =>
 if v44=true then
 ((ldP w45 (p15.add 0)).bind fun v50 =>
 aN (bK v50 w45) fun v52 w53 =>
 some (v52,w53))
 else
 (some (v37,w45))) fun v40 w41 =>
 if (v40 !=0)=true then
 (some (v40,w41))
 else
 ((cT a0 a1 w41).bind fun w56 =>
 some (0,w56))))))
theorem pB {a0 a1 w w' r0} (h:gK a0 a1 w=some (r0,w')):Calls Try.prog 94 #[(.pointer a0),(.int .i64 a1)] w fun e w''=>e=.returned (.int .i64 r0)/\w''=w':=by
 refine aP (n:=79) Try.func94 rfl Try.ntmps94 (by simp) fun a u=>?_;unfold gK at h;refine wp_seq<|aA<|qa u rfl fun a u=>aB<|t_n<|wp_seq<|aA<|qm u rfl fun a u=>?_;have⟨v1,w2,e3,h⟩:=bs2 h;refine q u (dc1 u rfl Try.call124 (jR e3)) fun a u=>qa u rfl fun a u=>aB<|t_n<|wp_seq<|wp_seq<|aA<|qm u rfl fun a u=>q u (fJ u rfl rfl) fun a u=>aB<|t_n<|?_;refine aO u rfl h (fun b4 h=>?_) (fun b4 h=>?_)
 .refine wp_seq<|aA<|qm u rfl fun a u=>qa u rfl fun a u=>aB<|t_n<|wp_ret<|t_r<|?_;have y:=u;cases h;exact bI Try.results94 y rfl ⟨rfl,rfl⟩
 refine wp_skip<|t_n<|wp_seq<|wp_seq<|?_;have⟨v5,w6,e7,h⟩:=bs2 h;refine bP (n:=79) (L:=[(25,(bV v5)),(0,(pV a0)),(1,(iV a1))]) (w':=w6) (fun a u=>?_) (fun hk8=>?_)
 .refine t_n<|?_;refine aO u rfl h (fun b14 h=>?_) (fun b14 h=>?_)
  .refine wp_seq<|aA<|qa u rfl fun a u=>aB<|t_n<|wp_ret<|t_r<|?_;have y:=u;cases h;exact bI Try.results94 y rfl ⟨rfl,rfl⟩
  refine wp_skip<|t_n<|wp_seq<|wp_seq<|aA<|qm u rfl fun a u=>qm u rfl fun a u=>?_;have⟨p15,e16,h⟩:=bs1 h;refine q u (aH u rfl e16) fun a u=>q u (aK u rfl aGP rfl rfl aHd) fun a u=>q u (aK u rfl aGM rfl rfl aGL) fun a u=>?_;have⟨v17,e18,h⟩:=bs1 h;refine q u (aJ u rfl aGN (aQ e18)) fun a u=>q u (sU u rfl rfl) fun a u=>aB<|t_n<|?_;refine aO u rfl h (fun b19 h=>?_) (fun b19 h=>?_)
  .refine wp_seq<|aA<|qa u rfl fun a u=>aB<|t_n<|wp_ret<|t_r<|?_;have y:=u;cases h;exact bI Try.results94 y rfl ⟨rfl,rfl⟩
  refine wp_skip<|t_n<|wp_seq<|?_;have⟨w20,e21,h⟩:=bs1 h;have⟨v22,e23,h⟩:=bs1 h;have⟨v24,e25,h⟩:=bs1 h;have⟨v26,v27,w28,e29,h⟩:=bs3 h;have u:Has 79 [(0,(pV a0)),(1,(iV a1))] a:=u.sb rfl;refine aM (n:=79) (ds:=(aS (pV a0) 0 [] 0::aG (pV (some p15)) 0 [0] 34 (pV a0)::aG (pV (some (p15.add 0))) 0 [0,1] 35 (pV (some p15))::aG (pV v22) 0 [0,1,2] 36 (pV (some (p15.add 0)))::aS (pV a0) 0 [] 0::aG (pV (some p15)) 0 [4] 38 (pV a0)::aG (pV (some (p15.add 1))) 0 [4,5] 39 (pV (some p15))::aG (iV v24) 0 [4,5,6] 40 (pV (some (p15.add 1)))::aI (.tuple #[(pV v26),(iV v27)]) true 0 0 (rn 0 8) [(37,(pV v22)),(41,(iV v24))]::aS (.tuple #[(pV v26),(iV v27)]) 1 (rn 0 9) 42::aG (pV v26) 1 (rn 0 10) 33 (.tuple #[(pV v26),(iV v27)])::aG (iV v27) 1 (rn 0 10) 33 (.tuple #[(pV v26),(iV v27)])::aS (pV v26) 1 (rn 0 11) 43::aS (iV v27) 1 (rn 0 13) 44::[])) (W:=(fun j=>match j with | 0=>w20 | 1=>w28 | _=>w28)) (by kernel_rfl) u (cY e21) (by kernel_rfl) ?_ (aR (by kernel_rfl)) (by kernel_rfl) (m:=1) (by kernel_rfl) (fun a u=>?_)
  .exact⟨oa (aC · rfl),oa (aH · rfl e16),oa (aK · rfl aGP rfl rfl aHp),oc 0 (kd (aJ · rfl aHi (bA e23))),oa (aC · rfl),oa (aH · rfl e16),oa (aK · rfl aGP rfl rfl aGL),oc 0 (kd (aJ · rfl aGN (aQ e25))),oc 0 (kd (dc3 · rfl rfl rfl Try.call114 (nI e29))),oa (aC · rfl),oa (aW · rfl rfl),oa (aW · rfl rfl),oa (bD · rfl),oa (bD · rfl),aLz⟩
  have u:Has 79 [(0,(pV a0)),(1,(iV a1)),(6,(pV v26))] a:=u.sb rfl;refine t_n<|wp_seq<|aA<|qm u rfl fun a u=>qm u rfl fun a u=>?_;have⟨v30,w31,e32,h⟩:=bs2 h;refine q u (dc3 u rfl rfl rfl Try.call128 (oW e32)) fun a u=>qa u rfl fun a u=>aB<|t_n<|wp_seq<|wp_seq<|aA<|qm u rfl fun a u=>q u (fJ u rfl rfl) fun a u=>aB<|t_n<|?_;refine aO u rfl h (fun b33 h=>?_) (fun b33 h=>?_)
  .refine wp_seq<|aA<|qm u rfl fun a u=>qa u rfl fun a u=>aB<|t_n<|wp_ret<|t_r<|?_;have y:=u;cases h;exact bI Try.results94 y rfl ⟨rfl,rfl⟩
  refine wp_skip<|t_n<|wp_seq<|aA<|qm u rfl fun a u=>qm u rfl fun a u=>q u (aH u rfl e16) fun a u=>q u (aK u rfl aGP rfl rfl aHd) fun a u=>q u (aK u rfl aGM rfl rfl aHb) fun a u=>?_;have⟨v34,e35,h⟩:=bs1 h;refine q u (aJ u rfl aHc (aV e35)) fun a u=>qm u rfl fun a u=>?_;have⟨v36,v37,w38,e39,h⟩:=bs3 h;refine q u (dc3 u rfl rfl rfl Try.call74 (mD e39)) fun a u=>qm u rfl fun a u=>q u (aW u rfl rfl) fun a u=>q u (aW u rfl rfl) fun a u=>qa u rfl fun a u=>qa u rfl fun a u=>aB<|t_n<|?_;have⟨v40,w41,e42,h⟩:=bs2 h;refine gW (n:=79) (L:=[(9,(iV v40)),(0,(pV a0)),(1,(iV a1))]) (w':=w41) (fun a u=>?_) (fun hk43=>?_)
  .refine wp_seq<|wp_seq<|aA<|qm u rfl fun a u=>q u (fJ u rfl rfl) fun a u=>aB<|t_n<|?_;refine aO u rfl h (fun b55 h=>?_) (fun b55 h=>?_)
   .refine wp_seq<|aA<|qm u rfl fun a u=>qa u rfl fun a u=>aB<|t_n<|wp_ret<|t_r<|?_;have y:=u;cases h;exact bI Try.results94 y rfl ⟨rfl,rfl⟩
   refine wp_skip<|t_n<|wp_seq<|aA<|qm u rfl fun a u=>qm u rfl fun a u=>?_;have⟨w56,e57,h⟩:=bs1 h;refine q u (dc2 u rfl rfl Try.call77 (lS e57)) fun a u=>aB<|t_n<|wp_seq<|aA<|qa u rfl fun a u=>aB<|t_n<|wp_ret<|?_;have y:=u;cases h;exact bI Try.results94 y rfl ⟨rfl,rfl⟩
  clear h;have h:=e42;refine wp_seq<|?_;have⟨v44,w45,e46,h⟩:=bs2 h;refine bP (n:=79) (L:=[(67,(bV v44)),(0,(pV a0)),(1,(iV a1)),(9,(iV v37))]) (w':=w45) (fun a u=>?_) (fun hk47=>?_)
  .refine t_n<|?_;refine aO u rfl h (fun b49 h=>?_) (fun b49 h=>?_)
   .refine aA<|qm u rfl fun a u=>q u (aH u rfl e16) fun a u=>q u (aK u rfl aGP rfl rfl aHp) fun a u=>?_;have⟨v50,e51,h⟩:=bs1 h;refine q u (aJ u rfl aHi (bA e51)) fun a u=>?_;have⟨v52,w53,e54,h⟩:=bs2 h;refine q u (dc1 u rfl Try.call76 (eR e54)) fun a u=>qa u rfl fun a u=>aB<|?_;have y:=u;cases h;exact hk43 _ (y.sb rfl)
   refine wp_skip<|?_;have y:=u;cases h;exact hk43 _ (y.sb rfl)
  clear h;have h:=e46;refine aA<|qm u rfl fun a u=>q u (gD u rfl rfl) fun a u=>qm u rfl fun a u=>?_;refine bW h (fun b48 h=>?_) (fun b48 h=>?_)
  .refine qg u 64 b48 (aC u rfl) fun a u=>qg u 64 b48 (gF u rfl rfl) fun a u=>q u (aF u rfl b48 rfl) fun a u=>aB<|?_;have y:=u;cases h;exact hk47 _ (y.sb rfl)
  refine qn u 64 (nm b48) fun a u=>qn u 64 (nm b48) fun a u=>q u (aL u rfl b48 rfl) fun a u=>aB<|?_;have y:=u;cases h;exact hk47 _ (y.sb rfl)
 clear h;have h:=e7;refine aA<|qm u rfl fun a u=>q u (dK u rfl rfl) fun a u=>qm u rfl fun a u=>?_;refine bW h (fun b9 h=>?_) (fun b9 h=>?_)
 .refine qn u 17 (tn b9) fun a u=>qn u 17 (tn b9) fun a u=>qn u 17 (tn b9) fun a u=>qn u 17 (tn b9) fun a u=>qn u 17 (tn b9) fun a u=>qn u 17 (tn b9) fun a u=>qn u 17 (tn b9) fun a u=>q u (aF u rfl b9 rfl) fun a u=>aB<|?_;have y:=u;cases h;exact hk8 _ (y.sb rfl)
 refine qg u 17 (nt b9) (aC u rfl) fun a u=>qg u 17 (nt b9) (aC u rfl) fun a u=>?_;have⟨p10,e11,h⟩:=bs1 h;refine qg u 17 (nt b9) (aH u rfl e11) fun a u=>qg u 17 (nt b9) (aK u rfl aGP rfl rfl aHd) fun a u=>qg u 17 (nt b9) (aK u rfl aGM rfl rfl aGL) fun a u=>?_;have⟨v12,e13,h⟩:=bs1 h;refine qg u 17 (nt b9) (aJ u rfl aGN (aQ e13)) fun a u=>qg u 17 (nt b9) (gF u rfl rfl) fun a u=>q u (aL u rfl b9 rfl) fun a u=>aB<|?_;have y:=u;cases h;exact hk8 _ (y.sb rfl)
end
end Go.Proofs.Ytejkaciimmfgcaa.D
