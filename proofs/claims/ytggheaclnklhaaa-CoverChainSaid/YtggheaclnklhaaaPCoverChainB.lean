/- CoverChain -/
import Derived.Scope
import Derived.Test.YtggheaclnklhaaaPCoverChainA
namespace Go.Proofs.Ytggheaclnklhaaa.D
open Go
set_option linter.unusedVariables false
set_option linter.unusedSimpArgs false
set_option maxHeartbeats 1000000
set_option maxRecDepth 100000
noncomputable section
def mpR (r:Nat) (es:Array MapEntry) (c:Nat):Rs where
 h g w F:=w.heap[r]?=some (.map es c)/\∀ k,F k↔k=r
 st h m hk:=⟨by rw[hk r ((h.2 r).2 rfl)];exact h.1,h.2⟩
 lt h hk:=by have:=(h.2 _).1 hk;subst this;exact(zS.1 h.1).1
theorem qN {P:Program} {w:World} {r c:Nat} {es:Array MapEntry} (h:w.heap[r]?=some (.map es c)):(getObj r).run P w = .ok (.map es c) w:=by
 unfold getObj Sem.run;simp[h,Sem.run]
theorem tY {P:Program} {w:World} {r c:Nat} {es:Array MapEntry} {o:Obj} (h:w.heap[r]?=some (.map es c)):(setObj r o).run P w = .ok () { w with heap:=w.heap.setIfInBounds r o }:=by
 unfold setObj Sem.run;simp[h,Sem.run]
theorem rA {P:Program} {w:World} {kt:TypeId} {k:ByteArray} {b:Bool} (hk:∀ w,(underlying kt).run P w = .ok .string w):(Instr.checkKey b 10000 kt (.string k)).run P w = .ok () w:=by
 rw[show 10000=9999+1 from rfl,Instr.checkKey];rw[Sem.run_bind,hk];rfl
theorem uS {P:Program} {t kt et:TypeId} {k:ByteArray} {v:Value} {w:World} {r:Nat} (ht:∀ w,(underlying t).run P w = .ok (.map kt et) w) (hk:∀ w,(underlying kt).run P w = .ok .string w) (h:w.heap[r]?=some (.map #[] 0)):(Instr.mapUpdate t (.map (some r)) (.string k) v).run P w = .ok () { w with heap:=w.heap.setIfInBounds r (.map #[{ key:=.string k,val:=v,born:=0 }] 1) }:=by
 unfold Instr.mapUpdate;rw[Sem.run_bind,ht];simp only[Result.andThen_ok];rw[Sem.run_bind,qN h];simp only[Result.andThen_ok];rw[Sem.run_bind,rA hk];simp only[Result.andThen_ok,Instr.findKey];rw[Sem.run_bind,Sem.run_bind,hk];simp only[Result.andThen_ok,Instr.findNow,Sem.run_pure];rw[tY h];rfl
theorem uU {P:Program} {t kt et:TypeId} {k:ByteArray} {x:Int} {w:World} {r c:Nat} (ht:∀ w,(underlying t).run P w = .ok (.map kt et) w) (hk:∀ w,(underlying kt).run P w = .ok .string w) (h:w.heap[r]?=some (.map #[{ key:=.string k,val:=.int .i64 x,born:=0 }] c)):(Instr.lookup t (.map (some r)) (.string k) false).run P w = .ok (.int .i64 x) w:=by
 unfold Instr.lookup;rw[Sem.run_bind,ht];simp only[Result.andThen_ok];rw[Sem.run_bind,qN h];simp only[Result.andThen_ok];rw[Sem.run_bind,Sem.run_pure];simp only[Result.andThen_ok];rw[Sem.run_bind,rA hk];simp only[Result.andThen_ok,Instr.findKey];rw[Sem.run_bind,Sem.run_bind,hk];have hkk:(k==k)=true:=by
  cases k with
  | mk d=>first | exact beq_self_eq_true _ | (show(d==d)=true;exact beq_self_eq_true d)
 simp[Result.andThen_ok,Instr.findNow,Instr.sameNow,Sem.run_pure,hkk]
section
variable {F0 : Nat -> Prop} {g g0 : Gh} {w w0 : World} {L : List Rs} {r c : Nat} {es : Array MapEntry}
theorem Hp.mp (H:Hp F0 g0 w0 g w (mpR r es c::L)):w.heap[r]?=some (.map es c):=by obtain⟨F,h⟩:=H.hd;exact h.1
theorem Hp.mkm {P:Program} {t:TypeId} (H:Hp F0 g0 w0 g w L):∃ r w',mkM P t w=some (some r,w')/\Hp F0 g0 w0 g w' (mpR r #[] 0::L)/\Mo g w g w' :=
 ⟨w.heap.size,w.alloc (.map #[] 0),rfl,H.add (kS H.lt _) (F:=fun k=>k=w.heap.size) ⟨by show(w.heap.push _)[w.heap.size]?=_;simp,fun _=>Iff.rfl⟩ (fun k hk=>⟨fun hg=>by have:=H.lt k hg;omega,by omega⟩),(kS H.lt _).mo⟩
theorem Hp.upm {P:Program} {t kt et:TypeId} {k:ByteArray} {v:Value} (ht:∀ w,(underlying t).run P w = .ok (.map kt et) w) (hk:∀ w,(underlying kt).run P w = .ok .string w) (H:Hp F0 g0 w0 g w (mpR r #[] 0::L)) :
  ∃ w',upM P t (some r) (.string k) v w=some w'/\Hp F0 g0 w0 g w' (mpR r #[{ key:=.string k,val:=v,born:=0 }] 1::L)/\Mo g w g w':=by
 have hm:=H.mp;have hr:r<w.heap.size:=(zS.1 hm).1;have e:upM P t (some r) (.string k) v w=some { w with heap:=w.heap.setIfInBounds r (.map #[{ key:=.string k,val:=v,born:=0 }] 1) }:=by
  have:(Instr.mapUpdate t (.map (some r)) (.string k) v).run P w = .ok () { w with heap:=w.heap.setIfInBounds r (.map #[{ key:=.string k,val:=v,born:=0 }] 1) }:=by
   exact uS ht hk hm
  unfold upM;rw[this]
 obtain⟨g',w',⟨rfl,rfl⟩,h2,m⟩:=H.up (r':=mpR r #[{ key:=.string k,val:=v,born:=0 }] 1) (Ψ:=fun g' w''=>g'=g/\w''={ w with heap:=w.heap.setIfInBounds r (.map #[{ key:=.string k,val:=v,born:=0 }] 1) }) fun F h hF =>
  ⟨g,_,F,⟨rfl,rfl⟩,⟨by simp[Array.getElem?_setIfInBounds_self_of_lt hr],h.2⟩,⟨⟨rfl,rfl,rfl,by simp,fun k hk hn=>by
   show(w.heap.setIfInBounds r _)[k]?=_;rw[yS];intro he;exact hn ((h.2 k).2 he.symm)⟩,fun _ _ _=>Iff.rfl,⟨by simp,fun k hk=>⟨hk,by
   show(w.heap.setIfInBounds r _)[k]?=_;rw[yS];intro he;exact hF r ((h.2 r).2 rfl) (he ▸ hk)⟩⟩,fun k hk=>by have:=H.lt k hk;simpa using this⟩,fun k hk=>⟨hF k hk,.inl hk⟩⟩
 exact⟨_,e,h2,m⟩
theorem Hp.lum {P:Program} {t kt et:TypeId} {k:ByteArray} {x:Int} (ht:∀ w,(underlying t).run P w = .ok (.map kt et) w) (hk:∀ w,(underlying kt).run P w = .ok .string w) (H:Hp F0 g0 w0 g w (mpR r #[{ key:=.string k,val:=.int .i64 x,born:=0 }] c::L)) :
  luI .i64 P t (some r) (.string k) w=some (x,w):=by
 have hm:=H.mp;have:(Instr.lookup t (.map (some r)) (.string k) false).run P w = .ok (.int .i64 x) w:=uU ht hk hm;unfold luI;rw[this];simp
end
def hM (a0:ByteArray) (a1:ByteArray) (w:World):Option (Int×World) :=
 aE (fY a1 w) fun v1 w2 =>
 if (!v1)=true then
 (some (11,w2))
 else
 (if (sLt a1 a0||sEq a1 a0)=true then
 (some (4,w2))
 else
 (some (0,w2)))
theorem mO {a0 a1 w w' r0} (h:hM a0 a1 w=some (r0,w')):Calls Try.prog 76 #[(.string a0),(.string a1)] w fun e w''=>e=.returned (.int .i64 r0)/\w''=w':=by
 refine aD (n:=13) Try.func76 rfl Try.ntmps76 (by simp) fun a u=>?_;unfold hM at h;refine wp_seq<|aA<|qa u rfl fun a u=>aC<|t_n<|wp_seq<|wp_block<|wp_seq<|aA<|qm u rfl fun a u=>?_;have⟨v1,w2,e3,h⟩:=bs2 h;refine q u (dc1 u rfl Try.call13 (iG e3)) fun a u=>q u (fT u rfl) fun a u=>qa u rfl fun a u=>aC<|t_n<|?_;refine aF u rfl h (fun b4 h=>?_) (fun b4 h=>?_)
 .refine wp_seq<|aA<|qa u rfl fun a u=>aC<|t_n<|wp_ret<|b_r<|t_r<|?_;have y:=u;cases h;exact aY Try.results76 y rfl ⟨rfl,rfl⟩
 refine wp_seq<|aA<|qm u rfl fun a u=>qm u rfl fun a u=>q u (pF u rfl rfl) fun a u=>qa u rfl fun a u=>aC<|t_n<|?_;refine aF u rfl h (fun b5 h=>?_) (fun b5 h=>?_)
 .refine wp_seq<|aA<|qa u rfl fun a u=>aC<|t_n<|wp_ret<|b_r<|t_r<|?_;have y:=u;cases h;exact aY Try.results76 y rfl ⟨rfl,rfl⟩
 refine wp_skip<|b_n<|t_n<|wp_seq<|aA<|qa u rfl fun a u=>aC<|t_n<|wp_ret<|?_;have y:=u;cases h;exact aY Try.results76 y rfl ⟨rfl,rfl⟩
noncomputable def cB (a0:Sl) (x2:ByteArray) (x3:Int) (w4:World):Option ((ByteArray×Int×World)⊕((World)⊕(Int×World))) :=
 if (decide (x3<(a0.n:Int)))=true then
 ((ix a0 x3 2).bind fun p14 =>
 (ldA 2 w4 p14 0).bind fun c16 =>
 aE (mk w4 33 ([.string ByteArray.empty,.int .i64 0])) fun p18 w19 =>
 (stA w19 p18 0 c16).bind fun w21 =>
 (ldS w21 (p18.add 0)).bind fun v23 =>
 aE (hM x2 v23 w21) fun v25 w26 =>
 if (v25 !=0)=true then
 (some (.inr (.inr (v25,w26))))
 else
 (aE ((ldI .i64 w26 (p18.add 1)).bind fun v33 =>
 if (decide (v33<1))=true then
 (some (true,w26))
 else
 ((ldI .i64 w26 (p18.add 1)).bind fun v36 =>
 some ((decide (4<v36)),w26))) fun v29 w30 =>
 if v29=true then
 (some (.inr (.inr (12,w30))))
 else
 ((ldS w30 (p18.add 0)).bind fun v39 =>
 some (.inl (v39,(IntKind.wrap .i64 (x3+1)),w30)))))
 else
 (some (.inr (.inl w4)))
noncomputable def dO (a0:Sl) (w:World):Option (Int×World) :=
 if (decide (8<(a0.n:Int)))=true then
 (some (6,w))
 else
 ((bU (fun s:ByteArray×Int×World=>cB a0 s.1 s.2.1 s.2.2) ((ByteArray.mk #[]),0,w)).bind fun r5=>Sum.elim (fun (i:World)=>u1 i fun w7 =>
 some (0,w7)) (fun (i:Int×World)=>u2 i fun v8 w9 =>
 some (v8,w9)) r5)
theorem jJ {a0 w w' r0} (h:dO a0 w=some (r0,w')):Calls Try.prog 50 #[(Sl.v a0)] w fun e w''=>e=.returned (.int .i64 r0)/\w''=w':=by
 refine aD (n:=34) Try.func50 rfl Try.ntmps50 (by simp) fun a u=>?_;unfold dO at h;refine wp_seq<|aA<|qa u rfl fun a u=>aC<|t_n<|wp_seq<|wp_seq<|aA<|qm u rfl fun a u=>q u (cI u rfl xN) fun a u=>q u (jF u rfl rfl) fun a u=>aC<|t_n<|?_;refine aF u rfl h (fun b1 h=>?_) (fun b1 h=>?_)
 .refine wp_seq<|aA<|qa u rfl fun a u=>aC<|t_n<|wp_ret<|t_r<|?_;have y:=u;cases h;exact aY Try.results50 y rfl ⟨rfl,rfl⟩
 refine wp_skip<|t_n<|wp_seq<|aA<|qa u rfl fun a u=>aC<|t_n<|wp_seq<|wp_seq<|aA<|qm u rfl fun a u=>q u (cI u rfl xN) fun a u=>qm u rfl fun a u=>aC<|t_n<|wp_block<|?_;have⟨r5,e6,h⟩:=bs1 h;refine dN (n:=34) (L1:=fun i=>[]) (w1:=fun i=>i) (L2:=fun i=>[(2,(iV i.1))]) (w2:=fun i=>i.2) (e1:=.exit 0) (e2:=.ret) (I:=fun (s:ByteArray×Int×World) a w=>Has 34 [(3,(.string s.1)),(12,(iV s.2.1)),(10,(Sl.v a0)),(11,(iV (a0.n:Int)))] a/\w=s.2.2) ⟨u.sub ⟨rfl,rfl,rfl,rfl,aAP⟩,rfl⟩ e6 (fun i hi a u=>?_) (fun i hi a u=>?_) (fun hk10 hk11=>?_)
 .subst hi;obtain⟨w7,rfl⟩:∃ x,x=i:=⟨i,rfl⟩;dsimp only[Sum.elim_inl,Sum.elim_inr,u1,u2,u3,u4,u5,u6] at h;have u:Has 34 [] a:=u;refine fD<|t_n<|wp_seq<|aA<|qa u rfl fun a u=>aC<|t_n<|wp_ret<|?_;have y:=u;cases h;exact aY Try.results50 y rfl ⟨rfl,rfl⟩
 .subst hi;obtain⟨v8,w9⟩:=i;dsimp only[Sum.elim_inl,Sum.elim_inr,u1,u2,u3,u4,u5,u6] at h;have u:Has 34 [(2,(iV v8))] a:=u;refine b_r<|t_r<|?_;have y:=u;cases h;exact aY Try.results50 y rfl ⟨rfl,rfl⟩
 clear h;rintro⟨x2,x3,w4⟩ a wq o ⟨u,hwq⟩ h hr12;obtain rfl:w4=wq:=hwq.symm;have u:Has 34 [(3,(.string x2)),(12,(iV x3)),(10,(Sl.v a0)),(11,(iV (a0.n:Int)))] a:=u;have h:cB a0 x2 x3 w4=some o:=h;unfold cB at h;refine wp_seq<|aA<|q u (gG u rfl rfl) fun a u=>aC<|t_n<|wp_seq<|?_;refine aF u rfl h (fun b13 h=>?_) (fun b13 h=>?_)
 .refine wp_skip<|t_n<|wp_seq<|wp_block<|wp_seq<|aA<|?_;have⟨p14,e15,h⟩:=bs1 h;refine q u (eY u rfl rfl xN yC e15) fun a u=>?_;have⟨c16,e17,h⟩:=bs1 h;refine q u (bK u rfl Try.isAgg33 yC e17) fun a u=>?_;have⟨p18,w19,e20,h⟩:=bs2 h;refine q u (cM yG (by kernel_rfl) e20) fun a u=>?_;have⟨w21,e22,h⟩:=bs1 h;refine q u (dQ u rfl rfl yC ((hT e17).1) e22) fun a u=>aC<|t_n<|wp_seq<|wp_seq<|aA<|qm u rfl fun a u=>q u (aJ u rfl xO rfl rfl wR) fun a u=>?_;have⟨v23,e24,h⟩:=bs1 h;refine q u (aG u rfl wU (cH e24)) fun a u=>?_;have⟨v25,w26,e27,h⟩:=bs2 h;refine q u (dc2 u rfl rfl Try.call76 (mO e27)) fun a u=>qa u rfl fun a u=>aC<|t_n<|wp_seq<|aA<|qm u rfl fun a u=>q u (jH u rfl rfl) fun a u=>aC<|t_n<|?_;refine aF u rfl h (fun b28 h=>?_) (fun b28 h=>?_)
  .refine wp_seq<|aA<|qm u rfl fun a u=>qa u rfl fun a u=>aC<|t_n<|wp_ret<|t_r<|b_r<|t_r<|?_;have y:=u;cases h;cases hr12 _ rfl;refine gR<|?_;exact hk11 _ rfl _ (y.sb rfl)
  refine wp_skip<|t_n<|wp_seq<|wp_seq<|?_;have⟨v29,w30,e31,h⟩:=bs2 h;refine bY (n:=34) (L:=[(30,(bV v29)),(5,(pV (some p18))),(10,(Sl.v a0)),(11,(iV (a0.n:Int))),(12,(iV x3))]) (w':=w30) (fun a u=>?_) (fun hk32=>?_)
  .refine t_n<|?_;refine aF u rfl h (fun b38 h=>?_) (fun b38 h=>?_)
   .refine wp_seq<|aA<|qa u rfl fun a u=>aC<|t_n<|wp_ret<|t_r<|b_r<|t_r<|?_;have y:=u;cases h;cases hr12 _ rfl;refine gR<|?_;exact hk11 _ rfl _ (y.sb rfl)
   refine wp_skip<|t_n<|aA<|q u (aJ u rfl xO rfl rfl wR) fun a u=>?_;have⟨v39,e40,h⟩:=bs1 h;refine q u (aG u rfl wU (cH e40)) fun a u=>qa u rfl fun a u=>aC<|b_n<|t_n<|aA<|q u (dY u rfl rfl) fun a u=>qm u rfl fun a u=>aC<|?_;have y:=u;cases h;exact cZ ⟨y.sb rfl,rfl⟩
  clear h;have h:=e31;refine aA<|q u (aJ u rfl xO rfl rfl xB) fun a u=>?_;have⟨v33,e34,h⟩:=bs1 h;refine q u (aG u rfl wX (aO e34)) fun a u=>q u (gG u rfl rfl) fun a u=>qm u rfl fun a u=>?_;refine dG h (fun b35 h=>?_) (fun b35 h=>?_)
  .refine qn u 26 (tn b35) fun a u=>qn u 26 (tn b35) fun a u=>qn u 26 (tn b35) fun a u=>q u (aK u rfl b35 rfl) fun a u=>aC<|?_;have y:=u;cases h;exact hk32 _ (y.sb rfl)
  refine qg u 26 (nt b35) (aJ u rfl xO rfl rfl xB) fun a u=>?_;have⟨v36,e37,h⟩:=bs1 h;refine qg u 26 (nt b35) (aG u rfl wX (aO e37)) fun a u=>qg u 26 (nt b35) (jF u rfl rfl) fun a u=>q u (aM u rfl b35 rfl) fun a u=>aC<|?_;have y:=u;cases h;exact hk32 _ (y.sb rfl)
 refine wp_exit<|t_x<|?_;have y:=u;cases h;cases hr12 _ rfl;refine iL<|?_;exact hk10 _ rfl _ (y.sb rfl)
noncomputable def gZ (a0:Int) (w:World):Option (Bool×World) :=
 aE (if (a0==1)=true then
 (some (true,w))
 else
 (some ((a0==2),w))) fun v1 w2 =>
 some (v1,w2)
theorem kN {a0 w w' r0} (h:gZ a0 w=some (r0,w')):Calls Try.prog 52 #[(.int .i64 a0)] w fun e w''=>e=.returned (.bool r0)/\w''=w':=by
 refine aD (n:=9) Try.func52 rfl Try.ntmps52 (by simp) fun a u=>?_;unfold gZ at h;refine wp_seq<|aA<|qa u rfl fun a u=>aC<|t_n<|wp_seq<|?_;have⟨v1,w2,e3,h⟩:=bs2 h;refine bY (n:=9) (L:=[(2,(bV v1))]) (w':=w2) (fun a u=>?_) (fun hk4=>?_)
 .refine t_n<|wp_ret<|?_;have y:=u;cases h;exact aY Try.results52 y rfl ⟨rfl,rfl⟩
 clear h;have h:=e3;refine aA<|qm u rfl fun a u=>q u (cC u rfl rfl) fun a u=>qm u rfl fun a u=>?_;refine dG h (fun b5 h=>?_) (fun b5 h=>?_)
 .refine qn u 5 (tn b5) fun a u=>qn u 5 (tn b5) fun a u=>q u (aK u rfl b5 rfl) fun a u=>qa u rfl fun a u=>aC<|?_;have y:=u;cases h;exact hk4 _ (y.sb rfl)
 refine qg u 5 (nt b5) (aI u rfl) fun a u=>qg u 5 (nt b5) (cC u rfl rfl) fun a u=>q u (aM u rfl b5 rfl) fun a u=>qa u rfl fun a u=>aC<|?_;have y:=u;cases h;exact hk4 _ (y.sb rfl)
noncomputable def gS (a0:List Value) (w:World):Option (Int×World) :=
 aE (mk w 55 a0) fun p1 w2 =>
 gX ((ldI .i64 w2 (p1.add 0)).bind fun v10 =>
 aE (if (v10==1)=true then
 (some ((v10==1),w2))
 else
 (some ((v10==3),w2))) fun v12 w13 =>
 if v12=true then
 (some (.inr w13))
 else
 (if (v10==2)=true then
 ((ldS w13 (p1.add 2)).bind fun v19 =>
 if (decide (200<(v19.size:Int)))=true then
 ((some (6,w13)).bind fun g9=>some (.inl g9))
 else
 (some (.inr w13)))
 else
 (if (v10==4)=true then
 none
 else
 ((some (12,w13)).bind fun g9=>some (.inl g9))))) some fun (i:World)=>u1 i fun w4 =>
 some (0,w4)
theorem lY {a0 w w' r0} (h:gS a0 w=some (r0,w')):Calls Try.prog 85 #[(.agg (List.toArray a0))] w fun e w''=>e=.returned (.int .i64 r0)/\w''=w':=by
 refine aD (n:=28) Try.func85 rfl Try.ntmps85 (by simp) fun a u=>?_;unfold gS at h;refine wp_seq<|aA<|?_;have⟨p1,w2,e3,h⟩:=bs2 h;refine q u (dI u rfl rfl e3) fun a u=>qa u rfl fun a u=>aC<|t_n<|?_;obtain⟨o7,e5,h6⟩:=bsX h;clear h;refine iP (n:=28) (ι:=World) (Lf:=fun i=>[]) (wf:=fun i=>i) (C:=fun i=>o7=.inr i) (fun i hi a u=>?_) (fun hk8=>?_)
 .subst hi;obtain⟨w4,rfl⟩:∃ x,x=i:=⟨i,rfl⟩;have h:=h6;dsimp only[gX,u1,u2,u3,u4,u5,u6] at h;have u:Has 28 [] a:=u;refine wp_seq<|aA<|qa u rfl fun a u=>aC<|t_n<|wp_ret<|?_;have y:=u;cases h;exact aY Try.results85 y rfl ⟨rfl,rfl⟩
 have h:=e5;refine wp_seq<|aA<|q u (aJ u rfl xD rfl rfl xB) fun a u=>?_;have⟨v10,e11,h⟩:=bs1 h;refine q u (aG u rfl wX (aO e11)) fun a u=>aC<|t_n<|wp_block<|?_;have⟨v12,w13,e14,h⟩:=bs2 h;refine iB (n:=28) (L:=[(8,(bV v12)),(1,(pV (some p1))),(7,(iV v10))]) (w':=w13) (fun a u=>?_) (fun hk15=>?_)
 .refine aF u rfl h (fun b17 h=>?_) (fun b17 h=>?_)
  .refine wp_skip<|b_n<|?_;have y:=u;cases h;exact hk8 _ rfl _ (y.sb rfl)
  refine wp_seq<|aA<|q u (cC u rfl rfl) fun a u=>qa u rfl fun a u=>aC<|t_n<|?_;refine aF u rfl h (fun b18 h=>?_) (fun b18 h=>?_)
  .refine wp_seq<|aA<|q u (aJ u rfl xD rfl rfl wR) fun a u=>?_;have⟨v19,e20,h⟩:=bs1 h;refine q u (aG u rfl wU (cH e20)) fun a u=>q u (nC u rfl xT) fun a u=>q u (jF u rfl rfl) fun a u=>aC<|t_n<|?_;refine aF u rfl h (fun b21 h=>?_) (fun b21 h=>?_)
   .refine wp_seq<|aA<|qa u rfl fun a u=>aC<|t_n<|wp_ret<|b_r<|?_;have y:=u;have⟨g9,e22,h⟩:=bs1 h;cases h;cases h6;have h:=e22;have u:=y;refine t_r<|?_;have y:=u;cases h;exact aY Try.results85 y rfl ⟨rfl,rfl⟩
   refine wp_skip<|b_n<|?_;have y:=u;cases h;exact hk8 _ rfl _ (y.sb rfl)
  refine wp_seq<|aA<|q u (cC u rfl rfl) fun a u=>qa u rfl fun a u=>aC<|t_n<|?_;refine aF u rfl h (fun b23 h=>?_) (fun b23 h=>?_)
  .refine wp_seq<|?_;cases h
  refine wp_seq<|aA<|qa u rfl fun a u=>aC<|t_n<|wp_ret<|b_r<|?_;have y:=u;have⟨g9,e24,h⟩:=bs1 h;cases h;cases h6;have h:=e24;have u:=y;refine t_r<|?_;have y:=u;cases h;exact aY Try.results85 y rfl ⟨rfl,rfl⟩
 clear h;have h:=e14;refine wp_seq<|aA<|q u (cC u rfl rfl) fun a u=>qa u rfl fun a u=>aC<|t_n<|?_;refine aF u rfl h (fun b16 h=>?_) (fun b16 h=>?_)
 .refine wp_skip<|?_;have y:=u;cases h;exact hk15 _ (y.sb rfl)
 refine aA<|q u (cC u rfl rfl) fun a u=>qa u rfl fun a u=>aC<|?_;have y:=u;cases h;exact hk15 _ (y.sb rfl)
noncomputable def jU (a0:Int) (a1:Int) (w:World):Option (Bool×World) :=
 aE (if (a0==5)=true then
 (some ((a0==5),w))
 else
 (if (a0==6)=true then
 (some ((a0==6),w))
 else
 (if (a0==7)=true then
 (some ((a0==7),w))
 else
 (some ((a0==8),w))))) fun v1 w2 =>
 if v1=true then
 (aE (if (a1==1)=true then
 (some (true,w2))
 else
 (some ((a1==2),w2))) fun v9 w10 =>
 some (v9,w10))
 else
 (if (a0==9)=true then
 (some ((a1==2),w2))
 else
 (if (a0==10)=true then
 (some ((a1==4),w2))
 else
 (some (true,w2))))
theorem nL {a0 a1 w w' r0} (h:jU a0 a1 w=some (r0,w')):Calls Try.prog 86 #[(.int .i64 a0),(.int .i64 a1)] w fun e w''=>e=.returned (.bool r0)/\w''=w':=by
 refine aD (n:=25) Try.func86 rfl Try.ntmps86 (by simp) fun a u=>?_;unfold jU at h;refine wp_seq<|aA<|qa u rfl fun a u=>aC<|t_n<|wp_seq<|wp_seq<|aA<|qm u rfl fun a u=>aC<|t_n<|wp_block<|?_;have⟨v1,w2,e3,h⟩:=bs2 h;refine iB (n:=25) (L:=[(6,(bV v1)),(1,(iV a1)),(5,(iV a0))]) (w':=w2) (fun a u=>?_) (fun hk4=>?_)
 .refine aF u rfl h (fun b8 h=>?_) (fun b8 h=>?_)
  .refine wp_seq<|?_;have⟨v9,w10,e11,h⟩:=bs2 h;refine bY (n:=25) (L:=[(4,(bV v9))]) (w':=w10) (fun a u=>?_) (fun hk12=>?_)
   .refine t_n<|wp_ret<|b_r<|t_r<|?_;have y:=u;cases h;exact aY Try.results86 y rfl ⟨rfl,rfl⟩
   clear h;have h:=e11;refine aA<|qm u rfl fun a u=>q u (cC u rfl rfl) fun a u=>qm u rfl fun a u=>?_;refine dG h (fun b13 h=>?_) (fun b13 h=>?_)
   .refine qn u 13 (tn b13) fun a u=>qn u 13 (tn b13) fun a u=>q u (aK u rfl b13 rfl) fun a u=>qa u rfl fun a u=>aC<|?_;have y:=u;cases h;exact hk12 _ (y.sb rfl)
   refine qg u 13 (nt b13) (aI u rfl) fun a u=>qg u 13 (nt b13) (cC u rfl rfl) fun a u=>q u (aM u rfl b13 rfl) fun a u=>qa u rfl fun a u=>aC<|?_;have y:=u;cases h;exact hk12 _ (y.sb rfl)
  refine wp_seq<|aA<|q u (cC u rfl rfl) fun a u=>qa u rfl fun a u=>aC<|t_n<|?_;refine aF u rfl h (fun b14 h=>?_) (fun b14 h=>?_)
  .refine wp_seq<|aA<|qm u rfl fun a u=>q u (cC u rfl rfl) fun a u=>qa u rfl fun a u=>aC<|t_n<|wp_ret<|b_r<|t_r<|?_;have y:=u;cases h;exact aY Try.results86 y rfl ⟨rfl,rfl⟩
  refine wp_seq<|aA<|q u (cC u rfl rfl) fun a u=>qa u rfl fun a u=>aC<|t_n<|?_;refine aF u rfl h (fun b15 h=>?_) (fun b15 h=>?_)
  .refine wp_seq<|aA<|qm u rfl fun a u=>q u (cC u rfl rfl) fun a u=>qa u rfl fun a u=>aC<|t_n<|wp_ret<|b_r<|t_r<|?_;have y:=u;cases h;exact aY Try.results86 y rfl ⟨rfl,rfl⟩
  refine wp_skip<|b_n<|t_n<|wp_seq<|aA<|qa u rfl fun a u=>aC<|t_n<|wp_ret<|?_;have y:=u;cases h;exact aY Try.results86 y rfl ⟨rfl,rfl⟩
 clear h;have h:=e3;refine wp_seq<|aA<|q u (cC u rfl rfl) fun a u=>qa u rfl fun a u=>aC<|t_n<|?_;refine aF u rfl h (fun b5 h=>?_) (fun b5 h=>?_)
 .refine wp_skip<|?_;have y:=u;cases h;exact hk4 _ (y.sb rfl)
 refine wp_seq<|aA<|q u (cC u rfl rfl) fun a u=>qa u rfl fun a u=>aC<|t_n<|?_;refine aF u rfl h (fun b6 h=>?_) (fun b6 h=>?_)
 .refine wp_skip<|?_;have y:=u;cases h;exact hk4 _ (y.sb rfl)
 refine wp_seq<|aA<|q u (cC u rfl rfl) fun a u=>qa u rfl fun a u=>aC<|t_n<|?_;refine aF u rfl h (fun b7 h=>?_) (fun b7 h=>?_)
 .refine wp_skip<|?_;have y:=u;cases h;exact hk4 _ (y.sb rfl)
 refine aA<|q u (cC u rfl rfl) fun a u=>qa u rfl fun a u=>aC<|?_;have y:=u;cases h;exact hk4 _ (y.sb rfl)
noncomputable def iI (a0:List Value) (w:World):Option (Int×World) :=
 aE (mk w 57 a0) fun p1 w2 =>
 (ldS w2 (p1.add 1)).bind fun v4 =>
 aE (fY v4 w2) fun v6 w7 =>
 if (!v6)=true then
 (some (11,w7))
 else
 (aE ((ldI .i64 w7 (p1.add 2)).bind fun v14 =>
 if (decide (v14<1))=true then
 (some (true,w7))
 else
 ((ldI .i64 w7 (p1.add 2)).bind fun v17 =>
 some ((decide (10<v17)),w7))) fun v10 w11 =>
 if v10=true then
 (some (2,w11))
 else
 ((ldI .i64 w11 (p1.add 2)).bind fun v20 =>
 aE (gZ v20 w11) fun v22 w23 =>
 if v22=true then
 (some (0,w23))
 else
 ((ldA 5 w23 (p1.add 3) 0).bind fun c26 =>
 aE (gS c26 w23) fun v28 w29 =>
 if (v28 !=0)=true then
 (some (v28,w29))
 else
 ((ldI .i64 w29 (p1.add 2)).bind fun v32 =>
 (ldI .i64 w29 ((p1.add 3).add 0)).bind fun v34 =>
 aE (jU v32 v34 w29) fun v36 w37 =>
 if (!v36)=true then
 (some (12,w37))
 else
 (aE ((ldI .i64 w37 (p1.add 2)).bind fun v44 =>
 if (v44==10)=true then
 ((ldI .i64 w37 (p1.add 8)).bind fun v47 =>
 if (decide (v47<0))=true then
 (some (true,w37))
 else
 ((ldI .i64 w37 (p1.add 8)).bind fun v50 =>
 some ((decide (1048576<v50)),w37)))
 else
 (some (false,w37))) fun v40 w41 =>
 if v40=true then
 (some (2,w41))
 else
 (some (0,w41)))))))
theorem nO {a0 w w' r0} (h:iI a0 w=some (r0,w')):Calls Try.prog 77 #[(.agg (List.toArray a0))] w fun e w''=>e=.returned (.int .i64 r0)/\w''=w':=by
 refine aD (n:=48) Try.func77 rfl Try.ntmps77 (by simp) fun a u=>?_;unfold iI at h;refine wp_seq<|aA<|?_;have⟨p1,w2,e3,h⟩:=bs2 h;refine q u (dI u rfl rfl e3) fun a u=>qa u rfl fun a u=>aC<|t_n<|wp_seq<|wp_block<|wp_seq<|aA<|q u (aJ u rfl wN rfl rfl wR) fun a u=>?_;have⟨v4,e5,h⟩:=bs1 h;refine q u (aG u rfl wU (cH e5)) fun a u=>?_;have⟨v6,w7,e8,h⟩:=bs2 h;refine q u (dc1 u rfl Try.call13 (iG e8)) fun a u=>q u (fT u rfl) fun a u=>qa u rfl fun a u=>aC<|t_n<|?_;refine aF u rfl h (fun b9 h=>?_) (fun b9 h=>?_)
 .refine wp_seq<|aA<|qa u rfl fun a u=>aC<|t_n<|wp_ret<|b_r<|t_r<|?_;have y:=u;cases h;exact aY Try.results77 y rfl ⟨rfl,rfl⟩
 refine wp_seq<|?_;have⟨v10,w11,e12,h⟩:=bs2 h;refine bY (n:=48) (L:=[(9,(bV v10)),(1,(pV (some p1)))]) (w':=w11) (fun a u=>?_) (fun hk13=>?_)
 .refine t_n<|?_;refine aF u rfl h (fun b19 h=>?_) (fun b19 h=>?_)
  .refine wp_seq<|aA<|qa u rfl fun a u=>aC<|t_n<|wp_ret<|b_r<|t_r<|?_;have y:=u;cases h;exact aY Try.results77 y rfl ⟨rfl,rfl⟩
  refine wp_seq<|aA<|q u (aJ u rfl wN rfl rfl xJ) fun a u=>?_;have⟨v20,e21,h⟩:=bs1 h;refine q u (aG u rfl xR (aO e21)) fun a u=>?_;have⟨v22,w23,e24,h⟩:=bs2 h;refine q u (dc1 u rfl Try.call52 (kN e24)) fun a u=>qa u rfl fun a u=>aC<|t_n<|?_;refine aF u rfl h (fun b25 h=>?_) (fun b25 h=>?_)
  .refine wp_seq<|aA<|qa u rfl fun a u=>aC<|t_n<|wp_ret<|b_r<|t_r<|?_;have y:=u;cases h;exact aY Try.results77 y rfl ⟨rfl,rfl⟩
  refine wp_skip<|b_n<|t_n<|wp_seq<|wp_seq<|aA<|q u (aJ u rfl wN rfl rfl xK) fun a u=>?_;have⟨c26,e27,h⟩:=bs1 h;refine q u (bK u rfl yB xK e27) fun a u=>?_;have⟨v28,w29,e30,h⟩:=bs2 h;refine q u (dc1 u rfl Try.call85 (lY e30)) fun a u=>qa u rfl fun a u=>aC<|t_n<|wp_seq<|aA<|qm u rfl fun a u=>q u (jH u rfl rfl) fun a u=>aC<|t_n<|?_;refine aF u rfl h (fun b31 h=>?_) (fun b31 h=>?_)
  .refine wp_seq<|aA<|qm u rfl fun a u=>qa u rfl fun a u=>aC<|t_n<|wp_ret<|t_r<|?_;have y:=u;cases h;exact aY Try.results77 y rfl ⟨rfl,rfl⟩
  refine wp_skip<|t_n<|wp_seq<|wp_seq<|aA<|q u (aJ u rfl wN rfl rfl xJ) fun a u=>?_;have⟨v32,e33,h⟩:=bs1 h;refine q u (aG u rfl xR (aO e33)) fun a u=>q u (aJ u rfl wN rfl rfl xK) fun a u=>q u (aJ u rfl xD rfl rfl xB) fun a u=>?_;have⟨v34,e35,h⟩:=bs1 h;refine q u (aG u rfl wX (aO e35)) fun a u=>?_;have⟨v36,w37,e38,h⟩:=bs2 h;refine q u (dc2 u rfl rfl Try.call86 (nL e38)) fun a u=>q u (fT u rfl) fun a u=>aC<|t_n<|?_;refine aF u rfl h (fun b39 h=>?_) (fun b39 h=>?_)
  .refine wp_seq<|aA<|qa u rfl fun a u=>aC<|t_n<|wp_ret<|t_r<|?_;have y:=u;cases h;exact aY Try.results77 y rfl ⟨rfl,rfl⟩
  refine wp_skip<|t_n<|wp_seq<|wp_seq<|?_;have⟨v40,w41,e42,h⟩:=bs2 h;refine bY (n:=48) (L:=[(47,(bV v40))]) (w':=w41) (fun a u=>?_) (fun hk43=>?_)
  .refine t_n<|?_;refine aF u rfl h (fun b52 h=>?_) (fun b52 h=>?_)
   .refine wp_seq<|aA<|qa u rfl fun a u=>aC<|t_n<|wp_ret<|t_r<|?_;have y:=u;cases h;exact aY Try.results77 y rfl ⟨rfl,rfl⟩
   refine wp_skip<|t_n<|wp_seq<|aA<|qa u rfl fun a u=>aC<|t_n<|wp_ret<|?_;have y:=u;cases h;exact aY Try.results77 y rfl ⟨rfl,rfl⟩
  clear h;have h:=e42;refine aA<|q u (aJ u rfl wN rfl rfl xJ) fun a u=>?_;have⟨v44,e45,h⟩:=bs1 h;refine q u (aG u rfl xR (aO e45)) fun a u=>q u (cC u rfl rfl) fun a u=>qm u rfl fun a u=>?_;refine dG h (fun b46 h=>?_) (fun b46 h=>?_)
  .refine qg u 38 b46 (aJ u rfl wN rfl rfl xC) fun a u=>?_;have⟨v47,e48,h⟩:=bs1 h;refine qg u 38 b46 (aG u rfl wZ (aO e48)) fun a u=>qg u 38 b46 (gG u rfl rfl) fun a u=>qg u 38 b46 (aI u rfl) fun a u=>?_;refine dG h (fun b49 h=>?_) (fun b49 h=>?_)
   .refine qn u 42 (tn b49) fun a u=>qn u 42 (tn b49) fun a u=>qn u 42 (tn b49) fun a u=>qg u 38 b46 (aK u rfl b49 rfl) fun a u=>q u (aK u rfl b46 rfl) fun a u=>aC<|?_;have y:=u;cases h;exact hk43 _ (y.sb rfl)
   refine qg u 42 (nt b49) (aJ u rfl wN rfl rfl xC) fun a u=>?_;have⟨v50,e51,h⟩:=bs1 h;refine qg u 42 (nt b49) (aG u rfl wZ (aO e51)) fun a u=>qg u 42 (nt b49) (jF u rfl rfl) fun a u=>qg u 38 b46 (aM u rfl b49 rfl) fun a u=>q u (aK u rfl b46 rfl) fun a u=>aC<|?_;have y:=u;cases h;exact hk43 _ (y.sb rfl)
  refine qn u 38 (nm b46) fun a u=>qn u 38 (nm b46) fun a u=>qn u 38 (nm b46) fun a u=>qn u 38 (nm b46) fun a u=>qu u 42 fun a u=>qu u 42 fun a u=>qu u 42 fun a u=>qn u 38 (nm b46) fun a u=>q u (aM u rfl b46 rfl) fun a u=>aC<|?_;have y:=u;cases h;exact hk43 _ (y.sb rfl)
 clear h;have h:=e12;refine aA<|q u (aJ u rfl wN rfl rfl xJ) fun a u=>?_;have⟨v14,e15,h⟩:=bs1 h;refine q u (aG u rfl xR (aO e15)) fun a u=>q u (gG u rfl rfl) fun a u=>qm u rfl fun a u=>?_;refine dG h (fun b16 h=>?_) (fun b16 h=>?_)
 .refine qn u 13 (tn b16) fun a u=>qn u 13 (tn b16) fun a u=>qn u 13 (tn b16) fun a u=>q u (aK u rfl b16 rfl) fun a u=>qa u rfl fun a u=>aC<|?_;have y:=u;cases h;exact hk13 _ (y.sb rfl)
 refine qg u 13 (nt b16) (aJ u rfl wN rfl rfl xJ) fun a u=>?_;have⟨v17,e18,h⟩:=bs1 h;refine qg u 13 (nt b16) (aG u rfl xR (aO e18)) fun a u=>qg u 13 (nt b16) (jF u rfl rfl) fun a u=>q u (aM u rfl b16 rfl) fun a u=>qa u rfl fun a u=>aC<|?_;have y:=u;cases h;exact hk13 _ (y.sb rfl)
noncomputable def dU (a0:Sl) (x2:Int) (x3:Int) (w4:World):Option ((Int×Int×World)⊕((Int×World)⊕(Int×World))) :=
 if (decide (x3<(a0.n:Int)))=true then
 ((ix a0 x3 9).bind fun p15 =>
 (ldA 9 w4 p15 0).bind fun c17 =>
 aE (mk w4 57 ([.int .i64 0,.string ByteArray.empty,.int .i64 0,.int .i64 0,.int .i64 0,.string ByteArray.empty,.bool false,.complex .f64 0 0,.int .i64 0])) fun p19 w20 =>
 (stA w20 p19 0 c17).bind fun w22 =>
 gX ((ldI .i64 w22 (p19.add 0)).bind fun v31 =>
 aE (if (v31==1)=true then
 (some ((v31==1),w22))
 else
 (some ((v31==2),w22))) fun v33 w34 =>
 if v33=true then
 (some (.inr (0,w34)))
 else
 (if (v31==3)=true then
 ((ldA 9 w34 p19 0).bind fun c40 =>
 aE (iI c40 w34) fun v42 w43 =>
 if (v42 !=0)=true then
 ((some (.inr (.inr (v42,w43)))).bind fun g30=>some (.inl g30))
 else
 (some (.inr (0,w43))))
 else
 (if (v31==4)=true then
 (some (.inr (1,w34)))
 else
 (aE (if (v31==5)=true then
 (some ((v31==5),w34))
 else
 (some ((v31==6),w34))) fun v48 w49 =>
 if v48=true then
 (some (.inr (2,w49)))
 else
 ((some (.inr (.inr (2,w49)))).bind fun g30=>some (.inl g30)))))) some fun (i:Int×World)=>u2 i fun v24 w25 =>
 if (decide (x2<v24))=true then
 (some (.inr (.inr (4,w25))))
 else
 (if (decide (16<(IntKind.wrap .i64 (x2+(IntKind.wrap .i64 (1-v24))))))=true then
 (some (.inr (.inr (6,w25))))
 else
 (some (.inl ((IntKind.wrap .i64 (x2+(IntKind.wrap .i64 (1-v24)))),(IntKind.wrap .i64 (x3+1)),w25)))))
 else
 (some (.inr (.inl (x2,w4))))
noncomputable def hY (a0:Sl) (w:World):Option (Int×World) :=
 if (decide (48<(a0.n:Int)))=true then
 (some (6,w))
 else
 ((bU (fun s:Int×Int×World=>dU a0 s.1 s.2.1 s.2.2) (0,0,w)).bind fun r5=>Sum.elim (fun (i:Int×World)=>u2 i fun v7 w8 =>
 if (v7 !=1)=true then
 (some (4,w8))
 else
 (some (0,w8))) (fun (i:Int×World)=>u2 i fun v9 w10 =>
 some (v9,w10)) r5)
theorem mJ {a0 w w' r0} (h:hY a0 w=some (r0,w')):Calls Try.prog 51 #[(Sl.v a0)] w fun e w''=>e=.returned (.int .i64 r0)/\w''=w':=by
 refine aD (n:=46) Try.func51 rfl Try.ntmps51 (by simp) fun a u=>?_;unfold hY at h;refine wp_seq<|aA<|qa u rfl fun a u=>aC<|t_n<|wp_seq<|wp_seq<|aA<|qm u rfl fun a u=>q u (cI u rfl xS) fun a u=>q u (jF u rfl rfl) fun a u=>aC<|t_n<|?_;refine aF u rfl h (fun b1 h=>?_) (fun b1 h=>?_)
 .refine wp_seq<|aA<|qa u rfl fun a u=>aC<|t_n<|wp_ret<|t_r<|?_;have y:=u;cases h;exact aY Try.results51 y rfl ⟨rfl,rfl⟩
 refine wp_skip<|t_n<|wp_seq<|aA<|qa u rfl fun a u=>aC<|t_n<|wp_seq<|wp_seq<|aA<|qm u rfl fun a u=>q u (cI u rfl xS) fun a u=>qm u rfl fun a u=>aC<|t_n<|wp_block<|?_;have⟨r5,e6,h⟩:=bs1 h;refine dN (n:=46) (L1:=fun i=>[(3,(iV i.1))]) (w1:=fun i=>i.2) (L2:=fun i=>[(2,(iV i.1))]) (w2:=fun i=>i.2) (e1:=.exit 0) (e2:=.ret) (I:=fun (s:Int×Int×World) a w=>Has 46 [(3,(iV s.1)),(13,(iV s.2.1)),(11,(Sl.v a0)),(12,(iV (a0.n:Int)))] a/\w=s.2.2) ⟨u.sub ⟨rfl,rfl,rfl,rfl,aAP⟩,rfl⟩ e6 (fun i hi a u=>?_) (fun i hi a u=>?_) (fun hk11 hk12=>?_)
 .subst hi;obtain⟨v7,w8⟩:=i;dsimp only[Sum.elim_inl,Sum.elim_inr,u1,u2,u3,u4,u5,u6] at h;have u:Has 46 [(3,(iV v7))] a:=u;refine fD<|t_n<|wp_seq<|wp_seq<|aA<|qm u rfl fun a u=>q u (jH u rfl rfl) fun a u=>aC<|t_n<|?_;refine aF u rfl h (fun b57 h=>?_) (fun b57 h=>?_)
  .refine wp_seq<|aA<|qa u rfl fun a u=>aC<|t_n<|wp_ret<|t_r<|?_;have y:=u;cases h;exact aY Try.results51 y rfl ⟨rfl,rfl⟩
  refine wp_skip<|t_n<|wp_seq<|aA<|qa u rfl fun a u=>aC<|t_n<|wp_ret<|?_;have y:=u;cases h;exact aY Try.results51 y rfl ⟨rfl,rfl⟩
 .subst hi;obtain⟨v9,w10⟩:=i;dsimp only[Sum.elim_inl,Sum.elim_inr,u1,u2,u3,u4,u5,u6] at h;have u:Has 46 [(2,(iV v9))] a:=u;refine b_r<|t_r<|?_;have y:=u;cases h;exact aY Try.results51 y rfl ⟨rfl,rfl⟩
 clear h;rintro⟨x2,x3,w4⟩ a wq o ⟨u,hwq⟩ h hr13;obtain rfl:w4=wq:=hwq.symm;have u:Has 46 [(3,(iV x2)),(13,(iV x3)),(11,(Sl.v a0)),(12,(iV (a0.n:Int)))] a:=u;have h:dU a0 x2 x3 w4=some o:=h;unfold dU at h;refine wp_seq<|aA<|q u (gG u rfl rfl) fun a u=>aC<|t_n<|wp_seq<|?_;refine aF u rfl h (fun b14 h=>?_) (fun b14 h=>?_)
 .refine wp_skip<|t_n<|wp_seq<|wp_block<|wp_seq<|aA<|?_;have⟨p15,e16,h⟩:=bs1 h;refine q u (eY u rfl rfl xS xV e16) fun a u=>?_;have⟨c17,e18,h⟩:=bs1 h;refine q u (bK u rfl yH xV e18) fun a u=>?_;have⟨p19,w20,e21,h⟩:=bs2 h;refine q u (cM yF (by kernel_rfl) e21) fun a u=>?_;have⟨w22,e23,h⟩:=bs1 h;refine q u (dQ u rfl rfl xV ((hT e18).1) e23) fun a u=>aC<|t_n<|wp_seq<|aA<|qa u rfl fun a u=>aC<|t_n<|?_;obtain⟨o28,e26,h27⟩:=bsX h;clear h;refine iP (n:=46) (ι:=Int×World) (Lf:=fun i=>[(6,(iV i.1)),(3,(iV x2)),(11,(Sl.v a0)),(12,(iV (a0.n:Int))),(13,(iV x3))]) (wf:=fun i=>i.2) (C:=fun i=>o28=.inr i) (fun i hi a u=>?_) (fun hk29=>?_)
  .subst hi;obtain⟨v24,w25⟩:=i;have h:=h27;dsimp only[gX,u1,u2,u3,u4,u5,u6] at h;have u:Has 46 [(6,(iV v24)),(3,(iV x2)),(11,(Sl.v a0)),(12,(iV (a0.n:Int))),(13,(iV x3))] a:=u;refine wp_seq<|wp_seq<|aA<|qm u rfl fun a u=>qm u rfl fun a u=>q u (gG u rfl rfl) fun a u=>aC<|t_n<|?_;refine aF u rfl h (fun b55 h=>?_) (fun b55 h=>?_)
   .refine wp_seq<|aA<|qa u rfl fun a u=>aC<|t_n<|wp_ret<|t_r<|b_r<|t_r<|?_;have y:=u;cases h;cases hr13 _ rfl;refine gR<|?_;exact hk12 _ rfl _ (y.sb rfl)
   refine wp_skip<|t_n<|wp_seq<|aA<|qm u rfl fun a u=>qm u rfl fun a u=>q u (jZ u rfl rfl) fun a u=>q u (dY u rfl rfl) fun a u=>qa u rfl fun a u=>aC<|t_n<|wp_seq<|aA<|qm u rfl fun a u=>q u (jF u rfl rfl) fun a u=>aC<|t_n<|?_;refine aF u rfl h (fun b56 h=>?_) (fun b56 h=>?_)
   .refine wp_seq<|aA<|qa u rfl fun a u=>aC<|t_n<|wp_ret<|b_r<|t_r<|?_;have y:=u;cases h;cases hr13 _ rfl;refine gR<|?_;exact hk12 _ rfl _ (y.sb rfl)
   refine wp_skip<|b_n<|t_n<|aA<|q u (dY u rfl rfl) fun a u=>qm u rfl fun a u=>aC<|?_;have y:=u;cases h;exact cZ ⟨y.sb rfl,rfl⟩
  have h:=e26;refine wp_seq<|aA<|q u (aJ u rfl wN rfl rfl Try.sizeOf51) fun a u=>?_;have⟨v31,e32,h⟩:=bs1 h;refine q u (aG u rfl Try.isAgg51 (aO e32)) fun a u=>aC<|t_n<|wp_block<|?_;have⟨v33,w34,e35,h⟩:=bs2 h;refine iB (n:=46) (L:=[(19,(bV v33)),(3,(iV x2)),(5,(pV (some p19))),(6,(iV 0)),(11,(Sl.v a0)),(12,(iV (a0.n:Int))),(13,(iV x3)),(18,(iV v31))]) (w':=w34) (fun a u=>?_) (fun hk36=>?_)
  .refine aF u rfl h (fun b38 h=>?_) (fun b38 h=>?_)
   .refine wp_skip<|b_n<|?_;have y:=u;cases h;exact hk29 _ rfl _ (y.sb rfl)
   refine wp_seq<|aA<|q u (cC u rfl rfl) fun a u=>qa u rfl fun a u=>aC<|t_n<|?_;refine aF u rfl h (fun b39 h=>?_) (fun b39 h=>?_)
   .refine wp_seq<|aA<|?_;have⟨c40,e41,h⟩:=bs1 h;refine q u (bK u rfl yH xV e41) fun a u=>?_;have⟨v42,w43,e44,h⟩:=bs2 h;refine q u (dc1 u rfl Try.call77 (nO e44)) fun a u=>qa u rfl fun a u=>aC<|t_n<|wp_seq<|aA<|qm u rfl fun a u=>q u (jH u rfl rfl) fun a u=>aC<|t_n<|?_;refine aF u rfl h (fun b45 h=>?_) (fun b45 h=>?_)
    .refine wp_seq<|aA<|qm u rfl fun a u=>qa u rfl fun a u=>aC<|t_n<|wp_ret<|b_r<|?_;have y:=u;have⟨g30,e46,h⟩:=bs1 h;cases h;cases h27;have h:=e46;have u:=y;refine t_r<|b_r<|t_r<|?_;have y:=u;cases h;cases hr13 _ rfl;refine gR<|?_;exact hk12 _ rfl _ (y.sb rfl)
    refine wp_skip<|b_n<|?_;have y:=u;cases h;exact hk29 _ rfl _ (y.sb rfl)
   refine wp_seq<|aA<|q u (cC u rfl rfl) fun a u=>qa u rfl fun a u=>aC<|t_n<|?_;refine aF u rfl h (fun b47 h=>?_) (fun b47 h=>?_)
   .refine aA<|qa u rfl fun a u=>aC<|b_n<|?_;have y:=u;cases h;exact hk29 _ rfl _ (y.sb rfl)
   have⟨v48,w49,e50,h⟩:=bs2 h;refine iB (n:=46) (L:=[(31,(bV v48)),(3,(iV x2)),(11,(Sl.v a0)),(12,(iV (a0.n:Int))),(13,(iV x3))]) (w':=w49) (fun a u=>?_) (fun hk51=>?_)
   .refine aF u rfl h (fun b53 h=>?_) (fun b53 h=>?_)
    .refine aA<|qa u rfl fun a u=>aC<|b_n<|?_;have y:=u;cases h;exact hk29 _ rfl _ (y.sb rfl)
    refine wp_seq<|aA<|qa u rfl fun a u=>aC<|t_n<|wp_ret<|b_r<|?_;have y:=u;have⟨g30,e54,h⟩:=bs1 h;cases h;cases h27;have h:=e54;have u:=y;refine t_r<|b_r<|t_r<|?_;have y:=u;cases h;cases hr13 _ rfl;refine gR<|?_;exact hk12 _ rfl _ (y.sb rfl)
   clear h;have h:=e50;refine wp_seq<|aA<|q u (cC u rfl rfl) fun a u=>qa u rfl fun a u=>aC<|t_n<|?_;refine aF u rfl h (fun b52 h=>?_) (fun b52 h=>?_)
   .refine wp_skip<|?_;have y:=u;cases h;exact hk51 _ (y.sb rfl)
   refine aA<|q u (cC u rfl rfl) fun a u=>qa u rfl fun a u=>aC<|?_;have y:=u;cases h;exact hk51 _ (y.sb rfl)
  clear h;have h:=e35;refine wp_seq<|aA<|q u (cC u rfl rfl) fun a u=>qa u rfl fun a u=>aC<|t_n<|?_;refine aF u rfl h (fun b37 h=>?_) (fun b37 h=>?_)
  .refine wp_skip<|?_;have y:=u;cases h;exact hk36 _ (y.sb rfl)
  refine aA<|q u (cC u rfl rfl) fun a u=>qa u rfl fun a u=>aC<|?_;have y:=u;cases h;exact hk36 _ (y.sb rfl)
 refine wp_exit<|t_x<|?_;have y:=u;cases h;cases hr13 _ rfl;refine iL<|?_;exact hk11 _ rfl _ (y.sb rfl)
noncomputable def eJ (a0:Sl) (m9:Option Nat) (x12:Int) (w13:World):Option ((Int×World)⊕(World)) :=
 if (decide (x12<(a0.n:Int)))=true then
 ((ix a0 x12 2).bind fun p20 =>
 (ldA 2 w13 p20 0).bind fun c22 =>
 aE (mk w13 33 ([.string ByteArray.empty,.int .i64 0])) fun p24 w25 =>
 (stA w25 p24 0 c22).bind fun w27 =>
 (ldS w27 (p24.add 0)).bind fun v29 =>
 (ldI .i64 w27 (p24.add 1)).bind fun v31 =>
 (upM Try.prog 79 m9 (.string v29) (.int .i64 v31) w27).bind fun w33 =>
 some (.inl ((IntKind.wrap .i64 (x12+1)),w33)))
 else
 (some (.inr w13))
noncomputable def eH (a1:Sl) (m9:Option Nat) (x35:Int) (w36:World):Option ((Int×World)⊕((World)⊕(Int×World))) :=
 if (decide (x35<(a1.n:Int)))=true then
 (gX ((ix a1 x35 9).bind fun p52 =>
 (ldA 9 w36 p52 0).bind fun c54 =>
 aE (mk w36 57 ([.int .i64 0,.string ByteArray.empty,.int .i64 0,.int .i64 0,.int .i64 0,.string ByteArray.empty,.bool false,.complex .f64 0 0,.int .i64 0])) fun p56 w57 =>
 (stA w57 p56 0 c54).bind fun w59 =>
 (ldI .i64 w59 (p56.add 0)).bind fun v61 =>
 if (v61 !=3)=true then
 (some (.inr w59))
 else
 ((ldS w59 (p56.add 1)).bind fun v64 =>
 aE (luI .i64 Try.prog 79 m9 (.string v64) w59) fun v66 w67 =>
 if (v66==0)=true then
 ((some (.inr (.inr (8,w67)))).bind fun g51=>some (.inl g51))
 else
 (aE (aE ((ldI .i64 w67 (p56.add 2)).bind fun v79 =>
 if (v79==2)=true then
 (some ((v66 !=3),w67))
 else
 (some (false,w67))) fun v75 w76 =>
 if v75=true then
 (some (v75,w76))
 else
 (aE ((ldI .i64 w76 (p56.add 2)).bind fun v87 =>
 aE (gZ v87 w76) fun v89 w90 =>
 if (!v89)=true then
 ((ldI .i64 w90 ((p56.add 3).add 0)).bind fun v93 =>
 some ((v66 !=v93),w90))
 else
 (some (false,w90))) fun v83 w84 =>
 some (v83,w84))) fun v71 w72 =>
 if v71=true then
 ((some (.inr (.inr (12,w72)))).bind fun g51=>some (.inl g51))
 else
 (some (.inr w72))))) some fun (i:World)=>u1 i fun w46 =>
 some (.inl ((IntKind.wrap .i64 (x35+1)),w46)))
 else
 (some (.inr (.inl w36)))
noncomputable def iJ (a0:Sl) (a1:Sl) (w:World):Option (Int×World) :=
 aE (dO a0 w) fun v1 w2 =>
 if (v1 !=0)=true then
 (some (v1,w2))
 else
 (aE (hY a1 w2) fun v5 w6 =>
 if (v5 !=0)=true then
 (some (v5,w6))
 else
 (aE (mkM Try.prog 79 w6) fun m9 w10 =>
 (bU (fun s:Int×World=>eJ a0 m9 s.1 s.2) (0,w10)).bind fun w16 =>
 (bU (fun s:Int×World=>eH a1 m9 s.1 s.2) (0,w16)).bind fun r37=>Sum.elim (fun (i:World)=>u1 i fun w39 =>
 some (0,w39)) (fun (i:Int×World)=>u2 i fun v40 w41 =>
 some (v40,w41)) r37))
theorem nI {a0 a1 w w' r0} (h:iJ a0 a1 w=some (r0,w')):Calls Try.prog 31 #[(Sl.v a0),(Sl.v a1)] w fun e w''=>e=.returned (.int .i64 r0)/\w''=w':=by
 refine aD (n:=72) Try.func31 rfl Try.ntmps31 (by simp) fun a u=>?_;unfold iJ at h;refine wp_seq<|aA<|qa u rfl fun a u=>aC<|t_n<|wp_seq<|wp_seq<|aA<|qm u rfl fun a u=>?_;have⟨v1,w2,e3,h⟩:=bs2 h;refine q u (dc1 u rfl Try.call50 (jJ e3)) fun a u=>qa u rfl fun a u=>aC<|t_n<|wp_seq<|aA<|qm u rfl fun a u=>q u (jH u rfl rfl) fun a u=>aC<|t_n<|?_;refine aF u rfl h (fun b4 h=>?_) (fun b4 h=>?_)
 .refine wp_seq<|aA<|qm u rfl fun a u=>qa u rfl fun a u=>aC<|t_n<|wp_ret<|t_r<|?_;have y:=u;cases h;exact aY Try.results31 y rfl ⟨rfl,rfl⟩
 refine wp_skip<|t_n<|wp_seq<|wp_seq<|aA<|qm u rfl fun a u=>?_;have⟨v5,w6,e7,h⟩:=bs2 h;refine q u (dc1 u rfl Try.call51 (mJ e7)) fun a u=>qa u rfl fun a u=>aC<|t_n<|wp_seq<|aA<|qm u rfl fun a u=>q u (jH u rfl rfl) fun a u=>aC<|t_n<|?_;refine aF u rfl h (fun b8 h=>?_) (fun b8 h=>?_)
 .refine wp_seq<|aA<|qm u rfl fun a u=>qa u rfl fun a u=>aC<|t_n<|wp_ret<|t_r<|?_;have y:=u;cases h;exact aY Try.results31 y rfl ⟨rfl,rfl⟩
 refine wp_skip<|t_n<|wp_seq<|aA<|?_;have⟨m9,w10,e11,h⟩:=bs2 h;refine q u (vR e11) fun a u=>qa u rfl fun a u=>aC<|t_n<|wp_seq<|wp_seq<|aA<|qm u rfl fun a u=>q u (cI u rfl xN) fun a u=>qm u rfl fun a u=>aC<|t_n<|wp_block<|?_;have⟨w16,e15,h⟩:=bs1 h;refine nD (n:=72) (L:=[(1,(Sl.v a1)),(7,(.map m9))]) (w':=w16) (e:=.exit 0) (I:=fun (s:Int×World) a w=>Has 72 [(26,(iV s.1)),(1,(Sl.v a1)),(7,(.map m9)),(24,(Sl.v a0)),(25,(iV (a0.n:Int)))] a/\w=s.2) ⟨u.sub ⟨rfl,rfl,rfl,rfl,rfl,aAP⟩,rfl⟩ e15 (fun a u=>?_) (fun hk17=>?_)
 .refine fD<|t_n<|wp_seq<|wp_seq<|aA<|qm u rfl fun a u=>q u (cI u rfl xS) fun a u=>qm u rfl fun a u=>aC<|t_n<|wp_block<|?_;have⟨r37,e38,h⟩:=bs1 h;refine dN (n:=72) (L1:=fun i=>[]) (w1:=fun i=>i) (L2:=fun i=>[(4,(iV i.1))]) (w2:=fun i=>i.2) (e1:=.exit 2) (e2:=.ret) (I:=fun (s:Int×World) a w=>Has 72 [(38,(iV s.1)),(7,(.map m9)),(36,(Sl.v a1)),(37,(iV (a1.n:Int)))] a/\w=s.2) ⟨u.sub ⟨rfl,rfl,rfl,rfl,aAP⟩,rfl⟩ e38 (fun i hi a u=>?_) (fun i hi a u=>?_) (fun hk42 hk43=>?_)
  .subst hi;obtain⟨w39,rfl⟩:∃ x,x=i:=⟨i,rfl⟩;dsimp only[Sum.elim_inl,Sum.elim_inr,u1,u2,u3,u4,u5,u6] at h;have u:Has 72 [] a:=u;refine fD<|t_n<|wp_seq<|aA<|qa u rfl fun a u=>aC<|t_n<|wp_ret<|?_;have y:=u;cases h;exact aY Try.results31 y rfl ⟨rfl,rfl⟩
  .subst hi;obtain⟨v40,w41⟩:=i;dsimp only[Sum.elim_inl,Sum.elim_inr,u1,u2,u3,u4,u5,u6] at h;have u:Has 72 [(4,(iV v40))] a:=u;refine b_r<|t_r<|?_;have y:=u;cases h;exact aY Try.results31 y rfl ⟨rfl,rfl⟩
  clear h;rintro⟨x35,w36⟩ a wq o ⟨u,hwq⟩ h hr44;obtain rfl:w36=wq:=hwq.symm;have u:Has 72 [(38,(iV x35)),(7,(.map m9)),(36,(Sl.v a1)),(37,(iV (a1.n:Int)))] a:=u;have h:eH a1 m9 x35 w36=some o:=h;unfold eH at h;refine wp_seq<|aA<|q u (gG u rfl rfl) fun a u=>aC<|t_n<|wp_seq<|?_;refine aF u rfl h (fun b45 h=>?_) (fun b45 h=>?_)
  .refine wp_skip<|t_n<|?_;obtain⟨o49,e47,h48⟩:=bsX h;clear h;refine iP (n:=72) (ι:=World) (Lf:=fun i=>[(7,(.map m9)),(36,(Sl.v a1)),(37,(iV (a1.n:Int))),(38,(iV x35))]) (wf:=fun i=>i) (C:=fun i=>o49=.inr i) (fun i hi a u=>?_) (fun hk50=>?_)
   .subst hi;obtain⟨w46,rfl⟩:∃ x,x=i:=⟨i,rfl⟩;have h:=h48;dsimp only[gX,u1,u2,u3,u4,u5,u6] at h;have u:Has 72 [(7,(.map m9)),(36,(Sl.v a1)),(37,(iV (a1.n:Int))),(38,(iV x35))] a:=u;refine aA<|q u (dY u rfl rfl) fun a u=>qm u rfl fun a u=>aC<|?_;have y:=u;cases h;exact cZ ⟨y.sb rfl,rfl⟩
   have h:=e47;refine wp_block<|wp_seq<|aA<|?_;have⟨p52,e53,h⟩:=bs1 h;refine q u (eY u rfl rfl xS xV e53) fun a u=>?_;have⟨c54,e55,h⟩:=bs1 h;refine q u (bK u rfl yH xV e55) fun a u=>?_;have⟨p56,w57,e58,h⟩:=bs2 h;refine q u (cM yF (by kernel_rfl) e58) fun a u=>?_;have⟨w59,e60,h⟩:=bs1 h;refine q u (dQ u rfl rfl xV ((hT e55).1) e60) fun a u=>aC<|t_n<|wp_seq<|wp_seq<|aA<|q u (aJ u rfl wN rfl rfl Try.sizeOf51) fun a u=>?_;have⟨v61,e62,h⟩:=bs1 h;refine q u (aG u rfl Try.isAgg51 (aO e62)) fun a u=>q u (jH u rfl rfl) fun a u=>aC<|t_n<|?_;refine aF u rfl h (fun b63 h=>?_) (fun b63 h=>?_)
   .refine wp_exit<|t_x<|fD<|?_;have y:=u;cases h;exact hk50 _ rfl _ (y.sb rfl)
   refine wp_skip<|t_n<|wp_seq<|aA<|qm u rfl fun a u=>q u (aJ u rfl wN rfl rfl wR) fun a u=>?_;have⟨v64,e65,h⟩:=bs1 h;refine q u (aG u rfl wU (cH e65)) fun a u=>?_;have⟨v66,w67,e68,h⟩:=bs2 h;refine q u (vN u rfl rfl e68) fun a u=>qa u rfl fun a u=>aC<|t_n<|wp_block<|wp_seq<|aA<|qm u rfl fun a u=>q u (cC u rfl rfl) fun a u=>qa u rfl fun a u=>aC<|t_n<|?_;refine aF u rfl h (fun b69 h=>?_) (fun b69 h=>?_)
   .refine wp_seq<|aA<|qa u rfl fun a u=>aC<|t_n<|wp_ret<|b_r<|b_r<|?_;have y:=u;have⟨g51,e70,h⟩:=bs1 h;cases h;cases h48;have h:=e70;have u:=y;refine t_r<|?_;have y:=u;cases h;cases hr44 _ rfl;refine gR<|?_;exact hk43 _ rfl _ (y.sb rfl)
   have⟨v71,w72,e73,h⟩:=bs2 h;refine iB (n:=72) (L:=[(52,(bV v71)),(7,(.map m9)),(36,(Sl.v a1)),(37,(iV (a1.n:Int))),(38,(iV x35))]) (w':=w72) (fun a u=>?_) (fun hk74=>?_)
   .refine aF u rfl h (fun b95 h=>?_) (fun b95 h=>?_)
    .refine wp_seq<|aA<|qa u rfl fun a u=>aC<|t_n<|wp_ret<|b_r<|b_r<|?_;have y:=u;have⟨g51,e96,h⟩:=bs1 h;cases h;cases h48;have h:=e96;have u:=y;refine t_r<|?_;have y:=u;cases h;cases hr44 _ rfl;refine gR<|?_;exact hk43 _ rfl _ (y.sb rfl)
    refine wp_skip<|b_n<|b_n<|?_;have y:=u;cases h;exact hk50 _ rfl _ (y.sb rfl)
   clear h;have h:=e73;refine wp_seq<|?_;have⟨v75,w76,e77,h⟩:=bs2 h;refine bY (n:=72) (L:=[(52,(bV v75)),(7,(.map m9)),(11,(pV (some p56))),(12,(iV v66)),(36,(Sl.v a1)),(37,(iV (a1.n:Int))),(38,(iV x35))]) (w':=w76) (fun a u=>?_) (fun hk78=>?_)
   .refine t_n<|?_;refine aF u rfl h (fun b82 h=>?_) (fun b82 h=>?_)
    .refine wp_skip<|?_;have y:=u;cases h;exact hk74 _ (y.sb rfl)
    have⟨v83,w84,e85,h⟩:=bs2 h;refine bY (n:=72) (L:=[(52,(bV v83)),(7,(.map m9)),(36,(Sl.v a1)),(37,(iV (a1.n:Int))),(38,(iV x35))]) (w':=w84) (fun a u=>?_) (fun hk86=>?_)
    .have y:=u;cases h;exact hk74 _ (y.sb rfl)
    clear h;have h:=e85;refine aA<|q u (aJ u rfl wN rfl rfl xJ) fun a u=>?_;have⟨v87,e88,h⟩:=bs1 h;refine q u (aG u rfl xR (aO e88)) fun a u=>?_;have⟨v89,w90,e91,h⟩:=bs2 h;refine q u (dc1 u rfl Try.call52 (kN e91)) fun a u=>q u (fT u rfl) fun a u=>qm u rfl fun a u=>?_;refine dG h (fun b92 h=>?_) (fun b92 h=>?_)
    .refine qg u 64 b92 (aI u rfl) fun a u=>qg u 64 b92 (aJ u rfl wN rfl rfl xK) fun a u=>qg u 64 b92 (aJ u rfl xD rfl rfl xB) fun a u=>?_;have⟨v93,e94,h⟩:=bs1 h;refine qg u 64 b92 (aG u rfl wX (aO e94)) fun a u=>qg u 64 b92 (jH u rfl rfl) fun a u=>q u (aK u rfl b92 rfl) fun a u=>qa u rfl fun a u=>aC<|?_;have y:=u;cases h;exact hk86 _ (y.sb rfl)
    refine qn u 64 (nm b92) fun a u=>qn u 64 (nm b92) fun a u=>qn u 64 (nm b92) fun a u=>qn u 64 (nm b92) fun a u=>qn u 64 (nm b92) fun a u=>q u (aM u rfl b92 rfl) fun a u=>qa u rfl fun a u=>aC<|?_;have y:=u;cases h;exact hk86 _ (y.sb rfl)
   clear h;have h:=e77;refine aA<|q u (aJ u rfl wN rfl rfl xJ) fun a u=>?_;have⟨v79,e80,h⟩:=bs1 h;refine q u (aG u rfl xR (aO e80)) fun a u=>q u (cC u rfl rfl) fun a u=>qm u rfl fun a u=>?_;refine dG h (fun b81 h=>?_) (fun b81 h=>?_)
   .refine qg u 56 b81 (aI u rfl) fun a u=>qg u 56 b81 (jH u rfl rfl) fun a u=>q u (aK u rfl b81 rfl) fun a u=>qa u rfl fun a u=>aC<|?_;have y:=u;cases h;exact hk78 _ (y.sb rfl)
   refine qn u 56 (nm b81) fun a u=>qn u 56 (nm b81) fun a u=>q u (aM u rfl b81 rfl) fun a u=>qa u rfl fun a u=>aC<|?_;have y:=u;cases h;exact hk78 _ (y.sb rfl)
  refine wp_exit<|t_x<|?_;have y:=u;cases h;cases hr44 _ rfl;refine iL<|?_;exact hk42 _ rfl _ (y.sb rfl)
 clear h;rintro⟨x12,w13⟩ a wq o ⟨u,hwq⟩ h hr18;obtain rfl:w13=wq:=hwq.symm;have u:Has 72 [(26,(iV x12)),(1,(Sl.v a1)),(7,(.map m9)),(24,(Sl.v a0)),(25,(iV (a0.n:Int)))] a:=u;have h:eJ a0 m9 x12 w13=some o:=h;unfold eJ at h;refine wp_seq<|aA<|q u (gG u rfl rfl) fun a u=>aC<|t_n<|wp_seq<|?_;refine aF u rfl h (fun b19 h=>?_) (fun b19 h=>?_)
 .refine wp_skip<|t_n<|wp_seq<|wp_block<|wp_seq<|aA<|?_;have⟨p20,e21,h⟩:=bs1 h;refine q u (eY u rfl rfl xN yC e21) fun a u=>?_;have⟨c22,e23,h⟩:=bs1 h;refine q u (bK u rfl Try.isAgg33 yC e23) fun a u=>?_;have⟨p24,w25,e26,h⟩:=bs2 h;refine q u (cM yG (by kernel_rfl) e26) fun a u=>?_;have⟨w27,e28,h⟩:=bs1 h;refine q u (dQ u rfl rfl yC ((hT e23).1) e28) fun a u=>aC<|t_n<|aA<|qm u rfl fun a u=>q u (aJ u rfl xO rfl rfl wR) fun a u=>?_;have⟨v29,e30,h⟩:=bs1 h;refine q u (aG u rfl wU (cH e30)) fun a u=>q u (aJ u rfl xO rfl rfl xB) fun a u=>?_;have⟨v31,e32,h⟩:=bs1 h;refine q u (aG u rfl wX (aO e32)) fun a u=>?_;have⟨w33,e34,h⟩:=bs1 h;refine q u (vU u rfl rfl rfl e34) fun a u=>aC<|b_n<|t_n<|aA<|q u (dY u rfl rfl) fun a u=>qm u rfl fun a u=>aC<|?_;have y:=u;cases h;exact cZ ⟨y.sb rfl,rfl⟩
 refine wp_exit<|t_x<|?_;have y:=u;cases h;cases hr18 _ rfl;refine iL<|?_;exact hk17 _ (y.sb rfl)
noncomputable def eP (a0:List Value) (a1:Addr) (w:World):Option (Bool×World) :=
 aE (mk w 33 a0) fun p1 w2 =>
 (ldS w2 (p1.add 0)).bind fun v4 =>
 (ldS w2 a1).bind fun v6 =>
 some ((sEq v4 v6),w2)
theorem kH {a0 a1 w w' r0} (h:eP a0 a1 w=some (r0,w')):Calls Try.prog 34 #[(.agg (List.toArray a0)),(.pointer (some a1))] w fun e w''=>e=.returned (.bool r0)/\w''=w':=by
 refine aD (n:=8) Try.func34 rfl Try.ntmps34 (by simp) fun a u=>?_;unfold eP at h;refine wp_seq<|aA<|?_;have⟨p1,w2,e3,h⟩:=bs2 h;refine q u (dI u rfl rfl e3) fun a u=>qa u rfl fun a u=>aC<|t_n<|wp_seq<|aA<|q u (aJ u rfl xO rfl rfl wR) fun a u=>?_;have⟨v4,e5,h⟩:=bs1 h;refine q u (aG u rfl wU (cH e5)) fun a u=>?_;have⟨v6,e7,h⟩:=bs1 h;refine q u (aG u rfl wU (cH e7)) fun a u=>q u (tK u rfl rfl) fun a u=>qa u rfl fun a u=>aC<|t_n<|wp_ret<|?_;have y:=u;cases h;exact aY Try.results34 y rfl ⟨rfl,rfl⟩
noncomputable def aT (a0:Sl) (a1_0:Addr) (x1:Int) (w2:World):Option ((Int×World)⊕((World)⊕(Int×World))) :=
 if (decide (x1<(a0.n:Int)))=true then
 ((ix a0 x1 2).bind fun p12 =>
 (ldA 2 w2 p12 0).bind fun c14 =>
 aE (eP c14 a1_0 w2) fun v16 w17 =>
 if v16=true then
 (some (.inr (.inr (x1,w17))))
 else
 (some (.inl ((IntKind.wrap .i64 (x1+1)),w17))))
 else
 (some (.inr (.inl w2)))
noncomputable def aW (a0:Sl) (a1_0:Addr) (w:World):Option (Int×World) :=
 (bU (fun s:Int×World=>aT a0 a1_0 s.1 s.2) (0,w)).bind fun r3=>Sum.elim (fun (i:World)=>u1 i fun w5 =>
 some ((-1),w5)) (fun (i:Int×World)=>u2 i fun v6 w7 =>
 some (v6,w7)) r3
theorem eK {a0 a1_0 w w' r0} (h:aW a0 a1_0 w=some (r0,w')):Calls Try.prog 33 #[(Sl.v a0),(.func (.func 34) #[] #[(.pointer (some a1_0))])] w fun e w''=>e=.returned (.int .i64 r0)/\w''=w':=by
 refine aD (n:=19) Try.func33 rfl Try.ntmps33 (by simp) fun a u=>?_;unfold aW at h;refine wp_seq<|aA<|qa u rfl fun a u=>aC<|t_n<|wp_seq<|wp_seq<|aA<|qm u rfl fun a u=>q u (cI u rfl xN) fun a u=>qm u rfl fun a u=>aC<|t_n<|wp_block<|?_;have⟨r3,e4,h⟩:=bs1 h;refine dN (n:=19) (L1:=fun i=>[]) (w1:=fun i=>i) (L2:=fun i=>[(4,(iV i.1))]) (w2:=fun i=>i.2) (e1:=.exit 0) (e2:=.ret) (I:=fun (s:Int×World) a w=>Has 19 [(8,(iV s.1)),(0,(Sl.v a0)),(1,(.func (.func 34) #[] #[(pV (some a1_0))])),(7,(iV (a0.n:Int)))] a/\w=s.2) ⟨u.sub ⟨rfl,rfl,rfl,rfl,aAP⟩,rfl⟩ e4 (fun i hi a u=>?_) (fun i hi a u=>?_) (fun hk8 hk9=>?_)
 .subst hi;obtain⟨w5,rfl⟩:∃ x,x=i:=⟨i,rfl⟩;dsimp only[Sum.elim_inl,Sum.elim_inr,u1,u2,u3,u4,u5,u6] at h;have u:Has 19 [] a:=u;refine fD<|t_n<|wp_seq<|aA<|qa u rfl fun a u=>aC<|t_n<|wp_ret<|?_;have y:=u;cases h;exact aY Try.results33 y rfl ⟨rfl,rfl⟩
 .subst hi;obtain⟨v6,w7⟩:=i;dsimp only[Sum.elim_inl,Sum.elim_inr,u1,u2,u3,u4,u5,u6] at h;have u:Has 19 [(4,(iV v6))] a:=u;refine b_r<|t_r<|?_;have y:=u;cases h;exact aY Try.results33 y rfl ⟨rfl,rfl⟩
 clear h;rintro⟨x1,w2⟩ a wq o ⟨u,hwq⟩ h hr10;obtain rfl:w2=wq:=hwq.symm;have u:Has 19 [(8,(iV x1)),(0,(Sl.v a0)),(1,(.func (.func 34) #[] #[(pV (some a1_0))])),(7,(iV (a0.n:Int)))] a:=u;have h:aT a0 a1_0 x1 w2=some o:=h;unfold aT at h;refine wp_seq<|aA<|q u (gG u rfl rfl) fun a u=>aC<|t_n<|wp_seq<|?_;refine aF u rfl h (fun b11 h=>?_) (fun b11 h=>?_)
 .refine wp_skip<|t_n<|wp_seq<|wp_block<|wp_seq<|aA<|qm u rfl fun a u=>qa u rfl fun a u=>aC<|t_n<|wp_seq<|aA<|qm u rfl fun a u=>qm u rfl fun a u=>qm u rfl fun a u=>?_;have⟨p12,e13,h⟩:=bs1 h;refine q u (eY u rfl rfl xN yC e13) fun a u=>?_;have⟨c14,e15,h⟩:=bs1 h;refine q u (bK u rfl Try.isAgg33 yC e15) fun a u=>?_;have⟨v16,w17,e18,h⟩:=bs2 h;refine q u (dV (xs:=[_]) (vs:=[(.agg (List.toArray c14))]) (cv:=[(pV (some a1_0))]) u rfl ⟨rfl,aAP⟩ Try.call34 (kH e18)) fun a u=>aC<|t_n<|?_;refine aF u rfl h (fun b19 h=>?_) (fun b19 h=>?_)
  .refine wp_seq<|aA<|qm u rfl fun a u=>qa u rfl fun a u=>aC<|t_n<|wp_ret<|b_r<|t_r<|?_;have y:=u;cases h;cases hr10 _ rfl;refine gR<|?_;exact hk9 _ rfl _ (y.sb rfl)
  refine wp_skip<|b_n<|t_n<|aA<|q u (dY u rfl rfl) fun a u=>qm u rfl fun a u=>aC<|?_;have y:=u;cases h;exact cZ ⟨y.sb rfl,rfl⟩
 refine wp_exit<|t_x<|?_;have y:=u;cases h;cases hr10 _ rfl;refine iL<|?_;exact hk8 _ rfl _ (y.sb rfl)
noncomputable def fS (a0:ByteArray) (a1:Addr) (w:World):Option (Int×World) :=
 aE (mk w 9 ([(.string a0)])) fun p1 w2 =>
 (dr w2).bind fun w4 =>
 (ldL w4 a1).bind fun v6 =>
 (ldL w4 a1).bind fun v8 =>
 aE (aW v8 p1 w4) fun v10 w11 =>
 (ix v6 v10 2).bind fun p13 =>
 (ldI .i64 w11 (p13.add 1)).bind fun v15 =>
 chk (ldL w11 a1=some v6) <|
 some (v15,w11)
theorem lA {a0 a1 w w' r0} (h:fS a0 a1 w=some (r0,w')):Calls Try.prog 32 #[(.string a0),(.pointer (some a1))] w fun e w''=>e=.returned (.int .i64 r0)/\w''=w':=by
 refine aD (n:=11) Try.func32 rfl Try.ntmps32 (by simp) fun a u=>?_;unfold fS at h;refine wp_seq<|aA<|?_;have⟨p1,w2,e3,h⟩:=bs2 h;refine q u (dI u rfl rfl e3) fun a u=>qa u rfl fun a u=>aC<|t_n<|wp_seq<|?_;have⟨w4,e5,h⟩:=bs1 h;have⟨v6,e7,h⟩:=bs1 h;have⟨v8,e9,h⟩:=bs1 h;have⟨v10,w11,e12,h⟩:=bs2 h;have⟨p13,e14,h⟩:=bs1 h;have⟨v15,e16,h⟩:=bs1 h;obtain⟨e17,h⟩:=dC h;have u:Has 11 [(1,(pV (some a1))),(2,(pV (some p1)))] a:=u.sb rfl;refine cL (n:=11) (ds:=(aL (Sl.v v6) false 0 1 [] [(1,(pV (some a1)))]::bJ (Sl.v v8) 0 [] 1 (pV (some a1))::bJ (.func (.func 34) #[] #[(pV (some p1))]) 0 [] 2 (pV (some p1))::aL (iV v10) true 0 0 [1,2] [(5,(Sl.v v8)),(6,(.func (.func 34) #[] #[(pV (some p1))]))]::gL (pV (some p13)) 1 (rn 0 4) [(4,(Sl.v v6)),(7,(iV v10))]::bJ (pV (some (p13.add 1))) 1 (rn 0 5) 8 (pV (some p13))::bJ (iV v15) 1 (rn 0 6) 9 (pV (some (p13.add 1)))::eN (iV v15) 1 (rn 0 7) 10::[])) (W:=(fun j=>match j with | 0=>w4 | 1=>w11 | _=>w11)) (by kernel_rfl) u (gY e5) (by kernel_rfl) ?_ (bS (by kernel_rfl)) (by kernel_rfl) (m:=1) (by kernel_rfl) (fun a u=>?_)
 .refine⟨?_,oc 0 (kd (aG · rfl yL (bW e9))),oa (jL (vs:=[(pV (some p1))]) · ⟨rfl,aAP⟩),oc 0 (kd (eG (xs:=[_,_]) (vs:=[(Sl.v v8),(.func (.func 34) #[] #[(pV (some p1))])]) · ⟨rfl,rfl,aAP⟩ Try.call33 (eK e12))),oa (eY · rfl rfl xN yC e14),oa (aJ · rfl xO rfl rfl xB),oc 1 (kd (aG · rfl wX (aO e16))),oa (fW · rfl),aAP⟩;intro j h1 h2;have h1:0<=j:=h1;have h2:j<=1:=h2;rcases(by omega:j=0\/j=1) with rfl | rfl
  .exact kd (aG · rfl yL (bW e7))
  exact kd (aG · rfl yL (bW e17))
 have u:Has 11 [(3,(iV v15))] a:=u.sb rfl;refine t_n<|wp_ret<|?_;have y:=u;cases h;exact aY Try.results32 y rfl ⟨rfl,rfl⟩
noncomputable def iN (a0:Bool) (w:World):Option (Int×World) :=
 if a0=true then
 (some (1,w))
 else
 (some (0,w))
theorem iX {a0 w w' r0} (h:iN a0 w=some (r0,w')):Calls Try.prog 80 #[(.bool a0)] w fun e w''=>e=.returned (.int .i64 r0)/\w''=w':=by
 refine aD (n:=4) Try.func80 rfl Try.ntmps80 (by simp) fun a u=>?_;unfold iN at h;refine wp_seq<|aA<|qa u rfl fun a u=>aC<|t_n<|wp_seq<|wp_seq<|aA<|qm u rfl fun a u=>aC<|t_n<|?_;refine aF u rfl h (fun b1 h=>?_) (fun b1 h=>?_)
 .refine wp_seq<|aA<|qa u rfl fun a u=>aC<|t_n<|wp_ret<|t_r<|?_;have y:=u;cases h;exact aY Try.results80 y rfl ⟨rfl,rfl⟩
 refine wp_skip<|t_n<|wp_seq<|aA<|qa u rfl fun a u=>aC<|t_n<|wp_ret<|?_;have y:=u;cases h;exact aY Try.results80 y rfl ⟨rfl,rfl⟩
noncomputable def cP (a0:ByteArray) (a1:Int) (w:World):Option ((List Value)×World) :=
 aE (mk w 40 ([.string ByteArray.empty,.int .i64 0,.bool false,.int .i64 0,.int .i64 0,.string ByteArray.empty,.string ByteArray.empty,.bool false,.int .u8 0,.bool false,.slice none 0 0,.slice none 0 0])) fun p1 w2 =>
 aE (iN (a1==1) w2) fun v4 w5 =>
 aE (iN (a1==1) w5) fun v7 w8 =>
 aE (iN (a1==3) w8) fun v10 w11 =>
 (stA w11 p1 0 ([.string a0,.int .i64 a1,.bool false,.int .i64 (IntKind.wrap .i64 ((-9223372036854775808)*v4)),.int .i64 (IntKind.wrap .i64 (9223372036854775807*v7)),.string ByteArray.empty,.string ByteArray.empty,.bool (a1==2),.int .u8 (IntKind.wrap .u8 (IntKind.wrap .i64 (3*v10))),.bool false,.slice none 0 0,.slice none 0 0])).bind fun w13 =>
 (ldA 12 w13 p1 0).bind fun v15 =>
 some (v15,w13)
theorem dF {a0 a1 w w' r0} (h:cP a0 a1 w=some (r0,w')):Calls Try.prog 78 #[(.string a0),(.int .i64 a1)] w fun e w''=>e=.returned (.agg (List.toArray r0))/\w''=w':=by
 refine aD (n:=23) Try.func78 rfl Try.ntmps78 (by simp) fun a u=>?_;unfold cP at h;refine wp_seq<|aA<|?_;have⟨p1,w2,e3,h⟩:=bs2 h;refine q u (cM wW (by kernel_rfl) e3) fun a u=>aC<|t_n<|wp_seq<|aA<|qm u rfl fun a u=>qm u rfl fun a u=>qm u rfl fun a u=>q u (cC u rfl rfl) fun a u=>?_;have⟨v4,w5,e6,h⟩:=bs2 h;refine q u (dc1 u rfl Try.call80 (iX e6)) fun a u=>q u (lS u rfl rfl) fun a u=>qm u rfl fun a u=>q u (cC u rfl rfl) fun a u=>?_;have⟨v7,w8,e9,h⟩:=bs2 h;refine q u (dc1 u rfl Try.call80 (iX e9)) fun a u=>q u (lS u rfl rfl) fun a u=>qm u rfl fun a u=>q u (cC u rfl rfl) fun a u=>qm u rfl fun a u=>q u (cC u rfl rfl) fun a u=>?_;have⟨v10,w11,e12,h⟩:=bs2 h;refine q u (dc1 u rfl Try.call80 (iX e12)) fun a u=>q u (lS u rfl rfl) fun a u=>q u (uJ u rfl Try.runUnderlying2 Try.runUnderlying5) fun a u=>q u (fN (vs:=[(0,(.string a0)),(1,(iV a1)),(3,(iV (IntKind.wrap .i64 ((-9223372036854775808)*v4)))),(4,(iV (IntKind.wrap .i64 (9223372036854775807*v7)))),(7,(bV (a1==2))),(8,(.int .u8 (IntKind.wrap .u8 (IntKind.wrap .i64 (3*v10)))))]) (pl:=#[(0,1),(1,1),(2,1),(3,1),(4,1),(5,1),(6,1),(7,1),(8,1),(9,1),(10,1),(11,1)]) (cs:=([.string a0,.int .i64 a1,.bool false,.int .i64 (IntKind.wrap .i64 ((-9223372036854775808)*v4)),.int .i64 (IntKind.wrap .i64 (9223372036854775807*v7)),.string ByteArray.empty,.string ByteArray.empty,.bool (a1==2),.int .u8 (IntKind.wrap .u8 (IntKind.wrap .i64 (3*v10))),.bool false,.slice none 0 0,.slice none 0 0])) u ⟨rfl,rfl,rfl,rfl,rfl,rfl,rfl,rfl,rfl,rfl,rfl,rfl,aAP⟩ wW wM (by intro w;kernel_rfl) (by kernel_rfl)) fun a u=>?_;have⟨w13,e14,h⟩:=bs1 h;refine q u (dQ u rfl rfl wO rfl e14) fun a u=>aC<|t_n<|wp_ret<|?_;have⟨v15,e16,h⟩:=bs1 h;have y:=u;cases h;exact uT (vs:=[_]) Try.results78 y ⟨⟨_,rfl,uW xE wO e16⟩,aAP⟩ ⟨rfl,rfl⟩
noncomputable def iU (a0:Option Addr) (w:World):Option (World) :=
 some w
theorem lK {a0 w w'} (h:iU a0 w=some w'):Calls Try.prog 53 #[(.pointer a0)] w fun e w''=>e=.returned (.tuple #[])/\w''=w':=by
 refine aD (n:=2) Try.func53 rfl Try.ntmps53 (by simp) fun a u=>?_;unfold iU at h;refine wp_skip<|?_;have y:=u;cases h;exact mI Try.results53 y ⟨rfl,rfl⟩
structure ND (α:Type) where
 t:(α->Prop)->Prop
 m:∀ {Q Q':α->Prop},(∀ a,Q a->Q' a)->t Q->t Q'
section
variable {α β γ δ ε ζ ρ S R ι : Type}
def bR (a:α):ND α:=⟨fun Q=>Q a,fun h k=>h _ k⟩
def lU:ND α:=⟨fun _=>False,fun _ k=>k⟩
def nck (p:Prop) (x:ND α):ND α:=⟨fun Q=>p/\x.t Q,fun h k=>⟨k.1,x.m h k.2⟩⟩
def lb1 (o:Option α) (f:α->ND ρ):ND ρ:=⟨fun Q=>∃ a,o=some a/\(f a).t Q,fun h ⟨a,e,k⟩=>⟨a,e,(f a).m h k⟩⟩
def lb2 (o:Option (α×β)) (f:α->β->ND ρ):ND ρ:=⟨fun Q=>∃ a b,o=some (a,b)/\(f a b).t Q,fun h ⟨a,b,e,k⟩=>⟨a,b,e,(f a b).m h k⟩⟩
def lb3 (o:Option (α×β×γ)) (f:α->β->γ->ND ρ):ND ρ:=⟨fun Q=>∃ a b c,o=some (a,b,c)/\(f a b c).t Q,fun h ⟨a,b,c,e,k⟩=>⟨a,b,c,e,(f a b c).m h k⟩⟩
def lb4 (o:Option (α×β×γ×δ)) (f:α->β->γ->δ->ND ρ):ND ρ:=⟨fun Q=>∃ a b c d,o=some (a,b,c,d)/\(f a b c d).t Q,fun h ⟨a,b,c,d,e,k⟩=>⟨a,b,c,d,e,(f a b c d).m h k⟩⟩
def lb5 (o:Option (α×β×γ×δ×ε)) (f:α->β->γ->δ->ε->ND ρ):ND ρ:=⟨fun Q=>∃ a b c d x,o=some (a,b,c,d,x)/\(f a b c d x).t Q,fun h ⟨a,b,c,d,x,e,k⟩=>⟨a,b,c,d,x,e,(f a b c d x).m h k⟩⟩
def cb1 (x:ND α) (f:α->ND ρ):ND ρ:=⟨fun Q=>x.t fun i=>(f i).t Q,fun h=>x.m fun i=>(f i).m h⟩
def cb2 (x:ND (α×β)) (f:α->β->ND ρ):ND ρ:=⟨fun Q=>x.t fun i=>(f i.1 i.2).t Q,fun h=>x.m fun i=>(f i.1 i.2).m h⟩
def cb3 (x:ND (α×β×γ)) (f:α->β->γ->ND ρ):ND ρ:=⟨fun Q=>x.t fun i=>(f i.1 i.2.1 i.2.2).t Q,fun h=>x.m fun i=>(f i.1 i.2.1 i.2.2).m h⟩
def cbX (x:ND (ρ⊕α)) (f:α->ND ρ):ND ρ:=⟨fun Q=>x.t (Sum.elim Q fun i=>(f i).t Q),fun h=>x.m fun i=>by cases i with | inl r=>exact h r | inr i=>exact(f i).m h⟩
def lD (step:S->ND (S⊕R)) (s:S):ND R :=
 ⟨fun Q=>∀ X:S->Prop,(∀ s,(step s).t (Sum.elim X Q)->X s)->X s,fun h k X hX=>k X fun s hs=>hX s ((step s).m (fun i=>by cases i with | inl x=>exact id | inr r=>exact h r) hs)⟩
variable {Q : ρ -> Prop}
theorem un1 {x:ND α} {f:α->ND ρ} (h:(cb1 x f).t Q):x.t fun i=>(f i).t Q:=h
theorem un2 {x:ND (α×β)} {f:α->β->ND ρ} (h:(cb2 x f).t Q):x.t fun i=>(f i.1 i.2).t Q:=h
theorem un3 {x:ND (α×β×γ)} {f:α->β->γ->ND ρ} (h:(cb3 x f).t Q):x.t fun i=>(f i.1 i.2.1 i.2.2).t Q:=h
theorem unX {x:ND (ρ⊕α)} {f:α->ND ρ} (h:(cbX x f).t Q):x.t (Sum.elim Q fun i=>(f i).t Q):=h
theorem unL {x:ND ρ} {K:α->Prop} (h:(cb1 x fun g=>bR (.inl g)).t (Sum.elim Q K)):x.t Q:=h
theorem jI {b:Bool} {A B:ND ρ} {G:Prop} (h:(if b=true then A else B).t Q) (ht:b=true->A.t Q->G) (hf:b≠true->B.t Q->G):G:=by
 by_cases e:b=true
 .exact ht e (by rwa[if_pos e] at h)
 exact hf e (by rwa[if_neg e] at h)
end
section
variable {ρ ι : Type} {P : Program} {n : Nat} {L : List (Nat × Value)} {a : Act} {w : World} {Q : Exit -> Act -> World -> Prop}
theorem bT {c:Operand} {x y:Code} {b:Bool} {A B:ND ρ} {C:ρ->Prop} (ha:Has n L a) (hc:evO L c=some (.bool b)) (h:(if b=true then A else B).t C)
  (ht:b=true->A.t C->x.wp P Q a w) (hf:b=false->B.t C->y.wp P Q a w):(Code.cond c x y).wp P Q a w:=by
 refine wp_cond_split (ha.ev hc) (fun e=>ht e ?_) (fun e=>hf e ?_)
 .rwa[if_pos e] at h
 rwa[if_neg (by simp[e])] at h
theorem kX {x y:Code} {X:ND ι} {Lf:ι->List (Nat×Value)} {wf:ι->World} {C:ι->Prop} (h:X.t C) (hk:∀ i,C i->∀ a,Has n (Lf i) a->y.wp P Q a (wf i))
  (hx:X.t C->(∀ i,C i->∀ a,Has n (Lf i) a->Exit.then (y.wp P Q) Q .normal a (wf i))->x.wp P (Exit.then (y.wp P Q) Q) a w):(Code.seq x y).wp P Q a w :=
 wp_seq (hx h hk)
theorem iT {x y:Code} {X:ND (ρ⊕ι)} {Lf:ι->List (Nat×Value)} {wf:ι->World} {C0:ρ->Prop} {C:ι->Prop} (h:X.t (Sum.elim C0 C)) (hk:∀ i,C i->∀ a,Has n (Lf i) a->y.wp P Q a (wf i))
  (hx:X.t (Sum.elim C0 C)->(∀ i,C i->∀ a,Has n (Lf i) a->Exit.then (y.wp P Q) Q .normal a (wf i))->x.wp P (Exit.then (y.wp P Q) Q) a w):(Code.seq x y).wp P Q a w :=
 wp_seq (hx h hk)
theorem fL {c:Code} {X:ND ι} {Lf:ι->List (Nat×Value)} {wf:ι->World} {C:ι->Prop} (h:X.t C) (hk:∀ i,C i->∀ a,Has n (Lf i) a->Q .normal a (wf i))
  (hx:X.t C->(∀ i,C i->∀ a,Has n (Lf i) a->Q .normal a (wf i))->c.wp P Q a w):c.wp P Q a w:=hx h hk
theorem sZ {S R:Type} {step:S->ND (S⊕R)} {I:S->Act->World->Prop} {C:R->Prop} {body:Code} {s0:S}
  (h:(lD step s0).t C) (hI:I s0 a w)
  (hb:∀ (X:S->Prop) s a w,I s a w->(step s).t (Sum.elim X C)->body.wp P (Exit.then (fun a w=>∃ s,I s a w/\X s) Q) a w):(Code.loop body).wp P Q a w:=by
 have key:=h (fun s=>∀ a w,I s a w->∀ (b:Frame) (k:List Item) (cs:List Frame),∃ e a' w',Q e a' w'/\Arrives P (lone (b.at a (.code body :: .inLoop body::k)) cs w) b k cs e a' w') ?_
 .intro b k cs;obtain⟨e,a',w',hq,harr⟩:=key a w hI b k cs;exact⟨e,a',w',hq,.of_steps (.one step_loop) harr⟩
 intro s hs a w hIs b k cs;obtain⟨e,a₁,w₁,hq,harr⟩:=hb _ s a w hIs hs b (.inLoop body::k) cs
 cases e with
 | normal =>
  obtain⟨s',hI',hX⟩:=hq;obtain⟨e₂,a₂,w₂,hq₂,harr₂⟩:=hX a₁ w₁ hI' b k cs;exact⟨e₂,a₂,w₂,hq₂,.of_steps (Steps.trans harr (.one step_inLoop)) harr₂⟩
 | exit id=>exact⟨_,a₁,w₁,hq,.pass rfl (fun _ _=>.inl (by simp)) harr⟩
 | goto l=>exact⟨_,a₁,w₁,hq,.pass rfl (fun _ _=>.inl (by simp)) harr⟩
 | ret=>exact⟨_,a₁,w₁,hq,.pass rfl (fun _ _=>.inl (by simp)) harr⟩
 | panic ch=>exact⟨_,a₁,w₁,hq,.pass rfl (fun _ _=>.inl (by simp)) harr⟩
 | outgrown=>exact⟨_,a₁,w₁,hq,.pass rfl (fun _ _=>.inl (by simp)) harr⟩
theorem nS {S R1 R2:Type} {step:S->ND (S⊕(R1⊕R2))} {I:S->Act->World->Prop} {C:R1⊕R2->Prop} {body:Code} {s0:S} {e1 e2:Exit} {L1:R1->List (Nat×Value)} {w1:R1->World} {L2:R2->List (Nat×Value)} {w2:R2->World}
  (h:(lD step s0).t C) (hI:I s0 a w) (hk1:∀ i,C (.inl i)->∀ a,Has n (L1 i) a->Q e1 a (w1 i)) (hk2:∀ i,C (.inr i)->∀ a,Has n (L2 i) a->Q e2 a (w2 i))
  (hb:(∀ i,C (.inl i)->∀ a,Has n (L1 i) a->Q e1 a (w1 i))->(∀ i,C (.inr i)->∀ a,Has n (L2 i) a->Q e2 a (w2 i))->∀ (X:S->Prop) s a w,I s a w->(step s).t (Sum.elim X C)->body.wp P (Exit.then (fun a w=>∃ s,I s a w/\X s) Q) a w):(Code.loop body).wp P Q a w:=sZ h hI (hb hk1 hk2)
theorem dL {ops:Array Oper} {rest:List Oper} {d ty pos af f} {xs:List Operand} {ts:Array TypeId} {vs:List Value} {pk:ι->Value} {wf:ι->World} {C:ι->Prop} (ha:Has n L a) (hx:evs L xs vs) (hf:∀ (args:Array Value) (w:World),(callFunc f args).run P w = .ok (.enter f args) w)
  (h:Calls P f vs.toArray w fun e w''=>∃ i,e = .returned (pk i)/\C i/\w''=wf i) (hr:∀ i,C i->∀ a',Has n (upd d (pk i) L) a'->wpList P ops Q rest a' (wf i)) (hd:ltb n d=true:=by rfl) :
  wpList P ops Q (⟨d,.call { callee:=.value (.func f),args:=xs.toArray,argTypes:=ts },ty,pos,af,none⟩::rest) a w:=by
 unfold wpList;rw[if_pos (by simp[Region.wanted])];left;unfold Oper.wp;have hrun:(execOp a.eval ⟨d,.call { callee:=.value (.func f),args:=xs.toArray,argTypes:=ts },ty,pos,af,none⟩).run P w = .ok (.enter f vs.toArray) w:=by
  simp[execOp,resolve,Deferred.ofValue,invoke,Act.eval,hf];have:=jT ha hx;exact this
 rw[hrun];refine h.mono fun e w' ⟨i,he,hC,hw⟩=>?_;subst he;subst hw;exact hr i hC _ (ha.put _ (ltd hd) _)
end
section
variable {α β γ δ ε ζ ρ S R : Type} {Φ : ρ -> Prop}
theorem Nd.ret {r:ρ} (h:Φ r):(bR r).t Φ:=h
theorem Nd.b1 {o:Option α} {a:α} {f:α->ND ρ} (e:o=some a) (h:(f a).t Φ):(lb1 o f).t Φ:=⟨a,e,h⟩
theorem Nd.s1 {a:α} {f:α->ND ρ} (h:(f a).t Φ):(lb1 (some a) f).t Φ:=⟨a,rfl,h⟩
theorem Nd.b2 {o:Option (α×β)} {a:α} {b:β} {f:α->β->ND ρ} (e:o=some (a,b)) (h:(f a b).t Φ):(lb2 o f).t Φ:=⟨a,b,e,h⟩
theorem Nd.b3 {o:Option (α×β×γ)} {a:α} {b:β} {c:γ} {f:α->β->γ->ND ρ} (e:o=some (a,b,c)) (h:(f a b c).t Φ):(lb3 o f).t Φ:=⟨a,b,c,e,h⟩
theorem Nd.b4 {o:Option (α×β×γ×δ)} {a:α} {b:β} {c:γ} {d:δ} {f:α->β->γ->δ->ND ρ} (e:o=some (a,b,c,d)) (h:(f a b c d).t Φ):(lb4 o f).t Φ:=⟨a,b,c,d,e,h⟩
theorem Nd.b5 {o:Option (α×β×γ×δ×ε)} {a:α} {b:β} {c:γ} {d:δ} {x:ε} {f:α->β->γ->δ->ε->ND ρ} (e:o=some (a,b,c,d,x)) (h:(f a b c d x).t Φ):(lb5 o f).t Φ:=⟨a,b,c,d,x,e,h⟩
theorem Nd.ck {p:Prop} {x:ND ρ} (hp:p) (h:x.t Φ):(nck p x).t Φ:=⟨hp,h⟩
theorem Nd.t {c:Prop} [Decidable c] {A B:ND ρ} (hc:c) (h:A.t Φ):(if c then A else B).t Φ:=by rw[if_pos hc];exact h
theorem Nd.f {c:Prop} [Decidable c] {A B:ND ρ} (hc:¬ c) (h:B.t Φ):(if c then A else B).t Φ:=by rw[if_neg hc];exact h
theorem Nd.j1 {x:ND α} {f:α->ND ρ} {Ψ:α->Prop} (h:x.t Ψ) (k:∀ a,Ψ a->(f a).t Φ):(cb1 x f).t Φ:=x.m k h
theorem Nd.j2 {x:ND (α×β)} {f:α->β->ND ρ} {Ψ:α×β->Prop} (h:x.t Ψ) (k:∀ a b,Ψ (a,b)->(f a b).t Φ):(cb2 x f).t Φ:=x.m (fun i hi=>k _ _ hi) h
theorem Nd.j3 {x:ND (α×β×γ)} {f:α->β->γ->ND ρ} {Ψ:α×β×γ->Prop} (h:x.t Ψ) (k:∀ a b c,Ψ (a,b,c)->(f a b c).t Φ):(cb3 x f).t Φ:=x.m (fun i hi=>k _ _ _ hi) h
theorem Nd.jX {x:ND (ρ⊕α)} {f:α->ND ρ} {Ψ:α->Prop} (h:x.t (Sum.elim Φ Ψ)) (k:∀ a,Ψ a->(f a).t Φ):(cbX x f).t Φ:=x.m (fun i=>by cases i with | inl r=>exact id | inr i=>exact k i) h
theorem Nd.mono {x:ND ρ} {Ψ:ρ->Prop} (h:x.t Ψ) (k:∀ r,Ψ r->Φ r):x.t Φ:=x.m k h
theorem Nd.next {step:S->ND (S⊕R)} {s:S} {Φ:R->Prop} (h:(step s).t (Sum.elim (fun s'=>(lD step s').t Φ) Φ)):(lD step s).t Φ:=fun X hX =>
 hX s ((step s).m (fun i=>by cases i with | inl x=>exact fun h=>h X hX | inr r=>exact id) h)
end
def vH (X:List Nat) (ds:List OpD):Bool:=ds.zipIdx.all fun (d,i)=>d.cl.all fun k=>X.contains k||d.o.after.toList.any fun e=>Region.binds .any e&&decide (e.on<i)&&(k==e.on||((ds[e.on]?).any fun d'=>d'.cl.contains k))
def kC (X:List Nat) (ds:List OpD):Bool:=vH X ds&&nW ds&&sJ ds&&tQ ds&&nR ds
section
variable {P : Program} {n : Nat} {L0 : List (Nat × Value)} {Q : Exit -> Act -> World -> Prop}
theorem jO {ds:List OpD} {W:Nat->World} {X:List Nat} (hok:kC X ds=true) (hO:∀ (i:Nat) (d:OpD),ds[i]?=some d->¬ i∈X->∀ j,d.lo<=j->j<=d.hi->iD P n (ds.map (·.o)).toArray d.o d.li d.v (W j) (W (j+if d.e=true then 1 else 0))) (hR:fR ds L0) (hd:∀ (i:Nat) (d:OpD) (t:Nat),ds[i]?=some d->d.o.dst=some t->t<n)
  (hQ:∀ a,Has n (dJ ds 0 (fun _=>true) L0) a->Q .normal a (W (cnt ds 0 fun _=>true))) :
  ∀ (fuel:Nat) (listed:Array Bool) (a:Act),listed.size=ds.length->(∀ k∈X,listed.getD k false=true) ->
   (∀ (i:Nat) (d:OpD),ds[i]?=some d->listed.getD i false=true->∀ e∈d.o.after.toList,Region.binds .any e=true->listed.getD e.on false=true) ->
   Has n (dJ ds 0 (fun k=>listed.getD k false) L0) a->fuel=((List.range ds.length).filter fun i=>!listed.getD i false).length ->
   wpAny P .any (ds.map (·.o)).toArray Q fuel listed a (W (cnt ds 0 fun k=>listed.getD k false)):=by
 simp only[kC,yO] at hok;obtain⟨⟨⟨⟨hcl,hds⟩,hli⟩,hrg⟩,hed⟩:=hok;have zi:∀ (i:Nat) (d:OpD),ds[i]?=some d->(d,i)∈ds.zipIdx:=fun i d h=>yW.2 h;have hed':∀ (i:Nat) (d:OpD),ds[i]?=some d->∀ e∈d.o.after.toList,Region.binds .any e=true->e.on<i:=fun i d h e he hb=>by
  have:=yN.1 (yN.1 hed _ (zi i d h)) e he;simpa[hb] using this
 have hcl':∀ (i:Nat) (d:OpD),ds[i]?=some d->∀ k∈d.cl,k∈X\/∃ e∈d.o.after.toList,Region.binds .any e=true/\e.on<i/\(k=e.on\/∃ d',ds[e.on]?=some d'/\k∈d'.cl):=fun i d h k hk=>by
  have:=yN.1 (yN.1 hcl _ (zi i d h)) k hk;rcases yT _ _ ▸ this with this | this
  .exact .inl (by simpa using this)
  right;obtain⟨e,he,hx⟩:=zM.1 this;simp only[yO,decide_eq_true_eq,yT,beq_iff_eq,aAy,zD] at hx;exact⟨e,he,hx.1.1,hx.1.2,hx.2⟩
 have hds':∀ (i k:Nat) (d d':OpD) (t:Nat),ds[i]?=some d->ds[k]?=some d'->i<k->d.o.dst=some t->d'.o.dst=some t->i∈d'.cl:=fun i k d d' t h h' hik ht ht'=>by
  have:=yN.1 hds _ (zi i d h);simp only[ht,aAI] at this;have:=yN.1 this _ (zi k d' h');simpa[hik,ht'] using this
 have hli':∀ (i k:Nat) (d d':OpD) (t:Nat) (u:Value),ds[i]?=some d->ds[k]?=some d'->(t,u)∈d.li->d'.o.dst=some t->k=i\/(k<i/\k∈d.cl)\/(i<k/\i∈d'.cl):=fun i k d d' t u h h' ht ht'=>by
  have:=yN.1 (yN.1 (yN.1 hli _ (zi i d h)) _ ht) _ (zi k d' h');simp only[ht',bne_self_eq_false,aAK,yT,beq_iff_eq,yO,decide_eq_true_eq,zD] at this;rcases this with(h1 | h1) | h1
  .exact .inl h1
  .exact .inr (.inl h1)
  exact .inr (.inr h1)
 have hrg':∀ (i:Nat) (d:OpD),ds[i]?=some d->d.lo<=(cnt ds 0 fun k=>d.cl.contains k)/\(cnt ds 0 fun k=>k !=i&&!((ds[k]?).any fun d'=>d'.cl.contains i))<=d.hi:=fun i d h=>by
  have:=yN.1 hrg _ (zi i d h);simpa using this
 -- what lies ahead of a listed one is listed
 have closed:∀ (listed:Array Bool),(∀ k∈X,listed.getD k false=true)->(∀ (i:Nat) (d:OpD),ds[i]?=some d->listed.getD i false=true->∀ e∈d.o.after.toList,Region.binds .any e=true->listed.getD e.on false=true) ->
   ∀ (i:Nat) (d:OpD),ds[i]?=some d->(∀ e∈d.o.after.toList,Region.binds .any e=true->listed.getD e.on false=true)->∀ k∈d.cl,listed.getD k false=true:=by
  intro listed hX hc i
  induction i using Nat.strongRecOn with
  | _ i ih =>
   intro d hd0 he k hk;rcases hcl' i d hd0 k hk with hkX | ⟨e,he1,he2,he3,he4⟩
   .exact hX k hkX
   rcases he4 with rfl | ⟨d',hd',hk'⟩
   .exact he e he1 he2
   exact ih e.on he3 d' hd' (hc e.on d' hd' (he e he1 he2)) k hk'
 have opsAt:∀ (i:Nat),(ds.map fun d=>d.o).toArray[i]?=(ds[i]?).map (fun d:OpD=>d.o):=fun i=>by simp
 intro fuel
 induction fuel with
 | zero =>
  intro listed a hsz hX hc ha hf;have hall:∀ k,k<ds.length->listed.getD k false=true:=fun k hk=>by
   cases h:listed.getD k false with
   | true=>rfl
   | false =>
    have:k∈(List.range ds.length).filter fun i=>!listed.getD i false:=by simp[hk];simpa using h
    rw[yZ hf.symm] at this;cases this
  have e1:dJ ds 0 (fun k=>listed.getD k false) L0=dJ ds 0 (fun _=>true) L0:=by
   have key:∀ (l:List OpD) (m:Nat) (L:List (Nat×Value)),m+l.length<=ds.length->dJ l m (fun k=>listed.getD k false) L=dJ l m (fun _=>true) L:=by
    intro l
    induction l with
    | nil=>intro m L _;rfl
    | cons x xs ih=>intro m L hm;simp only[dJ];simp only[zH] at hm;rw[if_pos (hall m (by omega)),if_pos trivial];exact ih _ _ (by omega)
   exact key ds 0 L0 (by omega)
  have e2:(cnt ds 0 fun k=>listed.getD k false)=cnt ds 0 fun _=>true:=rL ds 0 fun k hk=>by simpa using hall k hk
  rw[e2];refine⟨?_,hQ a (e1 ▸ ha)⟩;unfold Region.ready;rw[aAk];intro i hi;simp at hi;have:=hall i hi;simp only[yM] at this ⊢;have h3:listed[i]?=some true:=by
   cases h4:listed[i]? with
   | none=>simp[h4] at this
   | some b=>simpa[h4] using this
  simp[h3]
 | succ fuel ih =>
  intro listed a hsz hX hc ha hf;have some_ready:Region.ready .any (ds.map (·.o)).toArray listed≠[]:=by
   have hne:((List.range ds.length).filter fun i=>!listed.getD i false)≠[]:=fun h=>by rw[h] at hf;cases hf
   obtain⟨x,hx⟩:=zF _ hne;have hx':x<ds.length/\listed.getD x false=false:=by simpa using hx
   have hmin:∃ m,(m<ds.length/\listed.getD m false=false)/\∀ k,k<m->¬ (k<ds.length/\listed.getD k false=false):=by
    clear hx hf hne
    induction x using Nat.strongRecOn with
    | _ x ihx =>
     by_cases h:∃ k,k<x/\(k<ds.length/\listed.getD k false=false)
     .obtain⟨k,hk,hk'⟩:=h;exact ihx k hk hk'
     exact⟨x,hx',fun k hk hk'=>h ⟨k,hk,hk'⟩⟩
   obtain⟨m,⟨hm1,hm2⟩,hm3⟩:=hmin;intro hr;have:m∈Region.ready .any (ds.map (·.o)).toArray listed:=by
    unfold Region.ready;simp only[zA,yY,yO,yU];have hl:listed[m]?=some false:=by
     have h4:m<listed.size:=by omega
     simp only[yM] at hm2;simpa[h4] using hm2
    refine⟨by simpa using hm1,by simp[hl],?_⟩;rw[opsAt];obtain⟨d,hd0⟩:∃ d,ds[m]?=some d:=⟨_,yQ hm1⟩;rw[hd0];simp only[yV,zB];rw[<-zV,yN];intro e he;by_cases hb:Region.binds .any e=true
    .have h5:=hed' m d hd0 e he hb;have h6:listed.getD e.on false=true:=by
      cases h7:listed.getD e.on false with
      | true=>rfl
      | false=>exact(hm3 e.on h5 ⟨by omega,h7⟩).elim
     simp[h6]
    simp at hb;simp[hb]
   rw[hr] at this;cases this
  refine⟨fun h=>(some_ready h).elim,fun i hi=>?_⟩;unfold Region.ready at hi;simp only[zA,yY,yO,yU] at hi;obtain⟨hi1,hi2,hi3⟩:=hi;have hi1':i<ds.length:=by simpa using hi1
  obtain⟨d,hd0⟩:∃ d,ds[i]?=some d:=⟨_,yQ hi1'⟩;have hun:listed.getD i false=false:=by
   have h4:i<listed.size:=by omega
   simp only[yM] at hi2 ⊢;simpa[h4] using hi2
  rw[opsAt,hd0] at hi3;simp only[yV,zB] at hi3;rw[<-zV,yN] at hi3;have hed2:∀ e∈d.o.after.toList,Region.binds .any e=true->listed.getD e.on false=true:=fun e he hb=>by
   have:=hi3 e he;simpa[hb] using this
  have hcl2:=closed listed hX hc i d hd0 hed2;have notl:∀ k (d':OpD),ds[k]?=some d'->i∈d'.cl->listed.getD k false=false:=fun k d' hk hik=>by
   cases h:listed.getD k false with
   | false=>rfl
   | true =>
    have:=closed listed hX hc k d' hk (hc k d' hk h) i hik;rw[hun] at this;cases this
  have hj1:d.lo<=cnt ds 0 fun k=>listed.getD k false:=zR (hrg' i d hd0).1 (iS ds 0 fun k d' h1 h2 h3=>by
   simp only[aAO] at h3 ⊢;exact hcl2 k (by simpa using h3))
  have hj2:(cnt ds 0 fun k=>listed.getD k false)<=d.hi:=zR (iS ds 0 fun k d' h1 h2 h3=>by
   simp only[aAO] at h3 ⊢;simp only[yO,bne_iff_ne,yU,Option.any_eq_false];refine⟨fun e=>?_,fun d'' h4=>?_⟩
   .subst e;rw[hun] at h3;cases h3
   rw[h1] at h4;cases h4;simp only[List.contains_eq_mem,decide_eq_false_iff_not];intro h5;rw[notl k d' h1 h5] at h3;cases h3) (hrg' i d hd0).2
  have hop:=hO i d hd0 (fun h=>by have:=hX i h;rw[hun] at this;cases this) _ hj1 hj2;have hLi:Has n d.li a:=by
   have hs:=fR.get 0 hR hd0;refine⟨ha.d,ha.z,fun t v hv=>ha.l t v ?_⟩;have h1:=hs.look hv;obtain⟨u,hu⟩:=kE hv;rw[fH] at h1 ⊢;rw[<-h1];congr 1;refine fB ds 0 fun k d' hk hkd=>?_;simp only[aAO];rcases hli' i k d d' t u hd0 hk hu hkd with rfl | ⟨h2,h3⟩ | ⟨h2,h3⟩
   .rw[hun];simp
   .rw[hcl2 k h3];simp[h2]
   rw[notl k d' hk h3];simp;omega
  have goal:=fun K hk=>hop a hLi K Q hk;unfold wpOp;rw[opsAt,hd0];simp only[yV];have hK:=goal (wpAny P .any (ds.map (·.o)).toArray Q fuel (listed.setIfInBounds i true)) ?_
  .split
   .rename_i hw;rw[if_pos hw] at hK;exact .inl hK
   rename_i hw;rw[if_neg hw] at hK;exact hK
  have hset:∀ k,(listed.setIfInBounds i true).getD k false=dR (fun k=>listed.getD k false) i k:=fun k=>by
   simp only[dR,yM];by_cases h:k=i
   .subst h;have:k<listed.size:=by omega
    simp[this]
   rw[yS (Ne.symm h),if_neg h]
  have hset':(fun k=>(listed.setIfInBounds i true).getD k false)=dR (fun k=>listed.getD k false) i:=funext hset;have hcnt:=lL (S:=fun k=>listed.getD k false) (j:=i) ds 0 i d hd0 (by omega) hun;have hfin:=ih (listed.setIfInBounds i true) (a.put d.o.dst d.v) (by simpa using hsz) ?_ ?_ ?_ ?_
  .rw[hset',hcnt] at hfin;exact hfin
  .intro k hk;rw[hset];simp only[dR];split
   .rfl
   exact hX k hk
  .intro k d' hk hl e he hb;rw[hset] at hl ⊢;simp only[dR] at hl ⊢;split
   .rfl
   split at hl
   .rename_i h1 h2;subst h2;rw[hd0] at hk;cases hk;exact hed2 e he hb
   exact hc k d' hk hl e he hb
  .have hput:=ha.put d.o.dst (fun t ht=>hd i d t hd0 ht) d.v;refine⟨hput.d,hput.z,fun t v hv=>hput.l t v ?_⟩;rw[hset'] at hv;rw[iY];rw[fH] at hv ⊢;by_cases ht:d.o.dst=some t
   .rw[if_pos ht];rw[kL ds 0 i d hd0 ht (by simp[dR]) (fun k' d' h1 h2 h3=>by
     simp only[aAO,dR];rw[if_neg (by omega)];exact notl k' d' h2 (hds' i k' d d' t hd0 h2 h1 ht h3))] at hv
    simpa using hv
   rw[if_neg ht];rw[<-hv];congr 1;refine fB ds 0 fun k d' hk hkd=>?_;simp only[aAO,dR];split
   .rename_i h1;subst h1;rw[hd0] at hk;cases hk;exact(ht hkd).elim
   rfl
  have h1:(List.range ds.length).filter (fun k=>!(listed.setIfInBounds i true).getD k false)=((List.range ds.length).filter fun k=>!listed.getD k false).filter (fun k=>k !=i):=by
   rw[aAz];apply aAm;intro k _;rw[hset];simp only[dR];by_cases h:k=i<;>simp[h]
  rw[h1];have hmem:i∈(List.range ds.length).filter fun k=>!listed.getD k false:=by
   simp only[zA,yY];exact⟨hi1',by rw[hun];rfl⟩
  have hnd:((List.range ds.length).filter fun k=>!listed.getD k false).Nodup:=List.nodup_range.filter _;have:=hnd.erase_eq_filter i;rw[<-this,aAf hmem,<-hf];rfl
def rW (ds:List OpD) (Pv Dp:List Nat):Bool :=
 (Pv.all fun i=>Dp.contains i&&decide (i<ds.length)) &&
 ds.zipIdx.all fun (d,i)=>if Dp.contains i then Pv.contains i||d.o.after.toList.any (fun e=>Region.binds .any e&&Dp.contains e.on) else !d.e&&d.cl.all fun k=>!Dp.contains k
def vY (ds ds':List OpD) (Dp:List Nat):Prop:=∀ (i:Nat) (d d':OpD),ds[i]?=some d->ds'[i]?=some d'->¬ i∈Dp->d.v=d'.v/\d.cl=d'.cl
theorem cY {listed:Array Bool} {i:Nat} (hi:i<listed.size) (k:Nat):(listed.setIfInBounds i true).getD k false=dR (fun k=>listed.getD k false) i k:=by
 simp only[dR,yM];by_cases h:k=i
 .subst h;simp[hi]
 rw[yS (Ne.symm h),if_neg h]
theorem pA {ds:List OpD} {listed:Array Bool} {a:Act} {i:Nat} {d:OpD} (hds:nW ds=true) (hd0:ds[i]?=some d) (hi:i<listed.size) (notl:∀ k (d':OpD),ds[k]?=some d'->i∈d'.cl->listed.getD k false=false)
  (ha:Has n (dJ ds 0 (fun k=>listed.getD k false) L0) a) (hd:∀ t,d.o.dst=some t->t<n):Has n (dJ ds 0 (fun k=>(listed.setIfInBounds i true).getD k false) L0) (a.put d.o.dst d.v):=by
 have hset':(fun k=>(listed.setIfInBounds i true).getD k false)=dR (fun k=>listed.getD k false) i:=funext (cY hi);have zi:∀ (i:Nat) (d:OpD),ds[i]?=some d->(d,i)∈ds.zipIdx:=fun i d h=>yW.2 h;have hds':∀ (i k:Nat) (d d':OpD) (t:Nat),ds[i]?=some d->ds[k]?=some d'->i<k->d.o.dst=some t->d'.o.dst=some t->i∈d'.cl:=fun i k d d' t h h' hik ht ht'=>by
  have:=yN.1 hds _ (zi i d h);simp only[ht,aAI] at this;have:=yN.1 this _ (zi k d' h');simpa[hik,ht'] using this
 have hput:=ha.put d.o.dst hd d.v;refine⟨hput.d,hput.z,fun t v hv=>hput.l t v ?_⟩;rw[hset'] at hv;rw[iY];rw[fH] at hv ⊢;by_cases ht:d.o.dst=some t
 .rw[if_pos ht];rw[kL ds 0 i d hd0 ht (by simp[dR]) (fun k' d' h1 h2 h3=>by
   simp only[aAO,dR];rw[if_neg (by omega)];exact notl k' d' h2 (hds' i k' d d' t hd0 h2 h1 ht h3))] at hv
  simpa using hv
 rw[if_neg ht];rw[<-hv];congr 1;refine fB ds 0 fun k d' hk hkd=>?_;simp only[aAO,dR];split
 .rename_i h1;subst h1;rw[hd0] at hk;cases hk;exact(ht hkd).elim
 rfl
theorem nY {N fuel:Nat} {listed:Array Bool} {i:Nat} (hi:i<listed.size) (hN:i<N) (hun:listed.getD i false=false) (hf:fuel+1=((List.range N).filter fun i=>!listed.getD i false).length) :
  fuel=((List.range N).filter fun k=>!(listed.setIfInBounds i true).getD k false).length:=by
 have h1:(List.range N).filter (fun k=>!(listed.setIfInBounds i true).getD k false)=((List.range N).filter fun k=>!listed.getD k false).filter (fun k=>k !=i):=by
  rw[aAz];apply aAm;intro k _;rw[cY hi];simp only[dR];by_cases h:k=i<;>simp[h]
 rw[h1];have hmem:i∈(List.range N).filter fun k=>!listed.getD k false:=by
  simp only[zA,yY];exact⟨hN,by rw[hun];rfl⟩
 have hnd:((List.range N).filter fun k=>!listed.getD k false).Nodup:=List.nodup_range.filter _;have:=hnd.erase_eq_filter i;rw[<-this,aAf hmem,<-hf];rfl
theorem rT {ops:List Oper} {fuel:Nat} {listed:Array Bool} (hsz:listed.size=ops.length) (hed:∀ (i:Nat) (o:Oper),ops[i]?=some o->∀ e∈o.after.toList,Region.binds .any e=true->e.on<i)
  (hf:fuel+1=((List.range ops.length).filter fun i=>!listed.getD i false).length):Region.ready .any ops.toArray listed≠[]:=by
 have hne:((List.range ops.length).filter fun i=>!listed.getD i false)≠[]:=fun h=>by rw[h] at hf;cases hf
 obtain⟨x,hx⟩:=zF _ hne;have hx':x<ops.length/\listed.getD x false=false:=by simpa using hx
 have hmin:∃ m,(m<ops.length/\listed.getD m false=false)/\∀ k,k<m->¬ (k<ops.length/\listed.getD k false=false):=by
  clear hx hf hne
  induction x using Nat.strongRecOn with
  | _ x ihx =>
   by_cases h:∃ k,k<x/\(k<ops.length/\listed.getD k false=false)
   .obtain⟨k,hk,hk'⟩:=h;exact ihx k hk hk'
   exact⟨x,hx',fun k hk hk'=>h ⟨k,hk,hk'⟩⟩
 obtain⟨m,⟨hm1,hm2⟩,hm3⟩:=hmin;intro hr;have:m∈Region.ready .any ops.toArray listed:=by
  unfold Region.ready;simp only[zA,yY,yO,yU];have hl:listed[m]?=some false:=by
   have h4:m<listed.size:=by omega
   simp only[yM] at hm2;simpa[h4] using hm2
  refine⟨by simpa using hm1,by simp[hl],?_⟩;rw[zP,yQ hm1];simp only[yV,zB];rw[<-zV,yN];intro e he;by_cases hb:Region.binds .any e=true
  .have h5:=hed m ops[m] (yQ hm1) e he hb;have h6:listed.getD e.on false=true:=by
    cases h7:listed.getD e.on false with
    | true=>rfl
    | false=>exact(hm3 e.on h5 ⟨by omega,h7⟩).elim
   simp[h6]
  simp at hb;simp[hb]
 rw[hr] at this;cases this
theorem nG {σ:Type} {C:σ->Prop} {piv:σ->Nat} {ds0:List OpD} {D:σ->List OpD} {W:σ->Nat->World} {m:σ->Nat} {X:Nat->List Nat} {Pv Dp:List Nat} {w0:World} {ops:List Oper}
  (hok0:(uL ds0&&nW ds0&&sJ ds0&&nR ds0)=true) (hdp:rW ds0 Pv Dp=true) (hne:Pv≠[]) (ho0:ds0.map (·.o)=ops) (hR0:fR ds0 L0) (hd:∀ (i:Nat) (d:OpD) (t:Nat),ds0[i]?=some d->d.o.dst=some t->t<n)
  (hO0:∀ (i:Nat) (d:OpD),ds0[i]?=some d->¬ i∈Dp->iD P n ops.toArray d.o d.li d.v w0 w0)
  (hP:∀ i∈Pv,∀ (d:OpD),ds0[i]?=some d->∀ a,Has n d.li a->∀ (K:Act->World->Prop),(∀ s,C s->piv s=i->∀ v,((D s)[i]?).map (·.v)=some v->K (a.put d.o.dst v) (W s 1))->wpOp P ops.toArray Q i K a w0)
  (hXp:∀ i,i∈X i) (hX:∀ s,C s->∀ k∈X (piv s),k=piv s\/∃ d,ds0[piv s]?=some d/\k∈d.cl)
  (hS:∀ s,C s->(D s).map (·.o)=ops/\kC (X (piv s)) (D s)=true/\vY ds0 (D s) Dp/\fR (D s) L0/\((D s)[piv s]?).map (·.e)=some true/\(∀ (i:Nat) (d:OpD),(D s)[i]?=some d->i≠piv s->∀ j,d.lo<=j->j<=d.hi->iD P n ops.toArray d.o d.li d.v (W s j) (W s (j+if d.e=true then 1 else 0)))/\(∀ (i:Nat) (d:OpD),(D s)[i]?=some d->¬ i∈Dp->d.e=false) /\
   ∀ a,Has n (dJ (D s) 0 (fun _=>true) L0) a->Q .normal a (W s (cnt (D s) 0 fun _=>true))) :
  ∀ (fuel:Nat) (listed:Array Bool) (a:Act),listed.size=ds0.length->(∀ k∈Dp,listed.getD k false=false) ->
   (∀ (i:Nat) (d:OpD),ds0[i]?=some d->listed.getD i false=true->∀ e∈d.o.after.toList,Region.binds .any e=true->listed.getD e.on false=true) ->
   Has n (dJ ds0 0 (fun k=>listed.getD k false) L0) a->fuel=((List.range ds0.length).filter fun i=>!listed.getD i false).length ->
   wpAny P .any ops.toArray Q fuel listed a w0:=by
 simp only[yO] at hok0;obtain⟨⟨⟨hcl,hds⟩,hli⟩,hed⟩:=hok0;unfold rW at hdp;simp only[yO] at hdp;obtain⟨hdp1,hdp2⟩:=hdp;have zi:∀ (i:Nat) (d:OpD),ds0[i]?=some d->(d,i)∈ds0.zipIdx:=fun i d h=>yW.2 h;have hpv:∀ i∈Pv,i∈Dp/\i<ds0.length:=fun i hi=>by
  have:=yN.1 hdp1 i hi;simpa using this
 have hdep:∀ (i:Nat) (d:OpD),ds0[i]?=some d->i∈Dp->i∈Pv\/∃ e∈d.o.after.toList,Region.binds .any e=true/\e.on∈Dp:=fun i d h hi=>by
  have:=yN.1 hdp2 _ (zi i d h);simp only[zD,hi,if_true,yT,zM,yO] at this;rcases this with h1 | ⟨e,h1,h2⟩
  .exact .inl (by simpa using h1)
  exact .inr ⟨e,h1,h2.1,by simpa using h2.2⟩
 have hind:∀ (i:Nat) (d:OpD),ds0[i]?=some d->¬ i∈Dp->d.e=false/\∀ k∈d.cl,¬ k∈Dp:=fun i d h hi=>by
  have:=yN.1 hdp2 _ (zi i d h);simp only[zD,hi,if_false,yO,yU,yN,decide_eq_true_eq,Bool.not_eq_eq_eq_not,Bool.not_true] at this;exact⟨this.1,fun k hk=>by simpa using this.2 k hk⟩
 have hed':∀ (i:Nat) (d:OpD),ds0[i]?=some d->∀ e∈d.o.after.toList,Region.binds .any e=true->e.on<i:=fun i d h e he hb=>by
  have:=yN.1 (yN.1 hed _ (zi i d h)) e he;simpa[hb] using this
 have hcl':∀ (i:Nat) (d:OpD),ds0[i]?=some d->∀ k∈d.cl,∃ e∈d.o.after.toList,Region.binds .any e=true/\e.on<i/\(k=e.on\/∃ d',ds0[e.on]?=some d'/\k∈d'.cl):=fun i d h k hk=>by
  have:=yN.1 (yN.1 hcl _ (zi i d h)) k hk;obtain⟨e,he,hx⟩:=zM.1 this;simp only[yO,decide_eq_true_eq,yT,beq_iff_eq,aAy,zD] at hx;exact⟨e,he,hx.1.1,hx.1.2,hx.2⟩
 have hli':∀ (i k:Nat) (d d':OpD) (t:Nat) (u:Value),ds0[i]?=some d->ds0[k]?=some d'->(t,u)∈d.li->d'.o.dst=some t->k=i\/(k<i/\k∈d.cl)\/(i<k/\i∈d'.cl):=fun i k d d' t u h h' ht ht'=>by
  have:=yN.1 (yN.1 (yN.1 hli _ (zi i d h)) _ ht) _ (zi k d' h');simp only[ht',bne_self_eq_false,aAK,yT,beq_iff_eq,yO,decide_eq_true_eq,zD] at this;rcases this with(h1 | h1) | h1
  .exact .inl h1
  .exact .inr (.inl h1)
  exact .inr (.inr h1)
 have closed:∀ (listed:Array Bool),(∀ (i:Nat) (d:OpD),ds0[i]?=some d->listed.getD i false=true->∀ e∈d.o.after.toList,Region.binds .any e=true->listed.getD e.on false=true) ->
   ∀ (i:Nat) (d:OpD),ds0[i]?=some d->(∀ e∈d.o.after.toList,Region.binds .any e=true->listed.getD e.on false=true)->∀ k∈d.cl,listed.getD k false=true:=by
  intro listed hc i
  induction i using Nat.strongRecOn with
  | _ i ih =>
   intro d hd0 he k hk;obtain⟨e,he1,he2,he3,he4⟩:=hcl' i d hd0 k hk;rcases he4 with rfl | ⟨d',hd',hk'⟩
   .exact he e he1 he2
   exact ih e.on he3 d' hd' (hc e.on d' hd' (he e he1 he2)) k hk'
 have hol:ops.length=ds0.length:=by rw[<-ho0];simp
 have opsAt:∀ (i:Nat),ops.toArray[i]?=(ds0[i]?).map (fun d:OpD=>d.o):=fun i=>by rw[<-ho0];simp
 intro fuel
 induction fuel with
 | zero =>
  intro listed a hsz hdl hc ha hf;obtain⟨i,hi⟩:=zF _ hne;obtain⟨h1,h2⟩:=hpv i hi;have:i∈(List.range ds0.length).filter fun i=>!listed.getD i false:=by
   simp only[zA,yY];exact⟨h2,by rw[hdl i h1];rfl⟩
  rw[yZ hf.symm] at this;cases this
 | succ fuel ih =>
  intro listed a hsz hdl hc ha hf;refine⟨fun h=>((rT (ops:=ops) (fuel:=fuel) (by omega) (fun i o h=>?_) (by rw[hol];exact hf)) h).elim,fun i hi=>?_⟩
  .have h1:=opsAt i;rw[zP,h] at h1;obtain⟨d,hd0,rfl⟩:=aAl.1 h1.symm;exact hed' i d hd0
  unfold Region.ready at hi;simp only[zA,yY,yO,yU] at hi;obtain⟨hi1,hi2,hi3⟩:=hi;have hi1':i<ds0.length:=by simpa[hol] using hi1
  have hils:i<listed.size:=by omega
  obtain⟨d,hd0⟩:∃ d,ds0[i]?=some d:=⟨_,yQ hi1'⟩;have hun:listed.getD i false=false:=by
   simp only[yM] at hi2 ⊢;simpa[hils] using hi2
  rw[opsAt,hd0] at hi3;simp only[yV,zB] at hi3;rw[<-zV,yN] at hi3;have hed2:∀ e∈d.o.after.toList,Region.binds .any e=true->listed.getD e.on false=true:=fun e he hb=>by
   have:=hi3 e he;simpa[hb] using this
  have hcl2:=closed listed hc i d hd0 hed2;have hLi:Has n d.li a:=by
   have hs:=fR.get 0 hR0 hd0;refine⟨ha.d,ha.z,fun t v hv=>ha.l t v ?_⟩;have h1:=hs.look hv;obtain⟨u,hu⟩:=kE hv;rw[fH] at h1 ⊢;rw[<-h1];congr 1;refine fB ds0 0 fun k d' hk hkd=>?_;simp only[aAO];rcases hli' i k d d' t u hd0 hk hu hkd with rfl | ⟨h2,h3⟩ | ⟨h2,h3⟩
   .rw[hun];simp
   .rw[hcl2 k h3];simp[h2]
   have:listed.getD k false=false:=by
    cases h:listed.getD k false with
    | false=>rfl
    | true =>
     have:=closed listed hc k d' hk (hc k d' hk h) i h3;rw[hun] at this;cases this
   rw[this];simp;omega
  have hcset:∀ (k:Nat) (d':OpD),ds0[k]?=some d'->(listed.setIfInBounds i true).getD k false=true->∀ e∈d'.o.after.toList,Region.binds .any e=true->(listed.setIfInBounds i true).getD e.on false=true:=by
   intro k d' hk hl e he hb;rw[cY hils] at hl ⊢;simp only[dR] at hl ⊢;split
   .rfl
   split at hl
   .rename_i h1 h2;subst h2;rw[hd0] at hk;cases hk;exact hed2 e he hb
   exact hc k d' hk hl e he hb
  by_cases hiD:i∈Dp
  .-- the first act
   have hiP:i∈Pv:=by
    rcases hdep i d hd0 hiD with h | ⟨e,h1,h2,h3⟩
    .exact h
    have:=hed2 e h1 h2;rw[hdl _ h3] at this;cases this
   refine hP i hiP d hd0 a hLi _ fun s hs hps v hv=>?_;obtain⟨s1,s2,s3,s4,s5,s6,s7,s8⟩:=hS s hs;subst hps;have hlen:(D s).length=ds0.length:=by rw[<-hol,<-s1];simp
   obtain⟨ds',hds'⟩:∃ d',(D s)[piv s]?=some d':=⟨_,yQ (by omega)⟩;have same:∀ (k:Nat) (d':OpD),(D s)[k]?=some d'->∃ d1,ds0[k]?=some d1/\d1.o=d'.o:=fun k d' hk=>by
    have h1:=congrArg (fun l:List Oper=>l[k]?) (s1.trans ho0.symm);simp only[aAn,hk,yV] at h1;obtain⟨d1,h2,h3⟩:=aAl.1 h1.symm;exact⟨d1,h2,h3⟩
   have hdo:d.o=ds'.o:=by obtain⟨d1,h1,h2⟩:=same _ _ hds';rw[hd0] at h1;cases h1;exact h2
   have hvs:ds'.v=v:=by rw[hds'] at hv;simpa using hv
   have hes:ds'.e=true:=by rw[hds'] at s5;simpa using s5
   have notD:∀ k,listed.getD k false=true->¬ k∈Dp:=fun k hk hkD=>by rw[hdl k hkD] at hk;cases hk
   have henv:dJ (D s) 0 (fun k=>listed.getD k false) L0=dJ ds0 0 (fun k=>listed.getD k false) L0:=by
    have key:∀ (l l':List OpD) (b:Nat) (L:List (Nat×Value)),(∀ j,l[j]?=(D s)[b+j]?)->(∀ j,l'[j]?=ds0[b+j]?)->dJ l b (fun k=>listed.getD k false) L=dJ l' b (fun k=>listed.getD k false) L:=by
     intro l
     induction l with
     | nil =>
      intro l' b L h1 h2
      cases l' with
      | nil=>rfl
      | cons x xs =>
       have e1:=h1 0;have e2:=h2 0
       simp only[zQ,List.getElem?_nil,zK] at e1 e2;have:=zT.1 e1.symm;have:=(yP.1 e2.symm).1;omega
     | cons x xs ihx =>
      intro l' b L h1 h2
      cases l' with
      | nil =>
       have e1:=h1 0;have e2:=h2 0
       simp only[zQ,List.getElem?_nil,zK] at e1 e2;have:=zT.1 e2.symm;have:=(yP.1 e1.symm).1;omega
      | cons y ys =>
       have e1:=h1 0;have e2:=h2 0
       simp only[zQ,zK] at e1 e2;have hrec:∀ L,dJ xs (b+1) (fun k=>listed.getD k false) L=dJ ys (b+1) (fun k=>listed.getD k false) L:=fun L =>
        ihx ys (b+1) L (fun j=>by have:=h1 (j+1);simp only[zJ] at this;rw[this];congr 1;omega) (fun j=>by have:=h2 (j+1);simp only[zJ] at this;rw[this];congr 1;omega)
       simp only[dJ];by_cases hb:listed.getD b false=true
       .have hag:=(s3 b y x e2.symm e1.symm (notD b hb)).1;obtain⟨d1,k1,k2⟩:=same b x e1.symm;rw[<-e2] at k1;cases k1;rw[if_pos hb,if_pos hb,hrec,k2,hag]
       rw[if_neg hb,if_neg hb,hrec]
    exact key (D s) ds0 0 L0 (fun j=>by rw[aAO]) (fun j=>by rw[aAO])
   have hallX:=s2;simp only[kC,yO] at hallX;have hput:=pA (n:=n) (L0:=L0) (ds:=D s) (listed:=listed) (a:=a) (i:=piv s) (d:=ds') hallX.1.1.1.2 hds' hils (fun k d' hk hik=>by
    cases h:listed.getD k false with
    | false=>rfl
    | true =>
     obtain⟨d1,k1,k2⟩:=same k d' hk;have hcl3:=(s3 k d1 d' k1 hk (notD k h)).2;rw[<-hcl3] at hik;exact((hind k d1 k1 (notD k h)).2 _ hik hiD).elim) (by rw[henv];exact ha) (fun t ht=>hd _ d t hd0 (by rw[hdo];exact ht))
   have hcnt:cnt (D s) 0 (fun k=>(listed.setIfInBounds (piv s) true).getD k false)=1:=by
    have h0:cnt (D s) 0 (fun k=>listed.getD k false)=0:=by
     have key:∀ (l:List OpD) (b:Nat),(∀ j,l[j]?=(D s)[b+j]?)->cnt l b (fun k=>listed.getD k false)=0:=by
      intro l
      induction l with
      | nil=>intro b _;rfl
      | cons x xs ihx =>
       intro b h1;have e1:=h1 0;simp only[zQ,zK] at e1;simp only[cnt];rw[ihx (b+1) (fun j=>by have:=h1 (j+1);simp only[zJ] at this;rw[this];congr 1;omega),if_neg];rintro⟨h2,h3⟩;rw[s7 b x e1.symm (notD b h2)] at h3;cases h3
     exact key (D s) 0 (fun j=>by rw[aAO])
    have hset':(fun k=>(listed.setIfInBounds (piv s) true).getD k false)=dR (fun k=>listed.getD k false) (piv s):=funext (cY hils);rw[hset',lL (D s) 0 (piv s) ds' hds' (by omega) hun,h0,hes];rfl
   have hfin:=jO (P:=P) (n:=n) (L0:=L0) (Q:=Q) (ds:=D s) (W:=W s) s2 (by rw[s1];exact fun i d h hi=>s6 i d h (fun e=>hi (by rw[e];exact hXp _))) s4 (fun i d' t h1 h2=>by
    obtain⟨d1,k1,k2⟩:=same i d' h1;exact hd i d1 t k1 (by rw[k2];exact h2)) s8 fuel (listed.setIfInBounds (piv s) true) (a.put ds'.o.dst ds'.v) (by simp[hsz,hlen]) (fun k hk=>by
     rw[cY hils];simp only[dR];rcases hX s hs k hk with rfl | ⟨d1,k1,k2⟩
     .simp
     .rw[hd0] at k1;cases k1;rw[hcl2 k k2];simp) (fun k d' hk hl e he hb=>by
     obtain⟨d1,k1,k2⟩:=same k d' hk;exact hcset k d1 k1 hl e (by rw[k2];exact he) hb) hput (by rw[hlen];exact nY hils hi1' hun hf)
   rw[hcnt,s1] at hfin;rw[hdo,<-hvs];exact hfin
  have hop:=hO0 i d hd0 hiD;unfold wpOp;rw[opsAt,hd0];simp only[yV];have hK:=hop a hLi (wpAny P .any ops.toArray Q fuel (listed.setIfInBounds i true)) Q (ih (listed.setIfInBounds i true) (a.put d.o.dst d.v) (by simpa using hsz) (fun k hk=>by
    rw[cY hils];simp only[dR];rw[if_neg (fun e:k=i=>hiD (e ▸ hk))];exact hdl k hk) hcset
   (pA hds hd0 hils (fun k d' hk hik=>by
    cases h:listed.getD k false with
    | false=>rfl
    | true =>
     have:=closed listed hc k d' hk (hc k d' hk h) i hik;rw[hun] at this;cases this) ha (fun t ht=>hd i d t hd0 ht)) (nY hils hi1' hun hf))
  split
  .rename_i hw;rw[if_pos hw] at hK;exact .inl hK
  rename_i hw;rw[if_neg hw] at hK;exact hK
end
def oO {α:Type} (x y:ND α):ND α:=⟨fun Q=>x.t Q/\y.t Q,fun h k=>⟨x.m h k.1,y.m h k.2⟩⟩
theorem Nd.both {α:Type} {x y:ND α} {Φ:α->Prop} (h:x.t Φ) (k:y.t Φ):(oO x y).t Φ:=⟨h,k⟩
def mG:List Oper->List (List Nat)->List (List Nat)
 | [],acc=>acc
 | o::os,acc=>mG os (acc++[(o.after.toList.filter fun e=>Region.binds .any e).flatMap fun e=>e.on::acc.getD e.on []])
def fX (ds:List OpD) (cls:List (List Nat)):List OpD:=List.zipWith (fun d c=>{ d with cl:=c }) ds cls
def fA (ds:List OpD):List OpD:=fX ds (mG (ds.map (·.o)) [])
def qF (ds:List OpD) (Dp:List Nat):List (Value×List Nat):=(ds.zipIdx.filter fun x=>!Dp.contains x.2).map fun x=>(x.1.v,x.1.cl)
def kA (n:Nat) (ds:List OpD) (i:Nat) (Pv Dp:List Nat):Bool :=
 let b:=fA ds
 uL b&&nW b&&sJ b&&nR b&&rW b Pv Dp&&(ds.all fun d=>d.o.dst.all fun t=>decide (t<n))&&decide (b.length=ds.length) &&
 kC (i::((b[i]?).map (·.cl)).getD []) ds&&((ds[i]?).any fun d=>d.e&&d.lo==0)&&ds.zipIdx.all fun (d,k)=>Dp.contains k||(!d.e&&d.lo==0&&d.cl==((b[k]?).map (·.cl)).getD [])
section
variable {P : Program} {n : Nat} {L0 : List (Nat × Value)} {Q : Exit -> Act -> World -> Prop} {a : Act} {w : World}
theorem iZ {ds:List OpD} {cls:List (List Nat)} {k:Nat} {d:OpD} (h:(fX ds cls)[k]?=some d):∃ d',ds[k]?=some d'/\d'.o=d.o/\d'.v=d.v/\d'.e=d.e/\d'.lo=d.lo/\d'.li=d.li/\cls[k]?=some d.cl:=by
 unfold fX at h;rw[aAr] at h
 cases h1:ds[k]? with
 | none=>rw[h1] at h;simp at h
 | some d' =>
  cases h2:cls[k]? with
  | none=>rw[h1,h2] at h;simp at h
  | some c=>rw[h1,h2] at h;simp at h;subst h;exact⟨d',rfl,rfl,rfl,rfl,rfl,rfl,rfl⟩
theorem kT:∀ {ds:List OpD} {cls:List (List Nat)} {L:List (Nat×Value)},fR ds L->fR (fX ds cls) L
 | [],_,_,_=>by simp[fX,fR]
 | _::_,[],_,_=>by simp[fX,fR]
 | d::ds,c::cls,L,h=>⟨h.1,kT h.2⟩
theorem oE:∀ {ds:List OpD} {cls:List (List Nat)},(fX ds cls).length=ds.length->(fX ds cls).map (·.o)=ds.map (·.o)
 | [],_,_=>by simp[fX]
 | _::_,[],h=>by simp[fX] at h
 | d::ds,c::cls,h=>by
  have:=oE (ds:=ds) (cls:=cls) (by simpa[fX] using h);simp only[fX,List.zipWith_cons_cons,aAF] at this ⊢;rw[this]
theorem oP {ds ds':List OpD} {Dp:List Nat} (hl:ds.length=ds'.length) (h:qF ds Dp=qF ds' Dp) {k:Nat} {d d':OpD} (h1:ds[k]?=some d) (h2:ds'[k]?=some d') (hk:¬ k∈Dp):d.v=d'.v/\d.cl=d'.cl:=by
 have key:∀ (l l':List OpD) (b:Nat),l.length=l'.length->((l.zipIdx b).filter fun x=>!Dp.contains x.2).map (fun x=>(x.1.v,x.1.cl))=((l'.zipIdx b).filter fun x=>!Dp.contains x.2).map (fun x=>(x.1.v,x.1.cl))->∀ j x y,l[j]?=some x->l'[j]?=some y->¬ (b+j)∈Dp->x.v=y.v/\x.cl=y.cl:=by
  intro l
  induction l with
  | nil=>intro l' b _ _ j x y hx;simp at hx
  | cons u us ih =>
   intro l' b hl' he j x y hx hy hj
   cases l' with
   | nil=>simp at hl'
   | cons u' us' =>
    simp only[List.zipIdx_cons,aAd] at he;by_cases hb:b∈Dp
    .have:(!Dp.contains b)=false:=by simp[hb]
     simp only[this,aAh,if_false] at he
     cases j with
     | zero=>exact(hj (by simpa using hb)).elim
     | succ j=>exact ih us' (b+1) (by simpa using hl') he j x y (by simpa using hx) (by simpa using hy) (by rwa[show b+1+j=b+(j+1) by omega])
    have:(!Dp.contains b)=true:=by simp[hb]
    simp only[this,if_true,aAF,List.cons.injEq,Prod.mk.injEq] at he
    cases j with
    | zero=>simp at hx hy;subst hx;subst hy;exact he.1
    | succ j=>exact ih us' (b+1) (by simpa using hl') he.2 j x y (by simpa using hx) (by simpa using hy) (by rwa[show b+1+j=b+(j+1) by omega])
 exact key ds ds' 0 hl h k d d' h1 h2 (by simpa using hk)
theorem nN {ops:List Oper} {id:Nat} (hm:P.follows .mixedOrders=true) (h:wpAny P .any ops.toArray Q ops.length (Array.replicate ops.length false) a w.drew):(Code.region id ops.toArray true).wp P Q a w:=by
 refine wp_region_any hm ?_;have:ops.toArray.size=ops.length:=by simp
 rw[this];exact h
theorem iQ (N k:Nat):(Array.replicate N false).getD k false=false:=by
 simp only[yM,zI];split<;>rfl
theorem rR (l:List OpD):∀ (i:Nat) (L:List (Nat×Value)),dJ l i (fun _=>false) L=L:=by
 induction l with
 | nil=>intro i L;rfl
 | cons x xs ih=>intro i L;simp only[dJ];rw[if_neg (by simp)];exact ih _ _
theorem pG {ops:Array Oper} {i:Nat} {o:Oper} {li:List (Nat×Value)} {v:Value} {w w':World} (hi:ops[i]?=some o) (h:iD P n ops o li v w w') (ha:Has n li a) {K:Act->World->Prop} (hk:K (a.put o.dst v) w'):wpOp P ops Q i K a w:=by
 unfold wpOp;rw[hi];simp only;have:=h a ha K Q hk;split
 .rename_i hw;rw[if_pos hw] at this;exact .inl this
 rename_i hw;rw[if_neg hw] at this;exact this
theorem oW {σ : Type} {C : σ -> Prop} {piv : σ -> Nat} {Pv Dp : List Nat} {D : σ -> List OpD} {W : σ -> Nat -> World} {m : σ -> Nat} {ops : List Oper} {id : Nat} (s0 : σ) (hm : P.follows .mixedOrders = true) (ha : Has n L0 a) (hne : Pv ≠ [])
    (hs0 : (D s0).map (·.o) = ops) (hok : ∀ s, kA n (D s) (piv s) Pv Dp = true) (ho : ∀ s, (D s).map (·.o) = ops) (hv : ∀ s, qF (D s) Dp = qF (D s0) Dp) (hR : ∀ s, fR (D s) L0) (hO0 : ∀ (i : Nat) (d : OpD), (D s0)[i]? = some d -> ¬ i ∈ Dp -> iD P n ops.toArray d.o d.li d.v w.drew w.drew)
    (hP : ∀ i ∈ Pv, ∀ (d : OpD), (D s0)[i]? = some d -> ∀ a, Has n d.li a -> ∀ (K : Act -> World -> Prop), (∀ s, C s -> piv s = i -> ∀ v, ((D s)[i]?).map (·.v) = some v -> K (a.put d.o.dst v) (W s 1)) -> wpOp P ops.toArray Q i K a w.drew)
    (hO : ∀ s, C s -> ∀ (i : Nat) (d : OpD), (D s)[i]? = some d -> i ≠ piv s -> ∀ j, d.lo <= j -> j <= d.hi -> iD P n ops.toArray d.o d.li d.v (W s j) (W s (j + if d.e = true then 1 else 0))) (hcm : ∀ s, cnt (D s) 0 (fun _ => true) = m s) (hQ : ∀ s, C s -> ∀ a, Has n (dJ (D s) 0 (fun _ => true) L0) a -> Q .normal a (W s (m s))) : (Code.region id ops.toArray true).wp P Q a w := by
  have b0 := hok s0
  simp only [kA, yO] at b0
  obtain ⟨⟨⟨⟨⟨⟨⟨⟨⟨c1, c2⟩, c3⟩, c4⟩, c5⟩, c6⟩, c7⟩, c8⟩, c9⟩, c10⟩ := b0
  have hl0 : (fA (D s0)).length = (D s0).length := by simpa using c7
  have hlo : ops.length = (D s0).length := by rw [<- hs0]; simp
  have hall : ∀ s, (D s).length = (D s0).length := fun s => by rw [<- hlo, <- ho s]; simp
  have zi : ∀ s (i : Nat) (d : OpD), (D s)[i]? = some d -> (d, i) ∈ (D s).zipIdx := fun s i d h => yW.2 h
  have nd : ∀ s (k : Nat) (d : OpD), (D s)[k]? = some d -> ¬ k ∈ Dp -> d.e = false /\ d.cl = (((fA (D s))[k]?).map (·.cl)).getD [] := fun s k d h hk => by
    have b := hok s
    simp only [kA, yO] at b
    have := yN.1 b.2 _ (zi s k d h)
    simp only [yT, yO, yU, beq_iff_eq] at this
    rcases this with h | h
    . exact (hk (by simpa using h)).elim
    . exact ⟨h.1.1, h.2⟩
  refine nN hm ?_
  have hmain := nG (P := P) (n := n) (L0 := L0) (Q := Q) (C := C) (piv := piv) (ds0 := fA (D s0)) (D := D) (W := W) (m := m) (X := fun i => i :: (((fA (D s0))[i]?).map (·.cl)).getD []) (Pv := Pv) (Dp := Dp) (w0 := w.drew) (ops := ops)
    (by simp only [yO]; exact ⟨⟨⟨c1, c2⟩, c3⟩, c4⟩) c5 hne (by rw [<- hs0]; exact oE hl0) (kT (hR s0)) (fun i d t h ht => by
      obtain ⟨d', h1, h2, _⟩ := iZ h
      have := yN.1 c6 d' (zC h1)
      rw [h2, ht] at this
      simpa using this) (fun i d h hi => by
      obtain ⟨d', h1, h2, h3, _, _, h6, _⟩ := iZ h
      have := hO0 i d' h1 hi
      rwa [h2, h6, h3] at this) (fun i hi d h a ha K hK => by
      obtain ⟨d', h1, h2, h3, _, _, h6, _⟩ := iZ h
      refine hP i hi d' h1 a (h6 ▸ ha) K fun s hs hp v hv => ?_
      rw [h2]; exact hK s hs hp v hv) (fun i => by simp) (fun s hs k hk => by
      rcases aAG.1 hk with h | h
      . exact .inl h
      . right
        cases e : (fA (D s0))[piv s]? with
        | none => rw [e] at h; simp at h
        | some d => rw [e] at h; exact ⟨d, rfl, by simpa using h⟩) (fun s hs => by
      have b := hok s
      simp only [kA, yO] at b
      obtain ⟨⟨⟨_, b8⟩, b9⟩, b10⟩ := b
      have hpl : fA (D s) = fX (D s) (mG ops []) := by unfold fA; rw [ho s]
      have hpl0 : fA (D s0) = fX (D s0) (mG ops []) := by unfold fA; rw [hs0]
      have hcl : ∀ k : Nat, (((fA (D s))[k]?).map (·.cl)).getD [] = (((fA (D s0))[k]?).map (·.cl)).getD [] := fun k => by
        rw [hpl, hpl0]
        unfold fX
        rw [aAr, aAr]
        cases h1 : (D s)[k]? with
        | none =>
          have : (D s0)[k]? = none := by rw [zT] at h1 ⊢; rw [<- hall s]; exact h1
          rw [this]
        | some d1 =>
          have : k < (D s0).length := by rw [<- hall s]; exact (yP.1 h1).1
          rw [yQ this]
          cases (mG ops [])[k]? <;> simp
      refine ⟨ho s, by rw [<- hcl (piv s)]; exact b8, fun k d d' h h' hk => ?_, hR s, ?_, hO s hs, fun k d h hk => (nd s k d h hk).1, by rw [hcm s]; exact hQ s hs⟩
      . obtain ⟨d1, h1, h2, h3, _, _, _, h7⟩ := iZ h
        have hva := oP (hall s) (hv s) h' h1 hk
        refine ⟨by rw [<- h3, hva.1], ?_⟩
        rw [(nd s k d' h' hk).2, hcl k, h]; rfl
      . cases e : (D s)[piv s]? with
        | none => rw [e] at b9; simp at b9
        | some d => rw [e] at b9; simp at b9; simp [b9.1])
    ops.length (Array.replicate ops.length false) a (by simp [hl0, hlo]) (fun k _ => iQ _ _) (fun i d _ h => by rw [iQ] at h; cases h)
    (by have : (fun k => (Array.replicate ops.length false).getD k false) = fun _ => false := funext (iQ _)
        rw [this, rR]; exact ha)
    (by have : ((List.range (fA (D s0)).length).filter fun i => !(Array.replicate ops.length false).getD i false) = List.range (fA (D s0)).length := by
          rw [aAe]; intro k _; rw [iQ]; rfl
        rw [this, List.length_range, hl0, hlo])
  exact hmain
theorem iC {i j:Nat} {Dp:List Nat} {ds1 ds2:List OpD} {W1 W2:Nat->World} {m1 m2:Nat} {id:Nat} (hm:P.follows .mixedOrders=true) (ha:Has n L0 a) (h1:W1 0=w.drew) (h2:W2 0=w.drew)
  (ho:ds2.map (·.o)=ds1.map (·.o)) (hok1:kA n ds1 i [i,j] Dp=true) (hok2:kA n ds2 j [i,j] Dp=true) (hv:qF ds2 Dp=qF ds1 Dp) (hli:(ds2[j]?).map (·.li)=(ds1[j]?).map (·.li)) (hij:i≠j)
  (hR1:fR ds1 L0) (hR2:fR ds2 L0) (hO1:Obl P n (ds1.map (·.o)).toArray W1 ds1) (hO2:Obl P n (ds1.map (·.o)).toArray W2 ds2) (hc1:cnt ds1 0 (fun _=>true)=m1) (hc2:cnt ds2 0 (fun _=>true)=m2)
  (hQ1:∀ a,Has n (dJ ds1 0 (fun _=>true) L0) a->Q .normal a (W1 m1)) (hQ2:∀ a,Has n (dJ ds2 0 (fun _=>true) L0) a->Q .normal a (W2 m2)):(Code.region id (ds1.map (·.o)).toArray true).wp P Q a w:=by
 have opsAt:∀ (k:Nat),(ds1.map (·.o)).toArray[k]?=(ds1[k]?).map (fun d:OpD=>d.o):=fun k=>by simp
 have lo0:∀ {ds:List OpD} {i:Nat} (hok:kA n ds i [i,j] Dp=true) (k:Nat) (d:OpD),ds[k]?=some d->¬ k∈Dp->d.e=false/\d.lo=0:=fun {ds i} hok k d h hk=>by
  simp only[kA,yO] at hok;have:=yN.1 hok.2 _ (yW.2 h:(d,k)∈ds.zipIdx);simp only[yT,yO,yU,beq_iff_eq] at this;rcases this with h | h
  .exact(hk (by simpa using h)).elim
  exact⟨h.1.1,h.1.2⟩
 have pv:∀ {ds:List OpD} {i j p:Nat} {Pv:List Nat} (hok:kA n ds p Pv Dp=true) (d:OpD),ds[p]?=some d->d.e=true/\d.lo=0:=fun {ds i j p Pv} hok d h=>by
  simp only[kA,yO] at hok;have:=hok.1.2;rw[h] at this;simpa using this
 refine oW (σ:=Bool) (C:=fun _=>True) (piv:=fun s=>if s=true then i else j) (Pv:=[i,j]) (Dp:=Dp) (D:=fun s=>if s=true then ds1 else ds2) (W:=fun s=>if s=true then W1 else W2) (m:=fun s=>if s=true then m1 else m2)
  true hm ha (by simp) rfl (fun s=>?_) (fun s=>?_) (fun s=>?_) (fun s=>?_) (fun k d h hk=>?_) (fun k hk d h a ha K hK=>?_) (fun s _=>?_) (fun s=>?_) (fun s _ a ha=>?_)
 .cases s
  .exact hok2
  exact hok1
 .cases s
  .exact ho
  rfl
 .cases s
  .exact hv
  rfl
 .cases s
  .exact hR2
  exact hR1
 .simp only[if_true] at h;obtain⟨he,hlo⟩:=lo0 hok1 k d h hk;have:=hO1.get h 0 (by omega) (by omega);rw[he,h1] at this;simpa[h1] using this
 .simp only[if_true] at h;have hk':k=i\/k=j:=by simpa using hk
  rcases hk' with rfl | rfl
  .obtain⟨he,hlo⟩:=pv (i:=k) (j:=j) hok1 d h;have hop:=hO1.get h 0 (by omega) (by omega);rw[he,h1] at hop;have hK1:=hK true trivial (by simp) d.v (by simp[h]);exact pG (by rw[opsAt,h];rfl) (by simpa using hop) ha (by simpa using hK1)
  obtain⟨d2,h2',hl2⟩:∃ d2,ds2[k]?=some d2/\d2.li=d.li:=by rw[h] at hli;exact aAl.1 hli
  have ho2:d2.o=d.o:=by
   have:=congrArg (fun l:List Oper=>l[k]?) ho;simp only[aAn,h2',h,yV,Option.some.injEq] at this;exact this
  obtain⟨he,hlo⟩:=pv (i:=i) (j:=k) hok2 d2 h2';have hop:=hO2.get h2' 0 (by omega) (by omega);rw[he,h2,ho2,hl2] at hop;have hK1:=hK false trivial (by simp) d2.v (by simp[h2']);exact pG (by rw[opsAt,h];rfl) (by simpa using hop) ha (by simpa using hK1)
 .cases s
  .exact fun i d h _=>hO2.get h
  exact fun i d h _=>hO1.get h
 .cases s
  .exact hc2
  exact hc1
 cases s
 .exact hQ2 a ha
 exact hQ1 a ha
def rZ (P:Program) (n:Nat) (ops:Array Oper) (W:Nat->World) (p:Nat):Nat->List OpD->Prop
 | _,[]=>True
 | i,d::ds=>(if i==p then True else ∀ j,d.lo<=j->j<=d.hi->iD P n ops d.o d.li d.v (W j) (W (j+if d.e=true then 1 else 0)))/\rZ P n ops W p (i+1) ds
theorem rZ.get {ops:Array Oper} {W:Nat->World} {p:Nat}:∀ {ds:List OpD} {b:Nat},rZ P n ops W p b ds->∀ {i:Nat} {d:OpD},ds[i]?=some d->b+i≠p->∀ j,d.lo<=j->j<=d.hi->iD P n ops d.o d.li d.v (W j) (W (j+if d.e=true then 1 else 0))
 | [],_,_,_,_,h,_=>by simp at h
 | _::_,b,h,0,_,hd,hp=>by
  simp at hd;subst hd;have h1:=h.1;have:(b==p)=false:=by simpa using hp
  rw[this] at h1;simpa using h1
 | _::_,b,h,i+1,_,hd,hp=>rZ.get h.2 (i:=i) (by simpa using hd) (by omega)
end
def fC (a0:List Value) (w:World):Option ((List Value)×World) :=
 aE (mk w 40 a0) fun p1 w2 =>
 aE (mk w2 40 ([.string ByteArray.empty,.int .i64 0,.bool false,.int .i64 0,.int .i64 0,.string ByteArray.empty,.string ByteArray.empty,.bool false,.int .u8 0,.bool false,.slice none 0 0,.slice none 0 0])) fun p4 w5 =>
 (ldS w5 (p1.add 0)).bind fun v7 =>
 (ldI .i64 w5 (p1.add 1)).bind fun v9 =>
 (ldB w5 (p1.add 2)).bind fun v11 =>
 aE (mk w5 40 ([.string ByteArray.empty,.int .i64 0,.bool false,.int .i64 0,.int .i64 0,.string ByteArray.empty,.string ByteArray.empty,.bool false,.int .u8 0,.bool false,.slice none 0 0,.slice none 0 0])) fun p13 w14 =>
 (stA w14 p13 0 ([.string v7,.int .i64 v9,.bool v11,.int .i64 0,.int .i64 0,.string ByteArray.empty,.string ByteArray.empty,.bool false,.int .u8 0,.bool false,.slice none 0 0,.slice none 0 0])).bind fun w16 =>
 ((ldI .i64 w16 (p1.add 1)).bind fun v21 =>
 if (v21==1)=true then
 ((stV w16 (p13.add 3) (.int .i64 1)).bind fun w24 =>
 some w24)
 else
 (if (v21==4)=true then
 ((stV w16 (p13.add 9) (.bool true)).bind fun w27 =>
 some w27)
 else
 (some w16))).bind fun w18 =>
 (ldA 12 w18 p13 0).bind fun c29 =>
 (stA w18 p4 0 c29).bind fun w31 =>
 (ldA 12 w31 p4 0).bind fun v33 =>
 some (v33,w31)
theorem fV {a0 w w' r0} (h:fC a0 w=some (r0,w')):Calls Try.prog 55 #[(.agg (List.toArray a0))] w fun e w''=>e=.returned (.agg (List.toArray r0))/\w''=w':=by
 refine aD (n:=20) Try.func55 rfl Try.ntmps55 (by simp) fun a u=>?_;unfold fC at h;refine wp_seq<|aA<|?_;have⟨p1,w2,e3,h⟩:=bs2 h;refine q u (dI u rfl rfl e3) fun a u=>?_;have⟨p4,w5,e6,h⟩:=bs2 h;refine q u (cM wW (by kernel_rfl) e6) fun a u=>aC<|t_n<|wp_seq<|aA<|q u (aJ u rfl wM rfl rfl wR) fun a u=>?_;have⟨v7,e8,h⟩:=bs1 h;refine q u (aG u rfl wU (cH e8)) fun a u=>q u (aJ u rfl wM rfl rfl xB) fun a u=>?_;have⟨v9,e10,h⟩:=bs1 h;refine q u (aG u rfl wX (aO e10)) fun a u=>q u (aJ u rfl wM rfl rfl xG) fun a u=>?_;have⟨v11,e12,h⟩:=bs1 h;refine q u (aG u rfl yE (kO e12)) fun a u=>q u (fN (vs:=[(0,(.string v7)),(1,(iV v9)),(2,(bV v11))]) (pl:=#[(0,1),(1,1),(2,1),(3,1),(4,1),(5,1),(6,1),(7,1),(8,1),(9,1),(10,1),(11,1)]) (cs:=([.string v7,.int .i64 v9,.bool v11,.int .i64 0,.int .i64 0,.string ByteArray.empty,.string ByteArray.empty,.bool false,.int .u8 0,.bool false,.slice none 0 0,.slice none 0 0])) u ⟨rfl,rfl,rfl,rfl,rfl,rfl,aAP⟩ wW wM (by intro w;kernel_rfl) (by kernel_rfl)) fun a u=>?_;have⟨p13,w14,e15,h⟩:=bs2 h;refine q u (cM wW (by kernel_rfl) e15) fun a u=>?_;have⟨w16,e17,h⟩:=bs1 h;refine q u (dQ u rfl rfl wO rfl e17) fun a u=>aC<|t_n<|?_;have⟨w18,e19,h⟩:=bs1 h;refine iB (n:=20) (L:=[(2,(pV (some p4))),(3,(pV (some p13)))]) (w':=w18) (fun a u=>?_) (fun hk20=>?_)
 .refine wp_seq<|aA<|?_;have⟨c29,e30,h⟩:=bs1 h;refine q u (bK u rfl xE wO e30) fun a u=>?_;have⟨w31,e32,h⟩:=bs1 h;refine q u (dQ u rfl rfl wO ((hT e30).1) e32) fun a u=>aC<|t_n<|wp_ret<|?_;have⟨v33,e34,h⟩:=bs1 h;have y:=u;cases h;exact uT (vs:=[_]) Try.results55 y ⟨⟨_,rfl,uW xE wO e34⟩,aAP⟩ ⟨rfl,rfl⟩
 clear h;have h:=e19;refine wp_seq<|aA<|q u (aJ u rfl wM rfl rfl xB) fun a u=>?_;have⟨v21,e22,h⟩:=bs1 h;refine q u (aG u rfl wX (aO e22)) fun a u=>aC<|t_n<|wp_block<|wp_seq<|aA<|q u (cC u rfl rfl) fun a u=>qa u rfl fun a u=>aC<|t_n<|?_;refine aF u rfl h (fun b23 h=>?_) (fun b23 h=>?_)
 .refine aA<|q u (aJ u rfl wM rfl rfl wY) fun a u=>?_;have⟨w24,e25,h⟩:=bs1 h;refine q u (gK u rfl rfl wY e25) fun a u=>aC<|b_n<|?_;have y:=u;cases h;exact hk20 _ (y.sb rfl)
 refine wp_seq<|aA<|q u (cC u rfl rfl) fun a u=>qa u rfl fun a u=>aC<|t_n<|?_;refine aF u rfl h (fun b26 h=>?_) (fun b26 h=>?_)
 .refine aA<|q u (aJ u rfl wM rfl rfl xG) fun a u=>?_;have⟨w27,e28,h⟩:=bs1 h;refine q u (gK u rfl rfl xG e28) fun a u=>aC<|b_n<|?_;have y:=u;cases h;exact hk20 _ (y.sb rfl)
 refine wp_skip<|b_n<|?_;have y:=u;cases h;exact hk20 _ (y.sb rfl)
noncomputable def gB (a0:Option Addr) (a1:Bool) (w:World):ND (World) :=
 cb2 (lb1 (dr w) fun w5 =>
 lb1 (a0) fun p7 =>
 lb1 (ldS w5 (p7.add 0)) fun v9 =>
 lb1 (ldI .i64 w5 (p7.add 1)) fun v11 =>
 oO (lb2 (cP v9 v11 w5) fun v13 w14 =>
 lb2 (mk w14 40 ([.string ByteArray.empty,.int .i64 0,.bool false,.int .i64 0,.int .i64 0,.string ByteArray.empty,.string ByteArray.empty,.bool false,.int .u8 0,.bool false,.slice none 0 0,.slice none 0 0])) fun p16 w17 =>
 lb1 (stA w17 p16 0 v13) fun w20 =>
 nck ((v13).length=12) <|
 bR (p16,w20)) (lb2 (mk w5 40 ([.string ByteArray.empty,.int .i64 0,.bool false,.int .i64 0,.int .i64 0,.string ByteArray.empty,.string ByteArray.empty,.bool false,.int .u8 0,.bool false,.slice none 0 0,.slice none 0 0])) fun p22 w23 =>
 lb2 (cP v9 v11 w23) fun v25 w26 =>
 lb1 (stA w26 p22 0 v25) fun w29 =>
 nck ((v25).length=12) <|
 nck (ldS w23 (p7.add 0)=some v9) <|
 nck (ldI .i64 w23 (p7.add 1)=some v11) <|
 bR (p22,w29))) fun v1 w2 =>
 lb1 (stV w2 (v1.add 2) (.bool a1)) fun w33 =>
 lb1 (iU (some v1) w33) fun w35 =>
 cbX (lb1 (ldA 12 w35 v1 0) fun c43 =>
 lb2 (cO c43 w35) fun v45 w46 =>
 if v45=true then
 (lb1 (ldA 12 w46 v1 0) fun c49 =>
 lb2 (fC c49 w46) fun v51 w52 =>
 lb1 (stA w52 v1 0 v51) fun w55 =>
 nck ((v51).length=12) <|
 if (!a1)=true then
 (cb1 (bR w55) fun g42=>bR (.inl g42))
 else
 (bR (.inr w55)))
 else
 (bR (.inr w46))) fun (i:World)=>u1 i fun w37 =>
 lb1 (dr w37) fun w59 =>
 lb1 (a0) fun p61 =>
 lb1 (ldL w59 (p61.add 2)) fun v63 =>
 lb1 (ldA 12 w59 v1 0) fun c65 =>
 lb2 (bsl w59 40 12 [c65]) fun s67 w68 =>
 lb2 (bsl w68 22 1 [[(Sl.v s67)]]) fun s70 w71 =>
 lb2 (apS Try.prog 47 v63 s70 w71) fun s73 w74 =>
 lb1 (stV w74 (p61.add 2) (Sl.v s73)) fun w76 =>
 nck (ldL w68 (p61.add 2)=some v63) <|
 nck (ldL w71 (p61.add 2)=some v63) <|
 bR w76
theorem jG {a0 a1 w Q} (h:(gB a0 a1 w).t Q):Calls Try.prog 56 #[(.pointer a0),(.bool a1),(.func (.func 53) #[] #[])] w fun e w''=>∃ i,e=.returned (.tuple #[])/\Q i/\w''=i:=by
 refine aD (n:=37) Try.func56 rfl Try.ntmps56 (by simp) fun a u=>?_;unfold gB at h;refine wp_seq<|?_;refine fL (n:=37) (ι:=Addr×World) (Lf:=fun i=>[(6,(pV (some i.1))),(0,(pV a0)),(1,(bV a1)),(2,(.func (.func 53) #[] #[]))]) (wf:=fun i=>i.2) (un2 h) (fun i h a u=>?_) (fun h hk4=>?_)
 .obtain⟨v1,w2⟩:=i;have u:Has 37 [(6,(pV (some v1))),(0,(pV a0)),(1,(bV a1)),(2,(.func (.func 53) #[] #[]))] a:=u;refine t_n<|wp_seq<|aA<|qm u rfl fun a u=>q u (aJ u rfl wM rfl rfl xG) fun a u=>?_;obtain⟨w33,e34,h⟩:=h;refine q u (gK u rfl rfl xG e34) fun a u=>aC<|t_n<|wp_seq<|aA<|qm u rfl fun a u=>?_;obtain⟨w35,e36,h⟩:=h;refine q u (dV (xs:=[_]) (vs:=[(pV (some v1))]) (cv:=[]) u rfl ⟨rfl,aAP⟩ Try.call53 (lK e36)) fun a u=>aC<|t_n<|?_;refine iT (n:=37) (ι:=World) (Lf:=fun i=>[(0,(pV a0)),(6,(pV (some v1)))]) (wf:=fun i=>i) (unX h) (fun i h a u=>?_) (fun h hk41=>?_)
  .obtain⟨w37,rfl⟩:∃ x,x=i:=⟨i,rfl⟩
   try dsimp only[Sum.elim_inl,Sum.elim_inr,u1,u2,u3,u4,u5,u6] at h
   have u:Has 37 [(0,(pV a0)),(6,(pV (some v1)))] a:=u;obtain⟨w59,e60,h⟩:=h;obtain⟨p61,e62,h⟩:=h;obtain⟨v63,e64,h⟩:=h;obtain⟨c65,e66,h⟩:=h;obtain⟨s67,w68,e69,h⟩:=h;obtain⟨s70,w71,e72,h⟩:=h;obtain⟨s73,w74,e75,h⟩:=h;obtain⟨w76,e77,h⟩:=h;obtain⟨e78,h⟩:=h;obtain⟨e79,h⟩:=h;have u:Has 37 [(0,(pV a0)),(6,(pV (some v1)))] a:=u.sb rfl;refine cL (n:=37) (ds:=(aL (pV a0) false 0 3 [] [(0,(pV a0))]::aL (pV a0) false 0 2 [] [(0,(pV a0))]::aL (pV (some p61)) false 0 2 [1] [(27,(pV a0))]::aL (pV (some (p61.add 2))) false 0 2 [1,2] [(28,(pV (some p61)))]::aL (Sl.v v63) false 0 2 [1,2,3] [(29,(pV (some (p61.add 2))))]::bJ (.agg (List.toArray c65)) 0 [] 6 (pV (some v1))::aL (Sl.v s67) true 0 0 [5] [(31,(.agg (List.toArray c65)))]::aL (Sl.v s70) true 1 1 [5,6] [(32,(Sl.v s67))]::aL (Sl.v s73) true 2 2 (rn 1 7) [(30,(Sl.v v63)),(33,(Sl.v s70))]::bJ (pV (some p61)) 3 (rn 0 9) 26 (pV a0)::bJ (pV (some (p61.add 2))) 3 (rn 0 10) 35 (pV (some p61))::aL (undef) true 3 3 (rn 0 11) [(36,(pV (some (p61.add 2)))),(34,(Sl.v s73))]::[])) (W:=(fun j=>match j with | 0=>w59 | 1=>w68 | 2=>w71 | 3=>w74 | 4=>w76 | _=>w76)) (by kernel_rfl) u (gY e60) (by kernel_rfl) ?_ (bS (by kernel_rfl)) (by kernel_rfl) (m:=4) (by kernel_rfl) (fun a u=>?_)
   .refine⟨oa (aI · rfl),oa (aI · rfl),oa (bI · rfl e62),oa (aJ · rfl wP rfl rfl xF),?_,oc 0 (kd (bK · rfl xE wO e66)),oc 0 (kd (gU (vs:=[(0,(.agg (List.toArray c65)))]) (ps:=[c65]) · ⟨rfl,rfl,aAP⟩ ⟨rfl,rfl,aAP⟩ rfl wS wO wW (by decide) e69)),oc 1 (kd (gU (vs:=[(0,(Sl.v s67))]) (ps:=[[(Sl.v s67)]]) · ⟨rfl,rfl,aAP⟩ ⟨rfl,rfl,aAP⟩ rfl wT xL yD (by decide) e72)),oc 2 (kd (kJ · rfl rfl e75)),oa (bI · rfl e62),oa (aJ · rfl wP rfl rfl xF),oc 3 (kd (gK · rfl rfl xF e77)),aAP⟩;intro j h1 h2;have h1:0<=j:=h1;have h2:j<=2:=h2;rcases(by omega:j=0\/j=1\/j=2) with rfl | rfl | rfl
    .exact kd (aG · rfl xM (bW e64))
    .exact kd (aG · rfl xM (bW e78))
    exact kd (aG · rfl xM (bW e79))
   have u:Has 37 [] a:=u.sb rfl;exact mI Try.results56 u ⟨w76,rfl,h,rfl⟩
  refine wp_seq<|aA<|?_;obtain⟨c43,e44,h⟩:=h;refine q u (bK u rfl xE wO e44) fun a u=>?_;obtain⟨v45,w46,e47,h⟩:=h;refine q u (dc1 u rfl Try.call41 (eA e47)) fun a u=>aC<|t_n<|?_;refine bT u rfl h (fun b48 h=>?_) (fun b48 h=>?_)
  .refine wp_seq<|aA<|?_;obtain⟨c49,e50,h⟩:=h;refine q u (bK u rfl xE wO e50) fun a u=>?_;obtain⟨v51,w52,e53,h⟩:=h;refine q u (dc1 u rfl Try.call55 (fV e53)) fun a u=>?_;obtain⟨w55,e56,h⟩:=h;obtain⟨e54,h⟩:=h;refine q u (dQ u rfl rfl wO e54 e56) fun a u=>aC<|t_n<|wp_seq<|aA<|qm u rfl fun a u=>q u (fT u rfl) fun a u=>aC<|t_n<|?_;refine bT u rfl h (fun b57 h=>?_) (fun b57 h=>?_)
   .refine wp_ret<|?_;have h:=unL h;refine t_r<|?_;exact oC Try.results56 u ⟨w55,rfl,h,rfl⟩
   refine wp_skip<|?_;exact hk41 w55 h _ (u.sb rfl)
  refine wp_skip<|?_;exact hk41 w46 h _ (u.sb rfl)
 obtain⟨w5,e6,h⟩:=h;obtain⟨p7,e8,h⟩:=h;obtain⟨v9,e10,h⟩:=h;obtain⟨v11,e12,h⟩:=h;obtain⟨h,hB⟩:=h;obtain⟨v13,w14,e15,h⟩:=h;obtain⟨p16,w17,e18,h⟩:=h;obtain⟨w20,e21,h⟩:=h;obtain⟨e19,h⟩:=h;have hA:=h;have h:=hB;obtain⟨p22,w23,e24,h⟩:=h;obtain⟨v25,w26,e27,h⟩:=h;obtain⟨w29,e30,h⟩:=h;obtain⟨e28,h⟩:=h;obtain⟨e31,h⟩:=h;obtain⟨e32,h⟩:=h;have hB:=h;have u:Has 37 [(0,(pV a0)),(1,(bV a1)),(2,(.func (.func 53) #[] #[]))] a:=u.sb rfl;refine iC (n:=37) (i:=8) (j:=9) (Dp:=[8,9,10]) (ds1:=(eN (pV a0) 0 [] 0::bJ (pV (some p7)) 0 [0] 7 (pV a0)::bJ (pV (some (p7.add 0))) 0 [1,0] 8 (pV (some p7))::bJ (.string v9) 0 [2,1,0] 9 (pV (some (p7.add 0)))::eN (pV a0) 0 [] 0::bJ (pV (some p7)) 0 [4] 11 (pV a0)::bJ (pV (some (p7.add 1))) 0 [5,4] 12 (pV (some p7))::bJ (iV v11) 0 [6,5,4] 13 (pV (some (p7.add 1)))::aL (.agg (List.toArray v13)) true 0 0 (rn 0 8) [(10,(.string v9)),(14,(iV v11))]::aL (pV (some p16)) true 1 1 (rn 0 9) []::aL (undef) true 2 2 (rn 0 10) [(6,(pV (some p16))),(15,(.agg (List.toArray v13)))]::[])) (ds2:=(aL (pV a0) false 0 1 [] [(0,(pV a0))]::aL (pV (some p7)) false 0 1 [0] [(7,(pV a0))]::aL (pV (some (p7.add 0))) false 0 1 [1,0] [(8,(pV (some p7)))]::aL (.string v9) false 0 1 [2,1,0] [(9,(pV (some (p7.add 0))))]::aL (pV a0) false 0 1 [] [(0,(pV a0))]::aL (pV (some p7)) false 0 1 [4] [(11,(pV a0))]::aL (pV (some (p7.add 1))) false 0 1 [5,4] [(12,(pV (some p7)))]::aL (iV v11) false 0 1 [6,5,4] [(13,(pV (some (p7.add 1))))]::aL (.agg (List.toArray v25)) true 1 1 (rn 0 8++[9]) [(10,(.string v9)),(14,(iV v11))]::aL (pV (some p22)) true 0 0 [] []::aL (undef) true 2 2 (rn 0 10) [(6,(pV (some p22))),(15,(.agg (List.toArray v25)))]::[])) (W1:=(fun j=>match j with | 0=>w5 | 1=>w14 | 2=>w17 | 3=>w20 | _=>w20)) (W2:=(fun j=>match j with | 0=>w5 | 1=>w23 | 2=>w26 | 3=>w29 | _=>w29)) (m1:=3) (m2:=3) (by kernel_rfl) u (gY e6) (gY e6) rfl (by kernel_rfl) (by kernel_rfl) rfl rfl (by decide) (bS (by kernel_rfl)) (bS (by kernel_rfl)) ?_ ?_ (by kernel_rfl) (by kernel_rfl) (fun a u=>?_) (fun a u=>?_)
 .exact⟨oa (aI · rfl),oa (bI · rfl e8),oa (aJ · rfl wP rfl rfl wR),oc 0 (kd (aG · rfl wU (cH e10))),oa (aI · rfl),oa (bI · rfl e8),oa (aJ · rfl wP rfl rfl xB),oc 0 (kd (aG · rfl wX (aO e12))),oc 0 (kd (dc2 · rfl rfl Try.call78 (dF e15))),oc 1 (kd fun {a} u=>cM wW (by kernel_rfl) e18),oc 2 (kd (dQ · rfl rfl wO e19 e21)),aAP⟩
 .refine⟨oa (aI · rfl),oa (bI · rfl e8),oa (aJ · rfl wP rfl rfl wR),?_,oa (aI · rfl),oa (bI · rfl e8),oa (aJ · rfl wP rfl rfl xB),?_,oc 1 (kd (dc2 · rfl rfl Try.call78 (dF e27))),oc 0 (kd fun {a} u=>cM wW (by kernel_rfl) e24),oc 2 (kd (dQ · rfl rfl wO e28 e30)),aAP⟩
  .intro j h1 h2;have h1:0<=j:=h1;have h2:j<=1:=h2;rcases(by omega:j=0\/j=1) with rfl | rfl
   .exact kd (aG · rfl wU (cH e10))
   exact kd (aG · rfl wU (cH e31))
  intro j h1 h2;have h1:0<=j:=h1;have h2:j<=1:=h2;rcases(by omega:j=0\/j=1) with rfl | rfl
  .exact kd (aG · rfl wX (aO e12))
  exact kd (aG · rfl wX (aO e32))
 .have h:=hA;have u:Has 37 [(0,(pV a0)),(1,(bV a1)),(2,(.func (.func 53) #[] #[])),(6,(pV (some p16)))] a:=u.sb rfl;exact hk4 (p16,w20) h _ (u.sb rfl)
 have h:=hB;have u:Has 37 [(0,(pV a0)),(1,(bV a1)),(2,(.func (.func 53) #[] #[])),(6,(pV (some p22)))] a:=u.sb rfl;exact hk4 (p22,w29) h _ (u.sb rfl)
noncomputable def iR (a0:Option Addr) (w:World):Option (World) :=
 (a0).bind fun p1 =>
 (ldA 12 w p1 0).bind fun c3 =>
 aE (fC c3 w) fun v5 w6 =>
 (stA w6 p1 0 v5).bind fun w9 =>
 chk ((v5).length=12) <|
 some w9
theorem lH {a0 w w'} (h:iR a0 w=some w'):Calls Try.prog 54 #[(.pointer a0)] w fun e w''=>e=.returned (.tuple #[])/\w''=w':=by
 refine aD (n:=8) Try.func54 rfl Try.ntmps54 (by simp) fun a u=>?_;unfold iR at h;refine aA<|qm u rfl fun a u=>qm u rfl fun a u=>?_;have⟨p1,e2,h⟩:=bs1 h;refine q u (bI u rfl e2) fun a u=>?_;have⟨c3,e4,h⟩:=bs1 h;refine q u (bK u rfl xE wO e4) fun a u=>?_;have⟨v5,w6,e7,h⟩:=bs2 h;refine q u (dc1 u rfl Try.call55 (fV e7)) fun a u=>q u (bI u rfl e2) fun a u=>?_;have⟨w9,e10,h⟩:=bs1 h;obtain⟨e8,h⟩:=dC h;refine q u (dQ u rfl rfl wO e8 e10) fun a u=>aC<|?_;have y:=u;cases h;exact mI Try.results54 y ⟨rfl,rfl⟩
noncomputable def gD (a0:Option Addr) (a1:Bool) (w:World):ND (World) :=
 cb2 (lb1 (dr w) fun w5 =>
 lb1 (a0) fun p7 =>
 lb1 (ldS w5 (p7.add 0)) fun v9 =>
 lb1 (ldI .i64 w5 (p7.add 1)) fun v11 =>
 oO (lb2 (cP v9 v11 w5) fun v13 w14 =>
 lb2 (mk w14 40 ([.string ByteArray.empty,.int .i64 0,.bool false,.int .i64 0,.int .i64 0,.string ByteArray.empty,.string ByteArray.empty,.bool false,.int .u8 0,.bool false,.slice none 0 0,.slice none 0 0])) fun p16 w17 =>
 lb1 (stA w17 p16 0 v13) fun w20 =>
 nck ((v13).length=12) <|
 bR (p16,w20)) (lb2 (mk w5 40 ([.string ByteArray.empty,.int .i64 0,.bool false,.int .i64 0,.int .i64 0,.string ByteArray.empty,.string ByteArray.empty,.bool false,.int .u8 0,.bool false,.slice none 0 0,.slice none 0 0])) fun p22 w23 =>
 lb2 (cP v9 v11 w23) fun v25 w26 =>
 lb1 (stA w26 p22 0 v25) fun w29 =>
 nck ((v25).length=12) <|
 nck (ldS w23 (p7.add 0)=some v9) <|
 nck (ldI .i64 w23 (p7.add 1)=some v11) <|
 bR (p22,w29))) fun v1 w2 =>
 lb1 (stV w2 (v1.add 2) (.bool a1)) fun w33 =>
 lb1 (iR (some v1) w33) fun w35 =>
 cbX (lb1 (ldA 12 w35 v1 0) fun c43 =>
 lb2 (cO c43 w35) fun v45 w46 =>
 if v45=true then
 (lb1 (ldA 12 w46 v1 0) fun c49 =>
 lb2 (fC c49 w46) fun v51 w52 =>
 lb1 (stA w52 v1 0 v51) fun w55 =>
 nck ((v51).length=12) <|
 if (!a1)=true then
 (cb1 (bR w55) fun g42=>bR (.inl g42))
 else
 (bR (.inr w55)))
 else
 (bR (.inr w46))) fun (i:World)=>u1 i fun w37 =>
 lb1 (dr w37) fun w59 =>
 lb1 (a0) fun p61 =>
 lb1 (ldL w59 (p61.add 2)) fun v63 =>
 lb1 (ldA 12 w59 v1 0) fun c65 =>
 lb2 (bsl w59 40 12 [c65]) fun s67 w68 =>
 lb2 (bsl w68 22 1 [[(Sl.v s67)]]) fun s70 w71 =>
 lb2 (apS Try.prog 47 v63 s70 w71) fun s73 w74 =>
 lb1 (stV w74 (p61.add 2) (Sl.v s73)) fun w76 =>
 nck (ldL w68 (p61.add 2)=some v63) <|
 nck (ldL w71 (p61.add 2)=some v63) <|
 bR w76
theorem jE {a0 a1 w Q} (h:(gD a0 a1 w).t Q):Calls Try.prog 56 #[(.pointer a0),(.bool a1),(.func (.func 54) #[] #[])] w fun e w''=>∃ i,e=.returned (.tuple #[])/\Q i/\w''=i:=by
 refine aD (n:=37) Try.func56 rfl Try.ntmps56 (by simp) fun a u=>?_;unfold gD at h;refine wp_seq<|?_;refine fL (n:=37) (ι:=Addr×World) (Lf:=fun i=>[(6,(pV (some i.1))),(0,(pV a0)),(1,(bV a1)),(2,(.func (.func 54) #[] #[]))]) (wf:=fun i=>i.2) (un2 h) (fun i h a u=>?_) (fun h hk4=>?_)
 .obtain⟨v1,w2⟩:=i;have u:Has 37 [(6,(pV (some v1))),(0,(pV a0)),(1,(bV a1)),(2,(.func (.func 54) #[] #[]))] a:=u;refine t_n<|wp_seq<|aA<|qm u rfl fun a u=>q u (aJ u rfl wM rfl rfl xG) fun a u=>?_;obtain⟨w33,e34,h⟩:=h;refine q u (gK u rfl rfl xG e34) fun a u=>aC<|t_n<|wp_seq<|aA<|qm u rfl fun a u=>?_;obtain⟨w35,e36,h⟩:=h;refine q u (dV (xs:=[_]) (vs:=[(pV (some v1))]) (cv:=[]) u rfl ⟨rfl,aAP⟩ Try.call54 (lH e36)) fun a u=>aC<|t_n<|?_;refine iT (n:=37) (ι:=World) (Lf:=fun i=>[(0,(pV a0)),(6,(pV (some v1)))]) (wf:=fun i=>i) (unX h) (fun i h a u=>?_) (fun h hk41=>?_)
  .obtain⟨w37,rfl⟩:∃ x,x=i:=⟨i,rfl⟩
   try dsimp only[Sum.elim_inl,Sum.elim_inr,u1,u2,u3,u4,u5,u6] at h
   have u:Has 37 [(0,(pV a0)),(6,(pV (some v1)))] a:=u;obtain⟨w59,e60,h⟩:=h;obtain⟨p61,e62,h⟩:=h;obtain⟨v63,e64,h⟩:=h;obtain⟨c65,e66,h⟩:=h;obtain⟨s67,w68,e69,h⟩:=h;obtain⟨s70,w71,e72,h⟩:=h;obtain⟨s73,w74,e75,h⟩:=h;obtain⟨w76,e77,h⟩:=h;obtain⟨e78,h⟩:=h;obtain⟨e79,h⟩:=h;have u:Has 37 [(0,(pV a0)),(6,(pV (some v1)))] a:=u.sb rfl;refine cL (n:=37) (ds:=(aL (pV a0) false 0 3 [] [(0,(pV a0))]::aL (pV a0) false 0 2 [] [(0,(pV a0))]::aL (pV (some p61)) false 0 2 [1] [(27,(pV a0))]::aL (pV (some (p61.add 2))) false 0 2 [1,2] [(28,(pV (some p61)))]::aL (Sl.v v63) false 0 2 [1,2,3] [(29,(pV (some (p61.add 2))))]::bJ (.agg (List.toArray c65)) 0 [] 6 (pV (some v1))::aL (Sl.v s67) true 0 0 [5] [(31,(.agg (List.toArray c65)))]::aL (Sl.v s70) true 1 1 [5,6] [(32,(Sl.v s67))]::aL (Sl.v s73) true 2 2 (rn 1 7) [(30,(Sl.v v63)),(33,(Sl.v s70))]::bJ (pV (some p61)) 3 (rn 0 9) 26 (pV a0)::bJ (pV (some (p61.add 2))) 3 (rn 0 10) 35 (pV (some p61))::aL (undef) true 3 3 (rn 0 11) [(36,(pV (some (p61.add 2)))),(34,(Sl.v s73))]::[])) (W:=(fun j=>match j with | 0=>w59 | 1=>w68 | 2=>w71 | 3=>w74 | 4=>w76 | _=>w76)) (by kernel_rfl) u (gY e60) (by kernel_rfl) ?_ (bS (by kernel_rfl)) (by kernel_rfl) (m:=4) (by kernel_rfl) (fun a u=>?_)
   .refine⟨oa (aI · rfl),oa (aI · rfl),oa (bI · rfl e62),oa (aJ · rfl wP rfl rfl xF),?_,oc 0 (kd (bK · rfl xE wO e66)),oc 0 (kd (gU (vs:=[(0,(.agg (List.toArray c65)))]) (ps:=[c65]) · ⟨rfl,rfl,aAP⟩ ⟨rfl,rfl,aAP⟩ rfl wS wO wW (by decide) e69)),oc 1 (kd (gU (vs:=[(0,(Sl.v s67))]) (ps:=[[(Sl.v s67)]]) · ⟨rfl,rfl,aAP⟩ ⟨rfl,rfl,aAP⟩ rfl wT xL yD (by decide) e72)),oc 2 (kd (kJ · rfl rfl e75)),oa (bI · rfl e62),oa (aJ · rfl wP rfl rfl xF),oc 3 (kd (gK · rfl rfl xF e77)),aAP⟩;intro j h1 h2;have h1:0<=j:=h1;have h2:j<=2:=h2;rcases(by omega:j=0\/j=1\/j=2) with rfl | rfl | rfl
    .exact kd (aG · rfl xM (bW e64))
    .exact kd (aG · rfl xM (bW e78))
    exact kd (aG · rfl xM (bW e79))
   have u:Has 37 [] a:=u.sb rfl;exact mI Try.results56 u ⟨w76,rfl,h,rfl⟩
  refine wp_seq<|aA<|?_;obtain⟨c43,e44,h⟩:=h;refine q u (bK u rfl xE wO e44) fun a u=>?_;obtain⟨v45,w46,e47,h⟩:=h;refine q u (dc1 u rfl Try.call41 (eA e47)) fun a u=>aC<|t_n<|?_;refine bT u rfl h (fun b48 h=>?_) (fun b48 h=>?_)
  .refine wp_seq<|aA<|?_;obtain⟨c49,e50,h⟩:=h;refine q u (bK u rfl xE wO e50) fun a u=>?_;obtain⟨v51,w52,e53,h⟩:=h;refine q u (dc1 u rfl Try.call55 (fV e53)) fun a u=>?_;obtain⟨w55,e56,h⟩:=h;obtain⟨e54,h⟩:=h;refine q u (dQ u rfl rfl wO e54 e56) fun a u=>aC<|t_n<|wp_seq<|aA<|qm u rfl fun a u=>q u (fT u rfl) fun a u=>aC<|t_n<|?_;refine bT u rfl h (fun b57 h=>?_) (fun b57 h=>?_)
   .refine wp_ret<|?_;have h:=unL h;refine t_r<|?_;exact oC Try.results56 u ⟨w55,rfl,h,rfl⟩
   refine wp_skip<|?_;exact hk41 w55 h _ (u.sb rfl)
  refine wp_skip<|?_;exact hk41 w46 h _ (u.sb rfl)
 obtain⟨w5,e6,h⟩:=h;obtain⟨p7,e8,h⟩:=h;obtain⟨v9,e10,h⟩:=h;obtain⟨v11,e12,h⟩:=h;obtain⟨h,hB⟩:=h;obtain⟨v13,w14,e15,h⟩:=h;obtain⟨p16,w17,e18,h⟩:=h;obtain⟨w20,e21,h⟩:=h;obtain⟨e19,h⟩:=h;have hA:=h;have h:=hB;obtain⟨p22,w23,e24,h⟩:=h;obtain⟨v25,w26,e27,h⟩:=h;obtain⟨w29,e30,h⟩:=h;obtain⟨e28,h⟩:=h;obtain⟨e31,h⟩:=h;obtain⟨e32,h⟩:=h;have hB:=h;have u:Has 37 [(0,(pV a0)),(1,(bV a1)),(2,(.func (.func 54) #[] #[]))] a:=u.sb rfl;refine iC (n:=37) (i:=8) (j:=9) (Dp:=[8,9,10]) (ds1:=(eN (pV a0) 0 [] 0::bJ (pV (some p7)) 0 [0] 7 (pV a0)::bJ (pV (some (p7.add 0))) 0 [1,0] 8 (pV (some p7))::bJ (.string v9) 0 [2,1,0] 9 (pV (some (p7.add 0)))::eN (pV a0) 0 [] 0::bJ (pV (some p7)) 0 [4] 11 (pV a0)::bJ (pV (some (p7.add 1))) 0 [5,4] 12 (pV (some p7))::bJ (iV v11) 0 [6,5,4] 13 (pV (some (p7.add 1)))::aL (.agg (List.toArray v13)) true 0 0 (rn 0 8) [(10,(.string v9)),(14,(iV v11))]::aL (pV (some p16)) true 1 1 (rn 0 9) []::aL (undef) true 2 2 (rn 0 10) [(6,(pV (some p16))),(15,(.agg (List.toArray v13)))]::[])) (ds2:=(aL (pV a0) false 0 1 [] [(0,(pV a0))]::aL (pV (some p7)) false 0 1 [0] [(7,(pV a0))]::aL (pV (some (p7.add 0))) false 0 1 [1,0] [(8,(pV (some p7)))]::aL (.string v9) false 0 1 [2,1,0] [(9,(pV (some (p7.add 0))))]::aL (pV a0) false 0 1 [] [(0,(pV a0))]::aL (pV (some p7)) false 0 1 [4] [(11,(pV a0))]::aL (pV (some (p7.add 1))) false 0 1 [5,4] [(12,(pV (some p7)))]::aL (iV v11) false 0 1 [6,5,4] [(13,(pV (some (p7.add 1))))]::aL (.agg (List.toArray v25)) true 1 1 (rn 0 8++[9]) [(10,(.string v9)),(14,(iV v11))]::aL (pV (some p22)) true 0 0 [] []::aL (undef) true 2 2 (rn 0 10) [(6,(pV (some p22))),(15,(.agg (List.toArray v25)))]::[])) (W1:=(fun j=>match j with | 0=>w5 | 1=>w14 | 2=>w17 | 3=>w20 | _=>w20)) (W2:=(fun j=>match j with | 0=>w5 | 1=>w23 | 2=>w26 | 3=>w29 | _=>w29)) (m1:=3) (m2:=3) (by kernel_rfl) u (gY e6) (gY e6) rfl (by kernel_rfl) (by kernel_rfl) rfl rfl (by decide) (bS (by kernel_rfl)) (bS (by kernel_rfl)) ?_ ?_ (by kernel_rfl) (by kernel_rfl) (fun a u=>?_) (fun a u=>?_)
 .exact⟨oa (aI · rfl),oa (bI · rfl e8),oa (aJ · rfl wP rfl rfl wR),oc 0 (kd (aG · rfl wU (cH e10))),oa (aI · rfl),oa (bI · rfl e8),oa (aJ · rfl wP rfl rfl xB),oc 0 (kd (aG · rfl wX (aO e12))),oc 0 (kd (dc2 · rfl rfl Try.call78 (dF e15))),oc 1 (kd fun {a} u=>cM wW (by kernel_rfl) e18),oc 2 (kd (dQ · rfl rfl wO e19 e21)),aAP⟩
 .refine⟨oa (aI · rfl),oa (bI · rfl e8),oa (aJ · rfl wP rfl rfl wR),?_,oa (aI · rfl),oa (bI · rfl e8),oa (aJ · rfl wP rfl rfl xB),?_,oc 1 (kd (dc2 · rfl rfl Try.call78 (dF e27))),oc 0 (kd fun {a} u=>cM wW (by kernel_rfl) e24),oc 2 (kd (dQ · rfl rfl wO e28 e30)),aAP⟩
  .intro j h1 h2;have h1:0<=j:=h1;have h2:j<=1:=h2;rcases(by omega:j=0\/j=1) with rfl | rfl
   .exact kd (aG · rfl wU (cH e10))
   exact kd (aG · rfl wU (cH e31))
  intro j h1 h2;have h1:0<=j:=h1;have h2:j<=1:=h2;rcases(by omega:j=0\/j=1) with rfl | rfl
  .exact kd (aG · rfl wX (aO e12))
  exact kd (aG · rfl wX (aO e32))
 .have h:=hA;have u:Has 37 [(0,(pV a0)),(1,(bV a1)),(2,(.func (.func 54) #[] #[])),(6,(pV (some p16)))] a:=u.sb rfl;exact hk4 (p16,w20) h _ (u.sb rfl)
 have h:=hB;have u:Has 37 [(0,(pV a0)),(1,(bV a1)),(2,(.func (.func 54) #[] #[])),(6,(pV (some p22)))] a:=u.sb rfl;exact hk4 (p22,w29) h _ (u.sb rfl)
noncomputable def dP (a0:List Value) (a1:Int) (w:World):Option (Addr×Addr×World) :=
 aE (mk w 55 a0) fun p1 w2 =>
 aE (mk w2 2 ([(.int .i64 a1)])) fun p4 w5 =>
 some (p1,p4,w5)
theorem fG {a0 a1 w w' r0_0 r0_1} (h:dP a0 a1 w=some (r0_0,r0_1,w')):Calls Try.prog 62 #[(.agg (List.toArray a0)),(.int .i64 a1)] w fun e w''=>e=.returned (.func (.func 82) #[] #[(.pointer (some r0_0)),(.pointer (some r0_1))])/\w''=w':=by
 refine aD (n:=6) Try.func62 rfl Try.ntmps62 (by simp) fun a u=>?_;unfold dP at h;refine wp_seq<|aA<|?_;have⟨p1,w2,e3,h⟩:=bs2 h;refine q u (dI u rfl rfl e3) fun a u=>?_;have⟨p4,w5,e6,h⟩:=bs2 h;refine q u (dI u rfl rfl e6) fun a u=>qa u rfl fun a u=>aC<|t_n<|wp_seq<|aA<|q u (jL (vs:=[(pV (some p1)),(pV (some p4))]) u ⟨rfl,rfl,aAP⟩) fun a u=>qa u rfl fun a u=>aC<|t_n<|wp_ret<|?_;have y:=u;cases h;exact aY Try.results62 y rfl ⟨rfl,rfl⟩
noncomputable def eR (a0:Option Addr) (a1:Addr) (a2:Addr) (w:World):Option (World) :=
 (a0).bind fun p1 =>
 (stV w (p1.add 7) (.bool false)).bind fun w3 =>
 (ldS w3 (a1.add 2)).bind fun v5 =>
 (stV w3 (p1.add 6) (.string v5)).bind fun w7 =>
 ((ldI .i64 w7 a2).bind fun v12 =>
 if (v12==1)=true then
 ((ldS w7 (p1.add 6)).bind fun v15 =>
 (sC v15 (ByteArray.mk #[0])).bind fun s17 =>
 (stV w7 (p1.add 6) (.string s17)).bind fun w19 =>
 some w19)
 else
 (some w7)).bind fun w9 =>
 (ldI .i64 w9 (p1.add 1)).bind fun v21 =>
 if (v21 !=1)=true then
 (some w9)
 else
 ((stV w9 (p1.add 6) (.string (ByteArray.mk #[]))).bind fun w24 =>
 (ldI .i64 w24 (a1.add 1)).bind fun v26 =>
 (stV w24 (p1.add 4) (.int .i64 v26)).bind fun w28 =>
 (ldI .i64 w28 a2).bind fun v30 =>
 if (v30==0)=true then
 ((ldI .i64 w28 (p1.add 4)).bind fun v33 =>
 (stV w28 (p1.add 4) (.int .i64 (IntKind.wrap .i64 (v33-1)))).bind fun w35 =>
 (ldI .i64 w35 (a1.add 1)).bind fun v37 =>
 if (v37==(-9223372036854775808))=true then
 ((stV w35 (p1.add 3) (.int .i64 1)).bind fun w40 =>
 (stV w40 (p1.add 4) (.int .i64 0)).bind fun w42 =>
 some w42)
 else
 (some w35))
 else
 (some w28))
theorem kZ {a0 a1 a2 w w'} (h:eR a0 a1 a2 w=some w'):Calls Try.prog 82 #[(.pointer a0),(.pointer (some a1)),(.pointer (some a2))] w fun e w''=>e=.returned (.tuple #[])/\w''=w':=by
 refine aD (n:=52) Try.func82 rfl Try.ntmps82 (by simp) fun a u=>?_;unfold eR at h;refine wp_seq<|aA<|qm u rfl fun a u=>?_;have⟨p1,e2,h⟩:=bs1 h;refine q u (bI u rfl e2) fun a u=>q u (aJ u rfl wM rfl rfl xG) fun a u=>?_;have⟨w3,e4,h⟩:=bs1 h;refine q u (gK u rfl rfl xG e4) fun a u=>aC<|t_n<|wp_seq<|aA<|qm u rfl fun a u=>q u (aJ u rfl xD rfl rfl wR) fun a u=>?_;have⟨v5,e6,h⟩:=bs1 h;refine q u (aG u rfl wU (cH e6)) fun a u=>q u (bI u rfl e2) fun a u=>q u (aJ u rfl wM rfl rfl wR) fun a u=>?_;have⟨w7,e8,h⟩:=bs1 h;refine q u (gK u rfl rfl wR e8) fun a u=>aC<|t_n<|?_;have⟨w9,e10,h⟩:=bs1 h;refine iB (n:=52) (L:=[(0,(pV a0)),(1,(pV (some a1))),(2,(pV (some a2)))]) (w':=w9) (fun a u=>?_) (fun hk11=>?_)
 .refine wp_seq<|wp_seq<|aA<|qm u rfl fun a u=>q u (bI u rfl e2) fun a u=>q u (aJ u rfl wM rfl rfl xB) fun a u=>?_;have⟨v21,e22,h⟩:=bs1 h;refine q u (aG u rfl wX (aO e22)) fun a u=>q u (jH u rfl rfl) fun a u=>aC<|t_n<|?_;refine aF u rfl h (fun b23 h=>?_) (fun b23 h=>?_)
  .refine wp_ret<|t_r<|?_;have y:=u;cases h;exact oC Try.results82 y ⟨rfl,rfl⟩
  refine wp_skip<|t_n<|wp_seq<|aA<|qm u rfl fun a u=>q u (bI u rfl e2) fun a u=>q u (aJ u rfl wM rfl rfl wR) fun a u=>?_;have⟨w24,e25,h⟩:=bs1 h;refine q u (gK u rfl rfl wR e25) fun a u=>aC<|t_n<|wp_seq<|aA<|qm u rfl fun a u=>q u (aJ u rfl xD rfl rfl wY) fun a u=>?_;have⟨v26,e27,h⟩:=bs1 h;refine q u (aG u rfl xZ (aO e27)) fun a u=>q u (bI u rfl e2) fun a u=>q u (aJ u rfl wM rfl rfl wY) fun a u=>?_;have⟨w28,e29,h⟩:=bs1 h;refine q u (gK u rfl rfl wY e29) fun a u=>aC<|t_n<|wp_seq<|aA<|?_;have⟨v30,e31,h⟩:=bs1 h;refine q u (aG u rfl xZ (aO e31)) fun a u=>q u (cC u rfl rfl) fun a u=>aC<|t_n<|?_;refine aF u rfl h (fun b32 h=>?_) (fun b32 h=>?_)
  .refine wp_seq<|aA<|qm u rfl fun a u=>q u (bI u rfl e2) fun a u=>q u (aJ u rfl wM rfl rfl wY) fun a u=>?_;have⟨v33,e34,h⟩:=bs1 h;refine q u (aG u rfl xZ (aO e34)) fun a u=>q u (jZ u rfl rfl) fun a u=>q u (bI u rfl e2) fun a u=>q u (aJ u rfl wM rfl rfl wY) fun a u=>?_;have⟨w35,e36,h⟩:=bs1 h;refine q u (gK u rfl rfl wY e36) fun a u=>aC<|t_n<|wp_seq<|aA<|q u (aJ u rfl xD rfl rfl wY) fun a u=>?_;have⟨v37,e38,h⟩:=bs1 h;refine q u (aG u rfl xZ (aO e38)) fun a u=>q u (cC u rfl rfl) fun a u=>aC<|t_n<|?_;refine aF u rfl h (fun b39 h=>?_) (fun b39 h=>?_)
   .refine aA<|qm u rfl fun a u=>qm u rfl fun a u=>q u (bI u rfl e2) fun a u=>q u (aJ u rfl wM rfl rfl wY) fun a u=>?_;have⟨w40,e41,h⟩:=bs1 h;refine q u (gK u rfl rfl wY e41) fun a u=>q u (bI u rfl e2) fun a u=>q u (aJ u rfl wM rfl rfl wY) fun a u=>?_;have⟨w42,e43,h⟩:=bs1 h;refine q u (gK u rfl rfl wY e43) fun a u=>aC<|?_;have y:=u;cases h;exact mI Try.results82 y ⟨rfl,rfl⟩
   refine wp_skip<|?_;have y:=u;cases h;exact mI Try.results82 y ⟨rfl,rfl⟩
  refine wp_skip<|?_;have y:=u;cases h;exact mI Try.results82 y ⟨rfl,rfl⟩
 clear h;have h:=e10;refine wp_seq<|aA<|?_;have⟨v12,e13,h⟩:=bs1 h;refine q u (aG u rfl xZ (aO e13)) fun a u=>q u (cC u rfl rfl) fun a u=>aC<|t_n<|?_;refine aF u rfl h (fun b14 h=>?_) (fun b14 h=>?_)
 .refine aA<|qm u rfl fun a u=>q u (bI u rfl e2) fun a u=>q u (aJ u rfl wM rfl rfl wR) fun a u=>?_;have⟨v15,e16,h⟩:=bs1 h;refine q u (aG u rfl wU (cH e16)) fun a u=>?_;have⟨s17,e18,h⟩:=bs1 h;refine q u (qH u rfl rfl e18) fun a u=>q u (bI u rfl e2) fun a u=>q u (aJ u rfl wM rfl rfl wR) fun a u=>?_;have⟨w19,e20,h⟩:=bs1 h;refine q u (gK u rfl rfl wR e20) fun a u=>aC<|?_;have y:=u;cases h;exact hk11 _ (y.sb rfl)
 refine wp_skip<|?_;have y:=u;cases h;exact hk11 _ (y.sb rfl)
noncomputable def cA (a0:Option Addr) (a1:Bool) (a2_0:Addr) (a2_1:Addr) (w:World):ND (World) :=
 cb2 (lb1 (dr w) fun w5 =>
 lb1 (a0) fun p7 =>
 lb1 (ldS w5 (p7.add 0)) fun v9 =>
 lb1 (ldI .i64 w5 (p7.add 1)) fun v11 =>
 oO (lb2 (cP v9 v11 w5) fun v13 w14 =>
 lb2 (mk w14 40 ([.string ByteArray.empty,.int .i64 0,.bool false,.int .i64 0,.int .i64 0,.string ByteArray.empty,.string ByteArray.empty,.bool false,.int .u8 0,.bool false,.slice none 0 0,.slice none 0 0])) fun p16 w17 =>
 lb1 (stA w17 p16 0 v13) fun w20 =>
 nck ((v13).length=12) <|
 bR (p16,w20)) (lb2 (mk w5 40 ([.string ByteArray.empty,.int .i64 0,.bool false,.int .i64 0,.int .i64 0,.string ByteArray.empty,.string ByteArray.empty,.bool false,.int .u8 0,.bool false,.slice none 0 0,.slice none 0 0])) fun p22 w23 =>
 lb2 (cP v9 v11 w23) fun v25 w26 =>
 lb1 (stA w26 p22 0 v25) fun w29 =>
 nck ((v25).length=12) <|
 nck (ldS w23 (p7.add 0)=some v9) <|
 nck (ldI .i64 w23 (p7.add 1)=some v11) <|
 bR (p22,w29))) fun v1 w2 =>
 lb1 (stV w2 (v1.add 2) (.bool a1)) fun w33 =>
 lb1 (eR (some v1) a2_0 a2_1 w33) fun w35 =>
 cbX (lb1 (ldA 12 w35 v1 0) fun c43 =>
 lb2 (cO c43 w35) fun v45 w46 =>
 if v45=true then
 (lb1 (ldA 12 w46 v1 0) fun c49 =>
 lb2 (fC c49 w46) fun v51 w52 =>
 lb1 (stA w52 v1 0 v51) fun w55 =>
 nck ((v51).length=12) <|
 if (!a1)=true then
 (cb1 (bR w55) fun g42=>bR (.inl g42))
 else
 (bR (.inr w55)))
 else
 (bR (.inr w46))) fun (i:World)=>u1 i fun w37 =>
 lb1 (dr w37) fun w59 =>
 lb1 (a0) fun p61 =>
 lb1 (ldL w59 (p61.add 2)) fun v63 =>
 lb1 (ldA 12 w59 v1 0) fun c65 =>
 lb2 (bsl w59 40 12 [c65]) fun s67 w68 =>
 lb2 (bsl w68 22 1 [[(Sl.v s67)]]) fun s70 w71 =>
 lb2 (apS Try.prog 47 v63 s70 w71) fun s73 w74 =>
 lb1 (stV w74 (p61.add 2) (Sl.v s73)) fun w76 =>
 nck (ldL w68 (p61.add 2)=some v63) <|
 nck (ldL w71 (p61.add 2)=some v63) <|
 bR w76
theorem cU {a0 a1 a2_0 a2_1 w Q} (h:(cA a0 a1 a2_0 a2_1 w).t Q):Calls Try.prog 56 #[(.pointer a0),(.bool a1),(.func (.func 82) #[] #[(.pointer (some a2_0)),(.pointer (some a2_1))])] w fun e w''=>∃ i,e=.returned (.tuple #[])/\Q i/\w''=i:=by
 refine aD (n:=37) Try.func56 rfl Try.ntmps56 (by simp) fun a u=>?_;unfold cA at h;refine wp_seq<|?_;refine fL (n:=37) (ι:=Addr×World) (Lf:=fun i=>[(6,(pV (some i.1))),(0,(pV a0)),(1,(bV a1)),(2,(.func (.func 82) #[] #[(pV (some a2_0)),(pV (some a2_1))]))]) (wf:=fun i=>i.2) (un2 h) (fun i h a u=>?_) (fun h hk4=>?_)
 .obtain⟨v1,w2⟩:=i;have u:Has 37 [(6,(pV (some v1))),(0,(pV a0)),(1,(bV a1)),(2,(.func (.func 82) #[] #[(pV (some a2_0)),(pV (some a2_1))]))] a:=u;refine t_n<|wp_seq<|aA<|qm u rfl fun a u=>q u (aJ u rfl wM rfl rfl xG) fun a u=>?_;obtain⟨w33,e34,h⟩:=h;refine q u (gK u rfl rfl xG e34) fun a u=>aC<|t_n<|wp_seq<|aA<|qm u rfl fun a u=>?_;obtain⟨w35,e36,h⟩:=h;refine q u (dV (xs:=[_]) (vs:=[(pV (some v1))]) (cv:=[(pV (some a2_0)),(pV (some a2_1))]) u rfl ⟨rfl,aAP⟩ Try.call82 (kZ e36)) fun a u=>aC<|t_n<|?_;refine iT (n:=37) (ι:=World) (Lf:=fun i=>[(0,(pV a0)),(6,(pV (some v1)))]) (wf:=fun i=>i) (unX h) (fun i h a u=>?_) (fun h hk41=>?_)
  .obtain⟨w37,rfl⟩:∃ x,x=i:=⟨i,rfl⟩
   try dsimp only[Sum.elim_inl,Sum.elim_inr,u1,u2,u3,u4,u5,u6] at h
   have u:Has 37 [(0,(pV a0)),(6,(pV (some v1)))] a:=u;obtain⟨w59,e60,h⟩:=h;obtain⟨p61,e62,h⟩:=h;obtain⟨v63,e64,h⟩:=h;obtain⟨c65,e66,h⟩:=h;obtain⟨s67,w68,e69,h⟩:=h;obtain⟨s70,w71,e72,h⟩:=h;obtain⟨s73,w74,e75,h⟩:=h;obtain⟨w76,e77,h⟩:=h;obtain⟨e78,h⟩:=h;obtain⟨e79,h⟩:=h;have u:Has 37 [(0,(pV a0)),(6,(pV (some v1)))] a:=u.sb rfl;refine cL (n:=37) (ds:=(aL (pV a0) false 0 3 [] [(0,(pV a0))]::aL (pV a0) false 0 2 [] [(0,(pV a0))]::aL (pV (some p61)) false 0 2 [1] [(27,(pV a0))]::aL (pV (some (p61.add 2))) false 0 2 [1,2] [(28,(pV (some p61)))]::aL (Sl.v v63) false 0 2 [1,2,3] [(29,(pV (some (p61.add 2))))]::bJ (.agg (List.toArray c65)) 0 [] 6 (pV (some v1))::aL (Sl.v s67) true 0 0 [5] [(31,(.agg (List.toArray c65)))]::aL (Sl.v s70) true 1 1 [5,6] [(32,(Sl.v s67))]::aL (Sl.v s73) true 2 2 (rn 1 7) [(30,(Sl.v v63)),(33,(Sl.v s70))]::bJ (pV (some p61)) 3 (rn 0 9) 26 (pV a0)::bJ (pV (some (p61.add 2))) 3 (rn 0 10) 35 (pV (some p61))::aL (undef) true 3 3 (rn 0 11) [(36,(pV (some (p61.add 2)))),(34,(Sl.v s73))]::[])) (W:=(fun j=>match j with | 0=>w59 | 1=>w68 | 2=>w71 | 3=>w74 | 4=>w76 | _=>w76)) (by kernel_rfl) u (gY e60) (by kernel_rfl) ?_ (bS (by kernel_rfl)) (by kernel_rfl) (m:=4) (by kernel_rfl) (fun a u=>?_)
   .refine⟨oa (aI · rfl),oa (aI · rfl),oa (bI · rfl e62),oa (aJ · rfl wP rfl rfl xF),?_,oc 0 (kd (bK · rfl xE wO e66)),oc 0 (kd (gU (vs:=[(0,(.agg (List.toArray c65)))]) (ps:=[c65]) · ⟨rfl,rfl,aAP⟩ ⟨rfl,rfl,aAP⟩ rfl wS wO wW (by decide) e69)),oc 1 (kd (gU (vs:=[(0,(Sl.v s67))]) (ps:=[[(Sl.v s67)]]) · ⟨rfl,rfl,aAP⟩ ⟨rfl,rfl,aAP⟩ rfl wT xL yD (by decide) e72)),oc 2 (kd (kJ · rfl rfl e75)),oa (bI · rfl e62),oa (aJ · rfl wP rfl rfl xF),oc 3 (kd (gK · rfl rfl xF e77)),aAP⟩;intro j h1 h2;have h1:0<=j:=h1;have h2:j<=2:=h2;rcases(by omega:j=0\/j=1\/j=2) with rfl | rfl | rfl
    .exact kd (aG · rfl xM (bW e64))
    .exact kd (aG · rfl xM (bW e78))
    exact kd (aG · rfl xM (bW e79))
   have u:Has 37 [] a:=u.sb rfl;exact mI Try.results56 u ⟨w76,rfl,h,rfl⟩
  refine wp_seq<|aA<|?_;obtain⟨c43,e44,h⟩:=h;refine q u (bK u rfl xE wO e44) fun a u=>?_;obtain⟨v45,w46,e47,h⟩:=h;refine q u (dc1 u rfl Try.call41 (eA e47)) fun a u=>aC<|t_n<|?_;refine bT u rfl h (fun b48 h=>?_) (fun b48 h=>?_)
  .refine wp_seq<|aA<|?_;obtain⟨c49,e50,h⟩:=h;refine q u (bK u rfl xE wO e50) fun a u=>?_;obtain⟨v51,w52,e53,h⟩:=h;refine q u (dc1 u rfl Try.call55 (fV e53)) fun a u=>?_;obtain⟨w55,e56,h⟩:=h;obtain⟨e54,h⟩:=h;refine q u (dQ u rfl rfl wO e54 e56) fun a u=>aC<|t_n<|wp_seq<|aA<|qm u rfl fun a u=>q u (fT u rfl) fun a u=>aC<|t_n<|?_;refine bT u rfl h (fun b57 h=>?_) (fun b57 h=>?_)
   .refine wp_ret<|?_;have h:=unL h;refine t_r<|?_;exact oC Try.results56 u ⟨w55,rfl,h,rfl⟩
   refine wp_skip<|?_;exact hk41 w55 h _ (u.sb rfl)
  refine wp_skip<|?_;exact hk41 w46 h _ (u.sb rfl)
 obtain⟨w5,e6,h⟩:=h;obtain⟨p7,e8,h⟩:=h;obtain⟨v9,e10,h⟩:=h;obtain⟨v11,e12,h⟩:=h;obtain⟨h,hB⟩:=h;obtain⟨v13,w14,e15,h⟩:=h;obtain⟨p16,w17,e18,h⟩:=h;obtain⟨w20,e21,h⟩:=h;obtain⟨e19,h⟩:=h;have hA:=h;have h:=hB;obtain⟨p22,w23,e24,h⟩:=h;obtain⟨v25,w26,e27,h⟩:=h;obtain⟨w29,e30,h⟩:=h;obtain⟨e28,h⟩:=h;obtain⟨e31,h⟩:=h;obtain⟨e32,h⟩:=h;have hB:=h;have u:Has 37 [(0,(pV a0)),(1,(bV a1)),(2,(.func (.func 82) #[] #[(pV (some a2_0)),(pV (some a2_1))]))] a:=u.sb rfl;refine iC (n:=37) (i:=8) (j:=9) (Dp:=[8,9,10]) (ds1:=(eN (pV a0) 0 [] 0::bJ (pV (some p7)) 0 [0] 7 (pV a0)::bJ (pV (some (p7.add 0))) 0 [1,0] 8 (pV (some p7))::bJ (.string v9) 0 [2,1,0] 9 (pV (some (p7.add 0)))::eN (pV a0) 0 [] 0::bJ (pV (some p7)) 0 [4] 11 (pV a0)::bJ (pV (some (p7.add 1))) 0 [5,4] 12 (pV (some p7))::bJ (iV v11) 0 [6,5,4] 13 (pV (some (p7.add 1)))::aL (.agg (List.toArray v13)) true 0 0 (rn 0 8) [(10,(.string v9)),(14,(iV v11))]::aL (pV (some p16)) true 1 1 (rn 0 9) []::aL (undef) true 2 2 (rn 0 10) [(6,(pV (some p16))),(15,(.agg (List.toArray v13)))]::[])) (ds2:=(aL (pV a0) false 0 1 [] [(0,(pV a0))]::aL (pV (some p7)) false 0 1 [0] [(7,(pV a0))]::aL (pV (some (p7.add 0))) false 0 1 [1,0] [(8,(pV (some p7)))]::aL (.string v9) false 0 1 [2,1,0] [(9,(pV (some (p7.add 0))))]::aL (pV a0) false 0 1 [] [(0,(pV a0))]::aL (pV (some p7)) false 0 1 [4] [(11,(pV a0))]::aL (pV (some (p7.add 1))) false 0 1 [5,4] [(12,(pV (some p7)))]::aL (iV v11) false 0 1 [6,5,4] [(13,(pV (some (p7.add 1))))]::aL (.agg (List.toArray v25)) true 1 1 (rn 0 8++[9]) [(10,(.string v9)),(14,(iV v11))]::aL (pV (some p22)) true 0 0 [] []::aL (undef) true 2 2 (rn 0 10) [(6,(pV (some p22))),(15,(.agg (List.toArray v25)))]::[])) (W1:=(fun j=>match j with | 0=>w5 | 1=>w14 | 2=>w17 | 3=>w20 | _=>w20)) (W2:=(fun j=>match j with | 0=>w5 | 1=>w23 | 2=>w26 | 3=>w29 | _=>w29)) (m1:=3) (m2:=3) (by kernel_rfl) u (gY e6) (gY e6) rfl (by kernel_rfl) (by kernel_rfl) rfl rfl (by decide) (bS (by kernel_rfl)) (bS (by kernel_rfl)) ?_ ?_ (by kernel_rfl) (by kernel_rfl) (fun a u=>?_) (fun a u=>?_)
 .exact⟨oa (aI · rfl),oa (bI · rfl e8),oa (aJ · rfl wP rfl rfl wR),oc 0 (kd (aG · rfl wU (cH e10))),oa (aI · rfl),oa (bI · rfl e8),oa (aJ · rfl wP rfl rfl xB),oc 0 (kd (aG · rfl wX (aO e12))),oc 0 (kd (dc2 · rfl rfl Try.call78 (dF e15))),oc 1 (kd fun {a} u=>cM wW (by kernel_rfl) e18),oc 2 (kd (dQ · rfl rfl wO e19 e21)),aAP⟩
 .refine⟨oa (aI · rfl),oa (bI · rfl e8),oa (aJ · rfl wP rfl rfl wR),?_,oa (aI · rfl),oa (bI · rfl e8),oa (aJ · rfl wP rfl rfl xB),?_,oc 1 (kd (dc2 · rfl rfl Try.call78 (dF e27))),oc 0 (kd fun {a} u=>cM wW (by kernel_rfl) e24),oc 2 (kd (dQ · rfl rfl wO e28 e30)),aAP⟩
  .intro j h1 h2;have h1:0<=j:=h1;have h2:j<=1:=h2;rcases(by omega:j=0\/j=1) with rfl | rfl
   .exact kd (aG · rfl wU (cH e10))
   exact kd (aG · rfl wU (cH e31))
  intro j h1 h2;have h1:0<=j:=h1;have h2:j<=1:=h2;rcases(by omega:j=0\/j=1) with rfl | rfl
  .exact kd (aG · rfl wX (aO e12))
  exact kd (aG · rfl wX (aO e32))
 .have h:=hA;have u:Has 37 [(0,(pV a0)),(1,(bV a1)),(2,(.func (.func 82) #[] #[(pV (some a2_0)),(pV (some a2_1))])),(6,(pV (some p16)))] a:=u.sb rfl;exact hk4 (p16,w20) h _ (u.sb rfl)
 have h:=hB;have u:Has 37 [(0,(pV a0)),(1,(bV a1)),(2,(.func (.func 82) #[] #[(pV (some a2_0)),(pV (some a2_1))])),(6,(pV (some p22)))] a:=u.sb rfl;exact hk4 (p22,w29) h _ (u.sb rfl)
noncomputable def dM (a0:List Value) (a1:Int) (w:World):Option (Addr×Addr×World) :=
 aE (mk w 55 a0) fun p1 w2 =>
 aE (mk w2 2 ([(.int .i64 a1)])) fun p4 w5 =>
 some (p1,p4,w5)
theorem fE {a0 a1 w w' r0_0 r0_1} (h:dM a0 a1 w=some (r0_0,r0_1,w')):Calls Try.prog 63 #[(.agg (List.toArray a0)),(.int .i64 a1)] w fun e w''=>e=.returned (.func (.func 83) #[] #[(.pointer (some r0_0)),(.pointer (some r0_1))])/\w''=w':=by
 refine aD (n:=6) Try.func63 rfl Try.ntmps63 (by simp) fun a u=>?_;unfold dM at h;refine wp_seq<|aA<|?_;have⟨p1,w2,e3,h⟩:=bs2 h;refine q u (dI u rfl rfl e3) fun a u=>?_;have⟨p4,w5,e6,h⟩:=bs2 h;refine q u (dI u rfl rfl e6) fun a u=>qa u rfl fun a u=>aC<|t_n<|wp_seq<|aA<|q u (jL (vs:=[(pV (some p1)),(pV (some p4))]) u ⟨rfl,rfl,aAP⟩) fun a u=>qa u rfl fun a u=>aC<|t_n<|wp_ret<|?_;have y:=u;cases h;exact aY Try.results63 y rfl ⟨rfl,rfl⟩
noncomputable def eQ (a0:Option Addr) (a1:Addr) (a2:Addr) (w:World):Option (World) :=
 (a0).bind fun p1 =>
 (ldI .i64 w (p1.add 1)).bind fun v3 =>
 if (v3==1)=true then
 ((ldI .i64 w (a1.add 1)).bind fun v6 =>
 (stV w (p1.add 3) (.int .i64 v6)).bind fun w8 =>
 (ldI .i64 w8 a2).bind fun v10 =>
 if (v10==0)=true then
 ((ldI .i64 w8 (p1.add 3)).bind fun v13 =>
 (stV w8 (p1.add 3) (.int .i64 (IntKind.wrap .i64 (v13+1)))).bind fun w15 =>
 (ldI .i64 w15 (a1.add 1)).bind fun v17 =>
 if (v17==9223372036854775807)=true then
 ((stV w15 (p1.add 3) (.int .i64 1)).bind fun w20 =>
 (stV w20 (p1.add 4) (.int .i64 0)).bind fun w22 =>
 some w22)
 else
 (some w15))
 else
 (some w8))
 else
 ((ldS w (a1.add 2)).bind fun v24 =>
 (stV w (p1.add 5) (.string v24)).bind fun w26 =>
 (ldI .i64 w26 a2).bind fun v28 =>
 if (v28==0)=true then
 ((ldS w26 (p1.add 5)).bind fun v31 =>
 (sC v31 (ByteArray.mk #[0])).bind fun s33 =>
 (stV w26 (p1.add 5) (.string s33)).bind fun w35 =>
 some w35)
 else
 (some w26))
theorem kV {a0 a1 a2 w w'} (h:eQ a0 a1 a2 w=some w'):Calls Try.prog 83 #[(.pointer a0),(.pointer (some a1)),(.pointer (some a2))] w fun e w''=>e=.returned (.tuple #[])/\w''=w':=by
 refine aD (n:=46) Try.func83 rfl Try.ntmps83 (by simp) fun a u=>?_;unfold eQ at h;refine wp_seq<|wp_seq<|aA<|qm u rfl fun a u=>?_;have⟨p1,e2,h⟩:=bs1 h;refine q u (bI u rfl e2) fun a u=>q u (aJ u rfl wM rfl rfl xB) fun a u=>?_;have⟨v3,e4,h⟩:=bs1 h;refine q u (aG u rfl wX (aO e4)) fun a u=>q u (cC u rfl rfl) fun a u=>aC<|t_n<|?_;refine aF u rfl h (fun b5 h=>?_) (fun b5 h=>?_)
 .refine wp_seq<|aA<|qm u rfl fun a u=>q u (aJ u rfl xD rfl rfl wY) fun a u=>?_;have⟨v6,e7,h⟩:=bs1 h;refine q u (aG u rfl xZ (aO e7)) fun a u=>q u (bI u rfl e2) fun a u=>q u (aJ u rfl wM rfl rfl wY) fun a u=>?_;have⟨w8,e9,h⟩:=bs1 h;refine q u (gK u rfl rfl wY e9) fun a u=>aC<|t_n<|wp_seq<|wp_seq<|aA<|?_;have⟨v10,e11,h⟩:=bs1 h;refine q u (aG u rfl xZ (aO e11)) fun a u=>q u (cC u rfl rfl) fun a u=>aC<|t_n<|?_;refine aF u rfl h (fun b12 h=>?_) (fun b12 h=>?_)
  .refine wp_seq<|aA<|qm u rfl fun a u=>q u (bI u rfl e2) fun a u=>q u (aJ u rfl wM rfl rfl wY) fun a u=>?_;have⟨v13,e14,h⟩:=bs1 h;refine q u (aG u rfl xZ (aO e14)) fun a u=>q u (dY u rfl rfl) fun a u=>q u (bI u rfl e2) fun a u=>q u (aJ u rfl wM rfl rfl wY) fun a u=>?_;have⟨w15,e16,h⟩:=bs1 h;refine q u (gK u rfl rfl wY e16) fun a u=>aC<|t_n<|wp_seq<|aA<|q u (aJ u rfl xD rfl rfl wY) fun a u=>?_;have⟨v17,e18,h⟩:=bs1 h;refine q u (aG u rfl xZ (aO e18)) fun a u=>q u (cC u rfl rfl) fun a u=>aC<|t_n<|?_;refine aF u rfl h (fun b19 h=>?_) (fun b19 h=>?_)
   .refine aA<|qm u rfl fun a u=>qm u rfl fun a u=>q u (bI u rfl e2) fun a u=>q u (aJ u rfl wM rfl rfl wY) fun a u=>?_;have⟨w20,e21,h⟩:=bs1 h;refine q u (gK u rfl rfl wY e21) fun a u=>q u (bI u rfl e2) fun a u=>q u (aJ u rfl wM rfl rfl wY) fun a u=>?_;have⟨w22,e23,h⟩:=bs1 h;refine q u (gK u rfl rfl wY e23) fun a u=>aC<|t_n<|wp_ret<|t_r<|?_;have y:=u;cases h;exact oC Try.results83 y ⟨rfl,rfl⟩
   refine wp_skip<|t_n<|wp_ret<|t_r<|?_;have y:=u;cases h;exact oC Try.results83 y ⟨rfl,rfl⟩
  refine wp_skip<|t_n<|wp_ret<|t_r<|?_;have y:=u;cases h;exact oC Try.results83 y ⟨rfl,rfl⟩
 refine wp_skip<|t_n<|wp_seq<|aA<|qm u rfl fun a u=>q u (aJ u rfl xD rfl rfl wR) fun a u=>?_;have⟨v24,e25,h⟩:=bs1 h;refine q u (aG u rfl wU (cH e25)) fun a u=>q u (bI u rfl e2) fun a u=>q u (aJ u rfl wM rfl rfl wR) fun a u=>?_;have⟨w26,e27,h⟩:=bs1 h;refine q u (gK u rfl rfl wR e27) fun a u=>aC<|t_n<|wp_seq<|aA<|?_;have⟨v28,e29,h⟩:=bs1 h;refine q u (aG u rfl xZ (aO e29)) fun a u=>q u (cC u rfl rfl) fun a u=>aC<|t_n<|?_;refine aF u rfl h (fun b30 h=>?_) (fun b30 h=>?_)
 .refine aA<|qm u rfl fun a u=>q u (bI u rfl e2) fun a u=>q u (aJ u rfl wM rfl rfl wR) fun a u=>?_;have⟨v31,e32,h⟩:=bs1 h;refine q u (aG u rfl wU (cH e32)) fun a u=>?_;have⟨s33,e34,h⟩:=bs1 h;refine q u (qH u rfl rfl e34) fun a u=>q u (bI u rfl e2) fun a u=>q u (aJ u rfl wM rfl rfl wR) fun a u=>?_;have⟨w35,e36,h⟩:=bs1 h;refine q u (gK u rfl rfl wR e36) fun a u=>aC<|?_;have y:=u;cases h;exact mI Try.results83 y ⟨rfl,rfl⟩
 refine wp_skip<|?_;have y:=u;cases h;exact mI Try.results83 y ⟨rfl,rfl⟩
noncomputable def bZ (a0:Option Addr) (a1:Bool) (a2_0:Addr) (a2_1:Addr) (w:World):ND (World) :=
 cb2 (lb1 (dr w) fun w5 =>
 lb1 (a0) fun p7 =>
 lb1 (ldS w5 (p7.add 0)) fun v9 =>
 lb1 (ldI .i64 w5 (p7.add 1)) fun v11 =>
 oO (lb2 (cP v9 v11 w5) fun v13 w14 =>
 lb2 (mk w14 40 ([.string ByteArray.empty,.int .i64 0,.bool false,.int .i64 0,.int .i64 0,.string ByteArray.empty,.string ByteArray.empty,.bool false,.int .u8 0,.bool false,.slice none 0 0,.slice none 0 0])) fun p16 w17 =>
 lb1 (stA w17 p16 0 v13) fun w20 =>
 nck ((v13).length=12) <|
 bR (p16,w20)) (lb2 (mk w5 40 ([.string ByteArray.empty,.int .i64 0,.bool false,.int .i64 0,.int .i64 0,.string ByteArray.empty,.string ByteArray.empty,.bool false,.int .u8 0,.bool false,.slice none 0 0,.slice none 0 0])) fun p22 w23 =>
 lb2 (cP v9 v11 w23) fun v25 w26 =>
 lb1 (stA w26 p22 0 v25) fun w29 =>
 nck ((v25).length=12) <|
 nck (ldS w23 (p7.add 0)=some v9) <|
 nck (ldI .i64 w23 (p7.add 1)=some v11) <|
 bR (p22,w29))) fun v1 w2 =>
 lb1 (stV w2 (v1.add 2) (.bool a1)) fun w33 =>
 lb1 (eQ (some v1) a2_0 a2_1 w33) fun w35 =>
 cbX (lb1 (ldA 12 w35 v1 0) fun c43 =>
 lb2 (cO c43 w35) fun v45 w46 =>
 if v45=true then
 (lb1 (ldA 12 w46 v1 0) fun c49 =>
 lb2 (fC c49 w46) fun v51 w52 =>
 lb1 (stA w52 v1 0 v51) fun w55 =>
 nck ((v51).length=12) <|
 if (!a1)=true then
 (cb1 (bR w55) fun g42=>bR (.inl g42))
 else
 (bR (.inr w55)))
 else
 (bR (.inr w46))) fun (i:World)=>u1 i fun w37 =>
 lb1 (dr w37) fun w59 =>
 lb1 (a0) fun p61 =>
 lb1 (ldL w59 (p61.add 2)) fun v63 =>
 lb1 (ldA 12 w59 v1 0) fun c65 =>
 lb2 (bsl w59 40 12 [c65]) fun s67 w68 =>
 lb2 (bsl w68 22 1 [[(Sl.v s67)]]) fun s70 w71 =>
 lb2 (apS Try.prog 47 v63 s70 w71) fun s73 w74 =>
 lb1 (stV w74 (p61.add 2) (Sl.v s73)) fun w76 =>
 nck (ldL w68 (p61.add 2)=some v63) <|
 nck (ldL w71 (p61.add 2)=some v63) <|
 bR w76
theorem cV {a0 a1 a2_0 a2_1 w Q} (h:(bZ a0 a1 a2_0 a2_1 w).t Q):Calls Try.prog 56 #[(.pointer a0),(.bool a1),(.func (.func 83) #[] #[(.pointer (some a2_0)),(.pointer (some a2_1))])] w fun e w''=>∃ i,e=.returned (.tuple #[])/\Q i/\w''=i:=by
 refine aD (n:=37) Try.func56 rfl Try.ntmps56 (by simp) fun a u=>?_;unfold bZ at h;refine wp_seq<|?_;refine fL (n:=37) (ι:=Addr×World) (Lf:=fun i=>[(6,(pV (some i.1))),(0,(pV a0)),(1,(bV a1)),(2,(.func (.func 83) #[] #[(pV (some a2_0)),(pV (some a2_1))]))]) (wf:=fun i=>i.2) (un2 h) (fun i h a u=>?_) (fun h hk4=>?_)
 .obtain⟨v1,w2⟩:=i;have u:Has 37 [(6,(pV (some v1))),(0,(pV a0)),(1,(bV a1)),(2,(.func (.func 83) #[] #[(pV (some a2_0)),(pV (some a2_1))]))] a:=u;refine t_n<|wp_seq<|aA<|qm u rfl fun a u=>q u (aJ u rfl wM rfl rfl xG) fun a u=>?_;obtain⟨w33,e34,h⟩:=h;refine q u (gK u rfl rfl xG e34) fun a u=>aC<|t_n<|wp_seq<|aA<|qm u rfl fun a u=>?_;obtain⟨w35,e36,h⟩:=h;refine q u (dV (xs:=[_]) (vs:=[(pV (some v1))]) (cv:=[(pV (some a2_0)),(pV (some a2_1))]) u rfl ⟨rfl,aAP⟩ Try.call83 (kV e36)) fun a u=>aC<|t_n<|?_;refine iT (n:=37) (ι:=World) (Lf:=fun i=>[(0,(pV a0)),(6,(pV (some v1)))]) (wf:=fun i=>i) (unX h) (fun i h a u=>?_) (fun h hk41=>?_)
  .obtain⟨w37,rfl⟩:∃ x,x=i:=⟨i,rfl⟩
   try dsimp only[Sum.elim_inl,Sum.elim_inr,u1,u2,u3,u4,u5,u6] at h
   have u:Has 37 [(0,(pV a0)),(6,(pV (some v1)))] a:=u;obtain⟨w59,e60,h⟩:=h;obtain⟨p61,e62,h⟩:=h;obtain⟨v63,e64,h⟩:=h;obtain⟨c65,e66,h⟩:=h;obtain⟨s67,w68,e69,h⟩:=h;obtain⟨s70,w71,e72,h⟩:=h;obtain⟨s73,w74,e75,h⟩:=h;obtain⟨w76,e77,h⟩:=h;obtain⟨e78,h⟩:=h;obtain⟨e79,h⟩:=h;have u:Has 37 [(0,(pV a0)),(6,(pV (some v1)))] a:=u.sb rfl;refine cL (n:=37) (ds:=(aL (pV a0) false 0 3 [] [(0,(pV a0))]::aL (pV a0) false 0 2 [] [(0,(pV a0))]::aL (pV (some p61)) false 0 2 [1] [(27,(pV a0))]::aL (pV (some (p61.add 2))) false 0 2 [1,2] [(28,(pV (some p61)))]::aL (Sl.v v63) false 0 2 [1,2,3] [(29,(pV (some (p61.add 2))))]::bJ (.agg (List.toArray c65)) 0 [] 6 (pV (some v1))::aL (Sl.v s67) true 0 0 [5] [(31,(.agg (List.toArray c65)))]::aL (Sl.v s70) true 1 1 [5,6] [(32,(Sl.v s67))]::aL (Sl.v s73) true 2 2 (rn 1 7) [(30,(Sl.v v63)),(33,(Sl.v s70))]::bJ (pV (some p61)) 3 (rn 0 9) 26 (pV a0)::bJ (pV (some (p61.add 2))) 3 (rn 0 10) 35 (pV (some p61))::aL (undef) true 3 3 (rn 0 11) [(36,(pV (some (p61.add 2)))),(34,(Sl.v s73))]::[])) (W:=(fun j=>match j with | 0=>w59 | 1=>w68 | 2=>w71 | 3=>w74 | 4=>w76 | _=>w76)) (by kernel_rfl) u (gY e60) (by kernel_rfl) ?_ (bS (by kernel_rfl)) (by kernel_rfl) (m:=4) (by kernel_rfl) (fun a u=>?_)
   .refine⟨oa (aI · rfl),oa (aI · rfl),oa (bI · rfl e62),oa (aJ · rfl wP rfl rfl xF),?_,oc 0 (kd (bK · rfl xE wO e66)),oc 0 (kd (gU (vs:=[(0,(.agg (List.toArray c65)))]) (ps:=[c65]) · ⟨rfl,rfl,aAP⟩ ⟨rfl,rfl,aAP⟩ rfl wS wO wW (by decide) e69)),oc 1 (kd (gU (vs:=[(0,(Sl.v s67))]) (ps:=[[(Sl.v s67)]]) · ⟨rfl,rfl,aAP⟩ ⟨rfl,rfl,aAP⟩ rfl wT xL yD (by decide) e72)),oc 2 (kd (kJ · rfl rfl e75)),oa (bI · rfl e62),oa (aJ · rfl wP rfl rfl xF),oc 3 (kd (gK · rfl rfl xF e77)),aAP⟩;intro j h1 h2;have h1:0<=j:=h1;have h2:j<=2:=h2;rcases(by omega:j=0\/j=1\/j=2) with rfl | rfl | rfl
    .exact kd (aG · rfl xM (bW e64))
    .exact kd (aG · rfl xM (bW e78))
    exact kd (aG · rfl xM (bW e79))
   have u:Has 37 [] a:=u.sb rfl;exact mI Try.results56 u ⟨w76,rfl,h,rfl⟩
  refine wp_seq<|aA<|?_;obtain⟨c43,e44,h⟩:=h;refine q u (bK u rfl xE wO e44) fun a u=>?_;obtain⟨v45,w46,e47,h⟩:=h;refine q u (dc1 u rfl Try.call41 (eA e47)) fun a u=>aC<|t_n<|?_;refine bT u rfl h (fun b48 h=>?_) (fun b48 h=>?_)
  .refine wp_seq<|aA<|?_;obtain⟨c49,e50,h⟩:=h;refine q u (bK u rfl xE wO e50) fun a u=>?_;obtain⟨v51,w52,e53,h⟩:=h;refine q u (dc1 u rfl Try.call55 (fV e53)) fun a u=>?_;obtain⟨w55,e56,h⟩:=h;obtain⟨e54,h⟩:=h;refine q u (dQ u rfl rfl wO e54 e56) fun a u=>aC<|t_n<|wp_seq<|aA<|qm u rfl fun a u=>q u (fT u rfl) fun a u=>aC<|t_n<|?_;refine bT u rfl h (fun b57 h=>?_) (fun b57 h=>?_)
   .refine wp_ret<|?_;have h:=unL h;refine t_r<|?_;exact oC Try.results56 u ⟨w55,rfl,h,rfl⟩
   refine wp_skip<|?_;exact hk41 w55 h _ (u.sb rfl)
  refine wp_skip<|?_;exact hk41 w46 h _ (u.sb rfl)
 obtain⟨w5,e6,h⟩:=h;obtain⟨p7,e8,h⟩:=h;obtain⟨v9,e10,h⟩:=h;obtain⟨v11,e12,h⟩:=h;obtain⟨h,hB⟩:=h;obtain⟨v13,w14,e15,h⟩:=h;obtain⟨p16,w17,e18,h⟩:=h;obtain⟨w20,e21,h⟩:=h;obtain⟨e19,h⟩:=h;have hA:=h;have h:=hB;obtain⟨p22,w23,e24,h⟩:=h;obtain⟨v25,w26,e27,h⟩:=h;obtain⟨w29,e30,h⟩:=h;obtain⟨e28,h⟩:=h;obtain⟨e31,h⟩:=h;obtain⟨e32,h⟩:=h;have hB:=h;have u:Has 37 [(0,(pV a0)),(1,(bV a1)),(2,(.func (.func 83) #[] #[(pV (some a2_0)),(pV (some a2_1))]))] a:=u.sb rfl;refine iC (n:=37) (i:=8) (j:=9) (Dp:=[8,9,10]) (ds1:=(eN (pV a0) 0 [] 0::bJ (pV (some p7)) 0 [0] 7 (pV a0)::bJ (pV (some (p7.add 0))) 0 [1,0] 8 (pV (some p7))::bJ (.string v9) 0 [2,1,0] 9 (pV (some (p7.add 0)))::eN (pV a0) 0 [] 0::bJ (pV (some p7)) 0 [4] 11 (pV a0)::bJ (pV (some (p7.add 1))) 0 [5,4] 12 (pV (some p7))::bJ (iV v11) 0 [6,5,4] 13 (pV (some (p7.add 1)))::aL (.agg (List.toArray v13)) true 0 0 (rn 0 8) [(10,(.string v9)),(14,(iV v11))]::aL (pV (some p16)) true 1 1 (rn 0 9) []::aL (undef) true 2 2 (rn 0 10) [(6,(pV (some p16))),(15,(.agg (List.toArray v13)))]::[])) (ds2:=(aL (pV a0) false 0 1 [] [(0,(pV a0))]::aL (pV (some p7)) false 0 1 [0] [(7,(pV a0))]::aL (pV (some (p7.add 0))) false 0 1 [1,0] [(8,(pV (some p7)))]::aL (.string v9) false 0 1 [2,1,0] [(9,(pV (some (p7.add 0))))]::aL (pV a0) false 0 1 [] [(0,(pV a0))]::aL (pV (some p7)) false 0 1 [4] [(11,(pV a0))]::aL (pV (some (p7.add 1))) false 0 1 [5,4] [(12,(pV (some p7)))]::aL (iV v11) false 0 1 [6,5,4] [(13,(pV (some (p7.add 1))))]::aL (.agg (List.toArray v25)) true 1 1 (rn 0 8++[9]) [(10,(.string v9)),(14,(iV v11))]::aL (pV (some p22)) true 0 0 [] []::aL (undef) true 2 2 (rn 0 10) [(6,(pV (some p22))),(15,(.agg (List.toArray v25)))]::[])) (W1:=(fun j=>match j with | 0=>w5 | 1=>w14 | 2=>w17 | 3=>w20 | _=>w20)) (W2:=(fun j=>match j with | 0=>w5 | 1=>w23 | 2=>w26 | 3=>w29 | _=>w29)) (m1:=3) (m2:=3) (by kernel_rfl) u (gY e6) (gY e6) rfl (by kernel_rfl) (by kernel_rfl) rfl rfl (by decide) (bS (by kernel_rfl)) (bS (by kernel_rfl)) ?_ ?_ (by kernel_rfl) (by kernel_rfl) (fun a u=>?_) (fun a u=>?_)
 .exact⟨oa (aI · rfl),oa (bI · rfl e8),oa (aJ · rfl wP rfl rfl wR),oc 0 (kd (aG · rfl wU (cH e10))),oa (aI · rfl),oa (bI · rfl e8),oa (aJ · rfl wP rfl rfl xB),oc 0 (kd (aG · rfl wX (aO e12))),oc 0 (kd (dc2 · rfl rfl Try.call78 (dF e15))),oc 1 (kd fun {a} u=>cM wW (by kernel_rfl) e18),oc 2 (kd (dQ · rfl rfl wO e19 e21)),aAP⟩
 .refine⟨oa (aI · rfl),oa (bI · rfl e8),oa (aJ · rfl wP rfl rfl wR),?_,oa (aI · rfl),oa (bI · rfl e8),oa (aJ · rfl wP rfl rfl xB),?_,oc 1 (kd (dc2 · rfl rfl Try.call78 (dF e27))),oc 0 (kd fun {a} u=>cM wW (by kernel_rfl) e24),oc 2 (kd (dQ · rfl rfl wO e28 e30)),aAP⟩
  .intro j h1 h2;have h1:0<=j:=h1;have h2:j<=1:=h2;rcases(by omega:j=0\/j=1) with rfl | rfl
   .exact kd (aG · rfl wU (cH e10))
   exact kd (aG · rfl wU (cH e31))
  intro j h1 h2;have h1:0<=j:=h1;have h2:j<=1:=h2;rcases(by omega:j=0\/j=1) with rfl | rfl
  .exact kd (aG · rfl wX (aO e12))
  exact kd (aG · rfl wX (aO e32))
 .have h:=hA;have u:Has 37 [(0,(pV a0)),(1,(bV a1)),(2,(.func (.func 83) #[] #[(pV (some a2_0)),(pV (some a2_1))])),(6,(pV (some p16)))] a:=u.sb rfl;exact hk4 (p16,w20) h _ (u.sb rfl)
 have h:=hB;have u:Has 37 [(0,(pV a0)),(1,(bV a1)),(2,(.func (.func 83) #[] #[(pV (some a2_0)),(pV (some a2_1))])),(6,(pV (some p22)))] a:=u.sb rfl;exact hk4 (p22,w29) h _ (u.sb rfl)
noncomputable def hH (a0:List Value) (a1:Int) (w:World):ND ((List Value)×World) :=
 lb2 (mk w 57 a0) fun p1 w2 =>
 lb2 (mk w2 70 ([.slice none 0 0,.slice none 0 0])) fun p4 w5 =>
 cb3 (lb1 (dr w5) fun w12 =>
 lb1 (ldS w12 (p1.add 1)) fun v14 =>
 lb1 (ldS w12 (p1.add 1)) fun v16 =>
 oO (lb2 (mk w12 83 ([.string v14,.int .i64 a1,.slice none 0 0])) fun p18 w19 =>
 lb2 (mk w19 83 ([.string v16,.int .i64 a1,.slice none 0 0])) fun p21 w22 =>
 nck (ldS w19 (p1.add 1)=some v16) <|
 bR (p18,p21,w22)) (lb2 (mk w12 83 ([.string v16,.int .i64 a1,.slice none 0 0])) fun p25 w26 =>
 lb2 (mk w26 83 ([.string v14,.int .i64 a1,.slice none 0 0])) fun p28 w29 =>
 nck (ldS w26 (p1.add 1)=some v14) <|
 bR (p28,p25,w29))) fun v7 v8 w9 =>
 lb1 (ldA 5 w9 (p1.add 3) 0) fun c32 =>
 lb2 (mk w9 55 ([.int .i64 0,.int .i64 0,.string ByteArray.empty,.bool false,.complex .f64 0 0])) fun p34 w35 =>
 lb1 (stA w35 p34 0 c32) fun w37 =>
 cb1 (lb1 (ldI .i64 w37 (p1.add 2)) fun v42 =>
 if (v42==1)=true then
 (cb1 (gB (some v7) false w37) fun w45 =>
 cb1 (gD (some v8) true w45) fun w47 =>
 bR w47)
 else
 (if (a1==3)=true then
 (cb2 (lb1 (ldI .i64 w37 (p1.add 2)) fun v54 =>
 if (v54==2)=true then
 (bR (true,w37))
 else
 (lb1 (ldB w37 (p34.add 3)) fun v57 =>
 lb1 (ldI .i64 w37 (p1.add 2)) fun v59 =>
 bR ((v57==(v59==3)),w37))) fun v50 w51 =>
 lU)
 else
 (if (a1==4)=true then
 (cb1 (lb1 (ldI .i64 w37 (p1.add 2)) fun v65 =>
 if (v65==4)=true then
 (bR w37)
 else
 (bR w37)) fun w62 =>
 lU)
 else
 (lb1 (ldI .i64 w37 (p1.add 2)) fun v68 =>
 if (v68==3)=true then
 lU
 else
 (lb1 (ldI .i64 w37 (p1.add 2)) fun v71 =>
 if (v71==4)=true then
 (lb1 (ldA 5 w37 p34 0) fun c74 =>
 lb3 (dP c74 0 w37) fun v76 v77 w78 =>
 cb1 (cA (some v7) false v76 v77 w78) fun w80 =>
 lb1 (ldA 5 w80 p34 0) fun c82 =>
 lb3 (dM c82 0 w80) fun v84 v85 w86 =>
 cb1 (bZ (some v7) false v84 v85 w86) fun w88 =>
 lU)
 else
 (lb1 (ldI .i64 w37 (p1.add 2)) fun v90 =>
 if (v90==5)=true then
 (lb1 (ldA 5 w37 p34 0) fun c93 =>
 lb3 (dP c93 0 w37) fun v95 v96 w97 =>
 cb1 (cA (some v7) false v95 v96 w97) fun w99 =>
 lb1 (ldA 5 w99 p34 0) fun c101 =>
 lb3 (dM c101 1 w99) fun v103 v104 w105 =>
 cb1 (bZ (some v8) true v103 v104 w105) fun w107 =>
 bR w107)
 else
 (lb1 (ldI .i64 w37 (p1.add 2)) fun v109 =>
 if (v109==6)=true then
 (lb1 (ldA 5 w37 p34 0) fun c112 =>
 lb3 (dP c112 1 w37) fun v114 v115 w116 =>
 cb1 (cA (some v7) false v114 v115 w116) fun w118 =>
 lb1 (ldA 5 w118 p34 0) fun c120 =>
 lb3 (dM c120 0 w118) fun v122 v123 w124 =>
 cb1 (bZ (some v8) true v122 v123 w124) fun w126 =>
 bR w126)
 else
 (lb1 (ldI .i64 w37 (p1.add 2)) fun v128 =>
 if (v128==7)=true then
 (lb1 (ldA 5 w37 p34 0) fun c131 =>
 lb3 (dM c131 0 w37) fun v133 v134 w135 =>
 cb1 (bZ (some v7) false v133 v134 w135) fun w137 =>
 lb1 (ldA 5 w137 p34 0) fun c139 =>
 lb3 (dP c139 1 w137) fun v141 v142 w143 =>
 cb1 (cA (some v8) true v141 v142 w143) fun w145 =>
 bR w145)
 else
 (lb1 (ldI .i64 w37 (p1.add 2)) fun v147 =>
 if (v147==8)=true then
 (lb1 (ldA 5 w37 p34 0) fun c150 =>
 lb3 (dM c150 1 w37) fun v152 v153 w154 =>
 cb1 (bZ (some v7) false v152 v153 w154) fun w156 =>
 lb1 (ldA 5 w156 p34 0) fun c158 =>
 lb3 (dP c158 0 w156) fun v160 v161 w162 =>
 cb1 (cA (some v8) true v160 v161 w162) fun w164 =>
 bR w164)
 else
 lU))))))))) fun w39 =>
 lb1 (dr w39) fun w166 =>
 lb1 (ldL w166 (v7.add 2)) fun v168 =>
 lb1 (ldL w166 (v8.add 2)) fun v170 =>
 lb1 (stA w166 p4 0 ([Sl.v v168,Sl.v v170])) fun w172 =>
 lb1 (ldA 2 w172 p4 0) fun v174 =>
 bR (v174,w172)
theorem mN {a0 a1 w Q} (h:(hH a0 a1 w).t Q):Calls Try.prog 35 #[(.agg (List.toArray a0)),(.int .i64 a1)] w fun e w''=>∃ i,e=.returned (.agg (List.toArray i.1))/\Q i/\w''=i.2:=by
 refine aD (n:=182) Try.func35 rfl Try.ntmps35 (by simp) fun a u=>?_;unfold hH at h;refine wp_seq<|aA<|?_;obtain⟨p1,w2,e3,h⟩:=h;refine q u (dI u rfl rfl e3) fun a u=>?_;obtain⟨p4,w5,e6,h⟩:=h;refine q u (cM yA (by kernel_rfl) e6) fun a u=>aC<|t_n<|wp_seq<|?_;refine fL (n:=182) (ι:=Addr×Addr×World) (Lf:=fun i=>[(5,(pV (some i.1))),(6,(pV (some i.2.1))),(1,(iV a1)),(2,(pV (some p1))),(4,(pV (some p4)))]) (wf:=fun i=>i.2.2) (un3 h) (fun i h a u=>?_) (fun h hk11=>?_)
 .obtain⟨v7,v8,w9⟩:=i;have u:Has 182 [(5,(pV (some v7))),(6,(pV (some v8))),(1,(iV a1)),(2,(pV (some p1))),(4,(pV (some p4)))] a:=u;refine t_n<|wp_seq<|aA<|q u (aJ u rfl wN rfl rfl xK) fun a u=>?_;obtain⟨c32,e33,h⟩:=h;refine q u (bK u rfl yB xK e33) fun a u=>?_;obtain⟨p34,w35,e36,h⟩:=h;refine q u (cM Try.zeroValue55 (by kernel_rfl) e36) fun a u=>?_;obtain⟨w37,e38,h⟩:=h;refine q u (dQ u rfl rfl xK ((hT e33).1) e38) fun a u=>aC<|t_n<|wp_seq<|aA<|qa u rfl fun a u=>aC<|t_n<|wp_seq<|aA<|qa u rfl fun a u=>aC<|t_n<|?_;refine kX (n:=182) (ι:=World) (Lf:=fun i=>[(4,(pV (some p4))),(5,(pV (some v7))),(6,(pV (some v8)))]) (wf:=fun i=>i) (un1 h) (fun i h a u=>?_) (fun h hk41=>?_)
  .obtain⟨w39,rfl⟩:∃ x,x=i:=⟨i,rfl⟩;have u:Has 182 [(4,(pV (some p4))),(5,(pV (some v7))),(6,(pV (some v8)))] a:=u;refine wp_seq<|?_;obtain⟨w166,e167,h⟩:=h;obtain⟨v168,e169,h⟩:=h;obtain⟨v170,e171,h⟩:=h;obtain⟨w172,e173,h⟩:=h;have u:Has 182 [(4,(pV (some p4))),(5,(pV (some v7))),(6,(pV (some v8)))] a:=u.sb rfl;refine cL (n:=182) (ds:=(eN (pV (some v7)) 0 [] 5::eN (pV (some v7)) 0 [0] 173::bJ (pV (some (v7.add 2))) 0 [0,1] 174 (pV (some v7))::bJ (Sl.v v168) 0 [0,1,2] 175 (pV (some (v7.add 2)))::eN (pV (some v8)) 0 [] 6::eN (pV (some v8)) 0 [4] 177::bJ (pV (some (v8.add 2))) 0 [4,5] 178 (pV (some v8))::bJ (Sl.v v170) 0 [4,5,6] 179 (pV (some (v8.add 2)))::gL (.agg (List.toArray ([Sl.v v168,Sl.v v170]))) 0 (rn 0 8) [(176,(Sl.v v168)),(180,(Sl.v v170))]::aL (undef) true 0 0 (rn 0 9) [(4,(pV (some p4))),(181,(.agg (List.toArray ([Sl.v v168,Sl.v v170]))))]::[])) (W:=(fun j=>match j with | 0=>w166 | 1=>w172 | _=>w172)) (by kernel_rfl) u (gY e167) (by kernel_rfl) ?_ (bS (by kernel_rfl)) (by kernel_rfl) (m:=1) (by kernel_rfl) (fun a u=>?_)
   .exact⟨oa (aI · rfl),oa (qU · rfl),oa (aJ · rfl wP rfl rfl xF),oc 0 (kd (aG · rfl xM (bW e169))),oa (aI · rfl),oa (qU · rfl),oa (aJ · rfl wP rfl rfl xF),oc 0 (kd (aG · rfl xM (bW e171))),oa (fN (vs:=[(0,(Sl.v v168)),(1,(Sl.v v170))]) (pl:=#[(0,1),(1,1)]) (cs:=([Sl.v v168,Sl.v v170])) · ⟨rfl,rfl,rfl,rfl,aAP⟩ yA xP (by intro w;kernel_rfl) (by kernel_rfl)),oc 0 (kd (dQ · rfl rfl xW rfl e173)),aAP⟩
   have u:Has 182 [(4,(pV (some p4)))] a:=u.sb rfl;refine t_n<|wp_ret<|?_;obtain⟨v174,e175,h⟩:=h;exact uT (vs:=[_]) Try.results35 u ⟨⟨_,rfl,uW Try.isAgg70 xW e175⟩,aAP⟩ ⟨(v174,w172),rfl,h,rfl⟩
  refine wp_block<|wp_seq<|aA<|q u (aJ u rfl wN rfl rfl xJ) fun a u=>?_;obtain⟨v42,e43,h⟩:=h;refine q u (aG u rfl xR (aO e43)) fun a u=>q u (cC u rfl rfl) fun a u=>qa u rfl fun a u=>aC<|t_n<|?_;refine bT u rfl h (fun b44 h=>?_) (fun b44 h=>?_)
  .refine wp_seq<|aA<|qm u rfl fun a u=>qm u rfl fun a u=>?_;refine dL (ι:=World) (pk:=fun i=>(.tuple #[])) (wf:=fun i=>i) (xs:=[_,_,_]) (vs:=[(pV (some v7)),(bV false),(.func (.func 53) #[] #[])]) u ⟨rfl,rfl,rfl,aAP⟩ Try.call56 (jG (un1 h)) (fun i h a u=>?_);obtain⟨w45,rfl⟩:∃ x,x=i:=⟨i,rfl⟩;refine aC<|t_n<|aA<|qm u rfl fun a u=>qm u rfl fun a u=>?_;refine dL (ι:=World) (pk:=fun i=>(.tuple #[])) (wf:=fun i=>i) (xs:=[_,_,_]) (vs:=[(pV (some v8)),(bV true),(.func (.func 54) #[] #[])]) u ⟨rfl,rfl,rfl,aAP⟩ Try.call56 (jE (un1 h)) (fun i h a u=>?_);obtain⟨w47,rfl⟩:∃ x,x=i:=⟨i,rfl⟩;refine aC<|b_n<|?_;exact hk41 w47 h _ (u.sb rfl)
  refine wp_seq<|aA<|qm u rfl fun a u=>q u (cC u rfl rfl) fun a u=>qa u rfl fun a u=>aC<|t_n<|?_;refine bT u rfl h (fun b49 h=>?_) (fun b49 h=>?_)
  .refine wp_seq<|?_;refine fL (n:=182) (ι:=Bool×World) (Lf:=fun i=>[(10,(bV i.1)),(4,(pV (some p4))),(5,(pV (some v7))),(6,(pV (some v8)))]) (wf:=fun i=>i.2) (un2 h) (fun i h a u=>?_) (fun h hk53=>?_)
   .obtain⟨v50,w51⟩:=i;have u:Has 182 [(10,(bV v50)),(4,(pV (some p4))),(5,(pV (some v7))),(6,(pV (some v8)))] a:=u;refine t_n<|wp_seq<|?_;exact(show False from h).elim
   refine aA<|q u (aJ u rfl wN rfl rfl xJ) fun a u=>?_;obtain⟨v54,e55,h⟩:=h;refine q u (aG u rfl xR (aO e55)) fun a u=>q u (cC u rfl rfl) fun a u=>qm u rfl fun a u=>?_;refine jI h (fun b56 h=>?_) (fun b56 h=>?_)
   .refine qn u 60 (tn b56) fun a u=>qn u 60 (tn b56) fun a u=>qn u 60 (tn b56) fun a u=>qn u 60 (tn b56) fun a u=>qn u 60 (tn b56) fun a u=>qn u 60 (tn b56) fun a u=>q u (aK u rfl b56 rfl) fun a u=>qa u rfl fun a u=>aC<|?_;exact hk53 (true,w37) h _ (u.sb rfl)
   refine qg u 60 (nt b56) (aJ u rfl xD rfl rfl xG) fun a u=>?_;obtain⟨v57,e58,h⟩:=h;refine qg u 60 (nt b56) (aG u rfl yE (kO e58)) fun a u=>qg u 60 (nt b56) (aJ u rfl wN rfl rfl xJ) fun a u=>?_;obtain⟨v59,e60,h⟩:=h;refine qg u 60 (nt b56) (aG u rfl xR (aO e60)) fun a u=>qg u 60 (nt b56) (cC u rfl rfl) fun a u=>qg u 60 (nt b56) (vJ u rfl rfl Try.runUnderlying4) fun a u=>q u (aM u rfl b56 rfl) fun a u=>qa u rfl fun a u=>aC<|?_;exact hk53 ((v57==(v59==3)),w37) h _ (u.sb rfl)
  refine wp_seq<|aA<|qm u rfl fun a u=>q u (cC u rfl rfl) fun a u=>qa u rfl fun a u=>aC<|t_n<|?_;refine bT u rfl h (fun b61 h=>?_) (fun b61 h=>?_)
  .refine wp_seq<|aA<|q u (jL (vs:=[(pV (some p1))]) u ⟨rfl,aAP⟩) fun a u=>qa u rfl fun a u=>aC<|t_n<|wp_seq<|aA<|q u (jL (vs:=[(pV (some p1))]) u ⟨rfl,aAP⟩) fun a u=>qa u rfl fun a u=>aC<|t_n<|?_;refine kX (n:=182) (ι:=World) (Lf:=fun i=>[(4,(pV (some p4))),(5,(pV (some v7))),(6,(pV (some v8)))]) (wf:=fun i=>i) (un1 h) (fun i h a u=>?_) (fun h hk64=>?_)
   .obtain⟨w62,rfl⟩:∃ x,x=i:=⟨i,rfl⟩;have u:Has 182 [(4,(pV (some p4))),(5,(pV (some v7))),(6,(pV (some v8)))] a:=u;refine wp_seq<|?_;exact(show False from h).elim
   refine wp_seq<|aA<|q u (aJ u rfl wN rfl rfl xJ) fun a u=>?_;obtain⟨v65,e66,h⟩:=h;refine q u (aG u rfl xR (aO e66)) fun a u=>q u (cC u rfl rfl) fun a u=>aC<|t_n<|?_;refine bT u rfl h (fun b67 h=>?_) (fun b67 h=>?_)
   .refine aA<|qm u rfl fun a u=>qm u rfl fun a u=>qa u rfl fun a u=>qa u rfl fun a u=>aC<|?_;exact hk64 w37 h _ (u.sb rfl)
   refine wp_skip<|?_;exact hk64 w37 h _ (u.sb rfl)
  refine wp_seq<|aA<|q u (aJ u rfl wN rfl rfl xJ) fun a u=>?_;obtain⟨v68,e69,h⟩:=h;refine q u (aG u rfl xR (aO e69)) fun a u=>q u (cC u rfl rfl) fun a u=>qa u rfl fun a u=>aC<|t_n<|?_;refine bT u rfl h (fun b70 h=>?_) (fun b70 h=>?_)
  .refine wp_seq<|?_;exact(show False from h).elim
  refine wp_seq<|aA<|q u (aJ u rfl wN rfl rfl xJ) fun a u=>?_;obtain⟨v71,e72,h⟩:=h;refine q u (aG u rfl xR (aO e72)) fun a u=>q u (cC u rfl rfl) fun a u=>qa u rfl fun a u=>aC<|t_n<|?_;refine bT u rfl h (fun b73 h=>?_) (fun b73 h=>?_)
  .refine wp_seq<|aA<|qm u rfl fun a u=>?_;obtain⟨c74,e75,h⟩:=h;refine q u (bK u rfl yB xK e75) fun a u=>?_;obtain⟨v76,v77,w78,e79,h⟩:=h;refine q u (dc2 u rfl rfl Try.call62 (fG e79)) fun a u=>?_;refine dL (ι:=World) (pk:=fun i=>(.tuple #[])) (wf:=fun i=>i) (xs:=[_,_,_]) (vs:=[(pV (some v7)),(bV false),(.func (.func 82) #[] #[(pV (some v76)),(pV (some v77))])]) u ⟨rfl,rfl,rfl,aAP⟩ Try.call56 (cU (un1 h)) (fun i h a u=>?_);obtain⟨w80,rfl⟩:∃ x,x=i:=⟨i,rfl⟩;refine aC<|t_n<|wp_seq<|aA<|qm u rfl fun a u=>?_;obtain⟨c82,e83,h⟩:=h;refine q u (bK u rfl yB xK e83) fun a u=>?_;obtain⟨v84,v85,w86,e87,h⟩:=h;refine q u (dc2 u rfl rfl Try.call63 (fE e87)) fun a u=>?_;refine dL (ι:=World) (pk:=fun i=>(.tuple #[])) (wf:=fun i=>i) (xs:=[_,_,_]) (vs:=[(pV (some v7)),(bV false),(.func (.func 83) #[] #[(pV (some v84)),(pV (some v85))])]) u ⟨rfl,rfl,rfl,aAP⟩ Try.call56 (cV (un1 h)) (fun i h a u=>?_);obtain⟨w88,rfl⟩:∃ x,x=i:=⟨i,rfl⟩;refine aC<|t_n<|?_;exact(show False from h).elim
  refine wp_seq<|aA<|q u (aJ u rfl wN rfl rfl xJ) fun a u=>?_;obtain⟨v90,e91,h⟩:=h;refine q u (aG u rfl xR (aO e91)) fun a u=>q u (cC u rfl rfl) fun a u=>qa u rfl fun a u=>aC<|t_n<|?_;refine bT u rfl h (fun b92 h=>?_) (fun b92 h=>?_)
  .refine wp_seq<|aA<|qm u rfl fun a u=>?_;obtain⟨c93,e94,h⟩:=h;refine q u (bK u rfl yB xK e94) fun a u=>?_;obtain⟨v95,v96,w97,e98,h⟩:=h;refine q u (dc2 u rfl rfl Try.call62 (fG e98)) fun a u=>?_;refine dL (ι:=World) (pk:=fun i=>(.tuple #[])) (wf:=fun i=>i) (xs:=[_,_,_]) (vs:=[(pV (some v7)),(bV false),(.func (.func 82) #[] #[(pV (some v95)),(pV (some v96))])]) u ⟨rfl,rfl,rfl,aAP⟩ Try.call56 (cU (un1 h)) (fun i h a u=>?_);obtain⟨w99,rfl⟩:∃ x,x=i:=⟨i,rfl⟩;refine aC<|t_n<|aA<|qm u rfl fun a u=>?_;obtain⟨c101,e102,h⟩:=h;refine q u (bK u rfl yB xK e102) fun a u=>?_;obtain⟨v103,v104,w105,e106,h⟩:=h;refine q u (dc2 u rfl rfl Try.call63 (fE e106)) fun a u=>?_;refine dL (ι:=World) (pk:=fun i=>(.tuple #[])) (wf:=fun i=>i) (xs:=[_,_,_]) (vs:=[(pV (some v8)),(bV true),(.func (.func 83) #[] #[(pV (some v103)),(pV (some v104))])]) u ⟨rfl,rfl,rfl,aAP⟩ Try.call56 (cV (un1 h)) (fun i h a u=>?_);obtain⟨w107,rfl⟩:∃ x,x=i:=⟨i,rfl⟩;refine aC<|b_n<|?_;exact hk41 w107 h _ (u.sb rfl)
  refine wp_seq<|aA<|q u (aJ u rfl wN rfl rfl xJ) fun a u=>?_;obtain⟨v109,e110,h⟩:=h;refine q u (aG u rfl xR (aO e110)) fun a u=>q u (cC u rfl rfl) fun a u=>qa u rfl fun a u=>aC<|t_n<|?_;refine bT u rfl h (fun b111 h=>?_) (fun b111 h=>?_)
  .refine wp_seq<|aA<|qm u rfl fun a u=>?_;obtain⟨c112,e113,h⟩:=h;refine q u (bK u rfl yB xK e113) fun a u=>?_;obtain⟨v114,v115,w116,e117,h⟩:=h;refine q u (dc2 u rfl rfl Try.call62 (fG e117)) fun a u=>?_;refine dL (ι:=World) (pk:=fun i=>(.tuple #[])) (wf:=fun i=>i) (xs:=[_,_,_]) (vs:=[(pV (some v7)),(bV false),(.func (.func 82) #[] #[(pV (some v114)),(pV (some v115))])]) u ⟨rfl,rfl,rfl,aAP⟩ Try.call56 (cU (un1 h)) (fun i h a u=>?_);obtain⟨w118,rfl⟩:∃ x,x=i:=⟨i,rfl⟩;refine aC<|t_n<|aA<|qm u rfl fun a u=>?_;obtain⟨c120,e121,h⟩:=h;refine q u (bK u rfl yB xK e121) fun a u=>?_;obtain⟨v122,v123,w124,e125,h⟩:=h;refine q u (dc2 u rfl rfl Try.call63 (fE e125)) fun a u=>?_;refine dL (ι:=World) (pk:=fun i=>(.tuple #[])) (wf:=fun i=>i) (xs:=[_,_,_]) (vs:=[(pV (some v8)),(bV true),(.func (.func 83) #[] #[(pV (some v122)),(pV (some v123))])]) u ⟨rfl,rfl,rfl,aAP⟩ Try.call56 (cV (un1 h)) (fun i h a u=>?_);obtain⟨w126,rfl⟩:∃ x,x=i:=⟨i,rfl⟩;refine aC<|b_n<|?_;exact hk41 w126 h _ (u.sb rfl)
  refine wp_seq<|aA<|q u (aJ u rfl wN rfl rfl xJ) fun a u=>?_;obtain⟨v128,e129,h⟩:=h;refine q u (aG u rfl xR (aO e129)) fun a u=>q u (cC u rfl rfl) fun a u=>qa u rfl fun a u=>aC<|t_n<|?_;refine bT u rfl h (fun b130 h=>?_) (fun b130 h=>?_)
  .refine wp_seq<|aA<|qm u rfl fun a u=>?_;obtain⟨c131,e132,h⟩:=h;refine q u (bK u rfl yB xK e132) fun a u=>?_;obtain⟨v133,v134,w135,e136,h⟩:=h;refine q u (dc2 u rfl rfl Try.call63 (fE e136)) fun a u=>?_;refine dL (ι:=World) (pk:=fun i=>(.tuple #[])) (wf:=fun i=>i) (xs:=[_,_,_]) (vs:=[(pV (some v7)),(bV false),(.func (.func 83) #[] #[(pV (some v133)),(pV (some v134))])]) u ⟨rfl,rfl,rfl,aAP⟩ Try.call56 (cV (un1 h)) (fun i h a u=>?_);obtain⟨w137,rfl⟩:∃ x,x=i:=⟨i,rfl⟩;refine aC<|t_n<|aA<|qm u rfl fun a u=>?_;obtain⟨c139,e140,h⟩:=h;refine q u (bK u rfl yB xK e140) fun a u=>?_;obtain⟨v141,v142,w143,e144,h⟩:=h;refine q u (dc2 u rfl rfl Try.call62 (fG e144)) fun a u=>?_;refine dL (ι:=World) (pk:=fun i=>(.tuple #[])) (wf:=fun i=>i) (xs:=[_,_,_]) (vs:=[(pV (some v8)),(bV true),(.func (.func 82) #[] #[(pV (some v141)),(pV (some v142))])]) u ⟨rfl,rfl,rfl,aAP⟩ Try.call56 (cU (un1 h)) (fun i h a u=>?_);obtain⟨w145,rfl⟩:∃ x,x=i:=⟨i,rfl⟩;refine aC<|b_n<|?_;exact hk41 w145 h _ (u.sb rfl)
  refine wp_seq<|aA<|q u (aJ u rfl wN rfl rfl xJ) fun a u=>?_;obtain⟨v147,e148,h⟩:=h;refine q u (aG u rfl xR (aO e148)) fun a u=>q u (cC u rfl rfl) fun a u=>qa u rfl fun a u=>aC<|t_n<|?_;refine bT u rfl h (fun b149 h=>?_) (fun b149 h=>?_)
  .refine wp_seq<|aA<|qm u rfl fun a u=>?_;obtain⟨c150,e151,h⟩:=h;refine q u (bK u rfl yB xK e151) fun a u=>?_;obtain⟨v152,v153,w154,e155,h⟩:=h;refine q u (dc2 u rfl rfl Try.call63 (fE e155)) fun a u=>?_;refine dL (ι:=World) (pk:=fun i=>(.tuple #[])) (wf:=fun i=>i) (xs:=[_,_,_]) (vs:=[(pV (some v7)),(bV false),(.func (.func 83) #[] #[(pV (some v152)),(pV (some v153))])]) u ⟨rfl,rfl,rfl,aAP⟩ Try.call56 (cV (un1 h)) (fun i h a u=>?_);obtain⟨w156,rfl⟩:∃ x,x=i:=⟨i,rfl⟩;refine aC<|t_n<|aA<|qm u rfl fun a u=>?_;obtain⟨c158,e159,h⟩:=h;refine q u (bK u rfl yB xK e159) fun a u=>?_;obtain⟨v160,v161,w162,e163,h⟩:=h;refine q u (dc2 u rfl rfl Try.call62 (fG e163)) fun a u=>?_;refine dL (ι:=World) (pk:=fun i=>(.tuple #[])) (wf:=fun i=>i) (xs:=[_,_,_]) (vs:=[(pV (some v8)),(bV true),(.func (.func 82) #[] #[(pV (some v160)),(pV (some v161))])]) u ⟨rfl,rfl,rfl,aAP⟩ Try.call56 (cU (un1 h)) (fun i h a u=>?_);obtain⟨w164,rfl⟩:∃ x,x=i:=⟨i,rfl⟩;refine aC<|b_n<|?_;exact hk41 w164 h _ (u.sb rfl)
  refine wp_seq<|?_;exact(show False from h).elim
 obtain⟨w12,e13,h⟩:=h;obtain⟨v14,e15,h⟩:=h;obtain⟨v16,e17,h⟩:=h;obtain⟨h,hB⟩:=h;obtain⟨p18,w19,e20,h⟩:=h;obtain⟨p21,w22,e23,h⟩:=h;obtain⟨e24,h⟩:=h;have hA:=h;have h:=hB;obtain⟨p25,w26,e27,h⟩:=h;obtain⟨p28,w29,e30,h⟩:=h;obtain⟨e31,h⟩:=h;have hB:=h;have u:Has 182 [(1,(iV a1)),(2,(pV (some p1))),(4,(pV (some p4)))] a:=u.sb rfl;refine iC (n:=182) (i:=4) (j:=9) (Dp:=[4,9,10,11]) (ds1:=(bJ (pV (some (p1.add 1))) 0 [] 2 (pV (some p1))::bJ (.string v14) 0 [0] 15 (pV (some (p1.add 1)))::eN (iV a1) 0 [] 1::gL (.agg (List.toArray ([.string v14,.int .i64 a1,.slice none 0 0]))) 0 [1,0,2] [(16,(.string v14)),(17,(iV a1))]::aL (pV (some p18)) true 0 0 (rn 0 4) [(18,(.agg (List.toArray ([.string v14,.int .i64 a1,.slice none 0 0]))))]::aL (pV (some (p1.add 1))) false 0 1 [] [(2,(pV (some p1)))]::aL (.string v16) false 0 1 [5] [(20,(pV (some (p1.add 1))))]::aL (iV a1) false 0 1 [] [(1,(iV a1))]::aL (.agg (List.toArray ([.string v16,.int .i64 a1,.slice none 0 0]))) false 0 1 [6,5,7] [(21,(.string v16)),(22,(iV a1))]::aL (pV (some p21)) true 1 1 (rn 0 9) [(23,(.agg (List.toArray ([.string v16,.int .i64 a1,.slice none 0 0]))))]::aL (pV (some p18)) false 1 2 (rn 0 5) [(19,(pV (some p18)))]::eN (pV (some p21)) 2 (rn 0 11) 24::[])) (ds2:=(aL (pV (some (p1.add 1))) false 0 1 [] [(2,(pV (some p1)))]::aL (.string v14) false 0 1 [0] [(15,(pV (some (p1.add 1))))]::aL (iV a1) false 0 1 [] [(1,(iV a1))]::aL (.agg (List.toArray ([.string v14,.int .i64 a1,.slice none 0 0]))) false 0 1 [1,0,2] [(16,(.string v14)),(17,(iV a1))]::aL (pV (some p28)) true 1 1 (rn 0 4++rn 5 5) [(18,(.agg (List.toArray ([.string v14,.int .i64 a1,.slice none 0 0]))))]::bJ (pV (some (p1.add 1))) 0 [] 2 (pV (some p1))::bJ (.string v16) 0 [5] 20 (pV (some (p1.add 1)))::eN (iV a1) 0 [] 1::gL (.agg (List.toArray ([.string v16,.int .i64 a1,.slice none 0 0]))) 0 [6,5,7] [(21,(.string v16)),(22,(iV a1))]::aL (pV (some p25)) true 0 0 (rn 5 4) [(23,(.agg (List.toArray ([.string v16,.int .i64 a1,.slice none 0 0]))))]::eN (pV (some p28)) 2 (rn 0 10) 19::eN (pV (some p25)) 2 (rn 0 11) 24::[])) (W1:=(fun j=>match j with | 0=>w12 | 1=>w19 | 2=>w22 | _=>w22)) (W2:=(fun j=>match j with | 0=>w12 | 1=>w26 | 2=>w29 | _=>w29)) (m1:=2) (m2:=2) (by kernel_rfl) u (gY e13) (gY e13) rfl (by kernel_rfl) (by kernel_rfl) rfl rfl (by decide) (bS (by kernel_rfl)) (bS (by kernel_rfl)) ?_ ?_ (by kernel_rfl) (by kernel_rfl) (fun a u=>?_) (fun a u=>?_)
 .refine⟨oa (aJ · rfl wN rfl rfl wR),oc 0 (kd (aG · rfl wU (cH e15))),oa (aI · rfl),oa (fN (vs:=[(0,(.string v14)),(1,(iV a1))]) (pl:=#[(0,1),(1,1),(2,1)]) (cs:=([.string v14,.int .i64 a1,.slice none 0 0])) · ⟨rfl,rfl,rfl,rfl,aAP⟩ yI wP (by intro w;kernel_rfl) (by kernel_rfl)),oc 0 (kd (dI · rfl rfl e20)),oa (aJ · rfl wN rfl rfl wR),?_,oa (aI · rfl),oa (fN (vs:=[(0,(.string v16)),(1,(iV a1))]) (pl:=#[(0,1),(1,1),(2,1)]) (cs:=([.string v16,.int .i64 a1,.slice none 0 0])) · ⟨rfl,rfl,rfl,rfl,aAP⟩ yI wP (by intro w;kernel_rfl) (by kernel_rfl)),oc 1 (kd (dI · rfl rfl e23)),oa (fW · rfl),oa (fW · rfl),aAP⟩;intro j h1 h2;have h1:0<=j:=h1;have h2:j<=1:=h2;rcases(by omega:j=0\/j=1) with rfl | rfl
  .exact kd (aG · rfl wU (cH e17))
  exact kd (aG · rfl wU (cH e24))
 .refine⟨oa (aJ · rfl wN rfl rfl wR),?_,oa (aI · rfl),oa (fN (vs:=[(0,(.string v14)),(1,(iV a1))]) (pl:=#[(0,1),(1,1),(2,1)]) (cs:=([.string v14,.int .i64 a1,.slice none 0 0])) · ⟨rfl,rfl,rfl,rfl,aAP⟩ yI wP (by intro w;kernel_rfl) (by kernel_rfl)),oc 1 (kd (dI · rfl rfl e30)),oa (aJ · rfl wN rfl rfl wR),oc 0 (kd (aG · rfl wU (cH e17))),oa (aI · rfl),oa (fN (vs:=[(0,(.string v16)),(1,(iV a1))]) (pl:=#[(0,1),(1,1),(2,1)]) (cs:=([.string v16,.int .i64 a1,.slice none 0 0])) · ⟨rfl,rfl,rfl,rfl,aAP⟩ yI wP (by intro w;kernel_rfl) (by kernel_rfl)),oc 0 (kd (dI · rfl rfl e27)),oa (fW · rfl),oa (fW · rfl),aAP⟩;intro j h1 h2;have h1:0<=j:=h1;have h2:j<=1:=h2;rcases(by omega:j=0\/j=1) with rfl | rfl
  .exact kd (aG · rfl wU (cH e15))
  exact kd (aG · rfl wU (cH e31))
 .have h:=hA;have u:Has 182 [(1,(iV a1)),(2,(pV (some p1))),(4,(pV (some p4))),(5,(pV (some p18))),(6,(pV (some p21)))] a:=u.sb rfl;exact hk11 (p18,p21,w22) h _ (u.sb rfl)
 have h:=hB;have u:Has 182 [(1,(iV a1)),(2,(pV (some p1))),(4,(pV (some p4))),(5,(pV (some p28))),(6,(pV (some p25)))] a:=u.sb rfl;exact hk11 (p28,p25,w29) h _ (u.sb rfl)
noncomputable def eM (a0:List Value) (w:World):Option (Bool×World) :=
 aE (mk w 40 a0) fun p1 w2 =>
 aE ((ldL w2 (p1.add 10)).bind fun v8 =>
 if (decide (4<(v8.n:Int)))=true then
 (some (true,w2))
 else
 ((ldL w2 (p1.add 11)).bind fun v11 =>
 some ((decide (4<(v11.n:Int))),w2))) fun v4 w5 =>
 some (v4,w5)
theorem kG {a0 w w' r0} (h:eM a0 w=some (r0,w')):Calls Try.prog 71 #[(.agg (List.toArray a0))] w fun e w''=>e=.returned (.bool r0)/\w''=w':=by
 refine aD (n:=13) Try.func71 rfl Try.ntmps71 (by simp) fun a u=>?_;unfold eM at h;refine wp_seq<|aA<|?_;have⟨p1,w2,e3,h⟩:=bs2 h;refine q u (dI u rfl rfl e3) fun a u=>qa u rfl fun a u=>aC<|t_n<|wp_seq<|?_;have⟨v4,w5,e6,h⟩:=bs2 h;refine bY (n:=13) (L:=[(2,(bV v4))]) (w':=w5) (fun a u=>?_) (fun hk7=>?_)
 .refine t_n<|wp_ret<|?_;have y:=u;cases h;exact aY Try.results71 y rfl ⟨rfl,rfl⟩
 clear h;have h:=e6;refine aA<|q u (aJ u rfl wM rfl rfl xI) fun a u=>?_;have⟨v8,e9,h⟩:=bs1 h;refine q u (aG u rfl xY (bW e9)) fun a u=>q u (cI u rfl wV) fun a u=>q u (jF u rfl rfl) fun a u=>qm u rfl fun a u=>?_;refine dG h (fun b10 h=>?_) (fun b10 h=>?_)
 .refine qn u 7 (tn b10) fun a u=>qn u 7 (tn b10) fun a u=>qn u 7 (tn b10) fun a u=>qn u 7 (tn b10) fun a u=>q u (aK u rfl b10 rfl) fun a u=>qa u rfl fun a u=>aC<|?_;have y:=u;cases h;exact hk7 _ (y.sb rfl)
 refine qg u 7 (nt b10) (aJ u rfl wM rfl rfl xI) fun a u=>?_;have⟨v11,e12,h⟩:=bs1 h;refine qg u 7 (nt b10) (aG u rfl xY (bW e12)) fun a u=>qg u 7 (nt b10) (cI u rfl wV) fun a u=>qg u 7 (nt b10) (jF u rfl rfl) fun a u=>q u (aM u rfl b10 rfl) fun a u=>qa u rfl fun a u=>aC<|?_;have y:=u;cases h;exact hk7 _ (y.sb rfl)
noncomputable def aQ (a0:Sl) (x1:Int) (w2:World):Option ((Int×World)⊕((World)⊕(Int×World))) :=
 if (decide (x1<(a0.n:Int)))=true then
 ((ix a0 x1 12).bind fun p12 =>
 (ldA 12 w2 p12 0).bind fun c14 =>
 aE (eM c14 w2) fun v16 w17 =>
 if v16=true then
 (some (.inr (.inr (x1,w17))))
 else
 (some (.inl ((IntKind.wrap .i64 (x1+1)),w17))))
 else
 (some (.inr (.inl w2)))
noncomputable def bN (a0:Sl) (w:World):Option (Int×World) :=
 (bU (fun s:Int×World=>aQ a0 s.1 s.2) (0,w)).bind fun r3=>Sum.elim (fun (i:World)=>u1 i fun w5 =>
 some ((-1),w5)) (fun (i:Int×World)=>u2 i fun v6 w7 =>
 some (v6,w7)) r3
theorem eV {a0 w w' r0} (h:bN a0 w=some (r0,w')):Calls Try.prog 26 #[(Sl.v a0),(.func (.func 71) #[] #[])] w fun e w''=>e=.returned (.int .i64 r0)/\w''=w':=by
 refine aD (n:=19) Try.func26 rfl Try.ntmps26 (by simp) fun a u=>?_;unfold bN at h;refine wp_seq<|aA<|qa u rfl fun a u=>aC<|t_n<|wp_seq<|wp_seq<|aA<|qm u rfl fun a u=>q u (cI u rfl wS) fun a u=>qm u rfl fun a u=>aC<|t_n<|wp_block<|?_;have⟨r3,e4,h⟩:=bs1 h;refine dN (n:=19) (L1:=fun i=>[]) (w1:=fun i=>i) (L2:=fun i=>[(4,(iV i.1))]) (w2:=fun i=>i.2) (e1:=.exit 0) (e2:=.ret) (I:=fun (s:Int×World) a w=>Has 19 [(8,(iV s.1)),(0,(Sl.v a0)),(1,(.func (.func 71) #[] #[])),(7,(iV (a0.n:Int)))] a/\w=s.2) ⟨u.sub ⟨rfl,rfl,rfl,rfl,aAP⟩,rfl⟩ e4 (fun i hi a u=>?_) (fun i hi a u=>?_) (fun hk8 hk9=>?_)
 .subst hi;obtain⟨w5,rfl⟩:∃ x,x=i:=⟨i,rfl⟩;dsimp only[Sum.elim_inl,Sum.elim_inr,u1,u2,u3,u4,u5,u6] at h;have u:Has 19 [] a:=u;refine fD<|t_n<|wp_seq<|aA<|qa u rfl fun a u=>aC<|t_n<|wp_ret<|?_;have y:=u;cases h;exact aY Try.results26 y rfl ⟨rfl,rfl⟩
 .subst hi;obtain⟨v6,w7⟩:=i;dsimp only[Sum.elim_inl,Sum.elim_inr,u1,u2,u3,u4,u5,u6] at h;have u:Has 19 [(4,(iV v6))] a:=u;refine b_r<|t_r<|?_;have y:=u;cases h;exact aY Try.results26 y rfl ⟨rfl,rfl⟩
 clear h;rintro⟨x1,w2⟩ a wq o ⟨u,hwq⟩ h hr10;obtain rfl:w2=wq:=hwq.symm;have u:Has 19 [(8,(iV x1)),(0,(Sl.v a0)),(1,(.func (.func 71) #[] #[])),(7,(iV (a0.n:Int)))] a:=u;have h:aQ a0 x1 w2=some o:=h;unfold aQ at h;refine wp_seq<|aA<|q u (gG u rfl rfl) fun a u=>aC<|t_n<|wp_seq<|?_;refine aF u rfl h (fun b11 h=>?_) (fun b11 h=>?_)
 .refine wp_skip<|t_n<|wp_seq<|wp_block<|wp_seq<|aA<|qm u rfl fun a u=>qa u rfl fun a u=>aC<|t_n<|wp_seq<|aA<|qm u rfl fun a u=>qm u rfl fun a u=>qm u rfl fun a u=>?_;have⟨p12,e13,h⟩:=bs1 h;refine q u (eY u rfl rfl wS wO e13) fun a u=>?_;have⟨c14,e15,h⟩:=bs1 h;refine q u (bK u rfl xE wO e15) fun a u=>?_;have⟨v16,w17,e18,h⟩:=bs2 h;refine q u (dV (xs:=[_]) (vs:=[(.agg (List.toArray c14))]) (cv:=[]) u rfl ⟨rfl,aAP⟩ Try.call71 (kG e18)) fun a u=>aC<|t_n<|?_;refine aF u rfl h (fun b19 h=>?_) (fun b19 h=>?_)
  .refine wp_seq<|aA<|qm u rfl fun a u=>qa u rfl fun a u=>aC<|t_n<|wp_ret<|b_r<|t_r<|?_;have y:=u;cases h;cases hr10 _ rfl;refine gR<|?_;exact hk9 _ rfl _ (y.sb rfl)
  refine wp_skip<|b_n<|t_n<|aA<|q u (dY u rfl rfl) fun a u=>qm u rfl fun a u=>aC<|?_;have y:=u;cases h;exact cZ ⟨y.sb rfl,rfl⟩
 refine wp_exit<|t_x<|?_;have y:=u;cases h;cases hr10 _ rfl;refine iL<|?_;exact hk8 _ rfl _ (y.sb rfl)
noncomputable def bA (a0:Sl) (w:World):Option (Bool×World) :=
 aE (bN a0 w) fun v1 w2 =>
 some ((decide (0<=v1)),w2)
theorem dW {a0 w w' r0} (h:bA a0 w=some (r0,w')):Calls Try.prog 70 #[(Sl.v a0),(.func (.func 71) #[] #[])] w fun e w''=>e=.returned (.bool r0)/\w''=w':=by
 refine aD (n:=9) Try.func70 rfl Try.ntmps70 (by simp) fun a u=>?_;unfold bA at h;refine wp_seq<|aA<|qa u rfl fun a u=>aC<|t_n<|wp_seq<|aA<|qm u rfl fun a u=>qm u rfl fun a u=>?_;have⟨v1,w2,e3,h⟩:=bs2 h;refine q u (eG (xs:=[_,_]) (vs:=[(Sl.v a0),(.func (.func 71) #[] #[])]) u ⟨rfl,rfl,aAP⟩ Try.call26 (eV e3)) fun a u=>q u (lW u rfl rfl) fun a u=>qa u rfl fun a u=>aC<|t_n<|wp_ret<|?_;have y:=u;cases h;exact aY Try.results70 y rfl ⟨rfl,rfl⟩
def tE (ops:List Oper) (cls:List (List Nat)):Bool:=ops.zipIdx.all fun (o,i)=>((cls[i]?).getD []).all fun k=>o.after.toList.any fun e=>Region.binds .any e&&decide (e.on<i)&&(k==e.on||((cls[e.on]?).getD []).contains k)
def tV (X:List Nat) (m:Nat) (ops:List Oper) (cls:List (List Nat)):Bool:=ops.zipIdx.all fun (o,i)=>decide (i<m)||(List.range m).all fun k=>X.contains k||((cls[i]?).getD []).contains k
def tT (m:Nat) (ops:List Oper):Bool:=(ops.take m).zipIdx.all fun (o,i)=>(o.after.toList.all fun e=>!Region.binds .any e||decide (e.on<i))&&o.guard.all fun g=>decide (g.1<m)
def qX (X:List Nat) (m:Nat) (ops:List Oper):Bool:=tE ops (mG ops [])&&tV X m ops (mG ops [])&&tT m ops
section
variable {P : Program} {n : Nat} {L0 L : List (Nat × Value)} {Q Q' : Exit -> Act -> World -> Prop} {a : Act} {w : World}
theorem nU {o:Oper} {K:Act->World->Prop} (hq:∀ e a w,e≠.normal->Q' e a w->Q e a w) (hh:o.wp P a w K Q'):o.wp P a w K Q:=by
 unfold Oper.wp at *;generalize (execOp a.eval o).run P w=r at *
 cases r with
 | ok n w' =>
  cases n<;>simp only[Oper.upon] at hh ⊢ <;>
   first
    | exact hh
    | exact Calls.mono hh (fun e w'' he=>by
      cases e with
      | returned v=>exact he
      | panicked c=>exact hq _ _ _ (by simp) he
      | outgrown=>obtain⟨a',w3,h3⟩:=he;exact⟨a',w3,hq _ _ _ (by simp) h3⟩)
 | halt x w' =>
  cases x<;>simp only[Oper.upon] at hh ⊢<;>first | exact hq _ _ _ (by simp) hh | exact hh
theorem rJ {A B:List Oper} {i:Nat} {K K':Act->World->Prop} (hi:i<A.length) (hg:∀ o,A[i]?=some o->∀ j c,o.guard=some (j,c)->j<A.length) (hq:∀ e a w,e≠.normal->Q' e a w->Q e a w) (hK:∀ a w,K' a w->K a w)
  (h:wpOp P A.toArray Q' i K' a w):wpOp P (A++B).toArray Q i K a w:=by
 unfold wpOp at h ⊢;have e:(A++B).toArray[i]?=A.toArray[i]?:=by simp[yX hi]
 rw[e];obtain⟨o,ho⟩:∃ o,A[i]?=some o:=⟨_,yQ hi⟩;have ho':A.toArray[i]?=some o:=by simpa using ho
 rw[ho'] at h ⊢;simp only at h ⊢;have hw:Region.wanted o (yielded (A++B).toArray a.tmps)=Region.wanted o (yielded A.toArray a.tmps):=by
  unfold Region.wanted
  cases hgd:o.guard with
  | none=>rfl
  | some g =>
   obtain⟨j,c⟩:=g;have hj:=hg o ho j c hgd;have:yielded (A++B).toArray a.tmps j=yielded A.toArray a.tmps j:=by
    unfold yielded;have:(A++B).toArray[j]?=A.toArray[j]?:=by simp[yX hj]
    rw[this]
   simp only[this]
 rw[hw];split
 .rename_i h1;rw[if_pos h1] at h;rcases h with h | ⟨h,a',w',h'⟩
  .exact .inl (Oper.wp_mono hK (nU hq h))
  exact .inr ⟨h,a',w',hq _ _ _ (by simp) h'⟩
 rename_i h1;rw[if_neg h1] at h;exact hK _ _ h
theorem oR {ops:List Oper} {cls:List (List Nat)} (hok:tE ops cls=true) {listed:Array Bool} (hc:∀ (i:Nat) (o:Oper),ops[i]?=some o->listed.getD i false=true->∀ e∈o.after.toList,Region.binds .any e=true->listed.getD e.on false=true) :
  ∀ (i:Nat) (o:Oper),ops[i]?=some o->(∀ e∈o.after.toList,Region.binds .any e=true->listed.getD e.on false=true)->∀ k∈(cls[i]?).getD [],listed.getD k false=true:=by
 intro i
 induction i using Nat.strongRecOn with
 | _ i ih =>
  intro o ho he k hk;have:=yN.1 (yN.1 hok _ (yW.2 ho:(o,i)∈ops.zipIdx)) k hk;obtain⟨e,he1,hx⟩:=zM.1 this;simp only[yO,decide_eq_true_eq,yT,beq_iff_eq,zD] at hx;obtain⟨⟨h1,h2⟩,h3⟩:=hx;rcases h3 with rfl | h3
  .exact he e he1 h1
  have hle:=he e he1 h1
  cases ho':ops[e.on]? with
  | some o'=>exact ih e.on h2 o' ho' (hc e.on o' ho' hle) k h3
  | none =>
   have h5:=(yP.1 ho).1;have h6:=zT.1 ho';omega
theorem pM {A B:List Oper} {X:List Nat} (hok:qX X A.length (A++B)=true) (hq:∀ e a w,e≠.normal->Q' e a w->Q e a w)
  (hQ:∀ a w,Q' .normal a w->wpAny P .any (A++B).toArray Q B.length (Array.replicate A.length true++Array.replicate B.length false) a w) :
  ∀ (fuel:Nat) (listed:Array Bool) (a:Act) (w:World),listed.size=A.length->(∀ k∈X,listed.getD k false=true)->(∀ (i:Nat) (o:Oper),A[i]?=some o->listed.getD i false=true->∀ e∈o.after.toList,Region.binds .any e=true->listed.getD e.on false=true) ->
   fuel=((List.range A.length).filter fun i=>!listed.getD i false).length->wpAny P .any A.toArray Q' fuel listed a w->wpAny P .any (A++B).toArray Q (fuel+B.length) (listed++Array.replicate B.length false) a w:=by
 simp only[qX,yO] at hok;obtain⟨⟨hcls,htl⟩,hhd⟩:=hok;have hA:∀ (i:Nat) (o:Oper),A[i]?=some o->(∀ e∈o.after.toList,Region.binds .any e=true->e.on<i)/\∀ j c,o.guard=some (j,c)->j<A.length:=fun i o ho=>by
  have hi:=(yP.1 ho).1;have ho':((A++B).take A.length)[i]?=some o:=by rw[List.take_left' rfl];exact ho
  have:=yN.1 hhd _ (yW.2 ho':(o,i)∈((A++B).take A.length).zipIdx);simp only[yO] at this;refine⟨fun e he hb=>?_,fun j c hg=>?_⟩
  .have:=yN.1 this.1 e he;simpa[hb] using this
  have:=this.2;rw[hg] at this;simpa using this
 intro fuel
 induction fuel with
 | zero =>
  intro listed a w hsz hX hc hf h;have hall:∀ k,k<A.length->listed.getD k false=true:=fun k hk=>by
   cases h:listed.getD k false with
   | true=>rfl
   | false =>
    have:k∈(List.range A.length).filter fun i=>!listed.getD i false:=by simp[hk];simpa using h
    rw[yZ hf.symm] at this;cases this
  have:listed=Array.replicate A.length true:=by
   apply Array.ext
   .simpa using hsz
   intro i h1 h2;have:=hall i (by omega);rw[yM,zE h1] at this;simpa using this
  rw[this,aAO];exact hQ a w h.2
 | succ fuel ih =>
  intro listed a w hsz hX hc hf h;have hne:∃ x,x<A.length/\listed.getD x false=false:=by
   have hne:((List.range A.length).filter fun i=>!listed.getD i false)≠[]:=fun h=>by rw[h] at hf;cases hf
   obtain⟨x,hx⟩:=zF _ hne;exact⟨x,by simpa using hx⟩
  have gl:∀ k d,k<A.length->(listed++Array.replicate B.length false).getD k d=listed.getD k d:=fun k d hk=>by
   rw[yM,yM,aAb (by omega)]
  have gr:∀ k,A.length<=k->(listed++Array.replicate B.length false).getD k false=false:=fun k hk=>by
   rw[yM,aAw (by omega),zI];split<;>rfl
  have hcl:∀ (i:Nat) (o:Oper),(A++B)[i]?=some o->(listed++Array.replicate B.length false).getD i false=true->∀ e∈o.after.toList,Region.binds .any e=true->(listed++Array.replicate B.length false).getD e.on false=true:=fun i o ho hl e he hb=>by
   by_cases hi:i<A.length
   .rw[yX hi] at ho;rw[gl _ _ hi] at hl;have h1:=(hA i o ho).1 e he hb;rw[gl _ _ (by omega)];exact hc i o ho hl e he hb
   rw[gr i (by omega)] at hl;cases hl
  -- what is ready lies ahead of the cut
  have hr:∀ i,i∈Region.ready .any (A++B).toArray (listed++Array.replicate B.length false)↔i∈Region.ready .any A.toArray listed:=fun i=>by
   unfold Region.ready;simp only[zA,yY,List.size_toArray,zX,yO,yU,zP];constructor
   .rintro⟨h1,h2,h3⟩;obtain⟨o,ho⟩:∃ o,(A++B)[i]?=some o:=⟨_,yQ (by simpa using h1)⟩;rw[ho] at h3;simp only[yV,zB] at h3;have he:∀ e∈o.after.toList,Region.binds .any e=true->(listed++Array.replicate B.length false).getD e.on false=true:=fun e he hb=>by
     have:=zL.1 h3 e (by simpa using he);simpa[hb] using this
    by_cases hi:i<A.length
    .refine⟨hi,by rwa[gl _ _ hi] at h2,?_⟩;rw[yX hi] at ho;rw[ho];simp only[yV,zB];refine zL.2 fun e hm=>?_;by_cases hb:Region.binds .any e=true
     .have h4:=(hA i o ho).1 e (by simpa using hm) hb;have h5:=he e (by simpa using hm) hb;rw[gl _ _ (by omega)] at h5;simp[h5]
     simp[hb]
    exfalso;obtain⟨x,hx1,hx2⟩:=hne;have ht:=yN.1 htl _ (yW.2 ho:(o,i)∈(A++B).zipIdx);simp only[yT,decide_eq_true_eq] at ht;rcases ht with ht | ht
    .exact hi ht
    have hx:=yN.1 ht x (yY.2 hx1);rcases(Bool.or_eq_true_iff).1 hx with hx | hx
    .rw[hX x (by simpa using hx)] at hx2;cases hx2
    have:=oR hcls hcl i o ho he x (by simpa using hx);rw[gl _ _ hx1,hx2] at this;cases this
   rintro⟨h1,h2,h3⟩;obtain⟨o,ho⟩:∃ o,A[i]?=some o:=⟨_,yQ h1⟩;refine⟨by omega,by rwa[gl _ _ h1],?_⟩;rw[yX h1];rw[ho] at h3 ⊢;simp only[yV,zB] at h3 ⊢;refine zL.2 fun e hm=>?_;have:=zL.1 h3 e hm;by_cases hb:Region.binds .any e=true
   .have h4:=(hA i o ho).1 e (by simpa using hm) hb;rw[gl _ _ (by omega)];exact this
   simp[hb]
  have hsome:Region.ready .any A.toArray listed≠[]:=by
   obtain⟨x,hx1,hx2⟩:=hne;have hmin:∃ m,(m<A.length/\listed.getD m false=false)/\∀ k,k<m->¬ (k<A.length/\listed.getD k false=false):=by
    clear hf
    induction x using Nat.strongRecOn with
    | _ x ihx =>
     by_cases h:∃ k,k<x/\(k<A.length/\listed.getD k false=false)
     .obtain⟨k,hk,hk'⟩:=h;exact ihx k hk hk'.1 hk'.2
     exact⟨x,⟨hx1,hx2⟩,fun k hk hk'=>h ⟨k,hk,hk'⟩⟩
   obtain⟨m,⟨hm1,hm2⟩,hm3⟩:=hmin;have hm:m∈Region.ready .any A.toArray listed:=by
    unfold Region.ready;simp only[zA,yY,List.size_toArray,yO,yU,zP];obtain⟨o,ho⟩:∃ o,A[m]?=some o:=⟨_,yQ hm1⟩;refine⟨hm1,?_,?_⟩
    .rw[yM,zE (by omega)] at hm2 ⊢;simpa using hm2
    rw[ho];simp only[yV,zB];refine zL.2 fun e hme=>?_;by_cases hb:Region.binds .any e=true
    .have h4:=(hA m o ho).1 e (by simpa using hme) hb;have h5:listed.getD e.on false=true:=by
      cases h6:listed.getD e.on false with
      | true=>rfl
      | false=>exact(hm3 e.on h4 ⟨by omega,h6⟩).elim
     simp[h5]
    simp[hb]
   intro e;rw[e] at hm;cases hm
  rw[show fuel+1+B.length=(fuel+B.length)+1 by omega];refine⟨fun he=>?_,fun i hi=>?_⟩
  .exfalso;obtain⟨x,hx⟩:=zF _ hsome;rw[<-hr,he] at hx;cases hx
  have hi':=(hr i).1 hi;have hiA:i<A.length:=by
   unfold Region.ready at hi';simpa using(zA.1 hi').1
  have hst:=h.2 i hi';have hset:(listed++Array.replicate B.length false).setIfInBounds i true=listed.setIfInBounds i true++Array.replicate B.length false:=by
   apply Array.ext';simp only[zZ,Array.toList_append];rw[aAu _ _ (by simpa[hsz] using hiA)]
  rw[hset];have hil:listed.getD i false=false:=by
   unfold Region.ready at hi';have:=(zA.1 hi').2;simp only[yO,yU] at this;have:=this.1;rw[yM,zE (by omega)] at this ⊢;simpa using this
  refine rJ hiA (fun o ho=>(hA i o ho).2) hq (fun a w h'=>ih (listed.setIfInBounds i true) a w (by simpa using hsz) (fun k hk=>by rw[cY (by omega)];unfold dR;exact(Decidable.em (k=i)).elim (fun e=>by rw[if_pos e]) (fun e=>by rw[if_neg e];exact hX k hk)) (fun j o ho hl e he hb=>?_) ?_ h') hst
  .rw[cY (by omega)] at hl ⊢;unfold dR at hl ⊢;by_cases hj:j=i
   .subst hj;split
    .rfl
    unfold Region.ready at hi';have h3:=(zA.1 hi').2;simp only[yO,zP,ho,yV,zB] at h3;have:=zL.1 h3.2 e (by simpa using he);simpa[hb] using this
   rw[if_neg hj] at hl;split
   .rfl
   exact hc j o ho hl e he hb
  have hc2:((List.range A.length).filter fun k=>!listed.getD k false).length=((List.range A.length).filter fun k=>!(listed.setIfInBounds i true).getD k false).length+1:=by
   have key:∀ (l:List Nat),l.Nodup->i∈l->(l.filter fun k=>!listed.getD k false).length=(l.filter fun k=>!(listed.setIfInBounds i true).getD k false).length+1:=by
    intro l
    induction l with
    | nil=>intro _ h;cases h
    | cons x l ihl =>
     intro hnd hin;rw[List.nodup_cons] at hnd;by_cases hx:x=i
     .subst hx;have e1:(!listed.getD x false)=true:=by rw[hil];rfl
      have e2:(!(listed.setIfInBounds x true).getD x false)=false:=by rw[cY (by omega)];simp[dR]
      rw[aAd,aAd,e1,e2];simp only[if_true,aAh,if_false,zH];congr 2;exact aAm fun k hk=>by
       rw[cY (by omega)];have:k≠x:=fun e=>hnd.1 (e ▸ hk);unfold dR;rw[if_neg this]
     have hin':i∈l:=(aAG.1 hin).resolve_left (fun e=>hx e.symm);have e2:(listed.setIfInBounds i true).getD x false=listed.getD x false:=by rw[cY (by omega)];simp[dR,hx]
     rw[aAd,aAd,e2];have:=ihl hnd.2 hin';split<;>(try simp only[zH])<;>omega
   exact key _ List.nodup_range (yY.2 hiA)
  omega
theorem sO {ops:Array Oper} {listed:Array Bool} {fuel p:Nat} (hr:Region.ready .any ops listed=[p]) (h:wpOp P ops Q p (wpAny P .any ops Q fuel (listed.setIfInBounds p true)) a w):wpAny P .any ops Q (fuel+1) listed a w :=
 ⟨(fun e=>by rw[hr] at e;cases e),(fun i hi=>by rw[hr] at hi;obtain rfl:=List.mem_singleton.1 hi;exact h)⟩
theorem rF {ι:Type} {ops:Array Oper} {p:Nat} {K:Act->World->Prop} {d ty pos af f g} {xs:List Operand} {ts:Array TypeId} {vs:List Value} {pk:ι->Value} {wf:ι->World} {C:ι->Prop} (hi:ops[p]?=some ⟨d,.call { callee:=.value (.func f),args:=xs.toArray,argTypes:=ts },ty,pos,af,g⟩)
  (hg:g=none\/∃ j c t b,g=some (j,c)/\(ops[j]?).bind (·.dst)=some t/\L.lookup t=some (.bool b)/\b=c)
  (ha:Has n L a) (hx:evs L xs vs) (hf:∀ (args:Array Value) (w:World),(callFunc f args).run P w = .ok (.enter f args) w)
  (h:Calls P f vs.toArray w fun e w''=>∃ i,e = .returned (pk i)/\C i/\w''=wf i) (hr:∀ i,C i->∀ a',Has n (upd d (pk i) L) a'->K a' (wf i)) (hd:ltb n d=true:=by rfl) :
  wpOp P ops Q p K a w:=by
 unfold wpOp;rw[hi];simp only;have hw:Region.wanted ⟨d,.call { callee:=.value (.func f),args:=xs.toArray,argTypes:=ts },ty,pos,af,g⟩ (yielded ops a.tmps)=true:=by
  rcases hg with rfl | ⟨j,c,t,b,rfl,h1,h2,rfl⟩
  .simp[Region.wanted]
  simp[Region.wanted,iK h1 ha h2]
 rw[if_pos hw];left;unfold Oper.wp;have hrun:(execOp a.eval ⟨d,.call { callee:=.value (.func f),args:=xs.toArray,argTypes:=ts },ty,pos,af,g⟩).run P w = .ok (.enter f vs.toArray) w:=by
  simp[execOp,resolve,Deferred.ofValue,invoke,Act.eval,hf];have:=jT ha hx;exact this
 rw[hrun];refine h.mono fun e w' ⟨i,he,hC,hw⟩=>?_;subst he;subst hw;exact hr i hC _ (ha.put _ (ltd hd) _)
theorem nT {ds:List OpD} {W:Nat->World} {p q m:Nat} {listed:Array Bool} (hok:kC (List.range p) ds=true) (hls:listed=Array.replicate p true++Array.replicate q false) (hlen:ds.length=p+q) (hedge:(ds.take p).zipIdx.all (fun (d,i)=>d.o.after.toList.all fun e=>!Region.binds .any e||decide (e.on<i))=true)
  (hz:cnt ds 0 (fun k=>decide (k<p))=0) (hO:∀ (i:Nat) (d:OpD),ds[i]?=some d->p<=i->∀ j,d.lo<=j->j<=d.hi->iD P n (ds.map (·.o)).toArray d.o d.li d.v (W j) (W (j+if d.e=true then 1 else 0))) (hR:fR ds L0)
  (hd:(ds.all fun d=>d.o.dst.all fun t=>decide (t<n))=true) (hcm:cnt ds 0 (fun _=>true)=m) (ha:Has n (dJ ds 0 (fun k=>decide (k<p)) L0) a)
  (hQ:∀ a,Has n (dJ ds 0 (fun _=>true) L0) a->Q .normal a (W m)):wpAny P .any (ds.map (·.o)).toArray Q q listed a (W 0):=by
 subst hls;subst hcm;have gd':∀ k,(Array.replicate p true++Array.replicate q false).getD k false=decide (k<p):=by
  intro k;by_cases hk:k<p
  .rw[yM,aAb (by simpa using hk),zI,if_pos hk,decide_eq_true hk];rfl
  rw[yM,aAw (by simpa using hk),zI,decide_eq_false hk];split<;>rfl
 have gd:(fun k=>(Array.replicate p true++Array.replicate q false).getD k false)=fun k=>decide (k<p):=funext gd';have:=jO (P:=P) (n:=n) (L0:=L0) (Q:=Q) (W:=W) (X:=List.range p) hok (fun i d h hi=>hO i d h (by simpa using hi)) hR (fun i d t h ht=>by
   have:=yN.1 hd d (zC h);rw[ht] at this;simpa using this) hQ q (Array.replicate p true++Array.replicate q false) a (by simp[hlen]) (fun k hk=>by
   rw[gd',decide_eq_true (by simpa using hk)]) (fun i d h hl e he hb=>by
   rw[gd'] at hl;rw[gd'];have hip:i<p:=by simpa using hl
   have h':(ds.take p)[i]?=some d:=by rw[List.getElem?_take,if_pos hip];exact h
   have:=yN.1 (yN.1 hedge _ (yW.2 h':(d,i)∈(ds.take p).zipIdx)) e he;simp only[hb,Bool.not_true,Bool.false_or,decide_eq_true_eq] at this;exact decide_eq_true (by omega)) (by rw[gd];exact ha) (by
   have hf:∀ i,(!(Array.replicate p true++Array.replicate q false).getD i false)=decide (p<=i):=fun i=>by
    rw[gd'];by_cases h:i<p
    .simp[h]
    simp[h];omega
   simp only[hf,hlen];rw[List.range_add,List.filter_append];have e1:(List.range p).filter (fun i=>decide (p<=i))=[]:=aAk.2 fun i hi=>by have:=yY.1 hi;simp;omega
   have e2:((List.range q).map (p+·)).filter (fun i=>decide (p<=i))=(List.range q).map (p+·):=aAe.2 fun i hi=>by obtain⟨k,-,rfl⟩:=List.mem_map.1 hi;simp
   rw[e1,e2];simp)
 rw[gd,hz] at this;exact this
theorem rC {ds:List OpD} {W:Nat->World} {ops:Array Oper} {p:Nat} (h:Obl P n ops W (ds.drop p)):∀ (i:Nat) (d:OpD),ds[i]?=some d->p<=i->∀ j,d.lo<=j->j<=d.hi->iD P n ops d.o d.li d.v (W j) (W (j+if d.e=true then 1 else 0)):=fun i d hd hi=>by
 refine h.get (i:=i-p) ?_;rw[List.getElem?_drop,show p+(i-p)=i by omega];exact hd
end
section
variable {P : Program} {n : Nat} {L0 L : List (Nat × Value)} {Q Q' : Exit -> Act -> World -> Prop} {a : Act} {w : World}
def Qn (Q:Exit->Act->World->Prop):Exit->Act->World->Prop:=fun e a w=>match e with | .normal=>Q .normal a w | _=>False
theorem lZ:¬ LetsOut (Qn Q):=fun ⟨_,_,h⟩=>h
theorem jR {d:Nat} {o:Option Tmp} {v x:Value} (h:o≠some d):(a.put (some d) v).put o x=(a.put o x).put (some d) v:=by
 cases o with
 | none=>rfl
 | some e =>
  have:e≠d:=fun h'=>h (by rw[h']);simp only[Act.put,aAE _ _ (Ne.symm this)]
theorem jQ {d t:Nat} {v:Value} (h:t≠d):(a.put (some d) v).eval (.tmp t)=a.eval (.tmp t):=by
 simp only[Act.put,Act.eval,yM,Array.getElem?_setIfInBounds];rw[if_neg (Ne.symm h)]
theorem lR {f:FuncId}:a.eval (.func f) = .func (.func f) #[] #[]:=rfl
theorem mC {v:Value}:a.eval (.const v)=v:=rfl
theorem kM {s:Nat} {o:Option Tmp} {v:Value} (h:o≠some s):(a.put o v).eval (.tmp s)=a.eval (.tmp s):=by
 cases o with
 | none=>rfl
 | some e=>exact jQ fun h'=>h (by rw[h'])
structure Fl (o:Oper) (d s:Nat):Prop where
 g:o.guard=none
 nd:o.dst≠some d
 ns:o.dst≠some s
 e:∀ (a:Act) (v:Value),execOp (a.put (some d) v).eval o=execOp a.eval o
theorem qW {o:Oper} {d s:Nat} {v:Value} (h:Fl o d s) {K K':Act->World->Prop} (hK:∀ a' w',a'.eval (.tmp s)=a.eval (.tmp s)->K' (a'.put (some d) v) w'->K a' w') (hh:o.wp P (a.put (some d) v) w K' (Qn Q)):o.wp P a w K Q:=by
 unfold Oper.wp at *;rw[h.e] at hh;generalize (execOp a.eval o).run P w=r at *
 cases r with
 | ok x w' =>
  cases x<;>simp only[Oper.upon] at hh ⊢
  case value v'=>rw[jR h.nd] at hh;exact hK _ _ (kM h.ns) hh
  case skip=>rw[jR h.nd] at hh;exact hK _ _ (kM h.ns) hh
  case enter f args =>
   exact Calls.mono hh fun e w'' he=>by
    cases e with
    | returned v'=>simp only at he ⊢;rw[jR h.nd] at he;exact hK _ _ (kM h.ns) he
    | panicked c=>exact he.elim
    | outgrown=>exact(lZ he).elim
  case defer x =>
   have e1:({ (a.put (some d) v) with defers:=x::(a.put (some d) v).defers }:Act).put o.dst undef=(({ a with defers:=x::a.defers }:Act).put o.dst undef).put (some d) v:=by
    rw[<-jR h.nd];rfl
   rw[e1] at hh;refine hK _ _ ?_ hh;rw[kM h.ns];rfl
  case row r' args=>exact Rows.mono hh fun v' w'' he=>by rw[jR h.nd] at he;exact hK _ _ (kM h.ns) he
 | halt x w'=>cases x<;>simp only[Oper.upon] at hh ⊢<;>exact hh.elim
theorem nB {ops:Array Oper}:∀ (fuel:Nat) (listed:Array Bool) (a:Act) (w:World),wpAny P .any ops (Qn Q) fuel listed a w->wpAny P .any ops Q fuel listed a w
 | 0,listed,a,w,h=>h
 | fuel+1,listed,a,w,h=>⟨h.1,fun i hi=>by
  have:=h.2 i hi;unfold wpOp at this ⊢;split
  .rename_i h0;rw[h0] at this;exact nB fuel _ _ _ this
  rename_i o h0;rw[h0] at this;simp only at this;split
  .rename_i hw;rw[if_pos hw] at this;rcases this with this | ⟨_,this⟩
   .exact .inl (Oper.wp_mono (nB fuel _) (nU (fun e a w hne hq=>by cases e<;>first | exact(hne rfl).elim | exact hq.elim) this))
   exact(lZ this).elim
  rename_i hw;rw[if_neg hw] at this;exact nB fuel _ _ _ this⟩
theorem jW {ops:Array Oper} {listed:Array Bool} {i:Nat}:i∈Region.ready .any ops listed↔i<ops.size/\listed.getD i true=false/\∀ o,ops[i]?=some o->∀ e∈o.after.toList,Region.binds .any e=true->listed.getD e.on false=true:=by
 unfold Region.ready;simp only[zA,yY,yO,yU];constructor
 .rintro⟨h1,h2,h3⟩;refine⟨h1,h2,fun o ho e he hb=>?_⟩;rw[ho] at h3;simp only[yV,zB] at h3;have:=zL.1 h3 e (by simpa using he);simpa[hb] using this
 rintro⟨h1,h2,h3⟩;refine⟨h1,h2,?_⟩;obtain⟨o,ho⟩:∃ o,ops[i]?=some o:=⟨_,zE h1⟩;rw[ho];simp only[yV,zB];refine zL.2 fun e he=>?_;by_cases hb:Region.binds .any e=true
 .simp[h3 o ho e (by simpa using he) hb]
 simp[hb]
theorem oF {ops:Array Oper} {i d s ty:Nat} {pos:String} (hi:ops[i]?=some ⟨some d,.move (.tmp s),ty,pos,#[],none⟩)
  (ho:∀ j o,ops[j]?=some o->j≠i->Fl o d s\/∃ e∈o.after.toList,Region.binds .any e=true/\e.on=i) :
  ∀ (fuel:Nat) (listed:Array Bool) (a:Act) (w:World),listed.size=ops.size->listed.getD i true=false->wpAny P .any ops (Qn Q) fuel (listed.setIfInBounds i true) (a.put (some d) (a.eval (.tmp s))) w->wpAny P .any ops Q (fuel+1) listed a w:=by
 have hil:i<ops.size:=(zS.1 hi).1;have hw:∀ {o:Oper},o.guard=none->∀ t,Region.wanted o (yielded ops t)=true:=fun h t=>by unfold Region.wanted;rw[h]
 have move:∀ {K:Act->World->Prop} {a:Act} {w:World},K (a.put (some d) (a.eval (.tmp s))) w->wpOp P ops Q i K a w:=fun {K a w} hk=>by
  unfold wpOp;rw[hi];simp only;rw[if_pos (hw rfl _)];left;unfold Oper.wp;simpa[execOp,Oper.upon] using hk
 intro fuel
 induction fuel with
 | zero =>
  intro listed a w hsz hl h;have hri:i∈Region.ready .any ops listed:=jW.2 ⟨hil,hl,fun o ho' e he=>by rw[hi] at ho';cases ho';simp at he⟩;refine⟨fun h0=>(by rw[h0] at hri;cases hri),fun j hj=>?_⟩;by_cases hji:j=i
  .subst hji;exact move ⟨h.1,h.2⟩
  exfalso;obtain⟨j1,j2,j3⟩:=jW.1 hj;have:j∈Region.ready .any ops (listed.setIfInBounds i true):=jW.2 ⟨j1,by rw[yM,yS (Ne.symm hji),<-yM];exact j2,fun o ho' e he hb=>by
   have:=j3 o ho' e he hb;rw[cY (by omega)];unfold dR;split
   .rfl
   exact this⟩
  rw[h.1] at this;cases this
 | succ fuel ih =>
  intro listed a w hsz hl h;have hri:i∈Region.ready .any ops listed:=jW.2 ⟨hil,hl,fun o ho' e he=>by rw[hi] at ho';cases ho';simp at he⟩;refine⟨fun h0=>(by rw[h0] at hri;cases hri),fun j hj=>?_⟩;by_cases hji:j=i
  .subst hji;exact move (nB _ _ _ _ h)
  obtain⟨j1,j2,j3⟩:=jW.1 hj;have hj':j∈Region.ready .any ops (listed.setIfInBounds i true):=jW.2 ⟨j1,by rw[yM,yS (Ne.symm hji),<-yM];exact j2,fun o ho' e he hb=>by
   have:=j3 o ho' e he hb;rw[cY (by omega)];unfold dR;split
   .rfl
   exact this⟩
  have h1:=h.2 j hj';obtain⟨o,hoj⟩:∃ o,ops[j]?=some o:=⟨_,zE j1⟩;have hfl:Fl o d s:=by
   rcases ho j o hoj hji with h | ⟨e,he,hb,hon⟩
   .exact h
   have:=j3 o hoj e he hb;rw[hon,yM,zE (by omega)] at this;rw[yM,zE (by omega)] at hl;simp only[zB] at this hl;rw[hl] at this;cases this
  unfold wpOp at h1 ⊢;rw[hoj] at h1 ⊢;simp only at h1 ⊢;rw[if_pos (hw hfl.g _)] at h1;rw[if_pos (hw hfl.g _)];rcases h1 with h1 | ⟨_,h1⟩
  .left;refine qW hfl (fun a' w' he hk=>?_) h1;refine ih (listed.setIfInBounds j true) a' w' (by simpa using hsz) (by rw[yM,yS hji,<-yM];exact hl) ?_;rw[he,aAE _ _ hji];exact hk
  exact(lZ h1).elim
def rB (d s i:Nat):List Oper->Nat->Prop
 | [],_=>True
 | o::l,j=>(j=i\/Fl o d s\/(o.after.toList.any fun e=>Region.binds .any e&&e.on==i)=true)/\rB d s i l (j+1)
theorem nA {d s i:Nat}:∀ {l:List Oper} {j k:Nat} {o:Oper},rB d s i l j->l[k]?=some o->j+k=i\/Fl o d s\/∃ e∈o.after.toList,Region.binds .any e=true/\e.on=i
 | o::l,j,0,_,h,hk=>by
  cases hk;rcases h.1 with h | h | h
  .exact .inl h
  .exact .inr (.inl h)
  obtain⟨e,he,hb⟩:=zM.1 h;simp only[yO,beq_iff_eq] at hb;exact .inr (.inr ⟨e,he,hb.1,hb.2⟩)
 | o::l,j,k+1,_,h,hk=>by
  have:=nA (k:=k) h.2 hk;rwa[show j+1+k=j+(k+1) by omega] at this
 | [],_,_,_,_,hk=>by cases hk
theorem wI {w:World} (h:Q .normal a w):Qn Q .normal a w:=h
theorem oA {ds:List OpD} {B:List Oper} {W:Nat->World} {m id i d s ty:Nat} {pos:String} {v:Value} (hm:P.follows .mixedOrders=true) (ha:Has n L0 a) (h0:W 0=w.drew) (hi:(ds.map (·.o))[i]?=some ⟨some d,.move (.tmp s),ty,pos,#[],none⟩) (hfl:rB d s i (ds.map (·.o)++B) 0)
  (hs:evO L0 (.tmp s)=some v) (hdn:d<n) (henv:dJ ds 0 (fun k=>decide (k=i)) L0=upd (some d) v L0) (hc0:cnt ds 0 (fun k=>decide (k=i))=0) (hok:kC [i] ds=true) (hcut:qX [i] ds.length (ds.map (·.o)++B)=true)
  (hO:Obl P n (ds.map (·.o)).toArray W ds) (hR:fR ds L0)
  (hd:(ds.all fun d=>d.o.dst.all fun t=>decide (t<n))=true) (hcm:cnt ds 0 (fun _=>true)=m)
  (hQ:∀ a,Has n (dJ ds 0 (fun _=>true) L0) a->wpAny P .any (ds.map (·.o)++B).toArray (Qn Q) B.length (Array.replicate ds.length true++Array.replicate B.length false) a (W m)):(Code.region id (ds.map (·.o)++B).toArray true).wp P Q a w:=by
 subst hcm;refine wp_region_any hm ?_;have hl:(ds.map (·.o)).length=ds.length:=by simp
 have hid:i<ds.length:=by have:=(yP.1 hi).1;simpa using this
 have hN:(ds.map (·.o)++B).toArray.size=(ds.length-1+B.length)+1:=by simp;omega
 have hrep:Array.replicate (ds.length-1+B.length+1) false=Array.replicate ds.length false++Array.replicate B.length false:=by
  rw[show ds.length-1+B.length+1=ds.length+B.length by omega];simp
 have hsetl:(Array.replicate ds.length false++Array.replicate B.length false).setIfInBounds i true=(Array.replicate ds.length false).setIfInBounds i true++Array.replicate B.length false:=by
  apply Array.ext';simp only[zZ,Array.toList_append];rw[aAu _ _ (by simpa using hid)]
 have hev:a.eval (.tmp s)=v:=ha.ev hs;have gz:∀ k,((Array.replicate ds.length false).setIfInBounds i true).getD k false=decide (k=i):=fun k=>by
  rw[cY (by simpa using hid)];unfold dR;by_cases h:k=i
  .rw[if_pos h,decide_eq_true h]
  rw[if_neg h,decide_eq_false h];exact iQ _ _
 rw[hN,hrep];refine oF (i:=i) (d:=d) (s:=s) (ty:=ty) (pos:=pos) (by rw[zP,yX (by omega)];exact hi) (fun j o ho hji=>?_) (ds.length-1+B.length) _ a w.drew (by simp) (by
   rw[yM,aAb (by simpa using hid),zI,if_pos hid];rfl) ?_
 .rcases nA hfl (by simpa using ho:(ds.map (·.o)++B)[j]?=some o) with h | h
  .exact(hji (by omega)).elim
  exact h
 rw[hev,hsetl];have hf1:ds.length-1=((List.range ds.length).filter fun k=>!((Array.replicate ds.length false).setIfInBounds i true).getD k false).length:=by
  have e:(fun k=>!((Array.replicate ds.length false).setIfInBounds i true).getD k false)=fun k=>decide (k≠i):=funext fun k=>by rw[gz];by_cases h:k=i<;>simp[h]
  rw[e];have key:∀ N,i<N->((List.range N).filter fun k=>decide (k≠i)).length=N-1:=by
   intro N
   induction N with
   | zero=>intro h;omega
   | succ N ih =>
    intro h;rw[List.range_succ,List.filter_append,zX];by_cases hi:i=N
    .subst hi;have:(List.range i).filter (fun k=>decide (k≠i))=List.range i:=aAe.2 fun k hk=>by have:=yY.1 hk;simp;omega
     rw[this];simp
    rw[ih (by omega)];have:[N].filter (fun k=>decide (k≠i))=[N]:=by simp;omega
    rw[this];simp;omega
  exact(key _ hid).symm
 have hX:∀ k∈[i],((Array.replicate ds.length false).setIfInBounds i true).getD k false=true:=fun k hk=>by rw[gz];simpa using hk
 have hoi:∀ (k:Nat) (o:Oper),(ds.map (·.o))[k]?=some o->((Array.replicate ds.length false).setIfInBounds i true).getD k false=true->∀ e∈o.after.toList,Region.binds .any e=true->((Array.replicate ds.length false).setIfInBounds i true).getD e.on false=true:=fun k o ho hk e he=>by
  rw[gz] at hk;have:k=i:=by simpa using hk
  subst this;rw[hi] at ho;cases ho;simp at he
 refine pM (P:=P) (Q:=Qn Q) (X:=[i]) (Q':=fun e a w=>match e with | .normal=>wpAny P .any (ds.map (·.o)++B).toArray (Qn Q) B.length (Array.replicate (ds.map (·.o)).length true++Array.replicate B.length false) a w | e=>Qn Q e a w)
  (A:=ds.map (·.o)) (B:=B) (by rw[hl];exact hcut) (fun e a w hne h=>by cases e<;>first | exact h | exact(hne rfl).elim) (fun a w h=>h) (ds.length-1) _ _ _ (by simp) hX hoi (by rw[hl];exact hf1) ?_
 have:=jO (P:=P) (n:=n) (L0:=L0) (W:=W) (X:=[i]) (Q:=fun e a w=>match e with | .normal=>wpAny P .any (ds.map (·.o)++B).toArray (Qn Q) B.length (Array.replicate (ds.map (·.o)).length true++Array.replicate B.length false) a w | e=>Qn Q e a w)
  hok (fun k d h _=>hO.get h) hR (fun k d t h ht=>by
   have:=yN.1 hd d (zC h);rw[ht] at this;simpa using this) (fun a ha=>by rw[hl];exact hQ a ha) (ds.length-1) ((Array.replicate ds.length false).setIfInBounds i true) (a.put (some d) v) (by simp) hX (fun k d h hk e he=>hoi k d.o (by rw[aAn,h];rfl) hk e he)
  (by
   rw[show(fun k=>((Array.replicate ds.length false).setIfInBounds i true).getD k false)=fun k=>decide (k=i) from funext gz,henv];exact ha.put _ (fun t ht=>by cases ht;exact hdn) _)
  hf1
 rw[show(fun k=>((Array.replicate ds.length false).setIfInBounds i true).getD k false)=fun k=>decide (k=i) from funext gz,hc0,h0] at this;exact this
end
def fU (a0:Sl) (w:World):Option (Bool×World) :=
 aE (bA a0 w) fun v1 w2 =>
 some (v1,w2)
theorem kW {a0 w w' r0} (h:fU a0 w=some (r0,w')):Calls Try.prog 69 #[(Sl.v a0)] w fun e w''=>e=.returned (.bool r0)/\w''=w':=by
 refine aD (n:=5) Try.func69 rfl Try.ntmps69 (by simp) fun a u=>?_;unfold fU at h;refine wp_seq<|aA<|qa u rfl fun a u=>aC<|t_n<|wp_seq<|aA<|qm u rfl fun a u=>?_;have⟨v1,w2,e3,h⟩:=bs2 h;refine q u (eG (xs:=[_,_]) (vs:=[(Sl.v a0),(.func (.func 71) #[] #[])]) u ⟨rfl,rfl,aAP⟩ Try.call70 (dW e3)) fun a u=>qa u rfl fun a u=>aC<|t_n<|wp_ret<|?_;have y:=u;cases h;exact aY Try.results69 y rfl ⟨rfl,rfl⟩
noncomputable def aN (a0:Sl) (x1:Int) (w2:World):Option ((Int×World)⊕((World)⊕(Int×World))) :=
 if (decide (x1<(a0.n:Int)))=true then
 ((ix a0 x1 1).bind fun p12 =>
 (ldL w2 p12).bind fun v14 =>
 aE (fU v14 w2) fun v16 w17 =>
 if v16=true then
 (some (.inr (.inr (x1,w17))))
 else
 (some (.inl ((IntKind.wrap .i64 (x1+1)),w17))))
 else
 (some (.inr (.inl w2)))
noncomputable def bL (a0:Sl) (w:World):Option (Int×World) :=
 (bU (fun s:Int×World=>aN a0 s.1 s.2) (0,w)).bind fun r3=>Sum.elim (fun (i:World)=>u1 i fun w5 =>
 some ((-1),w5)) (fun (i:Int×World)=>u2 i fun v6 w7 =>
 some (v6,w7)) r3
theorem eO {a0 w w' r0} (h:bL a0 w=some (r0,w')):Calls Try.prog 40 #[(Sl.v a0),(.func (.func 69) #[] #[])] w fun e w''=>e=.returned (.int .i64 r0)/\w''=w':=by
 refine aD (n:=19) Try.func40 rfl Try.ntmps40 (by simp) fun a u=>?_;unfold bL at h;refine wp_seq<|aA<|qa u rfl fun a u=>aC<|t_n<|wp_seq<|wp_seq<|aA<|qm u rfl fun a u=>q u (cI u rfl wT) fun a u=>qm u rfl fun a u=>aC<|t_n<|wp_block<|?_;have⟨r3,e4,h⟩:=bs1 h;refine dN (n:=19) (L1:=fun i=>[]) (w1:=fun i=>i) (L2:=fun i=>[(4,(iV i.1))]) (w2:=fun i=>i.2) (e1:=.exit 0) (e2:=.ret) (I:=fun (s:Int×World) a w=>Has 19 [(8,(iV s.1)),(0,(Sl.v a0)),(1,(.func (.func 69) #[] #[])),(7,(iV (a0.n:Int)))] a/\w=s.2) ⟨u.sub ⟨rfl,rfl,rfl,rfl,aAP⟩,rfl⟩ e4 (fun i hi a u=>?_) (fun i hi a u=>?_) (fun hk8 hk9=>?_)
 .subst hi;obtain⟨w5,rfl⟩:∃ x,x=i:=⟨i,rfl⟩;dsimp only[Sum.elim_inl,Sum.elim_inr,u1,u2,u3,u4,u5,u6] at h;have u:Has 19 [] a:=u;refine fD<|t_n<|wp_seq<|aA<|qa u rfl fun a u=>aC<|t_n<|wp_ret<|?_;have y:=u;cases h;exact aY Try.results40 y rfl ⟨rfl,rfl⟩
 .subst hi;obtain⟨v6,w7⟩:=i;dsimp only[Sum.elim_inl,Sum.elim_inr,u1,u2,u3,u4,u5,u6] at h;have u:Has 19 [(4,(iV v6))] a:=u;refine b_r<|t_r<|?_;have y:=u;cases h;exact aY Try.results40 y rfl ⟨rfl,rfl⟩
 clear h;rintro⟨x1,w2⟩ a wq o ⟨u,hwq⟩ h hr10;obtain rfl:w2=wq:=hwq.symm;have u:Has 19 [(8,(iV x1)),(0,(Sl.v a0)),(1,(.func (.func 69) #[] #[])),(7,(iV (a0.n:Int)))] a:=u;have h:aN a0 x1 w2=some o:=h;unfold aN at h;refine wp_seq<|aA<|q u (gG u rfl rfl) fun a u=>aC<|t_n<|wp_seq<|?_;refine aF u rfl h (fun b11 h=>?_) (fun b11 h=>?_)
 .refine wp_skip<|t_n<|wp_seq<|wp_block<|wp_seq<|aA<|qm u rfl fun a u=>qa u rfl fun a u=>aC<|t_n<|wp_seq<|aA<|qm u rfl fun a u=>qm u rfl fun a u=>qm u rfl fun a u=>?_;have⟨p12,e13,h⟩:=bs1 h;refine q u (eY u rfl rfl wT xL e13) fun a u=>?_;have⟨v14,e15,h⟩:=bs1 h;refine q u (aG u rfl xU (bW e15)) fun a u=>?_;have⟨v16,w17,e18,h⟩:=bs2 h;refine q u (dV (xs:=[_]) (vs:=[(Sl.v v14)]) (cv:=[]) u rfl ⟨rfl,aAP⟩ Try.call69 (kW e18)) fun a u=>aC<|t_n<|?_;refine aF u rfl h (fun b19 h=>?_) (fun b19 h=>?_)
  .refine wp_seq<|aA<|qm u rfl fun a u=>qa u rfl fun a u=>aC<|t_n<|wp_ret<|b_r<|t_r<|?_;have y:=u;cases h;cases hr10 _ rfl;refine gR<|?_;exact hk9 _ rfl _ (y.sb rfl)
  refine wp_skip<|b_n<|t_n<|aA<|q u (dY u rfl rfl) fun a u=>qm u rfl fun a u=>aC<|?_;have y:=u;cases h;exact cZ ⟨y.sb rfl,rfl⟩
 refine wp_exit<|t_x<|?_;have y:=u;cases h;cases hr10 _ rfl;refine iL<|?_;exact hk8 _ rfl _ (y.sb rfl)
noncomputable def bG (a0:Sl) (w:World):Option (Bool×World) :=
 aE (bL a0 w) fun v1 w2 =>
 some ((decide (0<=v1)),w2)
theorem eC {a0 w w' r0} (h:bG a0 w=some (r0,w')):Calls Try.prog 22 #[(Sl.v a0),(.func (.func 69) #[] #[])] w fun e w''=>e=.returned (.bool r0)/\w''=w':=by
 refine aD (n:=9) Try.func22 rfl Try.ntmps22 (by simp) fun a u=>?_;unfold bG at h;refine wp_seq<|aA<|qa u rfl fun a u=>aC<|t_n<|wp_seq<|aA<|qm u rfl fun a u=>qm u rfl fun a u=>?_;have⟨v1,w2,e3,h⟩:=bs2 h;refine q u (eG (xs:=[_,_]) (vs:=[(Sl.v a0),(.func (.func 69) #[] #[])]) u ⟨rfl,rfl,aAP⟩ Try.call40 (eO e3)) fun a u=>q u (lW u rfl rfl) fun a u=>qa u rfl fun a u=>aC<|t_n<|wp_ret<|?_;have y:=u;cases h;exact aY Try.results22 y rfl ⟨rfl,rfl⟩
noncomputable def gE (a0:Sl) (w:World):Option (Bool×World) :=
 aE (if (decide (16<(a0.n:Int)))=true then
 (some (true,w))
 else
 (aE (bG a0 w) fun v6 w7 =>
 some (v6,w7))) fun v1 w2 =>
 some (v1,w2)
theorem jN {a0 w w' r0} (h:gE a0 w=some (r0,w')):Calls Try.prog 38 #[(Sl.v a0)] w fun e w''=>e=.returned (.bool r0)/\w''=w':=by
 refine aD (n:=10) Try.func38 rfl Try.ntmps38 (by simp) fun a u=>?_;unfold gE at h;refine wp_seq<|aA<|qa u rfl fun a u=>aC<|t_n<|wp_seq<|?_;have⟨v1,w2,e3,h⟩:=bs2 h;refine bY (n:=10) (L:=[(2,(bV v1))]) (w':=w2) (fun a u=>?_) (fun hk4=>?_)
 .refine t_n<|wp_ret<|?_;have y:=u;cases h;exact aY Try.results38 y rfl ⟨rfl,rfl⟩
 clear h;have h:=e3;refine aA<|qm u rfl fun a u=>q u (cI u rfl wT) fun a u=>q u (jF u rfl rfl) fun a u=>qm u rfl fun a u=>?_;refine dG h (fun b5 h=>?_) (fun b5 h=>?_)
 .refine qn u 6 (tn b5) fun a u=>qn u 6 (tn b5) fun a u=>q u (aK u rfl b5 rfl) fun a u=>qa u rfl fun a u=>aC<|?_;have y:=u;cases h;exact hk4 _ (y.sb rfl)
 refine qg u 6 (nt b5) (aI u rfl) fun a u=>?_;have⟨v6,w7,e8,h⟩:=bs2 h;refine qg u 6 (nt b5) (eG (xs:=[_,_]) (vs:=[(Sl.v a0),(.func (.func 69) #[] #[])]) u ⟨rfl,rfl,aAP⟩ Try.call22 (eC e8)) fun a u=>q u (aM u rfl b5 rfl) fun a u=>qa u rfl fun a u=>aC<|?_;have y:=u;cases h;exact hk4 _ (y.sb rfl)
noncomputable def bP (a0:Sl) (w:World):Option (Sl×World) :=
 if (a0.p.isNone)=true then
 (some (Sl.nil,w))
 else
 (aE (bsl w 40 12 []) fun s2 w3 =>
 aE (apS Try.prog 22 s2 a0 w3) fun s5 w6 =>
 some (s5,w6))
theorem fZ {a0 w w' r0} (h:bP a0 w=some (r0,w')):Calls Try.prog 72 #[(Sl.v a0)] w fun e w''=>e=.returned (Sl.v r0)/\w''=w':=by
 refine aD (n:=8) Try.func72 rfl Try.ntmps72 (by simp) fun a u=>?_;unfold bP at h;refine wp_seq<|aA<|qa u rfl fun a u=>aC<|t_n<|wp_seq<|wp_seq<|aA<|qm u rfl fun a u=>q u (tL u rfl rfl wS) fun a u=>aC<|t_n<|?_;refine aF u rfl h (fun b1 h=>?_) (fun b1 h=>?_)
 .refine wp_seq<|aA<|qa u rfl fun a u=>aC<|t_n<|wp_ret<|t_r<|?_;have y:=u;cases h;exact aY Try.results72 y rfl ⟨rfl,rfl⟩
 refine wp_skip<|t_n<|wp_seq<|aA<|?_;have⟨s2,w3,e4,h⟩:=bs2 h;refine q u (gU (vs:=[]) (ps:=[]) u trivial trivial rfl wS wO wW (by decide) e4) fun a u=>qm u rfl fun a u=>?_;have⟨s5,w6,e7,h⟩:=bs2 h;refine q u (kJ u rfl rfl e7) fun a u=>qa u rfl fun a u=>aC<|t_n<|wp_ret<|?_;have y:=u;cases h;exact aY Try.results72 y rfl ⟨rfl,rfl⟩
noncomputable def aZ (a0:Sl) (w:World):Option (Sl×World) :=
 if (a0.p.isNone)=true then
 (some (Sl.nil,w))
 else
 (aE (bsl w 43 3 []) fun s2 w3 =>
 aE (apS Try.prog 38 s2 a0 w3) fun s5 w6 =>
 some (s5,w6))
theorem dK {a0 w w' r0} (h:aZ a0 w=some (r0,w')):Calls Try.prog 73 #[(Sl.v a0)] w fun e w''=>e=.returned (Sl.v r0)/\w''=w':=by
 refine aD (n:=8) Try.func73 rfl Try.ntmps73 (by simp) fun a u=>?_;unfold aZ at h;refine wp_seq<|aA<|qa u rfl fun a u=>aC<|t_n<|wp_seq<|wp_seq<|aA<|qm u rfl fun a u=>q u (tL u rfl rfl wV) fun a u=>aC<|t_n<|?_;refine aF u rfl h (fun b1 h=>?_) (fun b1 h=>?_)
 .refine wp_seq<|aA<|qa u rfl fun a u=>aC<|t_n<|wp_ret<|t_r<|?_;have y:=u;cases h;exact aY Try.results73 y rfl ⟨rfl,rfl⟩
 refine wp_skip<|t_n<|wp_seq<|aA<|?_;have⟨s2,w3,e4,h⟩:=bs2 h;refine q u (gU (vs:=[]) (ps:=[]) u trivial trivial rfl wV xA yK (by decide) e4) fun a u=>qm u rfl fun a u=>?_;have⟨s5,w6,e7,h⟩:=bs2 h;refine q u (kJ u rfl rfl e7) fun a u=>qa u rfl fun a u=>aC<|t_n<|wp_ret<|?_;have y:=u;cases h;exact aY Try.results73 y rfl ⟨rfl,rfl⟩
noncomputable def cS (v25:Sl) (s1:Sl) (x4:Int) (x27:Int) (w28:World):Option ((Int×World)⊕(World)) :=
 if (decide (x27<(v25.n:Int)))=true then
 ((dr w28).bind fun w35 =>
 (ix s1 x4 1).bind fun p37 =>
 (ldL w35 p37).bind fun v39 =>
 (ix s1 x4 1).bind fun p41 =>
 (ldL w35 p41).bind fun v43 =>
 (ix s1 x4 1).bind fun p45 =>
 (ldL w35 p45).bind fun v47 =>
 (ix v47 x27 12).bind fun p49 =>
 (ldL w35 (p49.add 10)).bind fun v51 =>
 aE (aZ v51 w35) fun v53 w54 =>
 (ix s1 x4 1).bind fun p56 =>
 (ldL w54 p56).bind fun v58 =>
 (ix v58 x27 12).bind fun p60 =>
 (ldL w54 (p60.add 11)).bind fun v62 =>
 aE (aZ v62 w54) fun v64 w65 =>
 (ix v39 x27 12).bind fun p67 =>
 (stV w65 (p67.add 10) (Sl.v v53)).bind fun w69 =>
 (ix v43 x27 12).bind fun p71 =>
 (stV w69 (p71.add 11) (Sl.v v64)).bind fun w73 =>
 chk (ldL w54 p37=some v39) <|
 chk (ldL w65 p37=some v39) <|
 chk (ldL w54 p41=some v43) <|
 chk (ldL w65 p41=some v43) <|
 chk (ldL w35 p56=some v58) <|
 chk (ldL w35 (p60.add 11)=some v62) <|
 some (.inl ((IntKind.wrap .i64 (x27+1)),w73)))
 else
 (some (.inr w28))
noncomputable def dA (a0:Sl) (s1:Sl) (x4:Int) (w5:World):Option ((Int×World)⊕(World)) :=
 if (decide (x4<(a0.n:Int)))=true then
 ((ix a0 x4 1).bind fun p12 =>
 (ldL w5 p12).bind fun v14 =>
 aE (bP v14 w5) fun v16 w17 =>
 (ix s1 x4 1).bind fun p19 =>
 (stV w17 p19 (Sl.v v16)).bind fun w21 =>
 (ix s1 x4 1).bind fun p23 =>
 (ldL w21 p23).bind fun v25 =>
 (bU (fun s:Int×World=>cS v25 s1 x4 s.1 s.2) (0,w21)).bind fun w31 =>
 some (.inl ((IntKind.wrap .i64 (x4+1)),w31)))
 else
 (some (.inr w5))
noncomputable def gI (a0:Sl) (w:World):Option (Sl×World) :=
 aE (mkS Try.prog 47 (a0.n:Int) (a0.n:Int) w) fun s1 w2 =>
 (bU (fun s:Int×World=>dA a0 s1 s.1 s.2) (0,w2)).bind fun w8 =>
 some (s1,w8)
theorem lJ {a0 w w' r0} (h:gI a0 w=some (r0,w')):Calls Try.prog 39 #[(Sl.v a0)] w fun e w''=>e=.returned (Sl.v r0)/\w''=w':=by
 refine aD (n:=65) Try.func39 rfl Try.ntmps39 (by simp) fun a u=>?_;unfold gI at h;refine wp_seq<|aA<|qa u rfl fun a u=>aC<|t_n<|wp_seq<|aA<|qm u rfl fun a u=>q u (cI u rfl wT) fun a u=>?_;have⟨s1,w2,e3,h⟩:=bs2 h;refine q u (vP u rfl rfl e3) fun a u=>qa u rfl fun a u=>aC<|t_n<|wp_seq<|wp_seq<|aA<|qm u rfl fun a u=>q u (cI u rfl wT) fun a u=>qm u rfl fun a u=>aC<|t_n<|wp_block<|?_;have⟨w8,e7,h⟩:=bs1 h;refine nD (n:=65) (L:=[(3,(Sl.v s1))]) (w':=w8) (e:=.exit 0) (I:=fun (s:Int×World) a w=>Has 65 [(12,(iV s.1)),(3,(Sl.v s1)),(10,(Sl.v a0)),(11,(iV (a0.n:Int)))] a/\w=s.2) ⟨u.sub ⟨rfl,rfl,rfl,rfl,aAP⟩,rfl⟩ e7 (fun a u=>?_) (fun hk9=>?_)
 .refine fD<|t_n<|wp_seq<|aA<|qm u rfl fun a u=>qa u rfl fun a u=>aC<|t_n<|wp_ret<|?_;have y:=u;cases h;exact aY Try.results39 y rfl ⟨rfl,rfl⟩
 clear h;rintro⟨x4,w5⟩ a wq o ⟨u,hwq⟩ h hr10;obtain rfl:w5=wq:=hwq.symm;have u:Has 65 [(12,(iV x4)),(3,(Sl.v s1)),(10,(Sl.v a0)),(11,(iV (a0.n:Int)))] a:=u;have h:dA a0 s1 x4 w5=some o:=h;unfold dA at h;refine wp_seq<|aA<|q u (gG u rfl rfl) fun a u=>aC<|t_n<|wp_seq<|?_;refine aF u rfl h (fun b11 h=>?_) (fun b11 h=>?_)
 .refine wp_skip<|t_n<|wp_seq<|wp_block<|wp_seq<|aA<|qm u rfl fun a u=>?_;have⟨p12,e13,h⟩:=bs1 h;refine q u (eY u rfl rfl wT xL e13) fun a u=>?_;have⟨v14,e15,h⟩:=bs1 h;refine q u (aG u rfl xU (bW e15)) fun a u=>qa u rfl fun a u=>qa u rfl fun a u=>aC<|t_n<|wp_seq<|aA<|qm u rfl fun a u=>qm u rfl fun a u=>qm u rfl fun a u=>?_;have⟨v16,w17,e18,h⟩:=bs2 h;refine q u (dc1 u rfl Try.call72 (fZ e18)) fun a u=>?_;have⟨p19,e20,h⟩:=bs1 h;refine q u (eY u rfl rfl wT xL e20) fun a u=>?_;have⟨w21,e22,h⟩:=bs1 h;refine q u (gK u rfl rfl xL e22) fun a u=>aC<|t_n<|wp_seq<|aA<|qm u rfl fun a u=>qm u rfl fun a u=>?_;have⟨p23,e24,h⟩:=bs1 h;refine q u (eY u rfl rfl wT xL e24) fun a u=>?_;have⟨v25,e26,h⟩:=bs1 h;refine q u (aG u rfl xU (bW e26)) fun a u=>q u (cI u rfl wS) fun a u=>qm u rfl fun a u=>aC<|t_n<|wp_block<|?_;have⟨w31,e30,h⟩:=bs1 h;refine nD (n:=65) (L:=[(3,(Sl.v s1)),(10,(Sl.v a0)),(11,(iV (a0.n:Int))),(12,(iV x4))]) (w':=w31) (e:=.exit 2) (I:=fun (s:Int×World) a w=>Has 65 [(27,(iV s.1)),(3,(Sl.v s1)),(4,(iV x4)),(10,(Sl.v a0)),(11,(iV (a0.n:Int))),(12,(iV x4)),(26,(iV (v25.n:Int)))] a/\w=s.2) ⟨u.sub ⟨rfl,rfl,rfl,rfl,rfl,rfl,rfl,aAP⟩,rfl⟩ e30 (fun a u=>?_) (fun hk32=>?_)
  .refine fD<|b_n<|t_n<|aA<|q u (dY u rfl rfl) fun a u=>qm u rfl fun a u=>aC<|?_;have y:=u;cases h;exact cZ ⟨y.sb rfl,rfl⟩
  clear h;rintro⟨x27,w28⟩ a wq o ⟨u,hwq⟩ h hr33;obtain rfl:w28=wq:=hwq.symm;have u:Has 65 [(27,(iV x27)),(3,(Sl.v s1)),(4,(iV x4)),(10,(Sl.v a0)),(11,(iV (a0.n:Int))),(12,(iV x4)),(26,(iV (v25.n:Int)))] a:=u;have h:cS v25 s1 x4 x27 w28=some o:=h;unfold cS at h;refine wp_seq<|aA<|q u (gG u rfl rfl) fun a u=>aC<|t_n<|wp_seq<|?_;refine aF u rfl h (fun b34 h=>?_) (fun b34 h=>?_)
  .refine wp_skip<|t_n<|wp_seq<|wp_block<|wp_seq<|aA<|qm u rfl fun a u=>qa u rfl fun a u=>aC<|t_n<|?_;have⟨w35,e36,h⟩:=bs1 h;have⟨p37,e38,h⟩:=bs1 h;have⟨v39,e40,h⟩:=bs1 h;have⟨p41,e42,h⟩:=bs1 h;have⟨v43,e44,h⟩:=bs1 h;have⟨p45,e46,h⟩:=bs1 h;have⟨v47,e48,h⟩:=bs1 h;have⟨p49,e50,h⟩:=bs1 h;have⟨v51,e52,h⟩:=bs1 h;have⟨v53,w54,e55,h⟩:=bs2 h;have⟨p56,e57,h⟩:=bs1 h;have⟨v58,e59,h⟩:=bs1 h;have⟨p60,e61,h⟩:=bs1 h;have⟨v62,e63,h⟩:=bs1 h;have⟨v64,w65,e66,h⟩:=bs2 h;have⟨p67,e68,h⟩:=bs1 h;have⟨w69,e70,h⟩:=bs1 h;have⟨p71,e72,h⟩:=bs1 h;have⟨w73,e74,h⟩:=bs1 h;obtain⟨e75,h⟩:=dC h;obtain⟨e76,h⟩:=dC h;obtain⟨e77,h⟩:=dC h;obtain⟨e78,h⟩:=dC h;obtain⟨e79,h⟩:=dC h;obtain⟨e80,h⟩:=dC h;have u:Has 65 [(3,(Sl.v s1)),(4,(iV x4)),(6,(iV x27)),(10,(Sl.v a0)),(11,(iV (a0.n:Int))),(12,(iV x4)),(26,(iV (v25.n:Int))),(27,(iV x27))] a:=u.sb rfl;refine cL (n:=65) (ds:=(aL (Sl.v s1) false 0 2 [] [(3,(Sl.v s1))]::aL (iV x4) false 0 2 [] [(4,(iV x4))]::aL (pV (some p37)) false 0 2 [0,1] [(30,(Sl.v s1)),(31,(iV x4))]::aL (Sl.v v39) false 0 2 [0,1,2] [(32,(pV (some p37)))]::aL (iV x27) false 0 2 [] [(6,(iV x27))]::aL (Sl.v s1) false 0 2 [] [(3,(Sl.v s1))]::aL (iV x4) false 0 2 [] [(4,(iV x4))]::aL (pV (some p41)) false 0 2 [5,6] [(35,(Sl.v s1)),(36,(iV x4))]::aL (Sl.v v43) false 0 2 [5,6,7] [(37,(pV (some p41)))]::aL (iV x27) false 0 3 [] [(6,(iV x27))]::eN (Sl.v s1) 0 [] 3::eN (iV x4) 0 [] 4::gL (pV (some p45)) 0 [10,11] [(40,(Sl.v s1)),(41,(iV x4))]::bJ (Sl.v v47) 0 [10,11,12] 42 (pV (some p45))::eN (iV x27) 0 [] 6::gL (pV (some p49)) 0 (rn 10 5) [(43,(Sl.v v47)),(44,(iV x27))]::bJ (pV (some (p49.add 10))) 0 (rn 10 6) 45 (pV (some p49))::bJ (Sl.v v51) 0 (rn 10 7) 46 (pV (some (p49.add 10)))::aL (Sl.v v53) true 0 0 (rn 10 8) [(47,(Sl.v v51))]::aL (Sl.v s1) false 0 1 [] [(3,(Sl.v s1))]::aL (iV x4) false 0 1 [] [(4,(iV x4))]::aL (pV (some p56)) false 0 1 [19,20] [(49,(Sl.v s1)),(50,(iV x4))]::aL (Sl.v v58) false 0 1 [19,20,21] [(51,(pV (some p56)))]::aL (iV x27) false 0 1 [] [(6,(iV x27))]::aL (pV (some p60)) false 0 1 (rn 19 5) [(52,(Sl.v v58)),(53,(iV x27))]::aL (pV (some (p60.add 11))) false 0 1 (rn 19 6) [(54,(pV (some p60)))]::aL (Sl.v v62) false 0 1 (rn 19 7) [(55,(pV (some (p60.add 11))))]::aL (Sl.v v64) true 1 1 (rn 10 17) [(56,(Sl.v v62))]::gL (pV (some p67)) 2 (rn 0 9++rn 10 18) [(33,(Sl.v v39)),(34,(iV x27))]::bJ (pV (some (p67.add 10))) 2 (rn 0 9++rn 10 19) 58 (pV (some p67))::aL (undef) true 2 2 (rn 0 9++rn 10 20) [(59,(pV (some (p67.add 10)))),(48,(Sl.v v53))]::gL (pV (some p71)) 3 (rn 0 31) [(38,(Sl.v v43)),(39,(iV x27))]::bJ (pV (some (p71.add 11))) 3 (rn 0 32) 60 (pV (some p71))::aL (undef) true 3 3 (rn 0 33) [(61,(pV (some (p71.add 11)))),(57,(Sl.v v64))]::[])) (W:=(fun j=>match j with | 0=>w35 | 1=>w54 | 2=>w65 | 3=>w69 | 4=>w73 | _=>w73)) (by kernel_rfl) u (gY e36) (by kernel_rfl) ?_ (bS (by kernel_rfl)) (by kernel_rfl) (m:=4) (by kernel_rfl) (fun a u=>?_)
   .refine⟨oa (aI · rfl),oa (aI · rfl),oa (eY · rfl rfl wT xL e38),?_,oa (aI · rfl),oa (aI · rfl),oa (aI · rfl),oa (eY · rfl rfl wT xL e42),?_,oa (aI · rfl),oa (aI · rfl),oa (aI · rfl),oa (eY · rfl rfl wT xL e46),oc 0 (kd (aG · rfl xU (bW e48))),oa (aI · rfl),oa (eY · rfl rfl wS wO e50),oa (aJ · rfl wM rfl rfl xI),oc 0 (kd (aG · rfl xY (bW e52))),oc 0 (kd (dc1 · rfl Try.call73 (dK e55))),oa (aI · rfl),oa (aI · rfl),oa (eY · rfl rfl wT xL e57),?_,oa (aI · rfl),oa (eY · rfl rfl wS wO e61),oa (aJ · rfl wM rfl rfl xI),?_,oc 1 (kd (dc1 · rfl Try.call73 (dK e66))),oa (eY · rfl rfl wS wO e68),oa (aJ · rfl wM rfl rfl xI),oc 2 (kd (gK · rfl rfl xI e70)),oa (eY · rfl rfl wS wO e72),oa (aJ · rfl wM rfl rfl xI),
     oc 3 (kd (gK · rfl rfl xI e74)),aAP⟩
    .intro j h1 h2;have h1:0<=j:=h1;have h2:j<=2:=h2;rcases(by omega:j=0\/j=1\/j=2) with rfl | rfl | rfl
     .exact kd (aG · rfl xU (bW e40))
     .exact kd (aG · rfl xU (bW e75))
     exact kd (aG · rfl xU (bW e76))
    .intro j h1 h2;have h1:0<=j:=h1;have h2:j<=2:=h2;rcases(by omega:j=0\/j=1\/j=2) with rfl | rfl | rfl
     .exact kd (aG · rfl xU (bW e44))
     .exact kd (aG · rfl xU (bW e77))
     exact kd (aG · rfl xU (bW e78))
    .intro j h1 h2;have h1:0<=j:=h1;have h2:j<=1:=h2;rcases(by omega:j=0\/j=1) with rfl | rfl
     .exact kd (aG · rfl xU (bW e79))
     exact kd (aG · rfl xU (bW e59))
    intro j h1 h2;have h1:0<=j:=h1;have h2:j<=1:=h2;rcases(by omega:j=0\/j=1) with rfl | rfl
    .exact kd (aG · rfl xY (bW e80))
    exact kd (aG · rfl xY (bW e63))
   have u:Has 65 [(3,(Sl.v s1)),(4,(iV x4)),(10,(Sl.v a0)),(11,(iV (a0.n:Int))),(12,(iV x4)),(26,(iV (v25.n:Int))),(27,(iV x27))] a:=u.sb rfl;refine b_n<|t_n<|aA<|q u (dY u rfl rfl) fun a u=>qm u rfl fun a u=>aC<|?_;have y:=u;cases h;exact cZ ⟨y.sb rfl,rfl⟩
  refine wp_exit<|t_x<|?_;have y:=u;cases h;cases hr33 _ rfl;refine iL<|?_;exact hk32 _ (y.sb rfl)
 refine wp_exit<|t_x<|?_;have y:=u;cases h;cases hr10 _ rfl;refine iL<|?_;exact hk9 _ (y.sb rfl)
noncomputable def dH (a1:Sl) (s13:Sl) (p1:Addr) (x16:Sl) (x17:Int) (w18:World):ND ((Sl×Int×World)⊕((Sl×World)⊕(Sl×Int×World))) :=
 if (decide (x17<(a1.n:Int)))=true then
 (lb1 (ix a1 x17 9) fun p30 =>
 lb1 (ldA 9 w18 p30 0) fun c32 =>
 lb2 (mk w18 57 ([.int .i64 0,.string ByteArray.empty,.int .i64 0,.int .i64 0,.int .i64 0,.string ByteArray.empty,.bool false,.complex .f64 0 0,.int .i64 0])) fun p34 w35 =>
 lb1 (stA w35 p34 0 c32) fun w37 =>
 cb2 (lb1 (ldI .i64 w37 (p34.add 0)) fun v43 =>
 if (v43==1)=true then
 (lb2 (bsl w37 70 2 [([Sl.v s13,Sl.v Sl.nil])]) fun s46 w47 =>
 lb2 (apS Try.prog 68 x16 s46 w47) fun s49 w50 =>
 bR (s49,w50))
 else
 (if (v43==2)=true then
 (lb2 (bsl w37 70 2 [([Sl.v Sl.nil,Sl.v s13])]) fun s53 w54 =>
 lb2 (apS Try.prog 68 x16 s53 w54) fun s56 w57 =>
 bR (s56,w57))
 else
 (if (v43==3)=true then
 (lb1 (dr w37) fun w60 =>
 lb1 (ldA 9 w60 p34 0) fun c62 =>
 lb1 (ldS w60 (p34.add 1)) fun v64 =>
 lb2 (fS v64 p1 w60) fun v66 w67 =>
 nck (ldA 9 w67 p34 0=some c62) <|
 cb2 (hH c62 v66 w67) fun v69 w70 =>
 lb2 (bsl w70 70 2 [v69]) fun s73 w74 =>
 lb2 (apS Try.prog 68 x16 s73 w74) fun s76 w77 =>
 bR (s76,w77))
 else
 (if (v43==4)=true then
 (lb1 (dr w37) fun w80 =>
 lb1 (ix x16 (IntKind.wrap .i64 ((x16.n:Int)-1)) 2) fun p82 =>
 lb1 (ldL w80 (p82.add 1)) fun v84 =>
 lb1 (ix x16 (IntKind.wrap .i64 ((x16.n:Int)-1)) 2) fun p86 =>
 lb1 (ldL w80 (p86.add 0)) fun v88 =>
 lb1 (ix x16 (IntKind.wrap .i64 ((x16.n:Int)-1)) 2) fun p90 =>
 lb1 (stA w80 p90 0 ([Sl.v v84,Sl.v v88])) fun w92 =>
 bR (x16,w92))
 else
 (if (v43==5)=true then
 lU
 else
 (if (v43==6)=true then
 lU
 else
 (bR (x16,w37)))))))) fun v39 w40 =>
 lb1 (ix v39 (IntKind.wrap .i64 ((v39.n:Int)-1)) 2) fun p96 =>
 lb1 (ldA 2 w40 p96 0) fun c98 =>
 lb2 (mk w40 70 ([.slice none 0 0,.slice none 0 0])) fun p100 w101 =>
 lb1 (stA w101 p100 0 c98) fun w103 =>
 cb2 (lb1 (ldL w103 (p100.add 0)) fun v109 =>
 lb2 (gE v109 w103) fun v111 w112 =>
 if v111=true then
 (bR (true,w112))
 else
 (lb1 (ldL w112 (p100.add 1)) fun v115 =>
 lb2 (gE v115 w112) fun v117 w118 =>
 bR (v117,w118))) fun v105 w106 =>
 if v105=true then
 (bR (.inr (.inr (Sl.nil,6,w106))))
 else
 (bR (.inl (v39,(IntKind.wrap .i64 (x17+1)),w106))))
 else
 (bR (.inr (.inl (x16,w18))))
noncomputable def gF (a0:Sl) (a1:Sl) (w:World):ND (Sl×Int×World) :=
 lb2 (mk w 34 ([(Sl.v a0)])) fun p1 w2 =>
 lb1 (ldL w2 p1) fun v4 =>
 lb2 (iJ v4 a1 w2) fun v6 w7 =>
 if (v6 !=0)=true then
 (bR (Sl.nil,v6,w7))
 else
 (lb2 (bsl w7 40 12 []) fun s10 w11 =>
 lb2 (bsl w11 22 1 [[(Sl.v s10)]]) fun s13 w14 =>
 cb1 (lD (fun s:Sl×Int×World=>dH a1 s13 p1 s.1 s.2.1 s.2.2) (Sl.nil,0,w14)) fun r19=>Sum.elim (fun (i:Sl×World)=>u2 i fun v21 w22 =>
 lb1 (ix v21 0 2) fun p121 =>
 lb1 (ldL w22 (p121.add 0)) fun v123 =>
 lb2 (gI v123 w22) fun v125 w126 =>
 bR (v125,0,w126)) (fun (i:Sl×Int×World)=>u3 i fun v23 v24 w25 =>
 bR (v23,v24,w25)) r19)
theorem jM {a0 a1 w Q} (h:(gF a0 a1 w).t Q):Calls Try.prog 21 #[(Sl.v a0),(Sl.v a1)] w fun e w''=>∃ i,e=.returned (.tuple #[(Sl.v i.1),(.int .i64 i.2.1)])/\Q i/\w''=i.2.2:=by
 refine aD (n:=163) Try.func21 rfl Try.ntmps21 (by simp) fun a u=>?_;unfold gF at h;refine wp_seq<|aA<|?_;obtain⟨p1,w2,e3,h⟩:=h;refine q u (dI u rfl rfl e3) fun a u=>qa u rfl fun a u=>qa u rfl fun a u=>aC<|t_n<|wp_seq<|wp_seq<|aA<|?_;obtain⟨v4,e5,h⟩:=h;refine q u (aG u rfl yL (bW e5)) fun a u=>qm u rfl fun a u=>?_;obtain⟨v6,w7,e8,h⟩:=h;refine q u (dc2 u rfl rfl Try.call31 (nI e8)) fun a u=>qa u rfl fun a u=>aC<|t_n<|wp_seq<|aA<|qm u rfl fun a u=>q u (jH u rfl rfl) fun a u=>aC<|t_n<|?_;refine bT u rfl h (fun b9 h=>?_) (fun b9 h=>?_)
 .refine wp_seq<|aA<|qm u rfl fun a u=>qa u rfl fun a u=>qa u rfl fun a u=>aC<|t_n<|wp_ret<|t_r<|?_;exact mP Try.results21 u rfl rfl ⟨(Sl.nil,v6,w7),rfl,h,rfl⟩
 refine wp_skip<|t_n<|wp_seq<|aA<|q u (jL (vs:=[(pV (some p1))]) u ⟨rfl,aAP⟩) fun a u=>qa u rfl fun a u=>aC<|t_n<|wp_seq<|aA<|?_;obtain⟨s10,w11,e12,h⟩:=h;refine q u (gU (vs:=[]) (ps:=[]) u trivial trivial rfl wS wO wW (by decide) e12) fun a u=>?_;obtain⟨s13,w14,e15,h⟩:=h;refine q u (gU (vs:=[(0,(Sl.v s10))]) (ps:=[[(Sl.v s10)]]) u ⟨rfl,rfl,aAP⟩ ⟨rfl,rfl,aAP⟩ rfl wT xL yD (by decide) e15) fun a u=>qa u rfl fun a u=>aC<|t_n<|wp_seq<|aA<|qa u rfl fun a u=>aC<|t_n<|wp_seq<|wp_seq<|aA<|qm u rfl fun a u=>q u (cI u rfl xS) fun a u=>qm u rfl fun a u=>aC<|t_n<|wp_block<|?_;refine nS (n:=163) (L1:=fun i=>[(9,(Sl.v i.1))]) (w1:=fun i=>i.2) (L2:=fun i=>[(4,(Sl.v i.1)),(5,(iV i.2.1))]) (w2:=fun i=>i.2.2) (e1:=.exit 0) (e2:=.ret) (I:=fun (s:Sl×Int×World) a w=>Has 163 [(9,(Sl.v s.1)),(25,(iV s.2.1)),(7,(.func (.func 32) #[] #[(pV (some p1))])),(8,(Sl.v s13)),(23,(Sl.v a1)),(24,(iV (a1.n:Int)))] a/\w=s.2.2) (un1 h) ⟨u.sub ⟨rfl,rfl,rfl,rfl,rfl,rfl,aAP⟩,rfl⟩ (fun i h a u=>?_) (fun i h a u=>?_) (fun hk26 hk27=>?_)
 .obtain⟨v21,w22⟩:=i
  try dsimp only[Sum.elim_inl,Sum.elim_inr,u1,u2,u3,u4,u5,u6] at h
  have u:Has 163 [(9,(Sl.v v21))] a:=u;refine fD<|t_n<|wp_seq<|aA<|qm u rfl fun a u=>?_;obtain⟨p121,e122,h⟩:=h;refine q u (eY u rfl rfl xH xW e122) fun a u=>q u (aJ u rfl xP rfl rfl xF) fun a u=>?_;obtain⟨v123,e124,h⟩:=h;refine q u (aG u rfl xM (bW e124)) fun a u=>?_;obtain⟨v125,w126,e127,h⟩:=h;refine q u (dc1 u rfl Try.call39 (lJ e127)) fun a u=>qa u rfl fun a u=>qa u rfl fun a u=>aC<|t_n<|wp_ret<|?_;exact mP Try.results21 u rfl rfl ⟨(v125,0,w126),rfl,h,rfl⟩
 .obtain⟨v23,v24,w25⟩:=i
  try dsimp only[Sum.elim_inl,Sum.elim_inr,u1,u2,u3,u4,u5,u6] at h
  have u:Has 163 [(4,(Sl.v v23)),(5,(iV v24))] a:=u;refine b_r<|t_r<|?_;exact mP Try.results21 u rfl rfl ⟨(v23,v24,w25),rfl,h,rfl⟩
 clear h;intro hX128;rintro⟨x16,x17,w18⟩ a wq ⟨u,hwq⟩ h;obtain rfl:w18=wq:=hwq.symm;have u:Has 163 [(9,(Sl.v x16)),(25,(iV x17)),(7,(.func (.func 32) #[] #[(pV (some p1))])),(8,(Sl.v s13)),(23,(Sl.v a1)),(24,(iV (a1.n:Int)))] a:=u;have h:(dH a1 s13 p1 x16 x17 w18).t _:=h;unfold dH at h;refine wp_seq<|aA<|q u (gG u rfl rfl) fun a u=>aC<|t_n<|wp_seq<|?_;refine bT u rfl h (fun b29 h=>?_) (fun b29 h=>?_)
 .refine wp_skip<|t_n<|wp_seq<|wp_block<|wp_seq<|aA<|?_;obtain⟨p30,e31,h⟩:=h;refine q u (eY u rfl rfl xS xV e31) fun a u=>?_;obtain⟨c32,e33,h⟩:=h;refine q u (bK u rfl yH xV e33) fun a u=>?_;obtain⟨p34,w35,e36,h⟩:=h;refine q u (cM yF (by kernel_rfl) e36) fun a u=>?_;obtain⟨w37,e38,h⟩:=h;refine q u (dQ u rfl rfl xV ((hT e33).1) e38) fun a u=>aC<|t_n<|wp_seq<|aA<|qm u rfl fun a u=>q u (cI u rfl xH) fun a u=>q u (jZ u rfl rfl) fun a u=>qa u rfl fun a u=>aC<|t_n<|?_;refine kX (n:=163) (ι:=Sl×World) (Lf:=fun i=>[(9,(Sl.v i.1)),(7,(.func (.func 32) #[] #[(pV (some p1))])),(8,(Sl.v s13)),(23,(Sl.v a1)),(24,(iV (a1.n:Int))),(25,(iV x17))]) (wf:=fun i=>i.2) (un2 h) (fun i h a u=>?_) (fun h hk42=>?_)
  .obtain⟨v39,w40⟩:=i;have u:Has 163 [(9,(Sl.v v39)),(7,(.func (.func 32) #[] #[(pV (some p1))])),(8,(Sl.v s13)),(23,(Sl.v a1)),(24,(iV (a1.n:Int))),(25,(iV x17))] a:=u;refine wp_seq<|aA<|qm u rfl fun a u=>qm u rfl fun a u=>q u (cI u rfl xH) fun a u=>q u (jZ u rfl rfl) fun a u=>?_;obtain⟨p96,e97,h⟩:=h;refine q u (eY u rfl rfl xH xW e97) fun a u=>?_;obtain⟨c98,e99,h⟩:=h;refine q u (bK u rfl Try.isAgg70 xW e99) fun a u=>?_;obtain⟨p100,w101,e102,h⟩:=h;refine q u (cM yA (by kernel_rfl) e102) fun a u=>?_;obtain⟨w103,e104,h⟩:=h;refine q u (dQ u rfl rfl xW ((hT e99).1) e104) fun a u=>aC<|t_n<|wp_seq<|?_;refine fL (n:=163) (ι:=Bool×World) (Lf:=fun i=>[(156,(bV i.1)),(7,(.func (.func 32) #[] #[(pV (some p1))])),(8,(Sl.v s13)),(9,(Sl.v v39)),(23,(Sl.v a1)),(24,(iV (a1.n:Int))),(25,(iV x17))]) (wf:=fun i=>i.2) (un2 h) (fun i h a u=>?_) (fun h hk108=>?_)
   .obtain⟨v105,w106⟩:=i;have u:Has 163 [(156,(bV v105)),(7,(.func (.func 32) #[] #[(pV (some p1))])),(8,(Sl.v s13)),(9,(Sl.v v39)),(23,(Sl.v a1)),(24,(iV (a1.n:Int))),(25,(iV x17))] a:=u;refine t_n<|?_;refine bT u rfl h (fun b120 h=>?_) (fun b120 h=>?_)
    .refine wp_seq<|aA<|qa u rfl fun a u=>qa u rfl fun a u=>aC<|t_n<|wp_ret<|b_r<|t_r<|t_r<|?_;exact hk27 (Sl.nil,6,w106) h _ (u.sb rfl)
    refine wp_skip<|b_n<|t_n<|aA<|q u (dY u rfl rfl) fun a u=>qm u rfl fun a u=>aC<|?_;exact⟨(v39,(IntKind.wrap .i64 (x17+1)),w106),⟨u.sb rfl,rfl⟩,h⟩
   refine aA<|q u (aJ u rfl xP rfl rfl xF) fun a u=>?_;obtain⟨v109,e110,h⟩:=h;refine q u (aG u rfl xM (bW e110)) fun a u=>?_;obtain⟨v111,w112,e113,h⟩:=h;refine q u (dc1 u rfl Try.call38 (jN e113)) fun a u=>qm u rfl fun a u=>?_;refine jI h (fun b114 h=>?_) (fun b114 h=>?_)
   .refine qn u 152 (tn b114) fun a u=>qn u 152 (tn b114) fun a u=>qn u 152 (tn b114) fun a u=>q u (aK u rfl b114 rfl) fun a u=>aC<|?_;exact hk108 (true,w112) h _ (u.sb rfl)
   refine qg u 152 (nt b114) (aJ u rfl xP rfl rfl xF) fun a u=>?_;obtain⟨v115,e116,h⟩:=h;refine qg u 152 (nt b114) (aG u rfl xM (bW e116)) fun a u=>?_;obtain⟨v117,w118,e119,h⟩:=h;refine qg u 152 (nt b114) (dc1 u rfl Try.call38 (jN e119)) fun a u=>q u (aM u rfl b114 rfl) fun a u=>aC<|?_;exact hk108 (v117,w118) h _ (u.sb rfl)
  refine wp_seq<|aA<|q u (aJ u rfl wN rfl rfl Try.sizeOf51) fun a u=>?_;obtain⟨v43,e44,h⟩:=h;refine q u (aG u rfl Try.isAgg51 (aO e44)) fun a u=>aC<|t_n<|wp_block<|wp_seq<|aA<|q u (cC u rfl rfl) fun a u=>qa u rfl fun a u=>aC<|t_n<|?_;refine bT u rfl h (fun b45 h=>?_) (fun b45 h=>?_)
  .refine aA<|qm u rfl fun a u=>qm u rfl fun a u=>q u (fN (vs:=[(0,(Sl.v s13)),(1,(Sl.v Sl.nil))]) (pl:=#[(0,1),(1,1)]) (cs:=([Sl.v s13,Sl.v Sl.nil])) u ⟨rfl,rfl,rfl,rfl,aAP⟩ yA xP (by intro w;kernel_rfl) (by kernel_rfl)) fun a u=>?_;obtain⟨s46,w47,e48,h⟩:=h;refine q u (gU (vs:=[(0,(.agg (List.toArray ([Sl.v s13,Sl.v Sl.nil]))))]) (ps:=[([Sl.v s13,Sl.v Sl.nil])]) u ⟨rfl,rfl,aAP⟩ ⟨rfl,rfl,aAP⟩ rfl xH xW yA (by decide) e48) fun a u=>?_;obtain⟨s49,w50,e51,h⟩:=h;refine q u (kJ u rfl rfl e51) fun a u=>qa u rfl fun a u=>aC<|b_n<|?_;exact hk42 (s49,w50) h _ (u.sb rfl)
  refine wp_seq<|aA<|q u (cC u rfl rfl) fun a u=>qa u rfl fun a u=>aC<|t_n<|?_;refine bT u rfl h (fun b52 h=>?_) (fun b52 h=>?_)
  .refine aA<|qm u rfl fun a u=>qm u rfl fun a u=>q u (fN (vs:=[(0,(Sl.v Sl.nil)),(1,(Sl.v s13))]) (pl:=#[(0,1),(1,1)]) (cs:=([Sl.v Sl.nil,Sl.v s13])) u ⟨rfl,rfl,rfl,rfl,aAP⟩ yA xP (by intro w;kernel_rfl) (by kernel_rfl)) fun a u=>?_;obtain⟨s53,w54,e55,h⟩:=h;refine q u (gU (vs:=[(0,(.agg (List.toArray ([Sl.v Sl.nil,Sl.v s13]))))]) (ps:=[([Sl.v Sl.nil,Sl.v s13])]) u ⟨rfl,rfl,aAP⟩ ⟨rfl,rfl,aAP⟩ rfl xH xW yA (by decide) e55) fun a u=>?_;obtain⟨s56,w57,e58,h⟩:=h;refine q u (kJ u rfl rfl e58) fun a u=>qa u rfl fun a u=>aC<|b_n<|?_;exact hk42 (s56,w57) h _ (u.sb rfl)
  refine wp_seq<|aA<|q u (cC u rfl rfl) fun a u=>qa u rfl fun a u=>aC<|t_n<|?_;refine bT u rfl h (fun b59 h=>?_) (fun b59 h=>?_)
  .obtain⟨w60,e61,h⟩:=h;obtain⟨c62,e63,h⟩:=h;obtain⟨v64,e65,h⟩:=h;obtain⟨v66,w67,e68,h⟩:=h;obtain⟨e72,h⟩:=h;have u:Has 163 [(7,(.func (.func 32) #[] #[(pV (some p1))])),(8,(Sl.v s13)),(9,(Sl.v x16)),(11,(pV (some p34))),(12,(iV (IntKind.wrap .i64 ((x16.n:Int)-1)))),(23,(Sl.v a1)),(24,(iV (a1.n:Int))),(25,(iV x17)),(33,(iV v43)),(48,(bV (v43==3)))] a:=u.sb rfl;refine oA (n:=163) (i:=0) (d:=50) (s:=9) (v:=(Sl.v x16)) (ds:=(aL (Sl.v x16) false 0 1 [] [(9,(Sl.v x16))]::aL (.agg (List.toArray c62)) false 0 1 [] [(11,(pV (some p34)))]::eN (.func (.func 32) #[] #[(pV (some p1))]) 0 [] 7::bJ (pV (some (p34.add 1))) 0 [] 11 (pV (some p34))::bJ (.string v64) 0 [3] 53 (pV (some (p34.add 1)))::aL (iV v66) true 0 0 [2,3,4] [(52,(.func (.func 32) #[] #[(pV (some p1))])),(54,(.string v64))]::[])) (B:=(_::_::_::_::[])) (W:=(fun j=>match j with | 0=>w60 | 1=>w67 | _=>w67)) (m:=1) (by kernel_rfl) u (gY e61) rfl ?_ rfl (by decide) (by kernel_rfl) (by kernel_rfl) (by kernel_rfl) (by kernel_rfl) ?_ (bS (by kernel_rfl)) (by kernel_rfl) (by kernel_rfl) (fun a u=>?_)
   .exact⟨.inl rfl,.inr (.inl ⟨rfl,by simp,by simp,fun a v=>by simp[execOp,resolve,jQ,lR,mC]⟩),.inr (.inl ⟨rfl,by simp,by simp,fun a v=>by simp[execOp,resolve,jQ,lR,mC]⟩),.inr (.inl ⟨rfl,by simp,by simp,fun a v=>by simp[execOp,resolve,jQ,lR,mC]⟩),.inr (.inl ⟨rfl,by simp,by simp,fun a v=>by simp[execOp,resolve,jQ,lR,mC]⟩),.inr (.inl ⟨rfl,by simp,by simp,fun a v=>by simp[execOp,resolve,jQ,lR,mC]⟩),.inr (.inl ⟨rfl,by simp,by simp,fun a v=>by simp[execOp,resolve,jQ,lR,mC]⟩),.inr (.inl ⟨rfl,by simp,by simp,fun a v=>by simp[execOp,resolve,jQ,lR,mC]⟩),.inr (.inr (by kernel_rfl)),.inr (.inr (by kernel_rfl)),aAP⟩
   .refine⟨oa (aI · rfl),?_,oa (aI · rfl),oa (aJ · rfl wN rfl rfl wR),oc 0 (kd (aG · rfl wU (cH e65))),oc 0 (kd (dV (xs:=[_]) (vs:=[(.string v64)]) (cv:=[(pV (some p1))]) · rfl ⟨rfl,aAP⟩ Try.call32 (lA e68))),aAP⟩;intro j h1 h2;have h1:0<=j:=h1;have h2:j<=1:=h2;rcases(by omega:j=0\/j=1) with rfl | rfl
    .exact kd (bK · rfl yH xV e63)
    exact kd (bK · rfl yH xV e72)
   have u:Has 163 [(55,(iV v66)),(54,(.string v64)),(53,(pV (some (p34.add 1)))),(52,(.func (.func 32) #[] #[(pV (some p1))])),(51,(.agg (List.toArray c62))),(50,(Sl.v x16)),(7,(.func (.func 32) #[] #[(pV (some p1))])),(8,(Sl.v s13)),(9,(Sl.v x16)),(11,(pV (some p34))),(12,(iV (IntKind.wrap .i64 ((x16.n:Int)-1)))),(23,(Sl.v a1)),(24,(iV (a1.n:Int))),(25,(iV x17)),(33,(iV v43)),(48,(bV (v43==3)))] a:=u.sb rfl;refine sO (p:=6) (by kernel_rfl)<|?_;refine rF (ι:=(List Value)×World) (pk:=fun i=>(.agg (List.toArray i.1))) (wf:=fun i=>i.2) (xs:=[_,_]) (vs:=[(.agg (List.toArray c62)),(iV v66)]) rfl (.inl rfl) u ⟨rfl,rfl,aAP⟩ Try.call35 (mN (un2 h)) (fun i h a u=>?_);obtain⟨v69,w70⟩:=i;obtain⟨s73,w74,e75,h⟩:=h;obtain⟨s76,w77,e78,h⟩:=h;refine nT (n:=163) (L0:=[(7,(.func (.func 32) #[] #[(pV (some p1))])),(8,(Sl.v s13)),(9,(Sl.v x16)),(11,(pV (some p34))),(12,(iV (IntKind.wrap .i64 ((x16.n:Int)-1)))),(23,(Sl.v a1)),(24,(iV (a1.n:Int))),(25,(iV x17)),(33,(iV v43)),(48,(bV (v43==3)))]) (ds:=(aL (Sl.v x16) false 0 10 [] [(9,(Sl.v x16))]::aL (.agg (List.toArray c62)) false 0 10 [] [(11,(pV (some p34)))]::aL (.func (.func 32) #[] #[(pV (some p1))]) false 0 10 [] [(7,(.func (.func 32) #[] #[(pV (some p1))]))]::aL (pV (some (p34.add 1))) false 0 10 [] [(11,(pV (some p34)))]::aL (.string v64) false 0 10 [3] [(53,(pV (some (p34.add 1))))]::aL (iV v66) false 0 10 [2,3,4] [(52,(.func (.func 32) #[] #[(pV (some p1))])),(54,(.string v64))]::aL (.agg (List.toArray v69)) false 0 10 (rn 1 5) [(51,(.agg (List.toArray c62))),(55,(iV v66))]::aL (Sl.v s73) true 0 0 (rn 1 6) [(56,(.agg (List.toArray v69)))]::aL (Sl.v s76) true 1 1 (rn 0 8) [(50,(Sl.v x16)),(57,(Sl.v s73))]::eN (Sl.v s76) 2 (rn 0 9) 58::[])) (W:=(fun j=>match j with | 0=>w70 | 1=>w74 | 2=>w77 | _=>w77)) (p:=7) (q:=3) (m:=2) (by kernel_rfl) (by kernel_rfl) (by kernel_rfl) (by kernel_rfl) (by kernel_rfl) ?_ (bS (by kernel_rfl)) (by kernel_rfl) (by kernel_rfl) (u.sub ⟨rfl,rfl,rfl,rfl,rfl,rfl,rfl,rfl,rfl,rfl,rfl,rfl,rfl,rfl,rfl,rfl,rfl,aAP⟩) (fun a u=>?_)
   .refine rC (p:=7)<|?_;exact⟨oc 0 (kd (gU (vs:=[(0,(.agg (List.toArray v69)))]) (ps:=[v69]) · ⟨rfl,rfl,aAP⟩ ⟨rfl,rfl,aAP⟩ rfl xH xW yA (by decide) e75)),oc 1 (kd (kJ · rfl rfl e78)),oa (fW · rfl),aAP⟩
   refine wI<|?_;have u:Has 163 [(7,(.func (.func 32) #[] #[(pV (some p1))])),(8,(Sl.v s13)),(9,(Sl.v s76)),(23,(Sl.v a1)),(24,(iV (a1.n:Int))),(25,(iV x17))] a:=u.sb rfl;refine b_n<|?_;exact hk42 (s76,w77) h _ (u.sb rfl)
  refine wp_seq<|aA<|q u (cC u rfl rfl) fun a u=>qa u rfl fun a u=>aC<|t_n<|?_;refine bT u rfl h (fun b79 h=>?_) (fun b79 h=>?_)
  .obtain⟨w80,e81,h⟩:=h;obtain⟨p82,e83,h⟩:=h;obtain⟨v84,e85,h⟩:=h;obtain⟨p86,e87,h⟩:=h;obtain⟨v88,e89,h⟩:=h;obtain⟨p90,e91,h⟩:=h;obtain⟨w92,e93,h⟩:=h;have u:Has 163 [(7,(.func (.func 32) #[] #[(pV (some p1))])),(8,(Sl.v s13)),(9,(Sl.v x16)),(12,(iV (IntKind.wrap .i64 ((x16.n:Int)-1)))),(23,(Sl.v a1)),(24,(iV (a1.n:Int))),(25,(iV x17)),(33,(iV v43)),(59,(bV (v43==4)))] a:=u.sb rfl;refine cL (n:=163) (ds:=(eN (Sl.v x16) 0 [] 9::eN (iV (IntKind.wrap .i64 ((x16.n:Int)-1))) 0 [] 12::eN (Sl.v x16) 0 [] 9::eN (iV (IntKind.wrap .i64 ((x16.n:Int)-1))) 0 [] 12::gL (pV (some p82)) 0 [2,3] [(63,(Sl.v x16)),(64,(iV (IntKind.wrap .i64 ((x16.n:Int)-1))))]::bJ (pV (some (p82.add 1))) 0 [2,3,4] 65 (pV (some p82))::bJ (Sl.v v84) 0 (rn 2 4) 66 (pV (some (p82.add 1)))::eN (Sl.v x16) 0 [] 9::eN (iV (IntKind.wrap .i64 ((x16.n:Int)-1))) 0 [] 12::gL (pV (some p86)) 0 [7,8] [(68,(Sl.v x16)),(69,(iV (IntKind.wrap .i64 ((x16.n:Int)-1))))]::bJ (pV (some (p86.add 0))) 0 [7,8,9] 70 (pV (some p86))::bJ (Sl.v v88) 0 (rn 7 4) 71 (pV (some (p86.add 0)))::gL (.agg (List.toArray ([Sl.v v84,Sl.v v88]))) 0 (rn 2 10) [(67,(Sl.v v84)),(72,(Sl.v v88))]::gL (pV (some p90)) 0 (rn 0 13) [(61,(Sl.v x16)),(62,(iV (IntKind.wrap .i64 ((x16.n:Int)-1))))]::aL (undef) true 0 0 (rn 0 14) [(74,(pV (some p90))),(73,(.agg (List.toArray ([Sl.v v84,Sl.v v88]))))]::[])) (W:=(fun j=>match j with | 0=>w80 | 1=>w92 | _=>w92)) (by kernel_rfl) u (gY e81) (by kernel_rfl) ?_ (bS (by kernel_rfl)) (by kernel_rfl) (m:=1) (by kernel_rfl) (fun a u=>?_)
   .exact⟨oa (aI · rfl),oa (aI · rfl),oa (aI · rfl),oa (aI · rfl),oa (eY · rfl rfl xH xW e83),oa (aJ · rfl xP rfl rfl xF),oc 0 (kd (aG · rfl xM (bW e85))),oa (aI · rfl),oa (aI · rfl),oa (eY · rfl rfl xH xW e87),oa (aJ · rfl xP rfl rfl xF),oc 0 (kd (aG · rfl xM (bW e89))),oa (fN (vs:=[(0,(Sl.v v84)),(1,(Sl.v v88))]) (pl:=#[(0,1),(1,1)]) (cs:=([Sl.v v84,Sl.v v88])) · ⟨rfl,rfl,rfl,rfl,aAP⟩ yA xP (by intro w;kernel_rfl) (by kernel_rfl)),oa (eY · rfl rfl xH xW e91),oc 0 (kd (dQ · rfl rfl xW rfl e93)),aAP⟩
   have u:Has 163 [(7,(.func (.func 32) #[] #[(pV (some p1))])),(8,(Sl.v s13)),(9,(Sl.v x16)),(23,(Sl.v a1)),(24,(iV (a1.n:Int))),(25,(iV x17))] a:=u.sb rfl;refine b_n<|?_;exact hk42 (x16,w92) h _ (u.sb rfl)
  refine wp_seq<|aA<|q u (cC u rfl rfl) fun a u=>qa u rfl fun a u=>aC<|t_n<|?_;refine bT u rfl h (fun b94 h=>?_) (fun b94 h=>?_)
  .refine wp_seq<|?_;exact(show False from h).elim
  refine wp_seq<|aA<|q u (cC u rfl rfl) fun a u=>qa u rfl fun a u=>aC<|t_n<|?_;refine bT u rfl h (fun b95 h=>?_) (fun b95 h=>?_)
  .refine wp_seq<|?_;exact(show False from h).elim
  refine wp_skip<|b_n<|?_;exact hk42 (x16,w37) h _ (u.sb rfl)
 refine wp_exit<|t_x<|t_x<|?_;exact hk26 (x16,w18) h _ (u.sb rfl)
noncomputable def gJ (a0:Sl) (a1:Addr) (w:World):Option (Bool×World) :=
 (ldL w a1).bind fun v1 =>
 aE (fO v1 a0 w) fun v3 w4 =>
 some (v3,w4)
theorem kK {a0 a1 w w' r0} (h:gJ a0 a1 w=some (r0,w')):Calls Try.prog 23 #[(Sl.v a0),(.pointer (some a1))] w fun e w''=>e=.returned (.bool r0)/\w''=w':=by
 refine aD (n:=7) Try.func23 rfl Try.ntmps23 (by simp) fun a u=>?_;unfold gJ at h;refine wp_seq<|aA<|qa u rfl fun a u=>aC<|t_n<|wp_seq<|aA<|?_;have⟨v1,e2,h⟩:=bs1 h;refine q u (aG u rfl xU (bW e2)) fun a u=>qm u rfl fun a u=>?_;have⟨v3,w4,e5,h⟩:=bs2 h;refine q u (dc2 u rfl rfl Try.call19 (jA e5)) fun a u=>qa u rfl fun a u=>aC<|t_n<|wp_ret<|?_;have y:=u;cases h;exact aY Try.results23 y rfl ⟨rfl,rfl⟩
noncomputable def aH (a0:Sl) (a1_0:Addr) (x1:Int) (w2:World):Option ((Int×World)⊕((World)⊕(Int×World))) :=
 if (decide (x1<(a0.n:Int)))=true then
 ((ix a0 x1 1).bind fun p12 =>
 (ldL w2 p12).bind fun v14 =>
 aE (gJ v14 a1_0 w2) fun v16 w17 =>
 if v16=true then
 (some (.inr (.inr (x1,w17))))
 else
 (some (.inl ((IntKind.wrap .i64 (x1+1)),w17))))
 else
 (some (.inr (.inl w2)))
noncomputable def bM (a0:Sl) (a1_0:Addr) (w:World):Option (Int×World) :=
 (bU (fun s:Int×World=>aH a0 a1_0 s.1 s.2) (0,w)).bind fun r3=>Sum.elim (fun (i:World)=>u1 i fun w5 =>
 some ((-1),w5)) (fun (i:Int×World)=>u2 i fun v6 w7 =>
 some (v6,w7)) r3
theorem eL {a0 a1_0 w w' r0} (h:bM a0 a1_0 w=some (r0,w')):Calls Try.prog 40 #[(Sl.v a0),(.func (.func 23) #[] #[(.pointer (some a1_0))])] w fun e w''=>e=.returned (.int .i64 r0)/\w''=w':=by
 refine aD (n:=19) Try.func40 rfl Try.ntmps40 (by simp) fun a u=>?_;unfold bM at h;refine wp_seq<|aA<|qa u rfl fun a u=>aC<|t_n<|wp_seq<|wp_seq<|aA<|qm u rfl fun a u=>q u (cI u rfl wT) fun a u=>qm u rfl fun a u=>aC<|t_n<|wp_block<|?_;have⟨r3,e4,h⟩:=bs1 h;refine dN (n:=19) (L1:=fun i=>[]) (w1:=fun i=>i) (L2:=fun i=>[(4,(iV i.1))]) (w2:=fun i=>i.2) (e1:=.exit 0) (e2:=.ret) (I:=fun (s:Int×World) a w=>Has 19 [(8,(iV s.1)),(0,(Sl.v a0)),(1,(.func (.func 23) #[] #[(pV (some a1_0))])),(7,(iV (a0.n:Int)))] a/\w=s.2) ⟨u.sub ⟨rfl,rfl,rfl,rfl,aAP⟩,rfl⟩ e4 (fun i hi a u=>?_) (fun i hi a u=>?_) (fun hk8 hk9=>?_)
 .subst hi;obtain⟨w5,rfl⟩:∃ x,x=i:=⟨i,rfl⟩;dsimp only[Sum.elim_inl,Sum.elim_inr,u1,u2,u3,u4,u5,u6] at h;have u:Has 19 [] a:=u;refine fD<|t_n<|wp_seq<|aA<|qa u rfl fun a u=>aC<|t_n<|wp_ret<|?_;have y:=u;cases h;exact aY Try.results40 y rfl ⟨rfl,rfl⟩
 .subst hi;obtain⟨v6,w7⟩:=i;dsimp only[Sum.elim_inl,Sum.elim_inr,u1,u2,u3,u4,u5,u6] at h;have u:Has 19 [(4,(iV v6))] a:=u;refine b_r<|t_r<|?_;have y:=u;cases h;exact aY Try.results40 y rfl ⟨rfl,rfl⟩
 clear h;rintro⟨x1,w2⟩ a wq o ⟨u,hwq⟩ h hr10;obtain rfl:w2=wq:=hwq.symm;have u:Has 19 [(8,(iV x1)),(0,(Sl.v a0)),(1,(.func (.func 23) #[] #[(pV (some a1_0))])),(7,(iV (a0.n:Int)))] a:=u;have h:aH a0 a1_0 x1 w2=some o:=h;unfold aH at h;refine wp_seq<|aA<|q u (gG u rfl rfl) fun a u=>aC<|t_n<|wp_seq<|?_;refine aF u rfl h (fun b11 h=>?_) (fun b11 h=>?_)
 .refine wp_skip<|t_n<|wp_seq<|wp_block<|wp_seq<|aA<|qm u rfl fun a u=>qa u rfl fun a u=>aC<|t_n<|wp_seq<|aA<|qm u rfl fun a u=>qm u rfl fun a u=>qm u rfl fun a u=>?_;have⟨p12,e13,h⟩:=bs1 h;refine q u (eY u rfl rfl wT xL e13) fun a u=>?_;have⟨v14,e15,h⟩:=bs1 h;refine q u (aG u rfl xU (bW e15)) fun a u=>?_;have⟨v16,w17,e18,h⟩:=bs2 h;refine q u (dV (xs:=[_]) (vs:=[(Sl.v v14)]) (cv:=[(pV (some a1_0))]) u rfl ⟨rfl,aAP⟩ Try.call23 (kK e18)) fun a u=>aC<|t_n<|?_;refine aF u rfl h (fun b19 h=>?_) (fun b19 h=>?_)
  .refine wp_seq<|aA<|qm u rfl fun a u=>qa u rfl fun a u=>aC<|t_n<|wp_ret<|b_r<|t_r<|?_;have y:=u;cases h;cases hr10 _ rfl;refine gR<|?_;exact hk9 _ rfl _ (y.sb rfl)
  refine wp_skip<|b_n<|t_n<|aA<|q u (dY u rfl rfl) fun a u=>qm u rfl fun a u=>aC<|?_;have y:=u;cases h;exact cZ ⟨y.sb rfl,rfl⟩
 refine wp_exit<|t_x<|?_;have y:=u;cases h;cases hr10 _ rfl;refine iL<|?_;exact hk8 _ rfl _ (y.sb rfl)
noncomputable def aV (a0:Sl) (a1_0:Addr) (w:World):Option (Bool×World) :=
 aE (bM a0 a1_0 w) fun v1 w2 =>
 some ((decide (0<=v1)),w2)
theorem eE {a0 a1_0 w w' r0} (h:aV a0 a1_0 w=some (r0,w')):Calls Try.prog 22 #[(Sl.v a0),(.func (.func 23) #[] #[(.pointer (some a1_0))])] w fun e w''=>e=.returned (.bool r0)/\w''=w':=by
 refine aD (n:=9) Try.func22 rfl Try.ntmps22 (by simp) fun a u=>?_;unfold aV at h;refine wp_seq<|aA<|qa u rfl fun a u=>aC<|t_n<|wp_seq<|aA<|qm u rfl fun a u=>qm u rfl fun a u=>?_;have⟨v1,w2,e3,h⟩:=bs2 h;refine q u (eG (xs:=[_,_]) (vs:=[(Sl.v a0),(.func (.func 23) #[] #[(pV (some a1_0))])]) u ⟨rfl,rfl,aAP⟩ Try.call40 (eL e3)) fun a u=>q u (lW u rfl rfl) fun a u=>qa u rfl fun a u=>aC<|t_n<|wp_ret<|?_;have y:=u;cases h;exact aY Try.results22 y rfl ⟨rfl,rfl⟩
noncomputable def dB (v6:Sl) (v1:Sl) (x11:Int) (w12:World):ND ((Int×World)⊕((World)⊕(Bool×Int×World))) :=
 if (decide (x11<(v6.n:Int)))=true then
 (lb1 (ix v6 x11 1) fun p23 =>
 lb1 (ldL w12 p23) fun v25 =>
 lb2 (mk w12 22 ([.slice none 0 0])) fun p27 w28 =>
 lb1 (stV w28 p27 (Sl.v v25)) fun w30 =>
 lb2 (aV v1 p27 w30) fun v32 w33 =>
 if (!v32)=true then
 (bR (.inr (.inr (false,0,w33))))
 else
 (bR (.inl ((IntKind.wrap .i64 (x11+1)),w33))))
 else
 (bR (.inr (.inl w12)))
noncomputable def fK (a0:Sl) (a1:Sl) (a2:Sl) (w:World):ND (Bool×Int×World) :=
 cb3 (gF a0 a1 w) fun v1 v2 w3 =>
 if (v2 !=0)=true then
 (bR (false,v2,w3))
 else
 (cb3 (gF a0 a2 w3) fun v6 v7 w8 =>
 if (v7 !=0)=true then
 (bR (false,v7,w8))
 else
 (cb1 (lD (fun s:Int×World=>dB v6 v1 s.1 s.2) (0,w8)) fun r13=>Sum.elim (fun (i:World)=>u1 i fun w15 =>
 bR (true,0,w15)) (fun (i:Bool×Int×World)=>u3 i fun v16 v17 w18 =>
 bR (v16,v17,w18)) r13))
theorem jD {a0 a1 a2 w Q} (h:(fK a0 a1 a2 w).t Q):Calls Try.prog 11 #[(Sl.v a0),(Sl.v a1),(Sl.v a2)] w fun e w''=>∃ i,e=.returned (.tuple #[(.bool i.1),(.int .i64 i.2.1)])/\Q i/\w''=i.2.2:=by
 refine aD (n:=42) Try.func11 rfl Try.ntmps11 (by simp) fun a u=>?_;unfold fK at h;refine wp_seq<|aA<|qa u rfl fun a u=>qa u rfl fun a u=>aC<|t_n<|wp_seq<|aA<|qm u rfl fun a u=>qm u rfl fun a u=>?_;refine dL (ι:=Sl×Int×World) (pk:=fun i=>(.tuple #[(Sl.v i.1),(iV i.2.1)])) (wf:=fun i=>i.2.2) (xs:=[_,_]) (vs:=[(Sl.v a0),(Sl.v a1)]) u ⟨rfl,rfl,aAP⟩ Try.call21 (jM (un3 h)) (fun i h a u=>?_);obtain⟨v1,v2,w3⟩:=i;refine qm u rfl fun a u=>q u (iF u rfl rfl) fun a u=>q u (iF u rfl rfl) fun a u=>qa u rfl fun a u=>qa u rfl fun a u=>aC<|t_n<|wp_seq<|wp_seq<|aA<|qm u rfl fun a u=>q u (jH u rfl rfl) fun a u=>aC<|t_n<|?_;refine bT u rfl h (fun b5 h=>?_) (fun b5 h=>?_)
 .refine wp_seq<|aA<|qm u rfl fun a u=>qa u rfl fun a u=>qa u rfl fun a u=>aC<|t_n<|wp_ret<|t_r<|?_;exact mP Try.results11 u rfl rfl ⟨(false,v2,w3),rfl,h,rfl⟩
 refine wp_skip<|t_n<|wp_seq<|aA<|qm u rfl fun a u=>qm u rfl fun a u=>?_;refine dL (ι:=Sl×Int×World) (pk:=fun i=>(.tuple #[(Sl.v i.1),(iV i.2.1)])) (wf:=fun i=>i.2.2) (xs:=[_,_]) (vs:=[(Sl.v a0),(Sl.v a2)]) u ⟨rfl,rfl,aAP⟩ Try.call21 (jM (un3 h)) (fun i h a u=>?_);obtain⟨v6,v7,w8⟩:=i;refine qm u rfl fun a u=>q u (iF u rfl rfl) fun a u=>q u (iF u rfl rfl) fun a u=>qa u rfl fun a u=>qa u rfl fun a u=>aC<|t_n<|wp_seq<|wp_seq<|aA<|qm u rfl fun a u=>q u (jH u rfl rfl) fun a u=>aC<|t_n<|?_;refine bT u rfl h (fun b10 h=>?_) (fun b10 h=>?_)
 .refine wp_seq<|aA<|qm u rfl fun a u=>qa u rfl fun a u=>qa u rfl fun a u=>aC<|t_n<|wp_ret<|t_r<|?_;exact mP Try.results11 u rfl rfl ⟨(false,v7,w8),rfl,h,rfl⟩
 refine wp_skip<|t_n<|wp_seq<|wp_seq<|aA<|qm u rfl fun a u=>q u (cI u rfl wT) fun a u=>qm u rfl fun a u=>aC<|t_n<|wp_block<|?_;refine nS (n:=42) (L1:=fun i=>[]) (w1:=fun i=>i) (L2:=fun i=>[(6,(bV i.1)),(7,(iV i.2.1))]) (w2:=fun i=>i.2.2) (e1:=.exit 0) (e2:=.ret) (I:=fun (s:Int×World) a w=>Has 42 [(33,(iV s.1)),(8,(Sl.v v1)),(31,(Sl.v v6)),(32,(iV (v6.n:Int)))] a/\w=s.2) (un1 h) ⟨u.sub ⟨rfl,rfl,rfl,rfl,aAP⟩,rfl⟩ (fun i h a u=>?_) (fun i h a u=>?_) (fun hk19 hk20=>?_)
 .obtain⟨w15,rfl⟩:∃ x,x=i:=⟨i,rfl⟩
  try dsimp only[Sum.elim_inl,Sum.elim_inr,u1,u2,u3,u4,u5,u6] at h
  have u:Has 42 [] a:=u;refine fD<|t_n<|wp_seq<|aA<|qa u rfl fun a u=>qa u rfl fun a u=>aC<|t_n<|wp_ret<|?_;exact mP Try.results11 u rfl rfl ⟨(true,0,w15),rfl,h,rfl⟩
 .obtain⟨v16,v17,w18⟩:=i
  try dsimp only[Sum.elim_inl,Sum.elim_inr,u1,u2,u3,u4,u5,u6] at h
  have u:Has 42 [(6,(bV v16)),(7,(iV v17))] a:=u;refine b_r<|t_r<|?_;exact mP Try.results11 u rfl rfl ⟨(v16,v17,w18),rfl,h,rfl⟩
 clear h;intro hX36;rintro⟨x11,w12⟩ a wq ⟨u,hwq⟩ h;obtain rfl:w12=wq:=hwq.symm;have u:Has 42 [(33,(iV x11)),(8,(Sl.v v1)),(31,(Sl.v v6)),(32,(iV (v6.n:Int)))] a:=u;have h:(dB v6 v1 x11 w12).t _:=h;unfold dB at h;refine wp_seq<|aA<|q u (gG u rfl rfl) fun a u=>aC<|t_n<|wp_seq<|?_;refine bT u rfl h (fun b22 h=>?_) (fun b22 h=>?_)
 .refine wp_skip<|t_n<|wp_seq<|wp_block<|wp_seq<|aA<|?_;obtain⟨p23,e24,h⟩:=h;refine q u (eY u rfl rfl wT xL e24) fun a u=>?_;obtain⟨v25,e26,h⟩:=h;refine q u (aG u rfl xU (bW e26)) fun a u=>?_;obtain⟨p27,w28,e29,h⟩:=h;refine q u (cM yD (by kernel_rfl) e29) fun a u=>?_;obtain⟨w30,e31,h⟩:=h;refine q u (gK u rfl rfl xL e31) fun a u=>aC<|t_n<|wp_seq<|aA<|qm u rfl fun a u=>q u (jL (vs:=[(pV (some p27))]) u ⟨rfl,aAP⟩) fun a u=>?_;obtain⟨v32,w33,e34,h⟩:=h;refine q u (eG (xs:=[_,_]) (vs:=[(Sl.v v1),(.func (.func 23) #[] #[(pV (some p27))])]) u ⟨rfl,rfl,aAP⟩ Try.call22 (eE e34)) fun a u=>q u (fT u rfl) fun a u=>aC<|t_n<|?_;refine bT u rfl h (fun b35 h=>?_) (fun b35 h=>?_)
  .refine wp_seq<|aA<|qa u rfl fun a u=>qa u rfl fun a u=>aC<|t_n<|wp_ret<|b_r<|t_r<|t_r<|?_;exact hk20 (false,0,w33) h _ (u.sb rfl)
  refine wp_skip<|b_n<|t_n<|aA<|q u (dY u rfl rfl) fun a u=>qm u rfl fun a u=>aC<|?_;exact⟨((IntKind.wrap .i64 (x11+1)),w33),⟨u.sb rfl,rfl⟩,h⟩
 refine wp_exit<|t_x<|t_x<|?_;exact hk19 w12 h _ (u.sb rfl)
def aB:ByteArray:=ByteArray.mk #[97]
def flC:List Value:=[.string aB,.int .i64 1]
def vlC (n:Int):List Value:=[.int .i64 1,.int .i64 n,.string ByteArray.empty,.bool false,.complex .f64 0 0]
def tmC (n:Int):List Value:=[.int .i64 3,.string aB,.int .i64 5,.int .i64 1,.int .i64 n,.string ByteArray.empty,.bool false,.complex .f64 0 0,.int .i64 0]
def cR (_:Gh) (_:World) (cs x:List Value):Prop:=cs=x
theorem gQ {g g':Gh} {w w':World} {cs x:List Value} (h:cR g w cs x) (m:Mo g w g' w'):cR g' w' cs x:=h
theorem tZ:lN aB=true:=by decide +kernel
theorem nH {n:Int}:∀ v∈tmC n,v.oneCell'=true:=by intro v hv;simp[tmC] at hv;rcases hv with rfl | rfl | rfl | rfl | rfl | rfl | rfl | rfl | rfl<;>rfl
theorem Ex.lnext {S R:Type} {step:S->Option (S⊕R)} {s:S} {Φ:R->Prop} (h:Ex (step s) fun o=>∃ s',o = .inl s'/\Ex (bU step s') Φ):Ex (bU step s) Φ:=by
 obtain⟨o,e,s',rfl,r,e',h⟩:=h;exact⟨r,(gA e).trans e',h⟩
theorem Ex.ldone {S R:Type} {step:S->Option (S⊕R)} {s:S} {Φ:R->Prop} (h:Ex (step s) fun o=>∃ r,o = .inr r/\Φ r):Ex (bU step s) Φ:=by
 obtain⟨o,e,r,rfl,h⟩:=h;exact⟨r,cW e,h⟩
section
variable {F0 : Nat -> Prop} {g g0 : Gh} {w w0 : World} {L : List Rs} {s v : Sl} {n : Int} {q : Nat}
theorem qS (w:World):hM ByteArray.empty aB w=some (0,w):=by
 unfold hM;rw[lV,cQ,tZ];have:=qA tZ;unfold sLe at this;simp[this]
theorem pW (hs:PL cR 2 g w s [flC]) (H:Hp F0 g0 w0 g w L):Ex (dO s w) fun r=>r.1=0/\Hp F0 g0 w0 g r.2 L/\Mo g w g r.2:=by
 have hln:s.n=1:=hs.len;obtain⟨a,cs,ea,la,rfl,-⟩:=hs.el (R:=cR) gQ Mo.r (i:=0) rfl;obtain⟨p,w2,e2,H2,m2⟩:=H.box (T:=33) (cs:=[.string ByteArray.empty,.int .i64 0]);obtain⟨w3,e3,H3,m3⟩:=H2.stF (vs:=flC) rfl (by intro v hv;simp[flC] at hv;rcases hv with rfl | rfl<;>rfl);have l0:ldS w3 ((⟨p,0,none⟩:Addr).add 0)=some aB:=by rw[aS];exact H3.ldS rfl
 have l1:ldI .i64 w3 ((⟨p,0,none⟩:Addr).add 1)=some 1:=by rw[aS];exact H3.ldI rfl
 unfold dO;refine Ex.f (by simp[hln]) (Ex.j1 (Ψ:=fun o=>o = .inl w3) (Ex.lnext ?_) ?_)
 .show Ex (cB s ByteArray.empty 0 w) _;unfold cB;refine Ex.t (by simp[hln]) (Ex.b1 ea (Ex.b1 la (Ex.b2 e2 (Ex.b1 e3 (Ex.b1 l0 (Ex.b2 (qS _) (Ex.f (by decide) (Ex.j2 (Ψ:=fun r=>r=(false,w3)) (Ex.b1 l1 (Ex.f (by decide) (Ex.b1 l1 (Ex.ret rfl)))) ?_))))))));rintro _ _ he;cases he;refine Ex.f (by decide) (Ex.b1 l0 (Ex.ret ⟨_,rfl,Ex.ldone ?_⟩));show Ex (cB s aB 1 w3) _;unfold cB;exact Ex.f (by simp[hln]) (Ex.ret ⟨_,rfl,rfl⟩)
 rintro _ rfl;exact Ex.ret ⟨rfl,H3.tl,m2.t m3⟩
theorem pN (H:Hp F0 g0 w0 g w L):Ex (gS (vlC n) w) fun r=>r.1=0/\Hp F0 g0 w0 g r.2 L/\Mo g w g r.2:=by
 obtain⟨p,w2,e2,H2,m2⟩:=H.box (T:=55) (cs:=vlC n);have l0:ldI .i64 w2 ((⟨p,0,none⟩:Addr).add 0)=some 1:=by rw[aS];exact H2.ldI rfl
 unfold gS;refine Ex.b2 e2 (Ex.xX (Ψ:=fun o=>o = .inr w2) (Ex.b1 l0 (Ex.j2 (Ψ:=fun r=>r=(true,w2)) (Ex.t (by decide) (Ex.ret rfl)) ?_)) (fun r hr=>by cases hr) (fun r hr=>?_))
 .rintro _ _ he;cases he;exact Ex.t rfl (Ex.ret rfl)
 cases hr;exact Ex.ret ⟨rfl,H2.tl,m2⟩
theorem rV (H:Hp F0 g0 w0 g w L):Ex (iI (tmC n) w) fun r=>r.1=0/\Hp F0 g0 w0 g r.2 L/\Mo g w g r.2:=by
 obtain⟨p,w2,e2,H2,m2⟩:=H.box (T:=57) (cs:=tmC n);have l1:ldS w2 ((⟨p,0,none⟩:Addr).add 1)=some aB:=by rw[aS];exact H2.ldS rfl
 have l2:∀ {w'},Hp F0 g0 w0 g w' (bxR p (tmC n) 57::L)->ldI .i64 w' ((⟨p,0,none⟩:Addr).add 2)=some 5:=fun H=>by rw[aS];exact H.ldI rfl
 have l3:ldA 5 w2 ((⟨p,0,none⟩:Addr).add 3) 0=some (vlC n):=by rw[aS];exact qM H2.bx (by simp[tmC])
 obtain⟨⟨x,w3⟩,e3,rfl,H3,m3⟩:=pN (n:=n) H2;have l30:ldI .i64 w3 (((⟨p,0,none⟩:Addr).add 3).add 0)=some 1:=by rw[aS,aS];exact H3.ldI rfl
 unfold iI;refine Ex.b2 e2 (Ex.b1 l1 (Ex.b2 (lV _ _) (Ex.f (by rw[tZ];decide) (Ex.j2 (Ψ:=fun r=>r=(false,w2)) (Ex.b1 (l2 H2) (Ex.f (by decide) (Ex.b1 (l2 H2) (Ex.ret rfl)))) ?_))));rintro _ _ he;cases he;have hb:gZ 5 w2=some (false,w2):=rfl;have hk:jU 5 1 w3=some (true,w3):=rfl;refine Ex.f (by decide) (Ex.b1 (l2 H2) (Ex.b2 hb (Ex.f (by decide) (Ex.b1 l3 (Ex.b2 e3 (Ex.f (by decide) (Ex.b1 (l2 H3) (Ex.b1 l30 (Ex.b2 hk (Ex.f (by decide) (Ex.j2 (Ψ:=fun r=>r=(false,w3)) (Ex.b1 (l2 H3) (Ex.f (by decide) (Ex.ret rfl))) ?_)))))))))));rintro _ _ he;cases he;exact Ex.f (by decide) (Ex.ret ⟨rfl,H3.tl,m2.t m3⟩)
theorem pR (hs:PL cR 9 g w v [tmC n]) (H:Hp F0 g0 w0 g w L):Ex (hY v w) fun r=>r.1=0/\Hp F0 g0 w0 g r.2 L/\Mo g w g r.2:=by
 have hln:v.n=1:=hs.len;obtain⟨a,cs,ea,la,rfl,-⟩:=hs.el (R:=cR) gQ Mo.r (i:=0) rfl;obtain⟨p,w2,e2,H2,m2⟩:=H.box (T:=57) (cs:=[.int .i64 0,.string ByteArray.empty,.int .i64 0,.int .i64 0,.int .i64 0,.string ByteArray.empty,.bool false,.complex .f64 0 0,.int .i64 0]);obtain⟨w3,e3,H3,m3⟩:=H2.stF (vs:=tmC n) rfl nH;have l0:ldI .i64 w3 ((⟨p,0,none⟩:Addr).add 0)=some 3:=by rw[aS];exact H3.ldI rfl
 obtain⟨⟨x,w4⟩,e4,rfl,H4,m4⟩:=rV (n:=n) H3;unfold hY;refine Ex.f (by simp[hln]) (Ex.j1 (Ψ:=fun o=>o = .inl (1,w4)) (Ex.lnext ?_) ?_)
 .show Ex (dU v 0 0 w) _;unfold dU;refine Ex.t (by simp[hln]) (Ex.b1 ea (Ex.b1 la (Ex.b2 e2 (Ex.b1 e3 (Ex.xX (Ψ:=fun o=>o = .inr (0,w4)) (Ex.b1 l0 (Ex.j2 (Ψ:=fun r=>r=(false,w3)) (Ex.f (by decide) (Ex.ret rfl)) ?_)) (fun r hr=>by cases hr) (fun r hr=>?_))))))
  .rintro _ _ he;cases he;exact Ex.f (by decide) (Ex.t (by decide) (Ex.b1 (H3.ldF rfl) (Ex.b2 e4 (Ex.f (by decide) (Ex.ret rfl)))))
  cases hr;simp only[u2];refine Ex.f (by show ¬ (decide ((0:Int)<0)=true);decide) (Ex.f (by show ¬ (decide ((16:Int)<IntKind.i64.wrap (0+IntKind.i64.wrap (1-0)))=true);decide) (Ex.ret ⟨_,rfl,Ex.ldone ?_⟩));show Ex (dU v 1 1 w4) _;unfold dU;exact Ex.f (by simp[hln]) (Ex.ret ⟨_,rfl,rfl⟩)
 rintro _ rfl;simp only[Sum.elim_inl,u2];exact Ex.f (by decide) (Ex.ret ⟨rfl,H4.tl,m2.t (m3.t m4)⟩)
theorem sL (hs:PL cR 2 g w s [flC]) (hv:PL cR 9 g w v [tmC n]) (H:Hp F0 g0 w0 g w L):Ex (iJ s v w) fun r=>r.1=0/\Hp F0 g0 w0 g r.2 L/\Mo g w g r.2:=by
 have hl1:s.n=1:=hs.len;have hl2:v.n=1:=hv.len;obtain⟨⟨x,w2⟩,e2,rfl,H2,m2⟩:=pW hs H;obtain⟨⟨x,w3⟩,e3,rfl,H3,m3⟩:=pR (PL.mo (R:=cR) gQ hv m2) H2;simp only at H2 m2 H3 m3 e3;obtain⟨r,w4,e4,H4,m4⟩:=H3.mkm (P:=Try.prog) (t:=79);have mA:=m2.t (m3.t m4);obtain⟨a,cs,ea,la,rfl,-⟩:=hs.el (R:=cR) gQ mA (i:=0) rfl;obtain⟨p,w5,e5,H5,m5⟩:=H4.box (T:=33) (cs:=[.string ByteArray.empty,.int .i64 0]);obtain⟨w6,e6,H6,m6⟩:=H5.stF (vs:=flC) rfl (by intro v hv;simp[flC] at hv;rcases hv with rfl | rfl<;>rfl);have f0:ldS w6 ((⟨p,0,none⟩:Addr).add 0)=some aB:=by rw[aS];exact H6.ldS rfl
 have f1:ldI .i64 w6 ((⟨p,0,none⟩:Addr).add 1)=some 1:=by rw[aS];exact H6.ldI rfl
 obtain⟨w7,e7,H7,m7⟩:=H6.tl.upm (k:=aB) (v:=.int .i64 1) yJ xT;have mB:=mA.t (m5.t (m6.t m7));obtain⟨b,cs,eb,lb,rfl,-⟩:=hv.el (R:=cR) gQ mB (i:=0) rfl;obtain⟨u,w8,e8,H8,m8⟩:=H7.box (T:=57) (cs:=[.int .i64 0,.string ByteArray.empty,.int .i64 0,.int .i64 0,.int .i64 0,.string ByteArray.empty,.bool false,.complex .f64 0 0,.int .i64 0]);obtain⟨w9,e9,H9,m9⟩:=H8.stF (vs:=tmC n) rfl nH;have t0:ldI .i64 w9 ((⟨u,0,none⟩:Addr).add 0)=some 3:=by rw[aS];exact H9.ldI rfl
 have t1:ldS w9 ((⟨u,0,none⟩:Addr).add 1)=some aB:=by rw[aS];exact H9.ldS rfl
 have t2:ldI .i64 w9 ((⟨u,0,none⟩:Addr).add 2)=some 5:=by rw[aS];exact H9.ldI rfl
 have t3:ldI .i64 w9 (((⟨u,0,none⟩:Addr).add 3).add 0)=some 1:=by rw[aS,aS];exact H9.ldI rfl
 have lu:=H9.tl.lum (P:=Try.prog) yJ xT;have lu':luI .i64 Try.prog 79 (some r) (.string aB) w9=some (1,w9):=H9.sw.lum (P:=Try.prog) yJ xT;unfold iJ;refine Ex.b2 e2 (Ex.f (by decide) (Ex.b2 e3 (Ex.f (by decide) (Ex.b2 e4 (Ex.j1 (Ψ:=fun o=>o=w7) (Ex.lnext ?_) ?_)))))
 .show Ex (eJ s (some r) 0 w4) _;unfold eJ;refine Ex.t (by simp[hl1]) (Ex.b1 ea (Ex.b1 la (Ex.b2 e5 (Ex.b1 e6 (Ex.b1 f0 (Ex.b1 f1 (Ex.b1 e7 (Ex.ret ⟨_,rfl,Ex.ldone ?_⟩))))))));show Ex (eJ s (some r) 1 w7) _;unfold eJ;exact Ex.f (by simp[hl1]) (Ex.ret ⟨_,rfl,rfl⟩)
 rintro _ rfl;refine Ex.j1 (Ψ:=fun o=>o = .inl w9) (Ex.lnext ?_) ?_
 .show Ex (eH v (some r) 0 _) _;unfold eH;refine Ex.t (by simp[hl2]) (Ex.xX (Ψ:=fun o=>o = .inr w9) (Ex.b1 eb (Ex.b1 lb (Ex.b2 e8 (Ex.b1 e9 (Ex.b1 t0 (Ex.f (by decide) (Ex.b1 t1 (Ex.b2 lu' (Ex.f (by decide) (Ex.j2 (Ψ:=fun r=>r=(false,w9)) (Ex.j2 (Ψ:=fun r=>r=(false,w9)) (Ex.b1 t2 (Ex.f (by decide) (Ex.ret rfl))) ?_) ?_)))))))))) (fun r hr=>by cases hr) (fun r hr=>?_))
  .rintro _ _ he;cases he;have hb:gZ 5 w9=some (false,w9):=rfl;refine Ex.f (by decide) (Ex.j2 (Ψ:=fun r=>r=(false,w9)) (Ex.b1 t2 (Ex.b2 hb (Ex.t (by decide) (Ex.b1 t3 (Ex.ret rfl))))) (fun x y h=>Ex.ret h))
  .rintro _ _ he;cases he;exact Ex.f (by decide) (Ex.ret rfl)
  cases hr;simp only[u1];refine Ex.ret ⟨_,rfl,Ex.ldone ?_⟩;show Ex (eH v (some r) 1 _) _;unfold eH;exact Ex.f (by simp[hl2]) (Ex.ret ⟨_,rfl,rfl⟩)
 rintro _ rfl;exact Ex.ret ⟨rfl,H9.tl.tl,mB.t (m8.t m9)⟩
end
def sdF (lo hi:Int) (ab:Bool):Sd:=⟨aB,1,ab,lo,hi,ByteArray.empty,ByteArray.empty,false,0,[],[],false⟩
abbrev hE (s:Sd):List Value:=sdC s Sl.nil Sl.nil
def mkC (z:Sl):List Value:=[.string aB,.int .i64 1,z.v]
def loV:Int:=-9223372036854775808
def hiV:Int:=9223372036854775807
def nlR (_:Gh) (_:World) (cs:List Value) (s:Sd):Prop:=cs=hE s/\s.ins=[]/\s.outs=[]/\0<=s.tr/\s.tr<256
theorem oS {g g':Gh} {w w':World} {cs:List Value} {s:Sd} (h:nlR g w cs s) (m:Mo g w g' w'):nlR g' w' cs s:=h
theorem PL.sd {g:Gh} {w:World} {z:Sl} {b:List Sd} (h:PL nlR 12 g w z b):PL sdR 12 g w z b:=⟨h.len,fun i x hx=>by
 obtain⟨a,cs,e,hg,hl,⟨rfl,h1,h2,h3,h4⟩,hc⟩:=h.at_ i x hx;exact⟨a,_,e,hg,hl,⟨Sl.nil,Sl.nil,rfl,by rw[h1];exact PL.nil rfl,by rw[h2];exact PL.nil rfl,h3,h4⟩,hc⟩⟩
def bbR (g:Gh) (w:World) (cs:List Value) (b:List Sd):Prop:=∃ z:Sl,cs=[z.v]/\PL nlR 12 g w z b
theorem gM {g g':Gh} {w w':World} {cs:List Value} {b:List Sd} (h:bbR g w cs b) (m:Mo g w g' w'):bbR g' w' cs b:=by
 obtain⟨z,e,h⟩:=h;exact⟨z,e,PL.mo (R:=nlR) oS h m⟩
theorem wH:ST Try.prog 22 40 12 136 mH:=⟨Try.underlying22,⟨Try.t40,.agg mH.toArray,by kernel_rfl,by kernel_rfl,rfl,rfl,rfl⟩,rfl,by decide,by decide⟩
theorem vM:ST Try.prog 47 22 1 24 [.slice none 0 0]:=⟨Try.underlying47,⟨Try.t22,.slice none 0 0,by kernel_rfl,by kernel_rfl,rfl,rfl,rfl⟩,rfl,by decide,by decide⟩
def sS (cl:Option Addr->World->Option World) (a0:Option Addr) (a1:Bool) (w:World):ND (World) :=
 cb2 (lb1 (dr w) fun w5 =>
 lb1 (a0) fun p7 =>
 lb1 (ldS w5 (p7.add 0)) fun v9 =>
 lb1 (ldI .i64 w5 (p7.add 1)) fun v11 =>
 oO (lb2 (cP v9 v11 w5) fun v13 w14 =>
 lb2 (mk w14 40 ([.string ByteArray.empty,.int .i64 0,.bool false,.int .i64 0,.int .i64 0,.string ByteArray.empty,.string ByteArray.empty,.bool false,.int .u8 0,.bool false,.slice none 0 0,.slice none 0 0])) fun p16 w17 =>
 lb1 (stA w17 p16 0 v13) fun w20 =>
 nck ((v13).length=12) <|
 bR (p16,w20)) (lb2 (mk w5 40 ([.string ByteArray.empty,.int .i64 0,.bool false,.int .i64 0,.int .i64 0,.string ByteArray.empty,.string ByteArray.empty,.bool false,.int .u8 0,.bool false,.slice none 0 0,.slice none 0 0])) fun p22 w23 =>
 lb2 (cP v9 v11 w23) fun v25 w26 =>
 lb1 (stA w26 p22 0 v25) fun w29 =>
 nck ((v25).length=12) <|
 nck (ldS w23 (p7.add 0)=some v9) <|
 nck (ldI .i64 w23 (p7.add 1)=some v11) <|
 bR (p22,w29))) fun v1 w2 =>
 lb1 (stV w2 (v1.add 2) (.bool a1)) fun w33 =>
 lb1 (cl (some v1) w33) fun w35 =>
 cbX (lb1 (ldA 12 w35 v1 0) fun c43 =>
 lb2 (cO c43 w35) fun v45 w46 =>
 if v45=true then
 (lb1 (ldA 12 w46 v1 0) fun c49 =>
 lb2 (fC c49 w46) fun v51 w52 =>
 lb1 (stA w52 v1 0 v51) fun w55 =>
 nck ((v51).length=12) <|
 if (!a1)=true then
 (cb1 (bR w55) fun g42=>bR (.inl g42))
 else
 (bR (.inr w55)))
 else
 (bR (.inr w46))) fun (i:World)=>u1 i fun w37 =>
 lb1 (dr w37) fun w59 =>
 lb1 (a0) fun p61 =>
 lb1 (ldL w59 (p61.add 2)) fun v63 =>
 lb1 (ldA 12 w59 v1 0) fun c65 =>
 lb2 (bsl w59 40 12 [c65]) fun s67 w68 =>
 lb2 (bsl w68 22 1 [[(Sl.v s67)]]) fun s70 w71 =>
 lb2 (apS Try.prog 47 v63 s70 w71) fun s73 w74 =>
 lb1 (stV w74 (p61.add 2) (Sl.v s73)) fun w76 =>
 nck (ldL w68 (p61.add 2)=some v63) <|
 nck (ldL w71 (p61.add 2)=some v63) <|
 bR w76
theorem pU (a0:Option Addr) (a1:Bool) (x y:Addr) (w:World):cA a0 a1 x y w=sS (fun p w=>eR p x y w) a0 a1 w:=rfl
theorem pX (a0:Option Addr) (a1:Bool) (x y:Addr) (w:World):bZ a0 a1 x y w=sS (fun p w=>eQ p x y w) a0 a1 w:=rfl
section
variable {F0 : Nat -> Prop} {g g0 : Gh} {w w0 : World} {L : List Rs} {s v : Sl} {n : Int} {q o : Nat}
theorem rP {z:Sl} {cs:List Value} {sz:Nat} (h:PR g w z sz cs) (hz:z.n=1):∃ a,D.ix z (((0:Nat):Int)) sz=some a/\g a.block/\cs.length=sz/\∀ j v,cs[j]?=some v->w.cell? (a.add j)=some v:=by
 obtain⟨a,e,hc⟩:=h.rd.at_ (by omega);have hl:=h.rd.len;rw[hz,Nat.one_mul] at hl;refine⟨a,?_,h.per a e (by omega),hl,hc⟩;unfold D.ix;rw[e,aAN,if_pos ⟨by omega,by omega⟩];simp[Addr.add]
theorem mF {α:Type} {R:Gh->World->List Value->α->Prop} {z:Sl} {cs:List Value} {sz:Nat} {x:α} (h:PR g w z sz cs) (hz:z.n=1) (hR:R g w cs x):PL R sz g w z [x] :=
 ⟨hz,fun i y hy=>by
  cases i with
  | zero =>
   cases hy;obtain⟨a,e,hg,hl,hc⟩:=rP h hz;exact⟨a,cs,e,hg,hl,hR,hc⟩
  | succ i=>simp at hy⟩
theorem pB (H:Hp F0 g0 w0 g w L):Ex (cP aB 1 w) fun r=>r.1=hE (sdF loV hiV false)/\Hp F0 g0 w0 g r.2 L/\Mo g w g r.2:=by
 obtain⟨p,w2,e2,H2,m2⟩:=H.box (T:=40) (cs:=mH);obtain⟨w3,e3,H3,m3⟩:=H2.stF (vs:=hE (sdF loV hiV false)) rfl jS;unfold cP;exact Ex.b2 e2 (Ex.b2 (a:=1) (b:=w2) rfl (Ex.b2 (a:=1) (b:=w2) rfl (Ex.b2 (a:=0) (b:=w2) rfl (Ex.b1 e3 (Ex.b1 (H3.ldF rfl) (Ex.ret ⟨rfl,H3.tl,m2.t m3⟩))))))
theorem qG {c:Bool} {p1 p4:Nat} (hn:0<n/\n<100) (H:Hp F0 g0 w0 g w (bxR q (hE (sdF loV hiV c)) 40::bxR p4 [.int .i64 0] 2::bxR p1 (vlC n) 55::L)) :
  Ex (eR (some ⟨q,0,none⟩) ⟨p1,0,none⟩ ⟨p4,0,none⟩ w) fun w'=>Hp F0 g0 w0 g w' (bxR q (hE (sdF loV (n-1) c)) 40::bxR p4 [.int .i64 0] 2::bxR p1 (vlC n) 55::L)/\Mo g w g w':=by
 obtain⟨w1,e1,H1,m1⟩:=H.stV (o:=7) (x:=.bool false) (by show 7<12;decide) rfl;obtain⟨w2,e2,H2,m2⟩:=H1.stV (o:=6) (x:=.string ByteArray.empty) (by show 6<12;decide) rfl;obtain⟨w3,e3,H3,m3⟩:=H2.stV (o:=6) (x:=.string (ByteArray.mk #[])) (by show 6<12;decide) rfl;obtain⟨w4,e4,H4,m4⟩:=H3.stV (o:=4) (x:=.int .i64 n) (by show 4<12;decide) rfl;obtain⟨w5,e5,H5,m5⟩:=H4.stV (o:=4) (x:=.int .i64 (IntKind.wrap .i64 (n-1))) (by show 4<12;decide) rfl;have hw:IntKind.wrap .i64 (n-1)=n-1:=wri (by omega) (by omega);have a2:ldS w1 ((⟨p1,0,none⟩:Addr).add 2)=some ByteArray.empty:=by rw[aS];exact H1.m2.ldS rfl
 have b0:ldI .i64 w2 ⟨p4,0,none⟩=some 0:=H2.sw.ldI rfl;have q1:ldI .i64 w2 ((⟨q,0,none⟩:Addr).add 1)=some 1:=by rw[aS];exact H2.ldI rfl
 have a1:ldI .i64 w3 ((⟨p1,0,none⟩:Addr).add 1)=some n:=by rw[aS];exact H3.m2.ldI rfl
 have b4:ldI .i64 w4 ⟨p4,0,none⟩=some 0:=H4.sw.ldI rfl;have q4:ldI .i64 w4 ((⟨q,0,none⟩:Addr).add 4)=some n:=by rw[aS];exact H4.ldI rfl
 have a5:ldI .i64 w5 ((⟨p1,0,none⟩:Addr).add 1)=some n:=by rw[aS];exact H5.m2.ldI rfl
 unfold eR;refine Ex.s1 (Ex.b1 (by rw[aS];exact e1) (Ex.b1 a2 (Ex.b1 (by rw[aS];exact e2) (Ex.j1 (Ψ:=fun o=>o=w2) (Ex.b1 b0 (Ex.f (by decide) (Ex.ret rfl))) ?_))));rintro _ rfl;refine Ex.b1 q1 (Ex.f (by decide) (Ex.b1 (by rw[aS];exact e3) (Ex.b1 a1 (Ex.b1 (by rw[aS];exact e4) (Ex.b1 b4 (Ex.t (by decide) (Ex.b1 q4 (Ex.b1 (by rw[aS];exact e5) (Ex.b1 a5 (Ex.f (by simp;omega) (Ex.ret ⟨?_,m1.t (m2.t (m3.t (m4.t m5)))⟩)))))))))));rw[hw] at H5;exact H5
theorem pS {c:Bool} {p1 p4:Nat} (hn:0<n/\n<100) (H:Hp F0 g0 w0 g w (bxR q (hE (sdF loV hiV c)) 40::bxR p4 [.int .i64 1] 2::bxR p1 (vlC n) 55::L)) :
  Ex (eQ (some ⟨q,0,none⟩) ⟨p1,0,none⟩ ⟨p4,0,none⟩ w) fun w'=>Hp F0 g0 w0 g w' (bxR q (hE (sdF n hiV c)) 40::bxR p4 [.int .i64 1] 2::bxR p1 (vlC n) 55::L)/\Mo g w g w':=by
 obtain⟨w1,e1,H1,m1⟩:=H.stV (o:=3) (x:=.int .i64 n) (by show 3<12;decide) rfl;have q1:ldI .i64 w ((⟨q,0,none⟩:Addr).add 1)=some 1:=by rw[aS];exact H.ldI rfl
 have a1:ldI .i64 w ((⟨p1,0,none⟩:Addr).add 1)=some n:=by rw[aS];exact H.m2.ldI rfl
 have b1:ldI .i64 w1 ⟨p4,0,none⟩=some 1:=H1.sw.ldI rfl;unfold eQ;exact Ex.s1 (Ex.b1 q1 (Ex.t (by decide) (Ex.b1 a1 (Ex.b1 (by rw[aS];exact e1) (Ex.b1 b1 (Ex.f (by decide) (Ex.ret ⟨H1,m1⟩)))))))
theorem qJ {cl:Option Addr->World->Option World} {c:Bool} {lo hi:Int} (hlo:lo<=hi) (H:Hp F0 g0 w0 g w (bxR o (mkC Sl.nil) 83::L))
  (hcl:∀ {q:Nat} {w1:World},Hp F0 g0 w0 g w1 (bxR q (hE (sdF loV hiV c)) 40::bxR o (mkC Sl.nil) 83::L)->Ex (cl (some ⟨q,0,none⟩) w1) fun w'=>Hp F0 g0 w0 g w' (bxR q (hE (sdF lo hi c)) 40::bxR o (mkC Sl.nil) 83::L)/\Mo g w1 g w')
  {Φ:World->Prop} (hΦ:∀ g' w' z,Hp F0 g0 w0 g' w' (bxR o (mkC z) 83::L)->PL bbR 1 g' w' z [[sdF lo hi c]]->Mo g w g' w'->Φ w'):(sS cl (some ⟨o,0,none⟩) c w).t Φ:=by
 obtain⟨w1,e1,H1,m1⟩:=H.dr;have o0:∀ {w'},Hp F0 g0 w0 g w' (bxR o (mkC Sl.nil) 83::L)->ldS w' ((⟨o,0,none⟩:Addr).add 0)=some aB:=fun H=>by rw[aS];exact H.ldS rfl
 have o1:∀ {w'},Hp F0 g0 w0 g w' (bxR o (mkC Sl.nil) 83::L)->ldI .i64 w' ((⟨o,0,none⟩:Addr).add 1)=some 1:=fun H=>by rw[aS];exact H.ldI rfl
 unfold sS;refine Nd.j2 (Ψ:=fun r=>∃ q,r.1=⟨q,0,none⟩/\Hp F0 g0 w0 g r.2 (bxR q (hE (sdF loV hiV false)) 40::bxR o (mkC Sl.nil) 83::L)/\Mo g w g r.2) (Nd.b1 e1 (Nd.s1 (Nd.b1 (o0 H1) (Nd.b1 (o1 H1) (Nd.both ?_ ?_))))) ?_
 .obtain⟨⟨x,w2⟩,e2,rfl,H2,m2⟩:=pB H1;simp only at H2 m2;obtain⟨p,w3,e3,H3,m3⟩:=H2.box (T:=40) (cs:=mH);obtain⟨w4,e4,H4,m4⟩:=H3.stF (vs:=hE (sdF loV hiV false)) rfl jS;exact Nd.b2 e2 (Nd.b2 e3 (Nd.b1 e4 (Nd.ck rfl (Nd.ret ⟨p,rfl,H4,m1.t (m2.t (m3.t m4))⟩))))
 .obtain⟨p,w3,e3,H3,m3⟩:=H1.box (T:=40) (cs:=mH);obtain⟨⟨x,w2⟩,e2,rfl,H2,m2⟩:=pB H3;simp only at H2 m2;obtain⟨w4,e4,H4,m4⟩:=H2.stF (vs:=hE (sdF loV hiV false)) rfl jS;exact Nd.b2 e3 (Nd.b2 e2 (Nd.b1 e4 (Nd.ck rfl (Nd.ck (o0 H3.tl) (Nd.ck (o1 H3.tl) (Nd.ret ⟨p,rfl,H4,m1.t (m3.t (m2.t m4))⟩))))))
 rintro _ w2 ⟨q,rfl,H2,m2⟩;simp only at H2 m2;obtain⟨w3,e3,H3,m3⟩:=H2.stV (o:=2) (x:=.bool c) (by show 2<12;decide) rfl;obtain⟨w4,e4,H4,m4⟩:=hcl (q:=q) H3;have hno:jK (sdF lo hi c)=false:=by unfold jK sdF;simp;omega
 obtain⟨⟨x,w5⟩,e5,hx,H5,m5⟩:=oB (s:=sdF lo hi c) (za:=Sl.nil) (ya:=Sl.nil) (by show(0:Int)<=0;decide) (by show(0:Int)<256;decide) H4;simp only at hx H5 m5;rw[hno] at hx;subst hx;refine Nd.b1 (by rw[aS];exact e3) (Nd.b1 e4 (Nd.jX (Ψ:=fun w'=>w'=w5) (Nd.b1 (H4.ldF rfl) (Nd.b2 e5 (Nd.f (by decide) (Nd.ret rfl)))) ?_));rintro _ rfl;obtain⟨w6,e6,H6,m6⟩:=H5.dr;have l2:∀ {w'},Hp F0 g0 w0 g w' (bxR o (mkC Sl.nil) 83::L)->ldL w' ((⟨o,0,none⟩:Addr).add 2)=some Sl.nil:=fun H=>by rw[aS];exact H.ldL rfl
 obtain⟨s7,w7,e7,n7,-,H7,m7⟩:=H6.bsl (T:=40) (sz:=12) (ps:=[hE (sdF lo hi c)]) (by intro p hp;simp at hp;subst hp;rfl) (by simp);obtain⟨s8,w8,e8,n8,-,H8,m8⟩:=H7.bsl (T:=22) (sz:=1) (ps:=[[s7.v]]) (by intro p hp;simp at hp;subst hp;rfl) (by simp);obtain⟨s9,w9,e9,n9,H9,m9⟩:=H8.onil.apS vM H8.ow.rd (by intro v hv;simp at hv;subst hv;rfl) (by rw[n8];simp[Sl.nil]);have H9:Hp F0 g0 w0 g w9 (owR 22 1 s9 [s7.v]::owR 22 1 s8 [s7.v]::owR 40 12 s7 (hE (sdF lo hi c))::bxR q (hE (sdF lo hi c)) 40::bxR o (mkC Sl.nil) 83::L):=by simpa using H9
 have HA:=H9.sw.tl.m2.tl.m2;obtain⟨wa,ea,HB,mb⟩:=HA.stV (o:=2) (x:=s9.v) (by show 2<3;decide) rfl;obtain⟨ga,pa,HC,mc⟩:=HB.m2.keepO;obtain⟨gb,pb,HD,md⟩:=HC.sw.keepO;have h7:PL nlR 12 gb wa s7 [sdF lo hi c]:=mF (pa.mo md) n7 ⟨rfl,rfl,rfl,by show(0:Int)<=0;decide,by show(0:Int)<256;decide⟩;have h9:PL bbR 1 gb wa s9 [[sdF lo hi c]]:=mF pb (by rw[n9,n8];rfl) ⟨s7,rfl,h7⟩;refine Nd.b1 e6 (Nd.s1 (Nd.b1 (by rw[aS];exact H6.sw.ldL rfl) (Nd.b1 (H6.ldF rfl) (Nd.b2 e7 (Nd.b2 e8 (Nd.b2 e9 (Nd.b1 (by rw[aS];exact ea) (Nd.ck (by rw[aS];exact H7.m2.ldL rfl) (Nd.ck (by rw[aS];exact H8.m3.ldL rfl) (Nd.ret ?_))))))))));exact hΦ gb wa s9 HD h9 (m2.t (m3.t (m4.t (m5.t (m6.t (m7.t (m8.t (m9.t (mb.t (mc.t md))))))))))
end
abbrev lsC (z y:Sl):List Value:=[z.v,y.v]
theorem wJ:ST Try.prog 68 70 2 48 [.slice none 0 0,.slice none 0 0]:=⟨Try.underlying68,⟨Try.t70,.agg #[.slice none 0 0,.slice none 0 0],by kernel_rfl,by kernel_rfl,rfl,rfl,rfl⟩,rfl,by decide,by decide⟩
section
variable {F0 : Nat -> Prop} {g g0 : Gh} {w w0 : World} {L : List Rs} {s v z : Sl} {n : Int} {q o : Nat} {e1 e2 e3 e4 : Rs} {S : Sd}
theorem Hp.r3 (H:Hp F0 g0 w0 g w (e1::e2::e3::e4::L)):Hp F0 g0 w0 g w (e1::e3::e4::e2::L):=⟨H.sp,H.sep.cons fun _ h=>h.sw.cons fun _ h=>h.sw⟩
theorem Hp.r3' (H:Hp F0 g0 w0 g w (e1::e3::e4::e2::L)):Hp F0 g0 w0 g w (e1::e2::e3::e4::L):=⟨H.sp,H.sep.cons fun _ h=>(h.cons fun _ h=>h.sw).sw⟩
theorem sW (hn:0<n/\n<100) (H:Hp F0 g0 w0 g w L) {Φ:List Value×World->Prop}
  (hΦ:∀ g' w' z y,Hp F0 g0 w0 g' w' L->PL bbR 1 g' w' z [[sdF loV (n-1) false]]->PL bbR 1 g' w' y [[sdF n hiV true]]->Mo g w g' w'->Φ (lsC z y,w')):(hH (tmC n) 1 w).t Φ:=by
 obtain⟨p1,w1,e1,H1,m1⟩:=H.box (T:=57) (cs:=tmC n);obtain⟨p4,w2,e2,H2,m2⟩:=H1.box (T:=70) (cs:=[.slice none 0 0,.slice none 0 0]);obtain⟨w3,e3,H3,m3⟩:=H2.dr;have t1:ldS w3 ((⟨p1,0,none⟩:Addr).add 1)=some aB:=by rw[aS];exact H3.sw.ldS rfl
 unfold hH;refine Nd.b2 e1 (Nd.b2 e2 (Nd.j3 (Ψ:=fun r=>∃ a b,r.1=⟨a,0,none⟩/\r.2.1=⟨b,0,none⟩/\Hp F0 g0 w0 g r.2.2 (bxR a (mkC Sl.nil) 83::bxR b (mkC Sl.nil) 83::bxR p4 [.slice none 0 0,.slice none 0 0] 70::bxR p1 (tmC n) 57::L)/\Mo g w g r.2.2) (Nd.b1 e3 (Nd.b1 t1 (Nd.b1 t1 (Nd.both ?_ ?_)))) ?_))
 .obtain⟨a,w4,e4,H4,m4⟩:=H3.box (T:=83) (cs:=mkC Sl.nil);obtain⟨b,w5,e5,H5,m5⟩:=H4.box (T:=83) (cs:=mkC Sl.nil);exact Nd.b2 e4 (Nd.b2 e5 (Nd.ck (by rw[aS];exact H4.m2.ldS rfl) (Nd.ret ⟨a,b,rfl,rfl,H5.sw,m1.t (m2.t (m3.t (m4.t m5)))⟩)))
 .obtain⟨b,w4,e4,H4,m4⟩:=H3.box (T:=83) (cs:=mkC Sl.nil);obtain⟨a,w5,e5,H5,m5⟩:=H4.box (T:=83) (cs:=mkC Sl.nil);exact Nd.b2 e4 (Nd.b2 e5 (Nd.ck (by rw[aS];exact H4.m2.ldS rfl) (Nd.ret ⟨a,b,rfl,rfl,H5,m1.t (m2.t (m3.t (m4.t m5)))⟩)))
 rintro _ _ w4 ⟨a,b,rfl,rfl,H4,m4⟩;simp only at H4 m4;obtain⟨p5,w5,e5,H5,m5⟩:=H4.box (T:=55) (cs:=[.int .i64 0,.int .i64 0,.string ByteArray.empty,.bool false,.complex .f64 0 0]);obtain⟨w6,e6,H6,m6⟩:=H5.stF (vs:=vlC n) rfl (by intro v hv;simp[vlC] at hv;rcases hv with rfl | rfl | rfl | rfl | rfl<;>rfl)
 -- H6: value,own,other,lists,term
 have t3:ldA 5 w4 ((⟨p1,0,none⟩:Addr).add 3) 0=some (vlC n):=by rw[aS];exact qM H4.m3.bx (by simp[tmC])
 have t2:ldI .i64 w6 ((⟨p1,0,none⟩:Addr).add 2)=some 5:=by rw[aS];exact H6.m4.ldI rfl
 obtain⟨x1,w7,e7,H7,m7⟩:=H6.box (T:=55) (cs:=vlC n);obtain⟨x2,w8,e8,H8,m8⟩:=H7.box (T:=2) (cs:=[.int .i64 0]);have eb:dP (vlC n) 0 w6=some (⟨x1,0,none⟩,⟨x2,0,none⟩,w8):=by unfold dP;rw[e7,cQ,e8,cQ]
 -- H8: x2,x1,value,own,other,lists,term
 refine Nd.b1 t3 (Nd.b2 e5 (Nd.b1 e6 (Nd.j1 (Ψ:=fun w'=>∃ g' z y,Hp F0 g0 w0 g' w' (bxR b (mkC y) 83::bxR a (mkC z) 83::bxR p4 [.slice none 0 0,.slice none 0 0] 70::L)/\PL bbR 1 g' w' z [[sdF loV (n-1) false]]/\PL bbR 1 g' w' y [[sdF n hiV true]]/\Mo g w g' w') (Nd.b1 t2 (Nd.f (by decide) (Nd.f (by decide) (Nd.f (by decide) (Nd.b1 t2 (Nd.f (by decide) (Nd.b1 t2 (Nd.f (by decide) (Nd.b1 t2 (Nd.t (by decide) (Nd.b1 (H6.ldF rfl) (Nd.b3 eb ?_)))))))))))) ?_)))
 .refine Nd.j1 (Ψ:=fun w'=>∃ g' z,Hp F0 g0 w0 g' w' (bxR a (mkC z) 83::bxR x2 [.int .i64 0] 2::bxR x1 (vlC n) 55::bxR p5 (vlC n) 55::bxR b (mkC Sl.nil) 83::bxR p4 [.slice none 0 0,.slice none 0 0] 70::bxR p1 (tmC n) 57::L)/\PL bbR 1 g' w' z [[sdF loV (n-1) false]]/\Mo g w g' w') ?_ ?_
  .rw[pU];refine qJ (c:=false) (lo:=loV) (hi:=n-1) (by unfold loV;omega) H8.m3 (fun {q w1} H=>?_) (fun g' w' z H hz m=>⟨g',z,H,hz,m4.t (m5.t (m6.t (m7.t (m8.t m))))⟩);obtain⟨w2,e,H',m⟩:=qG hn H.r3;exact⟨w2,e,H'.r3',m⟩
  rintro w9 ⟨g9,z,H9,hz,m9⟩;obtain⟨y1,wa,ea,HA,ma⟩:=H9.box (T:=55) (cs:=vlC n);obtain⟨y2,wb,eb,HB,mb⟩:=HA.box (T:=2) (cs:=[.int .i64 1]);have ec:dM (vlC n) 1 w9=some (⟨y1,0,none⟩,⟨y2,0,none⟩,wb):=by unfold dM;rw[ea,cQ,eb,cQ]
  -- HB: y2,y1,own,x2,x1,value,other,lists,term
  have HC:Hp F0 g0 w0 g9 wb (bxR b (mkC Sl.nil) 83::bxR y2 [.int .i64 1] 2::bxR y1 (vlC n) 55::bxR a (mkC z) 83::bxR x2 [.int .i64 0] 2::bxR x1 (vlC n) 55::bxR p5 (vlC n) 55::bxR p4 [.slice none 0 0,.slice none 0 0] 70::bxR p1 (tmC n) 57::L) :=
   Hp.app_cons (L:=[bxR y2 [.int .i64 1] 2,bxR y1 (vlC n) 55,bxR a (mkC z) 83,bxR x2 [.int .i64 0] 2,bxR x1 (vlC n) 55,bxR p5 (vlC n) 55]) HB
  refine Nd.b1 (H9.m3.ldF rfl) (Nd.b3 ec (Nd.j1 (Ψ:=fun w'=>∃ g' z y,Hp F0 g0 w0 g' w' (bxR b (mkC y) 83::bxR a (mkC z) 83::bxR p4 [.slice none 0 0,.slice none 0 0] 70::L)/\PL bbR 1 g' w' z [[sdF loV (n-1) false]]/\PL bbR 1 g' w' y [[sdF n hiV true]]/\Mo g w g' w') ?_ (fun w' h=>Nd.ret h)));rw[pX];refine qJ (c:=true) (lo:=n) (hi:=hiV) (by unfold hiV;omega) HC (fun {q w1} H=>?_) (fun g' w' y H hy m=>⟨g',z,y,?_,PL.mo (R:=bbR) gM hz (ma.t (mb.t m)),hy,m9.t (ma.t (mb.t m))⟩)
  .obtain⟨w2,e,H',m⟩:=pS hn H.r3;exact⟨w2,e,H'.r3',m⟩
  -- H: other,y2,y1,own,x2,x1,value,lists,term
  have h1:=H.sw.tl.sw.tl
  -- other,own,x2,x1,value,lists,term
  have h2:=h1.m2.tl.m2.tl.m2.tl
  -- other,own,lists,term? order kept by m2: third to front
  exact h2.m3.tl
 rintro w7 ⟨g7,z,y,H7,hz,hy,m7⟩;obtain⟨w8,e8,H8,m8⟩:=H7.dr;obtain⟨w9,e9,H9,m9⟩:=H8.m2.stF (vs:=lsC z y) rfl (by intro v hv;simp at hv;rcases hv with rfl | rfl<;>rfl);refine Nd.b1 e8 (Nd.b1 (by rw[aS];exact H8.sw.ldL rfl) (Nd.b1 (by rw[aS];exact H8.ldL rfl) (Nd.b1 e9 (Nd.b1 (H9.ldF rfl) (Nd.ret ?_)))));exact hΦ g7 w9 z y H9.tl.tl.tl (PL.mo (R:=bbR) gM hz (m8.t m9)) (PL.mo (R:=bbR) gM hy (m8.t m9)) (m7.t (m8.t m9))
end
end
end Go.Proofs.Ytggheaclnklhaaa.D
