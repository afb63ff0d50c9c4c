/- EvlogRoom -/
import Derived.Scope
import Derived.Test.YtejkaciimmfgcaaPEvlogRoomA
namespace Go.Proofs.Ytejkaciimmfgcaa.D
open Go
set_option linter.unusedVariables false
set_option linter.unusedSimpArgs false
set_option maxHeartbeats 1000000
set_option maxRecDepth 100000
noncomputable section
def oZ (a0:Option Addr) (a1:Int) (a2:Int) (w:World):Option ((Option Addr)×Int×World) :=
 if (a0.isNone)=true then
 (some (none,1,w))
 else
 (aN (if (decide (a2<1))=true then
 (some (true,w))
 else
 (if (decide (32<a2))=true then
 (some (true,w))
 else
 (if (decide (a1<0))=true then
 (some (true,w))
 else
 (aN (eL a0 w) fun v9 w10 =>
 some ((decide ((IntKind.wrap .i64 (v9-(IntKind.wrap .i64 (2*a2))))<a1)),w10))))) fun v2 w3 =>
 if v2=true then
 (some (none,2,w3))
 else
 (aN (mk w3 155 ([.pointer a0,.int .i64 a1,.int .i64 a2])) fun p13 w14 =>
 some ((some p13),0,w14)))
theorem zC {a0 a1 a2 w w' r0 r1} (h:oZ a0 a1 a2 w=some (r0,r1,w')):Calls Try.prog 69 #[(.pointer a0),(.int .i64 a1),(.int .i64 a2)] w fun e w''=>e=.returned (.tuple #[(.pointer r0),(.int .i64 r1)])/\w''=w':=by
 refine aP (n:=36) Try.func69 rfl Try.ntmps69 (by simp) fun a u=>?_;unfold oZ at h;refine wp_seq<|aA<|qa u rfl fun a u=>qa u rfl fun a u=>aB<|t_n<|wp_seq<|wp_block<|wp_seq<|aA<|qm u rfl fun a u=>q u (jJ u rfl rfl aHt) fun a u=>qa u rfl fun a u=>aB<|t_n<|?_;refine aO u rfl h (fun b1 h=>?_) (fun b1 h=>?_)
 .refine wp_seq<|aA<|qa u rfl fun a u=>qa u rfl fun a u=>aB<|t_n<|wp_ret<|b_r<|t_r<|?_;have y:=u;cases h;exact jA Try.results69 y rfl rfl ⟨rfl,rfl⟩
 refine wp_seq<|?_;have⟨v2,w3,e4,h⟩:=bs2 h;refine bP (n:=36) (L:=[(11,(bV v2)),(0,(pV a0)),(1,(iV a1)),(2,(iV a2))]) (w':=w3) (fun a u=>?_) (fun hk5=>?_)
 .refine t_n<|?_;refine aO u rfl h (fun b12 h=>?_) (fun b12 h=>?_)
  .refine wp_seq<|aA<|qa u rfl fun a u=>qa u rfl fun a u=>aB<|t_n<|wp_ret<|b_r<|t_r<|?_;have y:=u;cases h;exact jA Try.results69 y rfl rfl ⟨rfl,rfl⟩
  refine wp_skip<|b_n<|t_n<|wp_seq<|aA<|qm u rfl fun a u=>qm u rfl fun a u=>qm u rfl fun a u=>q u (dZ (vs:=[(0,(pV a0)),(1,(iV a1)),(2,(iV a2))]) (pl:=#[(0,1),(1,1),(2,1)]) (cs:=([.pointer a0,.int .i64 a1,.int .i64 a2])) u ⟨rfl,rfl,rfl,rfl,rfl,rfl,aLz⟩ Try.zeroValue155 aHD (by intro w;kernel_rfl) (by kernel_rfl)) fun a u=>?_;have⟨p13,w14,e15,h⟩:=bs2 h;refine q u (rF u rfl rfl e15) fun a u=>qa u rfl fun a u=>qa u rfl fun a u=>aB<|t_n<|wp_ret<|?_;have y:=u;cases h;exact jA Try.results69 y rfl rfl ⟨rfl,rfl⟩
 clear h;have h:=e4;refine aA<|qm u rfl fun a u=>q u (dK u rfl rfl) fun a u=>qm u rfl fun a u=>?_;refine bW h (fun b6 h=>?_) (fun b6 h=>?_)
 .refine qn u 14 (tn b6) fun a u=>qn u 14 (tn b6) fun a u=>q u (aF u rfl b6 rfl) fun a u=>qm u rfl fun a u=>qn u 18 (tn rfl) fun a u=>qn u 18 (tn rfl) fun a u=>q u (aF u rfl rfl rfl) fun a u=>qm u rfl fun a u=>qn u 22 (tn rfl) fun a u=>qn u 22 (tn rfl) fun a u=>qn u 22 (tn rfl) fun a u=>qn u 22 (tn rfl) fun a u=>qn u 22 (tn rfl) fun a u=>qn u 22 (tn rfl) fun a u=>qn u 22 (tn rfl) fun a u=>q u (aF u rfl rfl rfl) fun a u=>qa u rfl fun a u=>aB<|?_;have y:=u;cases h;exact hk5 _ (y.sb rfl)
 refine qg u 14 (nt b6) (aC u rfl) fun a u=>qg u 14 (nt b6) (gF u rfl rfl) fun a u=>q u (aL u rfl b6 rfl) fun a u=>qm u rfl fun a u=>?_;refine bW h (fun b7 h=>?_) (fun b7 h=>?_)
 .refine qn u 18 (tn b7) fun a u=>qn u 18 (tn b7) fun a u=>q u (aF u rfl b7 rfl) fun a u=>qm u rfl fun a u=>qn u 22 (tn rfl) fun a u=>qn u 22 (tn rfl) fun a u=>qn u 22 (tn rfl) fun a u=>qn u 22 (tn rfl) fun a u=>qn u 22 (tn rfl) fun a u=>qn u 22 (tn rfl) fun a u=>qn u 22 (tn rfl) fun a u=>q u (aF u rfl rfl rfl) fun a u=>qa u rfl fun a u=>aB<|?_;have y:=u;cases h;exact hk5 _ (y.sb rfl)
 refine qg u 18 (nt b7) (aC u rfl) fun a u=>qg u 18 (nt b7) (dK u rfl rfl) fun a u=>q u (aL u rfl b7 rfl) fun a u=>qm u rfl fun a u=>?_;refine bW h (fun b8 h=>?_) (fun b8 h=>?_)
 .refine qn u 22 (tn b8) fun a u=>qn u 22 (tn b8) fun a u=>qn u 22 (tn b8) fun a u=>qn u 22 (tn b8) fun a u=>qn u 22 (tn b8) fun a u=>qn u 22 (tn b8) fun a u=>qn u 22 (tn b8) fun a u=>q u (aF u rfl b8 rfl) fun a u=>qa u rfl fun a u=>aB<|?_;have y:=u;cases h;exact hk5 _ (y.sb rfl)
 refine qg u 22 (nt b8) (aC u rfl) fun a u=>qg u 22 (nt b8) (aC u rfl) fun a u=>?_;have⟨v9,w10,e11,h⟩:=bs2 h;refine qg u 22 (nt b8) (dc1 u rfl Try.call67 (oI e11)) fun a u=>qg u 22 (nt b8) (aC u rfl) fun a u=>qg u 22 (nt b8) (oN u rfl rfl) fun a u=>qg u 22 (nt b8) (iB u rfl rfl) fun a u=>qg u 22 (nt b8) (gF u rfl rfl) fun a u=>q u (aL u rfl b8 rfl) fun a u=>qa u rfl fun a u=>aB<|?_;have y:=u;cases h;exact hk5 _ (y.sb rfl)
noncomputable def iH (s8:Sl) (x10:Int) (x11:Int) (w12:World):Option ((Int×Int×World)⊕(Int×World)) :=
 if (decide (x11<(s8.n:Int)))=true then
 ((ix s8 x11 1).bind fun p20 =>
 (ldI .u8 w12 p20).bind fun v22 =>
 (aDT .u64 x10 8).bind fun v24 =>
 some (.inl ((bor .u64 v24 (IntKind.wrap .u64 v22)),(IntKind.wrap .i64 (x11+1)),w12)))
 else
 (some (.inr (x10,w12)))
noncomputable def cV (a0:Sl) (a1:Int) (w:World):Option (Int×Int×Int×World) :=
 aN (if (decide (a1<0))=true then
 (some (true,w))
 else
 (some ((decide ((a0.n:Int)<a1)),w))) fun v1 w2 =>
 if v1=true then
 (some (0,0,2,w2))
 else
 (if (decide ((IntKind.wrap .i64 ((a0.n:Int)-a1))<8))=true then
 (some (0,0,3,w2))
 else
 ((slS a0 a1 (IntKind.wrap .i64 (a1+8)) (a0.c:Int) 1).bind fun s8 =>
 aN (bM (fun s:Int×Int×World=>iH s8 s.1 s.2.1 s.2.2) (0,0,w2)) fun v15 w16 =>
 some ((IntKind.wrap .i64 (uE .u64 v15 9223372036854775808)),(IntKind.wrap .i64 (a1+8)),0,w16)))
theorem kN {a0 a1 w w' r0 r1 r2} (h:cV a0 a1 w=some (r0,r1,r2,w')):Calls Try.prog 141 #[(Sl.v a0),(.int .i64 a1)] w fun e w''=>e=.returned (.tuple #[(.int .i64 r0),(.int .i64 r1),(.int .i64 r2)])/\w''=w':=by
 refine aP (n:=44) Try.func141 rfl Try.ntmps141 (by simp) fun a u=>?_;unfold cV at h;refine wp_seq<|aA<|qa u rfl fun a u=>qa u rfl fun a u=>qa u rfl fun a u=>aB<|t_n<|wp_seq<|wp_seq<|?_;have⟨v1,w2,e3,h⟩:=bs2 h;refine bP (n:=44) (L:=[(17,(bV v1)),(0,(Sl.v a0)),(1,(iV a1))]) (w':=w2) (fun a u=>?_) (fun hk4=>?_)
 .refine t_n<|?_;refine aO u rfl h (fun b6 h=>?_) (fun b6 h=>?_)
  .refine wp_seq<|aA<|qa u rfl fun a u=>qa u rfl fun a u=>qa u rfl fun a u=>aB<|t_n<|wp_ret<|t_r<|?_;have y:=u;cases h;exact oE Try.results141 y rfl rfl rfl ⟨rfl,rfl⟩
  refine wp_skip<|t_n<|wp_seq<|wp_seq<|aA<|qm u rfl fun a u=>q u (aZ u rfl aGK) fun a u=>qm u rfl fun a u=>q u (iB u rfl rfl) fun a u=>q u (dK u rfl rfl) fun a u=>aB<|t_n<|?_;refine aO u rfl h (fun b7 h=>?_) (fun b7 h=>?_)
  .refine wp_seq<|aA<|qa u rfl fun a u=>qa u rfl fun a u=>qa u rfl fun a u=>aB<|t_n<|wp_ret<|t_r<|?_;have y:=u;cases h;exact oE Try.results141 y rfl rfl rfl ⟨rfl,rfl⟩
  refine wp_skip<|t_n<|wp_seq<|aA<|qa u rfl fun a u=>aB<|t_n<|wp_seq<|wp_seq<|aA<|qm u rfl fun a u=>qm u rfl fun a u=>qm u rfl fun a u=>q u (bJ u rfl rfl) fun a u=>?_;have⟨s8,e9,h⟩:=bs1 h;refine q u (oG u rfl aGK aGT ⟨_,rfl⟩ ⟨_,rfl⟩ rfl (by simp) e9) fun a u=>q u (aZ u rfl aGK) fun a u=>qm u rfl fun a u=>aB<|t_n<|wp_block<|?_;have⟨v15,w16,e14,h⟩:=bs2 h;refine gT (n:=44) (L:=[(7,(.int .u64 v15)),(1,(iV a1))]) (w':=w16) (e:=.exit 0) (I:=fun (s:Int×Int×World) a w=>Has 44 [(7,(.int .u64 s.1)),(29,(iV s.2.1)),(1,(iV a1)),(27,(Sl.v s8)),(28,(iV (s8.n:Int)))] a/\w=s.2.2) ⟨u.sub ⟨rfl,rfl,rfl,rfl,rfl,aLz⟩,rfl⟩ e14 (fun a u=>?_) (fun hk17=>?_)
  .refine eC<|t_n<|wp_seq<|aA<|qm u rfl fun a u=>q u (aDY u rfl rfl) fun a u=>q u (iP u rfl aHu aIk) fun a u=>qm u rfl fun a u=>q u (bJ u rfl rfl) fun a u=>qa u rfl fun a u=>qa u rfl fun a u=>qa u rfl fun a u=>aB<|t_n<|wp_ret<|?_;have y:=u;cases h;exact oE Try.results141 y rfl rfl rfl ⟨rfl,rfl⟩
  clear h;rintro⟨x10,x11,w12⟩ a wq o ⟨u,hwq⟩ h hr18;obtain rfl:w12=wq:=hwq.symm;have u:Has 44 [(7,(.int .u64 x10)),(29,(iV x11)),(1,(iV a1)),(27,(Sl.v s8)),(28,(iV (s8.n:Int)))] a:=u;have h:iH s8 x10 x11 w12=some o:=h;unfold iH at h;refine wp_seq<|aA<|q u (dK u rfl rfl) fun a u=>aB<|t_n<|wp_seq<|?_;refine aO u rfl h (fun b19 h=>?_) (fun b19 h=>?_)
  .refine wp_skip<|t_n<|wp_seq<|wp_block<|wp_seq<|aA<|?_;have⟨p20,e21,h⟩:=bs1 h;refine q u (bZ u rfl rfl aGK aGT e21) fun a u=>?_;have⟨v22,e23,h⟩:=bs1 h;refine q u (aJ u rfl aHs (aQ e23)) fun a u=>qa u rfl fun a u=>aB<|t_n<|aA<|qm u rfl fun a u=>?_;have⟨v24,e25,h⟩:=bs1 h;refine q u (aGs u rfl rfl e25) fun a u=>qm u rfl fun a u=>q u (iP u rfl aGZ aHu) fun a u=>q u (aGG u rfl rfl) fun a u=>qa u rfl fun a u=>aB<|b_n<|t_n<|aA<|q u (bJ u rfl rfl) fun a u=>qm u rfl fun a u=>aB<|?_;have y:=u;cases h;exact dS ⟨y.sb rfl,rfl⟩
  refine wp_exit<|t_x<|?_;have y:=u;cases h;cases hr18 _ rfl;refine lM<|?_;exact hk17 _ (y.sb rfl)
 clear h;have h:=e3;refine aA<|qm u rfl fun a u=>q u (dK u rfl rfl) fun a u=>qm u rfl fun a u=>?_;refine bW h (fun b5 h=>?_) (fun b5 h=>?_)
 .refine qn u 12 (tn b5) fun a u=>qn u 12 (tn b5) fun a u=>qn u 12 (tn b5) fun a u=>qn u 12 (tn b5) fun a u=>q u (aF u rfl b5 rfl) fun a u=>aB<|?_;have y:=u;cases h;exact hk4 _ (y.sb rfl)
 refine qg u 12 (nt b5) (aC u rfl) fun a u=>qg u 12 (nt b5) (aC u rfl) fun a u=>qg u 12 (nt b5) (aZ u rfl aGK) fun a u=>qg u 12 (nt b5) (gF u rfl rfl) fun a u=>q u (aL u rfl b5 rfl) fun a u=>aB<|?_;have y:=u;cases h;exact hk4 _ (y.sb rfl)
noncomputable def jF (s27:Sl) (x29:Int) (w30:World):Option ((Int×World)⊕((World)⊕(Int×Int×Bool×World))) :=
 if (decide (x29<(s27.n:Int)))=true then
 ((ix s27 x29 1).bind fun p42 =>
 (ldI .u8 w30 p42).bind fun v44 =>
 if (v44 !=0)=true then
 (some (.inr (.inr (0,0,false,w30))))
 else
 (some (.inl ((IntKind.wrap .i64 (x29+1)),w30))))
 else
 (some (.inr (.inl w30)))
noncomputable def pK (a0:Sl) (w:World):Option (Int×Int×Bool×World) :=
 aN ((dr w).bind fun w5 =>
 if ((a0.n:Int) !=64)=true then
 (some (true,w5))
 else
 ((ix a0 0 1).bind fun p8 =>
 (ldI .u8 w5 p8).bind fun v10 =>
 (ix a0 63 1).bind fun p12 =>
 (ldI .u8 w5 p12).bind fun v14 =>
 some ((v10 !=v14),w5))) fun v1 w2 =>
 if v1=true then
 (some (0,0,false,w2))
 else
 (kE (cV a0 1 w2) fun v17 v18 v19 w20 =>
 kE (cV a0 9 w20) fun v22 v23 v24 w25 =>
 (slS a0 17 63 (a0.c:Int) 1).bind fun s27 =>
 (bM (fun s:Int×World=>jF s27 s.1 s.2) (0,w25)).bind fun r31=>Sum.elim (fun (i:World)=>u1 i fun w33 =>
 aN (if (decide (v17<1))=true then
 (some (true,w33))
 else
 (if (decide (4611686018427387904<v17))=true then
 (some (true,w33))
 else
 (if (decide (v22<0))=true then
 (some (true,w33))
 else
 (some ((decide (1099511627776<v22)),w33))))) fun v47 w48 =>
 if v47=true then
 (some (0,0,false,w48))
 else
 (some (v17,v22,true,w48))) (fun (i:Int×Int×Bool×World)=>u4 i fun v34 v35 v36 w37 =>
 some (v34,v35,v36,w37)) r31)
theorem wK {a0 w w' r0 r1 r2} (h:pK a0 w=some (r0,r1,r2,w')):Calls Try.prog 149 #[(Sl.v a0)] w fun e w''=>e=.returned (.tuple #[(.int .i64 r0),(.int .i64 r1),(.bool r2)])/\w''=w':=by
 refine aP (n:=63) Try.func149 rfl Try.ntmps149 (by simp) fun a u=>?_;unfold pK at h;refine wp_seq<|aA<|qa u rfl fun a u=>qa u rfl fun a u=>qa u rfl fun a u=>aB<|t_n<|wp_seq<|wp_seq<|?_;have⟨v1,w2,e3,h⟩:=bs2 h;refine bP (n:=63) (L:=[(24,(bV v1)),(0,(Sl.v a0))]) (w':=w2) (fun a u=>?_) (fun hk4=>?_)
 .refine t_n<|?_;refine aO u rfl h (fun b16 h=>?_) (fun b16 h=>?_)
  .refine wp_seq<|aA<|qa u rfl fun a u=>qa u rfl fun a u=>qa u rfl fun a u=>aB<|t_n<|wp_ret<|t_r<|?_;have y:=u;cases h;exact oE Try.results149 y rfl rfl rfl ⟨rfl,rfl⟩
  refine wp_skip<|t_n<|wp_seq<|aA<|qm u rfl fun a u=>?_;have⟨v17,v18,v19,w20,e21,h⟩:=bs4 h;refine q u (dc2 u rfl rfl Try.call141 (kN e21)) fun a u=>qm u rfl fun a u=>q u (aW u rfl rfl) fun a u=>q u (aW u rfl rfl) fun a u=>q u (aW u rfl rfl) fun a u=>qa u rfl fun a u=>qa u rfl fun a u=>qa u rfl fun a u=>aB<|t_n<|wp_seq<|aA<|qm u rfl fun a u=>?_;have⟨v22,v23,v24,w25,e26,h⟩:=bs4 h;refine q u (dc2 u rfl rfl Try.call141 (kN e26)) fun a u=>qm u rfl fun a u=>q u (aW u rfl rfl) fun a u=>q u (aW u rfl rfl) fun a u=>q u (aW u rfl rfl) fun a u=>qa u rfl fun a u=>qa u rfl fun a u=>qa u rfl fun a u=>aB<|t_n<|wp_seq<|wp_seq<|aA<|qm u rfl fun a u=>?_;have⟨s27,e28,h⟩:=bs1 h;refine q u (oG u rfl aGK aGT ⟨_,rfl⟩ ⟨_,rfl⟩ rfl (by simp) e28) fun a u=>q u (aZ u rfl aGK) fun a u=>qm u rfl fun a u=>aB<|t_n<|wp_block<|?_;have⟨r31,e32,h⟩:=bs1 h;refine oR (n:=63) (L1:=fun i=>[(5,(iV v17)),(8,(iV v22))]) (w1:=fun i=>i) (L2:=fun i=>[(2,(iV i.1)),(3,(iV i.2.1)),(4,(bV i.2.2.1))]) (w2:=fun i=>i.2.2.2) (e1:=.exit 0) (e2:=.ret) (I:=fun (s:Int×World) a w=>Has 63 [(40,(iV s.1)),(5,(iV v17)),(8,(iV v22)),(38,(Sl.v s27)),(39,(iV (s27.n:Int)))] a/\w=s.2) ⟨u.sub ⟨rfl,rfl,rfl,rfl,rfl,aLz⟩,rfl⟩ e32 (fun i hi a u=>?_) (fun i hi a u=>?_) (fun hk38 hk39=>?_)
  .subst hi;obtain⟨w33,rfl⟩:∃ x,x=i:=⟨i,rfl⟩;dsimp only[Sum.elim_inl,Sum.elim_inr,u1,u2,u3,u4,u5,u6] at h;have u:Has 63 [(5,(iV v17)),(8,(iV v22))] a:=u;refine eC<|t_n<|wp_seq<|wp_seq<|?_;have⟨v47,w48,e49,h⟩:=bs2 h;refine bP (n:=63) (L:=[(60,(bV v47)),(5,(iV v17)),(8,(iV v22))]) (w':=w48) (fun a u=>?_) (fun hk50=>?_)
   .refine t_n<|?_;refine aO u rfl h (fun b54 h=>?_) (fun b54 h=>?_)
    .refine wp_seq<|aA<|qa u rfl fun a u=>qa u rfl fun a u=>qa u rfl fun a u=>aB<|t_n<|wp_ret<|t_r<|?_;have y:=u;cases h;exact oE Try.results149 y rfl rfl rfl ⟨rfl,rfl⟩
    refine wp_skip<|t_n<|wp_seq<|aA<|qm u rfl fun a u=>qm u rfl fun a u=>qa u rfl fun a u=>qa u rfl fun a u=>qa u rfl fun a u=>aB<|t_n<|wp_ret<|?_;have y:=u;cases h;exact oE Try.results149 y rfl rfl rfl ⟨rfl,rfl⟩
   clear h;have h:=e49;refine aA<|qm u rfl fun a u=>q u (dK u rfl rfl) fun a u=>qm u rfl fun a u=>?_;refine bW h (fun b51 h=>?_) (fun b51 h=>?_)
   .refine qn u 49 (tn b51) fun a u=>qn u 49 (tn b51) fun a u=>q u (aF u rfl b51 rfl) fun a u=>qm u rfl fun a u=>qn u 53 (tn rfl) fun a u=>qn u 53 (tn rfl) fun a u=>q u (aF u rfl rfl rfl) fun a u=>qm u rfl fun a u=>qn u 57 (tn rfl) fun a u=>qn u 57 (tn rfl) fun a u=>q u (aF u rfl rfl rfl) fun a u=>aB<|?_;have y:=u;cases h;exact hk50 _ (y.sb rfl)
   refine qg u 49 (nt b51) (aC u rfl) fun a u=>qg u 49 (nt b51) (gF u rfl rfl) fun a u=>q u (aL u rfl b51 rfl) fun a u=>qm u rfl fun a u=>?_;refine bW h (fun b52 h=>?_) (fun b52 h=>?_)
   .refine qn u 53 (tn b52) fun a u=>qn u 53 (tn b52) fun a u=>q u (aF u rfl b52 rfl) fun a u=>qm u rfl fun a u=>qn u 57 (tn rfl) fun a u=>qn u 57 (tn rfl) fun a u=>q u (aF u rfl rfl rfl) fun a u=>aB<|?_;have y:=u;cases h;exact hk50 _ (y.sb rfl)
   refine qg u 53 (nt b52) (aC u rfl) fun a u=>qg u 53 (nt b52) (dK u rfl rfl) fun a u=>q u (aL u rfl b52 rfl) fun a u=>qm u rfl fun a u=>?_;refine bW h (fun b53 h=>?_) (fun b53 h=>?_)
   .refine qn u 57 (tn b53) fun a u=>qn u 57 (tn b53) fun a u=>q u (aF u rfl b53 rfl) fun a u=>aB<|?_;have y:=u;cases h;exact hk50 _ (y.sb rfl)
   refine qg u 57 (nt b53) (aC u rfl) fun a u=>qg u 57 (nt b53) (gF u rfl rfl) fun a u=>q u (aL u rfl b53 rfl) fun a u=>aB<|?_;have y:=u;cases h;exact hk50 _ (y.sb rfl)
  .subst hi;obtain⟨v34,v35,v36,w37⟩:=i;dsimp only[Sum.elim_inl,Sum.elim_inr,u1,u2,u3,u4,u5,u6] at h;have u:Has 63 [(2,(iV v34)),(3,(iV v35)),(4,(bV v36))] a:=u;refine b_r<|t_r<|?_;have y:=u;cases h;exact oE Try.results149 y rfl rfl rfl ⟨rfl,rfl⟩
  clear h;rintro⟨x29,w30⟩ a wq o ⟨u,hwq⟩ h hr40;obtain rfl:w30=wq:=hwq.symm;have u:Has 63 [(40,(iV x29)),(5,(iV v17)),(8,(iV v22)),(38,(Sl.v s27)),(39,(iV (s27.n:Int)))] a:=u;have h:jF s27 x29 w30=some o:=h;unfold jF at h;refine wp_seq<|aA<|q u (dK u rfl rfl) fun a u=>aB<|t_n<|wp_seq<|?_;refine aO u rfl h (fun b41 h=>?_) (fun b41 h=>?_)
  .refine wp_skip<|t_n<|wp_seq<|wp_block<|wp_seq<|aA<|?_;have⟨p42,e43,h⟩:=bs1 h;refine q u (bZ u rfl rfl aGK aGT e43) fun a u=>?_;have⟨v44,e45,h⟩:=bs1 h;refine q u (aJ u rfl aHs (aQ e45)) fun a u=>qa u rfl fun a u=>aB<|t_n<|wp_seq<|aA<|qm u rfl fun a u=>q u (fJ u rfl rfl) fun a u=>aB<|t_n<|?_;refine aO u rfl h (fun b46 h=>?_) (fun b46 h=>?_)
   .refine wp_seq<|aA<|qa u rfl fun a u=>qa u rfl fun a u=>qa u rfl fun a u=>aB<|t_n<|wp_ret<|b_r<|t_r<|?_;have y:=u;cases h;cases hr40 _ rfl;refine vV<|?_;exact hk39 _ rfl _ (y.sb rfl)
   refine wp_skip<|b_n<|t_n<|aA<|q u (bJ u rfl rfl) fun a u=>qm u rfl fun a u=>aB<|?_;have y:=u;cases h;exact dS ⟨y.sb rfl,rfl⟩
  refine wp_exit<|t_x<|?_;have y:=u;cases h;cases hr40 _ rfl;refine lM<|?_;exact hk38 _ rfl _ (y.sb rfl)
 clear h;have h:=e3;have⟨w5,e6,h⟩:=bs1 h;refine bW h (fun b7 h=>?_) (fun b7 h=>?_)
 .have u:Has 63 [(0,(Sl.v a0))] a:=u.sb rfl;refine aM (n:=63) (ds:=(aS (Sl.v a0) 0 [] 0::aG (iV (a0.n:Int)) 0 [0] 13 (Sl.v a0)::aG (bV ((a0.n:Int) !=64)) 0 [0,1] 14 (iV (a0.n:Int))::aS (bV ((a0.n:Int) !=64)) 0 [0,1,2] 15::aG (undef) 0 (rn 0 4) 16 (bV ((a0.n:Int) !=64))::aG (undef) 0 (rn 0 5) 16 (bV ((a0.n:Int) !=64))::aG (undef) 0 (rn 0 6) 16 (bV ((a0.n:Int) !=64))::aG (undef) 0 (rn 0 4) 16 (bV ((a0.n:Int) !=64))::aG (undef) 0 (rn 0 4++[7]) 16 (bV ((a0.n:Int) !=64))::aG (undef) 0 (rn 0 4++[7,8]) 16 (bV ((a0.n:Int) !=64))::aG (undef) 0 (rn 0 10) 16 (bV ((a0.n:Int) !=64))::aT (bV true) 0 (rn 0 11) [(16,(bV ((a0.n:Int) !=64))),(23,undef)]::[])) (W:=(fun _=>w5)) (by kernel_rfl) u (cY e6) (by kernel_rfl) ?_ (aR (by kernel_rfl)) (by kernel_rfl) (m:=0) (by kernel_rfl) (fun a u=>?_)
  .exact⟨oa (aC · rfl),oa (aZ · rfl aGK),oa (fJ · rfl rfl),oa (aC · rfl),on 16 (tn b7),on 16 (tn b7),on 16 (tn b7),on 16 (tn b7),on 16 (tn b7),on 16 (tn b7),on 16 (tn b7),oa (aF · rfl b7 rfl),aLz⟩
  have u:Has 63 [(0,(Sl.v a0)),(24,(bV true))] a:=u.sb rfl;have y:=u;cases h;exact hk4 _ (y.sb rfl)
 have⟨p8,e9,h⟩:=bs1 h;have⟨v10,e11,h⟩:=bs1 h;have⟨p12,e13,h⟩:=bs1 h;have⟨v14,e15,h⟩:=bs1 h;have u:Has 63 [(0,(Sl.v a0))] a:=u.sb rfl;refine aM (n:=63) (ds:=(aS (Sl.v a0) 0 [] 0::aG (iV (a0.n:Int)) 0 [0] 13 (Sl.v a0)::aG (bV ((a0.n:Int) !=64)) 0 [0,1] 14 (iV (a0.n:Int))::aS (bV ((a0.n:Int) !=64)) 0 [0,1,2] 15::aT (Sl.v a0) 0 (rn 0 4) [(0,(Sl.v a0)),(16,(bV ((a0.n:Int) !=64)))]::aT (pV (some p8)) 0 (rn 0 5) [(17,(Sl.v a0)),(16,(bV ((a0.n:Int) !=64)))]::aT (.int .u8 v10) 0 (rn 0 6) [(18,(pV (some p8))),(16,(bV ((a0.n:Int) !=64)))]::aT (Sl.v a0) 0 (rn 0 4) [(0,(Sl.v a0)),(16,(bV ((a0.n:Int) !=64)))]::aT (pV (some p12)) 0 (rn 0 4++[7]) [(20,(Sl.v a0)),(16,(bV ((a0.n:Int) !=64)))]::aT (.int .u8 v14) 0 (rn 0 4++[7,8]) [(21,(pV (some p12))),(16,(bV ((a0.n:Int) !=64)))]::aT (bV (v10 !=v14)) 0 (rn 0 10) [(19,(.int .u8 v10)),(22,(.int .u8 v14)),(16,(bV ((a0.n:Int) !=64)))]::aT (bV (v10 !=v14)) 0 (rn 0 11) [(16,(bV ((a0.n:Int) !=64))),(23,(bV (v10 !=v14)))]::[])) (W:=(fun _=>w5)) (by kernel_rfl) u (cY e6) (by kernel_rfl) ?_ (aR (by kernel_rfl)) (by kernel_rfl) (m:=0) (by kernel_rfl) (fun a u=>?_)
 .exact⟨oa (aC · rfl),oa (aZ · rfl aGK),oa (fJ · rfl rfl),oa (aC · rfl),oag 16 (nt b7) (aC · rfl),oag 16 (nt b7) (bZ · rfl rfl aGK aGT e9),oc (e:=false) 0 (kg 16 (nt b7) (aJ · rfl aHs (aQ e11))),oag 16 (nt b7) (aC · rfl),oag 16 (nt b7) (bZ · rfl rfl aGK aGT e13),oc (e:=false) 0 (kg 16 (nt b7) (aJ · rfl aHs (aQ e15))),oag 16 (nt b7) (fJ · rfl rfl),oa (aL · rfl b7 rfl),aLz⟩
 have u:Has 63 [(0,(Sl.v a0)),(24,(bV (v10 !=v14)))] a:=u.sb rfl;have y:=u;cases h;exact hk4 _ (y.sb rfl)
noncomputable def eM (a0:Option Addr) (a1:Int) (x1:Int) (x2:Int) (x3:Int) (x4:Int) (w5:World):Option ((Int×Int×Int×Int×World)⊕(Int×Int×Int×World)) :=
 if (decide (x4<2))=true then
 (kE ((dr w5).bind fun w21 =>
 (a0).bind fun p23 =>
 (ldP w21 (p23.add 0)).bind fun v25 =>
 (ldI .i64 w21 (p23.add 1)).bind fun v27 =>
 oM (eK v25 (IntKind.wrap .i64 ((IntKind.wrap .i64 (v27+(IntKind.wrap .i64 (2*a1))))+x4)) w21) fun v29 v30 w31 =>
 kE (pK v29 w31) fun v33 v34 v35 w36 =>
 aN (if v35=true then
 (some ((decide (x2<v33)),w36))
 else
 (some (false,w36))) fun v38 w39 =>
 if v38=true then
 (some (x4,v33,v34,w39))
 else
 (some (x1,x2,x3,w39))) fun v15 v16 v17 w18 =>
 some (.inl (v15,v16,v17,(IntKind.wrap .i64 (x4+1)),w18)))
 else
 (some (.inr (x1,x2,x3,w5)))
noncomputable def jH (a0:Option Addr) (a1:Int) (w:World):Option (Int×Int×Int×World) :=
 kE (bM (fun s:Int×Int×Int×Int×World=>eM a0 a1 s.1 s.2.1 s.2.2.1 s.2.2.2.1 s.2.2.2.2) ((-1),0,0,0,w)) fun v8 v9 v10 w11 =>
 some (v8,v9,v10,w11)
theorem oK {a0 a1 w w' r0 r1 r2} (h:jH a0 a1 w=some (r0,r1,r2,w')):Calls Try.prog 122 #[(.pointer a0),(.int .i64 a1)] w fun e w''=>e=.returned (.tuple #[(.int .i64 r0),(.int .i64 r1),(.int .i64 r2)])/\w''=w':=by
 refine aP (n:=52) Try.func122 rfl Try.ntmps122 (by simp) fun a u=>?_;unfold jH at h;refine wp_seq<|aA<|qa u rfl fun a u=>qa u rfl fun a u=>qa u rfl fun a u=>aB<|t_n<|wp_seq<|aA<|qa u rfl fun a u=>aB<|t_n<|wp_seq<|wp_seq<|aA<|qm u rfl fun a u=>aB<|t_n<|wp_block<|?_;have⟨v8,v9,v10,w11,e7,h⟩:=bs4 h;refine gT (n:=52) (L:=[(4,(iV v8)),(5,(iV v9)),(6,(iV v10))]) (w':=w11) (e:=.exit 0) (I:=fun (s:Int×Int×Int×Int×World) a w=>Has 52 [(4,(iV s.1)),(5,(iV s.2.1)),(6,(iV s.2.2.1)),(13,(iV s.2.2.2.1)),(0,(pV a0)),(1,(iV a1))] a/\w=s.2.2.2.2) ⟨u.sub ⟨rfl,rfl,rfl,rfl,rfl,rfl,aLz⟩,rfl⟩ e7 (fun a u=>?_) (fun hk12=>?_)
 .refine eC<|t_n<|wp_seq<|aA<|qm u rfl fun a u=>qm u rfl fun a u=>qm u rfl fun a u=>qa u rfl fun a u=>qa u rfl fun a u=>qa u rfl fun a u=>aB<|t_n<|wp_ret<|?_;have y:=u;cases h;exact oE Try.results122 y rfl rfl rfl ⟨rfl,rfl⟩
 clear h;rintro⟨x1,x2,x3,x4,w5⟩ a wq o ⟨u,hwq⟩ h hr13;obtain rfl:w5=wq:=hwq.symm;have u:Has 52 [(4,(iV x1)),(5,(iV x2)),(6,(iV x3)),(13,(iV x4)),(0,(pV a0)),(1,(iV a1))] a:=u;have h:eM a0 a1 x1 x2 x3 x4 w5=some o:=h;unfold eM at h;refine wp_seq<|aA<|q u (dK u rfl rfl) fun a u=>aB<|t_n<|wp_seq<|?_;refine aO u rfl h (fun b14 h=>?_) (fun b14 h=>?_)
 .refine wp_skip<|t_n<|?_;have⟨v15,v16,v17,w18,e19,h⟩:=bs4 h;refine gW (n:=52) (L:=[(4,(iV v15)),(5,(iV v16)),(6,(iV v17)),(0,(pV a0)),(1,(iV a1)),(13,(iV x4))]) (w':=w18) (fun a u=>?_) (fun hk20=>?_)
  .refine aA<|q u (bJ u rfl rfl) fun a u=>qm u rfl fun a u=>aB<|?_;have y:=u;cases h;exact dS ⟨y.sb rfl,rfl⟩
  clear h;have h:=e19;refine wp_block<|wp_seq<|aA<|qm u rfl fun a u=>qa u rfl fun a u=>aB<|t_n<|wp_seq<|?_;have⟨w21,e22,h⟩:=bs1 h;have⟨p23,e24,h⟩:=bs1 h;have⟨v25,e26,h⟩:=bs1 h;have⟨v27,e28,h⟩:=bs1 h;have⟨v29,v30,w31,e32,h⟩:=bs3 h;have u:Has 52 [(0,(pV a0)),(1,(iV a1)),(4,(iV x1)),(5,(iV x2)),(6,(iV x3)),(7,(iV x4)),(13,(iV x4))] a:=u.sb rfl;refine aM (n:=52) (ds:=(aS (pV a0) 0 [] 0::aG (pV (some p23)) 0 [0] 17 (pV a0)::aG (pV (some (p23.add 0))) 0 [0,1] 18 (pV (some p23))::aG (pV v25) 0 [0,1,2] 19 (pV (some (p23.add 0)))::aS (pV a0) 0 [] 0::aG (pV (some p23)) 0 [4] 21 (pV a0)::aG (pV (some (p23.add 1))) 0 [4,5] 22 (pV (some p23))::aG (iV v27) 0 [4,5,6] 23 (pV (some (p23.add 1)))::aS (iV a1) 0 [] 1::aG (iV (IntKind.wrap .i64 (2*a1))) 0 [8] 25 (iV a1)::aT (iV (IntKind.wrap .i64 (v27+(IntKind.wrap .i64 (2*a1))))) 0 (rn 4 6) [(24,(iV v27)),(26,(iV (IntKind.wrap .i64 (2*a1))))]::aS (iV x4) 0 [] 7::aT (iV (IntKind.wrap .i64 ((IntKind.wrap .i64 (v27+(IntKind.wrap .i64 (2*a1))))+x4))) 0 (rn 4 8) [(27,(iV (IntKind.wrap .i64 (v27+(IntKind.wrap .i64 (2*a1)))))),(28,(iV x4))]::aI (.tuple #[(Sl.v v29),(iV v30)]) true 0 0 (rn 0 13) [(20,(pV v25)),(29,(iV (IntKind.wrap .i64 ((IntKind.wrap .i64 (v27+(IntKind.wrap .i64 (2*a1))))+x4))))]::aS (.tuple #[(Sl.v v29),(iV v30)]) 1 (rn 0 14) 30::aG (Sl.v v29) 1 (rn 0 15) 16 (.tuple #[(Sl.v v29),(iV v30)])::aG (iV v30) 1 (rn 0 15) 16 (.tuple #[(Sl.v v29),(iV v30)])::aS (Sl.v v29) 1 (rn 0 16) 31::aS (iV v30) 1 (rn 0 18) 32::[])) (W:=(fun j=>match j with | 0=>w21 | 1=>w31 | _=>w31)) (by kernel_rfl) u (cY e22) (by kernel_rfl) ?_ (aR (by kernel_rfl)) (by kernel_rfl) (m:=1) (by kernel_rfl) (fun a u=>?_)
  .exact⟨oa (aC · rfl),oa (aH · rfl e24),oa (aK · rfl aHD rfl rfl aHm),oc 0 (kd (aJ · rfl aHj (bA e26))),oa (aC · rfl),oa (aH · rfl e24),oa (aK · rfl aHD rfl rfl aGL),oc 0 (kd (aJ · rfl aGN (aQ e28))),oa (aC · rfl),oa (oN · rfl rfl),oa (bJ · rfl rfl),oa (aC · rfl),oa (bJ · rfl rfl),oc 0 (kd (dc2 · rfl rfl Try.call99 (mN e32))),oa (aC · rfl),oa (aW · rfl rfl),oa (aW · rfl rfl),oa (bD · rfl),oa (bD · rfl),aLz⟩
  have u:Has 52 [(0,(pV a0)),(1,(iV a1)),(4,(iV x1)),(5,(iV x2)),(6,(iV x3)),(7,(iV x4)),(8,(Sl.v v29)),(13,(iV x4))] a:=u.sb rfl;refine t_n<|wp_seq<|aA<|qm u rfl fun a u=>?_;have⟨v33,v34,v35,w36,e37,h⟩:=bs4 h;refine q u (dc1 u rfl Try.call149 (wK e37)) fun a u=>qm u rfl fun a u=>q u (aW u rfl rfl) fun a u=>q u (aW u rfl rfl) fun a u=>q u (aW u rfl rfl) fun a u=>qa u rfl fun a u=>qa u rfl fun a u=>qa u rfl fun a u=>aB<|t_n<|wp_seq<|?_;have⟨v38,w39,e40,h⟩:=bs2 h;refine bP (n:=52) (L:=[(44,(bV v38)),(0,(pV a0)),(1,(iV a1)),(4,(iV x1)),(5,(iV x2)),(6,(iV x3)),(7,(iV x4)),(10,(iV v33)),(11,(iV v34)),(13,(iV x4))]) (w':=w39) (fun a u=>?_) (fun hk41=>?_)
  .refine t_n<|?_;refine aO u rfl h (fun b43 h=>?_) (fun b43 h=>?_)
   .refine aA<|qm u rfl fun a u=>qm u rfl fun a u=>qm u rfl fun a u=>qa u rfl fun a u=>qa u rfl fun a u=>qa u rfl fun a u=>aB<|b_n<|?_;have y:=u;cases h;exact hk20 _ (y.sb rfl)
   refine wp_skip<|b_n<|?_;have y:=u;cases h;exact hk20 _ (y.sb rfl)
  clear h;have h:=e40;refine aA<|qm u rfl fun a u=>qm u rfl fun a u=>?_;refine bW h (fun b42 h=>?_) (fun b42 h=>?_)
  .refine qg u 40 b42 (aC u rfl) fun a u=>qg u 40 b42 (aC u rfl) fun a u=>qg u 40 b42 (gF u rfl rfl) fun a u=>q u (aF u rfl b42 rfl) fun a u=>aB<|?_;have y:=u;cases h;exact hk41 _ (y.sb rfl)
  refine qn u 40 (nm b42) fun a u=>qn u 40 (nm b42) fun a u=>qn u 40 (nm b42) fun a u=>q u (aL u rfl b42 rfl) fun a u=>aB<|?_;have y:=u;cases h;exact hk41 _ (y.sb rfl)
 refine wp_exit<|t_x<|?_;have y:=u;cases h;cases hr13 _ rfl;refine lM<|?_;exact hk12 _ (y.sb rfl)
noncomputable def mF (s1:Sl) (a0:Int) (x4:Int) (w5:World):Option ((Int×World)⊕(World)) :=
 if (decide (x4<(s1.n:Int)))=true then
 ((aDn .u64 (uE .u64 (IntKind.wrap .u64 a0) 9223372036854775808) (IntKind.wrap .i64 (56-(IntKind.wrap .i64 (8*x4))))).bind fun v12 =>
 (ix s1 x4 1).bind fun p14 =>
 (stV w5 p14 (.int .u8 (IntKind.wrap .u8 v12))).bind fun w16 =>
 some (.inl ((IntKind.wrap .i64 (x4+1)),w16)))
 else
 (some (.inr w5))
noncomputable def jU (a0:Int) (w:World):Option (Sl×World) :=
 aN (mkS Try.prog 72 8 8 w) fun s1 w2 =>
 (bM (fun s:Int×World=>mF s1 a0 s.1 s.2) (0,w2)).bind fun w8 =>
 some (s1,w8)
theorem nE {a0 w w' r0} (h:jU a0 w=some (r0,w')):Calls Try.prog 81 #[(.int .i64 a0)] w fun e w''=>e=.returned (Sl.v r0)/\w''=w':=by
 refine aP (n:=26) Try.func81 rfl Try.ntmps81 (by simp) fun a u=>?_;unfold jU at h;refine wp_seq<|aA<|qa u rfl fun a u=>aB<|t_n<|wp_seq<|aA<|qm u rfl fun a u=>q u (iP u rfl aIk aHu) fun a u=>q u (aDY u rfl rfl) fun a u=>qa u rfl fun a u=>aB<|t_n<|wp_seq<|aA<|?_;have⟨s1,w2,e3,h⟩:=bs2 h;refine q u (uQ u rfl rfl e3) fun a u=>qa u rfl fun a u=>aB<|t_n<|wp_seq<|wp_seq<|aA<|qm u rfl fun a u=>q u (aZ u rfl aGK) fun a u=>qm u rfl fun a u=>aB<|t_n<|wp_block<|?_;have⟨w8,e7,h⟩:=bs1 h;refine gT (n:=26) (L:=[(4,(Sl.v s1))]) (w':=w8) (e:=.exit 0) (I:=fun (s:Int×World) a w=>Has 26 [(12,(iV s.1)),(3,(.int .u64 (uE .u64 (IntKind.wrap .u64 a0) 9223372036854775808))),(4,(Sl.v s1)),(11,(iV (s1.n:Int)))] a/\w=s.2) ⟨u.sub ⟨rfl,rfl,rfl,rfl,aLz⟩,rfl⟩ e7 (fun a u=>?_) (fun hk9=>?_)
 .refine eC<|t_n<|wp_seq<|aA<|qm u rfl fun a u=>qa u rfl fun a u=>aB<|t_n<|wp_ret<|?_;have y:=u;cases h;exact bI Try.results81 y rfl ⟨rfl,rfl⟩
 clear h;rintro⟨x4,w5⟩ a wq o ⟨u,hwq⟩ h hr10;obtain rfl:w5=wq:=hwq.symm;have u:Has 26 [(12,(iV x4)),(3,(.int .u64 (uE .u64 (IntKind.wrap .u64 a0) 9223372036854775808))),(4,(Sl.v s1)),(11,(iV (s1.n:Int)))] a:=u;have h:mF s1 a0 x4 w5=some o:=h;unfold mF at h;refine wp_seq<|aA<|q u (dK u rfl rfl) fun a u=>aB<|t_n<|wp_seq<|?_;refine aO u rfl h (fun b11 h=>?_) (fun b11 h=>?_)
 .refine wp_skip<|t_n<|wp_seq<|wp_block<|wp_seq<|aA<|qm u rfl fun a u=>qa u rfl fun a u=>aB<|t_n<|aA<|qm u rfl fun a u=>qm u rfl fun a u=>qm u rfl fun a u=>qm u rfl fun a u=>q u (oN u rfl rfl) fun a u=>q u (iB u rfl rfl) fun a u=>?_;have⟨v12,e13,h⟩:=bs1 h;refine q u (aGk u rfl rfl e13) fun a u=>q u (iP u rfl aHu aGZ) fun a u=>?_;have⟨p14,e15,h⟩:=bs1 h;refine q u (bZ u rfl rfl aGK aGT e15) fun a u=>?_;have⟨w16,e17,h⟩:=bs1 h;refine q u (fO u rfl rfl aGT e17) fun a u=>aB<|b_n<|t_n<|aA<|q u (bJ u rfl rfl) fun a u=>qm u rfl fun a u=>aB<|?_;have y:=u;cases h;exact dS ⟨y.sb rfl,rfl⟩
 refine wp_exit<|t_x<|?_;have y:=u;cases h;cases hr10 _ rfl;refine lM<|?_;exact hk9 _ (y.sb rfl)
noncomputable def jN (a0:Option Addr) (a1:Int) (a2:Int) (w:World):Option (Int×World) :=
 if (a0.isNone)=true then
 (some (1,w))
 else
 ((a0).bind fun p2 =>
 (ldP w (p2.add 0)).bind fun v4 =>
 aN (dB v4 w) fun v6 w7 =>
 if v6=true then
 (some (10,w7))
 else
 (aN (if (decide (a1<0))=true then
 (some (true,w7))
 else
 ((ldI .i64 w7 (p2.add 2)).bind fun v15 =>
 if (decide (v15<=a1))=true then
 (some (true,w7))
 else
 (if (decide (a2<0))=true then
 (some (true,w7))
 else
 (some ((decide (1099511627776<a2)),w7))))) fun v10 w11 =>
 if v10=true then
 (some (2,w11))
 else
 (kE (jH a0 a1 w11) fun v20 v21 v22 w23 =>
 if (v21==4611686018427387904)=true then
 (some (6,w23))
 else
 ((ldI .i64 w23 (p2.add 1)).bind fun v26 =>
 (rmI (IntKind.wrap .i64 (v20+1)) 2).bind fun v28 =>
 (ldP w23 (p2.add 0)).bind fun v30 =>
 oM (eK v30 (IntKind.wrap .i64 ((IntKind.wrap .i64 (v26+(IntKind.wrap .i64 (2*a1))))+v28)) w23) fun v32 v33 w34 =>
 aN (mkS Try.prog 72 64 64 w34) fun s36 w37 =>
 (ix v32 63 1).bind fun p39 =>
 (ldI .u8 w37 p39).bind fun v41 =>
 (ix s36 0 1).bind fun p43 =>
 (stV w37 p43 (.int .u8 (IntKind.wrap .u8 (v41+1)))).bind fun w45 =>
 (ix s36 0 1).bind fun p47 =>
 (ldI .u8 w45 p47).bind fun v49 =>
 (ix s36 63 1).bind fun p51 =>
 (stV w45 p51 (.int .u8 v49)).bind fun w53 =>
 (dr w53).bind fun w55 =>
 (slS s36 1 (s36.n:Int) (s36.c:Int) 1).bind fun s57 =>
 aN (jU (IntKind.wrap .i64 (v21+1)) w55) fun v59 w60 =>
 aN (cpS Try.prog 72 72 s57 v59 w60) fun v62 w63 =>
 (dr w63).bind fun w65 =>
 (slS s36 9 (s36.n:Int) (s36.c:Int) 1).bind fun s67 =>
 aN (jU a2 w65) fun v69 w70 =>
 aN (cpS Try.prog 72 72 s67 v69 w70) fun v72 w73 =>
 (ldP w73 (p2.add 0)).bind fun v75 =>
 aN (cD v75 (IntKind.wrap .i64 ((IntKind.wrap .i64 (v26+(IntKind.wrap .i64 (2*a1))))+v28)) s36 w73) fun v77 w78 =>
 if (v77 !=0)=true then
 (some (v77,w78))
 else
 ((ldP w78 (p2.add 0)).bind fun v81 =>
 aN (bY v81 w78) fun v83 w84 =>
 some (v83,w84))))))
theorem sZ {a0 a1 a2 w w' r0} (h:jN a0 a1 a2 w=some (r0,w')):Calls Try.prog 88 #[(.pointer a0),(.int .i64 a1),(.int .i64 a2)] w fun e w''=>e=.returned (.int .i64 r0)/\w''=w':=by
 refine aP (n:=110) Try.func88 rfl Try.ntmps88 (by simp) fun a u=>?_;unfold jN at h;refine wp_seq<|aA<|qa u rfl fun a u=>aB<|t_n<|wp_seq<|wp_block<|wp_seq<|aA<|qm u rfl fun a u=>q u (jJ u rfl rfl Try.runUnderlying116) fun a u=>qa u rfl fun a u=>aB<|t_n<|?_;refine aO u rfl h (fun b1 h=>?_) (fun b1 h=>?_)
 .refine wp_seq<|aA<|qa u rfl fun a u=>aB<|t_n<|wp_ret<|b_r<|t_r<|?_;have y:=u;cases h;exact bI Try.results88 y rfl ⟨rfl,rfl⟩
 refine wp_seq<|aA<|qm u rfl fun a u=>?_;have⟨p2,e3,h⟩:=bs1 h;refine q u (aH u rfl e3) fun a u=>q u (aK u rfl aHD rfl rfl aHm) fun a u=>?_;have⟨v4,e5,h⟩:=bs1 h;refine q u (aJ u rfl aHj (bA e5)) fun a u=>?_;have⟨v6,w7,e8,h⟩:=bs2 h;refine q u (dc1 u rfl Try.call47 (hJ e8)) fun a u=>qa u rfl fun a u=>aB<|t_n<|?_;refine aO u rfl h (fun b9 h=>?_) (fun b9 h=>?_)
 .refine wp_seq<|aA<|qa u rfl fun a u=>aB<|t_n<|wp_ret<|b_r<|t_r<|?_;have y:=u;cases h;exact bI Try.results88 y rfl ⟨rfl,rfl⟩
 refine wp_seq<|?_;have⟨v10,w11,e12,h⟩:=bs2 h;refine bP (n:=110) (L:=[(24,(bV v10)),(0,(pV a0)),(1,(iV a1)),(2,(iV a2))]) (w':=w11) (fun a u=>?_) (fun hk13=>?_)
 .refine t_n<|?_;refine aO u rfl h (fun b19 h=>?_) (fun b19 h=>?_)
  .refine wp_seq<|aA<|qa u rfl fun a u=>aB<|t_n<|wp_ret<|b_r<|t_r<|?_;have y:=u;cases h;exact bI Try.results88 y rfl ⟨rfl,rfl⟩
  refine wp_skip<|b_n<|t_n<|wp_seq<|aA<|qm u rfl fun a u=>qm u rfl fun a u=>?_;have⟨v20,v21,v22,w23,e24,h⟩:=bs4 h;refine q u (dc2 u rfl rfl Try.call122 (oK e24)) fun a u=>qm u rfl fun a u=>q u (aW u rfl rfl) fun a u=>q u (aW u rfl rfl) fun a u=>q u (aW u rfl rfl) fun a u=>qa u rfl fun a u=>qa u rfl fun a u=>qa u rfl fun a u=>aB<|t_n<|wp_seq<|wp_seq<|aA<|qm u rfl fun a u=>q u (gD u rfl rfl) fun a u=>aB<|t_n<|?_;refine aO u rfl h (fun b25 h=>?_) (fun b25 h=>?_)
  .refine wp_seq<|aA<|qa u rfl fun a u=>aB<|t_n<|wp_ret<|t_r<|?_;have y:=u;cases h;exact bI Try.results88 y rfl ⟨rfl,rfl⟩
  refine wp_skip<|t_n<|wp_seq<|aA<|qm u rfl fun a u=>q u (aH u rfl e3) fun a u=>q u (aK u rfl aHD rfl rfl aGL) fun a u=>?_;have⟨v26,e27,h⟩:=bs1 h;refine q u (aJ u rfl aGN (aQ e27)) fun a u=>qm u rfl fun a u=>q u (oN u rfl rfl) fun a u=>q u (bJ u rfl rfl) fun a u=>qm u rfl fun a u=>q u (bJ u rfl rfl) fun a u=>?_;have⟨v28,e29,h⟩:=bs1 h;refine q u (sH u rfl rfl e29) fun a u=>q u (bJ u rfl rfl) fun a u=>qa u rfl fun a u=>aB<|t_n<|wp_seq<|aA<|qm u rfl fun a u=>q u (aH u rfl e3) fun a u=>q u (aK u rfl aHD rfl rfl aHm) fun a u=>?_;have⟨v30,e31,h⟩:=bs1 h;refine q u (aJ u rfl aHj (bA e31)) fun a u=>qm u rfl fun a u=>?_;have⟨v32,v33,w34,e35,h⟩:=bs3 h;refine q u (dc2 u rfl rfl Try.call99 (mN e35)) fun a u=>qm u rfl fun a u=>q u (aW u rfl rfl) fun a u=>q u (aW u rfl rfl) fun a u=>qa u rfl fun a u=>qa u rfl fun a u=>aB<|t_n<|wp_seq<|aA<|?_;have⟨s36,w37,e38,h⟩:=bs2 h;refine q u (uQ u rfl rfl e38) fun a u=>qa u rfl fun a u=>aB<|t_n<|wp_seq<|aA<|qm u rfl fun a u=>qm u rfl fun a u=>?_;have⟨p39,e40,h⟩:=bs1 h;refine q u (bZ u rfl rfl aGK aGT e40) fun a u=>?_;have⟨v41,e42,h⟩:=bs1 h;refine q u (aJ u rfl aHs (aQ e42)) fun a u=>q u (bJ u rfl rfl) fun a u=>?_;have⟨p43,e44,h⟩:=bs1 h;refine q u (bZ u rfl rfl aGK aGT e44) fun a u=>?_;have⟨w45,e46,h⟩:=bs1 h;refine q u (fO u rfl rfl aGT e46) fun a u=>aB<|t_n<|wp_seq<|aA<|qm u rfl fun a u=>qm u rfl fun a u=>?_;have⟨p47,e48,h⟩:=bs1 h;refine q u (bZ u rfl rfl aGK aGT e48) fun a u=>?_;have⟨v49,e50,h⟩:=bs1 h;refine q u (aJ u rfl aHs (aQ e50)) fun a u=>?_;have⟨p51,e52,h⟩:=bs1 h;refine q u (bZ u rfl rfl aGK aGT e52) fun a u=>?_;have⟨w53,e54,h⟩:=bs1 h;refine q u (fO u rfl rfl aGT e54) fun a u=>aB<|t_n<|wp_seq<|?_;have⟨w55,e56,h⟩:=bs1 h;have⟨s57,e58,h⟩:=bs1 h;have⟨v59,w60,e61,h⟩:=bs2 h;have⟨v62,w63,e64,h⟩:=bs2 h;have u:Has 110 [(0,(pV a0)),(2,(iV a2)),(8,(iV v21)),(10,(iV (IntKind.wrap .i64 ((IntKind.wrap .i64 (v26+(IntKind.wrap .i64 (2*a1))))+v28)))),(13,(Sl.v s36))] a:=u.sb rfl;refine aM (n:=110) (ds:=(aI (Sl.v s36) false 0 1 [] [(13,(Sl.v s36))]::aI (Sl.v s57) false 0 1 [0] [(84,(Sl.v s36))]::aS (iV v21) 0 [] 8::aG (iV (IntKind.wrap .i64 (v21+1))) 0 [2] 86 (iV v21)::aI (Sl.v v59) true 0 0 [2,3] [(87,(iV (IntKind.wrap .i64 (v21+1))))]::aI (iV v62) true 1 1 (rn 0 5) [(85,(Sl.v s57)),(88,(Sl.v v59))]::[])) (W:=(fun j=>match j with | 0=>w55 | 1=>w60 | 2=>w63 | _=>w63)) (by kernel_rfl) u (cY e56) (by kernel_rfl) ?_ (aR (by kernel_rfl)) (by kernel_rfl) (m:=2) (by kernel_rfl) (fun a u=>?_)
  .exact⟨oa (aC · rfl),oa (oG · rfl aGK aGT ⟨_,rfl⟩ rfl rfl (by simp) e58),oa (aC · rfl),oa (bJ · rfl rfl),oc 0 (kd (dc1 · rfl Try.call81 (nE e61))),oc 1 (kd (aAg · rfl rfl e64)),aLz⟩
  have u:Has 110 [(0,(pV a0)),(2,(iV a2)),(10,(iV (IntKind.wrap .i64 ((IntKind.wrap .i64 (v26+(IntKind.wrap .i64 (2*a1))))+v28)))),(13,(Sl.v s36))] a:=u.sb rfl;refine t_n<|wp_seq<|?_;have⟨w65,e66,h⟩:=bs1 h;have⟨s67,e68,h⟩:=bs1 h;have⟨v69,w70,e71,h⟩:=bs2 h;have⟨v72,w73,e74,h⟩:=bs2 h;have u:Has 110 [(0,(pV a0)),(2,(iV a2)),(10,(iV (IntKind.wrap .i64 ((IntKind.wrap .i64 (v26+(IntKind.wrap .i64 (2*a1))))+v28)))),(13,(Sl.v s36))] a:=u.sb rfl;refine aM (n:=110) (ds:=(aI (Sl.v s36) false 0 1 [] [(13,(Sl.v s36))]::aI (Sl.v s67) false 0 1 [0] [(90,(Sl.v s36))]::aS (iV a2) 0 [] 2::aI (Sl.v v69) true 0 0 [2] [(92,(iV a2))]::aI (iV v72) true 1 1 (rn 0 4) [(91,(Sl.v s67)),(93,(Sl.v v69))]::[])) (W:=(fun j=>match j with | 0=>w65 | 1=>w70 | 2=>w73 | _=>w73)) (by kernel_rfl) u (cY e66) (by kernel_rfl) ?_ (aR (by kernel_rfl)) (by kernel_rfl) (m:=2) (by kernel_rfl) (fun a u=>?_)
  .exact⟨oa (aC · rfl),oa (oG · rfl aGK aGT ⟨_,rfl⟩ rfl rfl (by simp) e68),oa (aC · rfl),oc 0 (kd (dc1 · rfl Try.call81 (nE e71))),oc 1 (kd (aAg · rfl rfl e74)),aLz⟩
  have u:Has 110 [(0,(pV a0)),(10,(iV (IntKind.wrap .i64 ((IntKind.wrap .i64 (v26+(IntKind.wrap .i64 (2*a1))))+v28)))),(13,(Sl.v s36))] a:=u.sb rfl;refine t_n<|wp_seq<|wp_seq<|aA<|qm u rfl fun a u=>q u (aH u rfl e3) fun a u=>q u (aK u rfl aHD rfl rfl aHm) fun a u=>?_;have⟨v75,e76,h⟩:=bs1 h;refine q u (aJ u rfl aHj (bA e76)) fun a u=>qm u rfl fun a u=>qm u rfl fun a u=>?_;have⟨v77,w78,e79,h⟩:=bs2 h;refine q u (dc3 u rfl rfl rfl Try.call84 (fC e79)) fun a u=>qa u rfl fun a u=>aB<|t_n<|wp_seq<|aA<|qm u rfl fun a u=>q u (fJ u rfl rfl) fun a u=>aB<|t_n<|?_;refine aO u rfl h (fun b80 h=>?_) (fun b80 h=>?_)
  .refine wp_seq<|aA<|qm u rfl fun a u=>qa u rfl fun a u=>aB<|t_n<|wp_ret<|t_r<|?_;have y:=u;cases h;exact bI Try.results88 y rfl ⟨rfl,rfl⟩
  refine wp_skip<|t_n<|wp_seq<|aA<|qm u rfl fun a u=>q u (aH u rfl e3) fun a u=>q u (aK u rfl aHD rfl rfl aHm) fun a u=>?_;have⟨v81,e82,h⟩:=bs1 h;refine q u (aJ u rfl aHj (bA e82)) fun a u=>?_;have⟨v83,w84,e85,h⟩:=bs2 h;refine q u (dc1 u rfl Try.call36 (jB e85)) fun a u=>qa u rfl fun a u=>aB<|t_n<|wp_ret<|?_;have y:=u;cases h;exact bI Try.results88 y rfl ⟨rfl,rfl⟩
 clear h;have h:=e12;refine aA<|qm u rfl fun a u=>q u (dK u rfl rfl) fun a u=>qm u rfl fun a u=>?_;refine bW h (fun b14 h=>?_) (fun b14 h=>?_)
 .refine qn u 27 (tn b14) fun a u=>qn u 27 (tn b14) fun a u=>qn u 27 (tn b14) fun a u=>qn u 27 (tn b14) fun a u=>qn u 27 (tn b14) fun a u=>qn u 27 (tn b14) fun a u=>q u (aF u rfl b14 rfl) fun a u=>qm u rfl fun a u=>qn u 35 (tn rfl) fun a u=>qn u 35 (tn rfl) fun a u=>q u (aF u rfl rfl rfl) fun a u=>qm u rfl fun a u=>qn u 39 (tn rfl) fun a u=>qn u 39 (tn rfl) fun a u=>q u (aF u rfl rfl rfl) fun a u=>qa u rfl fun a u=>aB<|?_;have y:=u;cases h;exact hk13 _ (y.sb rfl)
 refine qg u 27 (nt b14) (aC u rfl) fun a u=>qg u 27 (nt b14) (aC u rfl) fun a u=>qg u 27 (nt b14) (aH u rfl e3) fun a u=>qg u 27 (nt b14) (aK u rfl aHD rfl rfl aGL) fun a u=>?_;have⟨v15,e16,h⟩:=bs1 h;refine qg u 27 (nt b14) (aJ u rfl aGN (aQ e16)) fun a u=>qg u 27 (nt b14) (pP u rfl rfl) fun a u=>q u (aL u rfl b14 rfl) fun a u=>qm u rfl fun a u=>?_;refine bW h (fun b17 h=>?_) (fun b17 h=>?_)
 .refine qn u 35 (tn b17) fun a u=>qn u 35 (tn b17) fun a u=>q u (aF u rfl b17 rfl) fun a u=>qm u rfl fun a u=>qn u 39 (tn rfl) fun a u=>qn u 39 (tn rfl) fun a u=>q u (aF u rfl rfl rfl) fun a u=>qa u rfl fun a u=>aB<|?_;have y:=u;cases h;exact hk13 _ (y.sb rfl)
 refine qg u 35 (nt b17) (aC u rfl) fun a u=>qg u 35 (nt b17) (dK u rfl rfl) fun a u=>q u (aL u rfl b17 rfl) fun a u=>qm u rfl fun a u=>?_;refine bW h (fun b18 h=>?_) (fun b18 h=>?_)
 .refine qn u 39 (tn b18) fun a u=>qn u 39 (tn b18) fun a u=>q u (aF u rfl b18 rfl) fun a u=>qa u rfl fun a u=>aB<|?_;have y:=u;cases h;exact hk13 _ (y.sb rfl)
 refine qg u 39 (nt b18) (aC u rfl) fun a u=>qg u 39 (nt b18) (gF u rfl rfl) fun a u=>q u (aL u rfl b18 rfl) fun a u=>qa u rfl fun a u=>aB<|?_;have y:=u;cases h;exact hk13 _ (y.sb rfl)
noncomputable def kM (a0:Option Addr) (a1:Int) (w:World):Option (Int×Bool×World) :=
 aN (if (a0.isNone)=true then
 (some (true,w))
 else
 (if (decide (a1<0))=true then
 (some (true,w))
 else
 ((a0).bind fun p7 =>
 (ldI .i64 w (p7.add 2)).bind fun v9 =>
 some ((decide (v9<=a1)),w)))) fun v1 w2 =>
 if v1=true then
 (some (0,false,w2))
 else
 (kE (jH a0 a1 w2) fun v12 v13 v14 w15 =>
 some (v14,(decide (0<=v12)),w15))
theorem tI {a0 a1 w w' r0 r1} (h:kM a0 a1 w=some (r0,r1,w')):Calls Try.prog 109 #[(.pointer a0),(.int .i64 a1)] w fun e w''=>e=.returned (.tuple #[(.int .i64 r0),(.bool r1)])/\w''=w':=by
 refine aP (n:=33) Try.func109 rfl Try.ntmps109 (by simp) fun a u=>?_;unfold kM at h;refine wp_seq<|aA<|qa u rfl fun a u=>qa u rfl fun a u=>aB<|t_n<|wp_seq<|wp_seq<|?_;have⟨v1,w2,e3,h⟩:=bs2 h;refine bP (n:=33) (L:=[(22,(bV v1)),(0,(pV a0)),(1,(iV a1))]) (w':=w2) (fun a u=>?_) (fun hk4=>?_)
 .refine t_n<|?_;refine aO u rfl h (fun b11 h=>?_) (fun b11 h=>?_)
  .refine wp_seq<|aA<|qa u rfl fun a u=>qa u rfl fun a u=>aB<|t_n<|wp_ret<|t_r<|?_;have y:=u;cases h;exact jA Try.results109 y rfl rfl ⟨rfl,rfl⟩
  refine wp_skip<|t_n<|wp_seq<|aA<|qm u rfl fun a u=>qm u rfl fun a u=>?_;have⟨v12,v13,v14,w15,e16,h⟩:=bs4 h;refine q u (dc2 u rfl rfl Try.call122 (oK e16)) fun a u=>qm u rfl fun a u=>q u (aW u rfl rfl) fun a u=>q u (aW u rfl rfl) fun a u=>q u (aW u rfl rfl) fun a u=>qa u rfl fun a u=>qa u rfl fun a u=>qa u rfl fun a u=>aB<|t_n<|wp_seq<|aA<|qm u rfl fun a u=>qm u rfl fun a u=>q u (pP u rfl rfl) fun a u=>qa u rfl fun a u=>qa u rfl fun a u=>aB<|t_n<|wp_ret<|?_;have y:=u;cases h;exact jA Try.results109 y rfl rfl ⟨rfl,rfl⟩
 clear h;have h:=e3;refine aA<|qm u rfl fun a u=>q u (jJ u rfl rfl Try.runUnderlying116) fun a u=>qm u rfl fun a u=>?_;refine bW h (fun b5 h=>?_) (fun b5 h=>?_)
 .refine qn u 11 (tn b5) fun a u=>qn u 11 (tn b5) fun a u=>q u (aF u rfl b5 rfl) fun a u=>qm u rfl fun a u=>qn u 15 (tn rfl) fun a u=>qn u 15 (tn rfl) fun a u=>qn u 15 (tn rfl) fun a u=>qn u 15 (tn rfl) fun a u=>qn u 15 (tn rfl) fun a u=>qn u 15 (tn rfl) fun a u=>q u (aF u rfl rfl rfl) fun a u=>aB<|?_;have y:=u;cases h;exact hk4 _ (y.sb rfl)
 refine qg u 11 (nt b5) (aC u rfl) fun a u=>qg u 11 (nt b5) (dK u rfl rfl) fun a u=>q u (aL u rfl b5 rfl) fun a u=>qm u rfl fun a u=>?_;refine bW h (fun b6 h=>?_) (fun b6 h=>?_)
 .refine qn u 15 (tn b6) fun a u=>qn u 15 (tn b6) fun a u=>qn u 15 (tn b6) fun a u=>qn u 15 (tn b6) fun a u=>qn u 15 (tn b6) fun a u=>qn u 15 (tn b6) fun a u=>q u (aF u rfl b6 rfl) fun a u=>aB<|?_;have y:=u;cases h;exact hk4 _ (y.sb rfl)
 refine qg u 15 (nt b6) (aC u rfl) fun a u=>qg u 15 (nt b6) (aC u rfl) fun a u=>?_;have⟨p7,e8,h⟩:=bs1 h;refine qg u 15 (nt b6) (aH u rfl e8) fun a u=>qg u 15 (nt b6) (aK u rfl aHD rfl rfl aGL) fun a u=>?_;have⟨v9,e10,h⟩:=bs1 h;refine qg u 15 (nt b6) (aJ u rfl aGN (aQ e10)) fun a u=>qg u 15 (nt b6) (pP u rfl rfl) fun a u=>q u (aL u rfl b6 rfl) fun a u=>aB<|?_;have y:=u;cases h;exact hk4 _ (y.sb rfl)
theorem wE {u:Nat} (h:u<2^63):u ^^^ 2^63=u+2^63:=by
 apply Nat.eq_of_testBit_eq;intro i;rw[Nat.testBit_xor,Nat.testBit_two_pow,aLl];by_cases hi:i=63
 .subst hi;rw[Nat.testBit_two_pow_add_eq,aKG h];rfl
 by_cases h2:i<63
 .rw[Nat.testBit_two_pow_add_gt h2];simp[Ne.symm hi]
 have h3:u<2^i:=aIX h (Nat.pow_le_pow_right (by decide) (by omega));have h4:2^63+u<2^i:=by
  have:2^64<=2^i:=Nat.pow_le_pow_right (by decide) (by omega);omega
 rw[aKG h3,aKG h4];simp[Ne.symm hi]
theorem aEi {u:Nat} (h:2^63<=u) (h2:u<2^64):u ^^^ 2^63=u-2^63:=by
 obtain⟨v,rfl⟩:∃ v,u=v+2^63:=⟨u-2^63,by omega⟩;rw[<-wE (by omega),Nat.xor_assoc,Nat.xor_self,Nat.xor_zero,wE (by omega)];omega
theorem rV {x:Nat} (h:x<18446744073709551616):(BitVec.ofInt 64 (x:Int)).toNat=x:=by
 rw[BitVec.toNat_ofInt];simp;omega
theorem aEk {u:Int} (h0:0<=u) (h1:u<18446744073709551616):uE .u64 u 9223372036854775808=(u+9223372036854775808) % 18446744073709551616:=by
 obtain⟨x,rfl⟩:=aKD h0;show IntKind.wrap .u64 ((BitVec.ofInt 64 (x:Int) ^^^ BitVec.ofInt 64 9223372036854775808:BitVec 64).toNat:Int)=_;rw[BitVec.toNat_xor,rV (by omega),show(9223372036854775808:Int)=((9223372036854775808:Nat):Int) from rfl,rV (by omega),kW];have e:(9223372036854775808:Nat)=2^63:=by decide
 by_cases h:x<2^63
 .rw[e,wE h];omega
 rw[e,aEi (by omega) (by omega)];omega
theorem aGI {x b:Int} (h0:0<=x) (h1:x<72057594037927936) (b0:0<=b) (b1:b<256):bor .u64 (x*256) b=x*256+b:=by
 obtain⟨x,rfl⟩:=aKD h0;obtain⟨b,rfl⟩:=aKD b0;show IntKind.wrap .u64 ((BitVec.ofInt 64 ((x:Int)*256) ||| BitVec.ofInt 64 (b:Int):BitVec 64).toNat:Int)=_;rw[BitVec.toNat_or,show((x:Int)*256)=((x*256:Nat):Int) by omega,rV (by omega),rV (by omega),kW];have:=Nat.shiftLeft_add_eq_or_of_lt (i:=8) (b:=b) (by omega) x;rw[Nat.shiftLeft_eq] at this;rw[show x*256=x*2 ^ 8 from rfl,<-this];omega
def be (xs:List Int):Int:=xs.foldl (fun x b=>x*256+b) 0
def fK (n:Int):List Int:=(List.range 8).map fun j=>(n+9223372036854775808) / 2 ^ (56-8*j) % 256
def eY (xs:List Int) (i:Nat):Int:=be ((xs.drop i).take 8)-9223372036854775808
def bU (xs:List Int):Prop:=∀ b∈xs,0<=b/\b<256
theorem xV (xs:List Int) (b:Int):be (xs++[b])=be xs*256+b:=by simp[be]
theorem zQ:∀ (n:Nat) (xs:List Int),xs.length=n->bU xs->0<=be xs/\be xs<256 ^ n:=by
 intro n
 induction n with
 | zero =>
  intro xs h _;have:xs=[]:=aIA h;subst this;simp[be]
 | succ n ih =>
  intro xs h hb;rcases List.eq_nil_or_concat xs with rfl | ⟨ys,b,rfl⟩
  .simp at h
  rw[List.concat_eq_append] at h hb ⊢;simp only[aIE,List.length_singleton] at h;have h1:=ih ys (by omega) (fun y hy=>hb y (by simp[hy]));have h2:=hb b (by simp);rw[xV,Int.pow_succ];omega
theorem gU (n:Int):(fK n).length=8:=by simp[fK]
theorem pO (n:Int):bU (fK n):=by
 intro b hb;simp only[fK,aIP] at hb;obtain⟨j,_,rfl⟩:=hb;omega
section
variable {w w' : World}
theorem aGD:∀ p:Nat,p<=7->(256:Int) ^ p<=72057594037927936:=by decide
theorem aEp {pre suf:List Int} (hl:(pre++suf).length=8) (hb:bU (pre++suf)) (hs:suf≠[]):0<=be pre/\be pre<72057594037927936:=by
 have h1:=zQ pre.length pre rfl (fun y hy=>hb y (by simp[hy]));have hn:pre.length<=7:=by
  have:suf.length≠0:=fun h=>hs (aIA h);simp at hl;omega
 refine⟨h1.1,Int.lt_of_lt_of_le h1.2 ?_⟩;exact aGD _ hn
theorem aCw {s8:Sl} {ys:List Int} (h:Rd w s8 1 (nums .u8 ys)) (hl:ys.length=8) (hb:bU ys):∀ (suf pre:List Int),ys=pre++suf ->
  bM (fun s:Int×Int×World=>iH s8 s.1 s.2.1 s.2.2) (be pre,(pre.length:Int),w)=some (be ys,w):=by
 have hn:ys.length=s8.n:=by have:=h.len;simpa using this
 intro suf
 induction suf with
 | nil =>
  intro pre hp;have:pre=ys:=by simpa using hp.symm
  subst this;refine bS ?_;have:decide ((pre.length:Int)<(s8.n:Int))=false:=by simp;omega
  simp only[iH,this,aIx,if_false]
 | cons b suf ih =>
  intro pre hp;have hk:pre.length<ys.length:=by rw[hp];simp
  obtain⟨a,e1,e2⟩:=tM (i:=pre.length) h hk;have hbx:ys.getD pre.length 0=b:=by rw[hp,aIu];simp
  rw[hbx] at e2;have hr:=aEp (pre:=pre) (suf:=b::suf) (by rw[<-hp];exact hl) (by rw[<-hp];exact hb) (by simp);have hb0:=hb b (by rw[hp];simp);have hlt:decide ((pre.length:Int)<(s8.n:Int))=true:=by simp;omega
  rw[<-ih (pre++[b]) (by rw[hp];simp),xV,<-aGI hr.1 hr.2 hb0.1 hb0.2,show((pre++[b]).length:Int)=((pre.length+1:Nat):Int) by simp];refine cH ?_;have e3:aDT .u64 (be pre) 8=some (be pre*256):=by
   have:IntKind.wrap .u64 (be pre*2 ^ min (8:Int).toNat (IntKind.bits .u64))=be pre*256:=by
    rw[show(2:Int) ^ min (8:Int).toNat (IntKind.bits .u64)=256 from rfl,kW];omega
   unfold aDT;rw[if_neg (by decide),this]
  have e4:IntKind.wrap .u64 b=b:=by rw[kW];omega
  simp only[iH,hlt,if_true,e1,aLx,e2,e3,e4];rw[cC (by omega)]
theorem aDv {u:Int} (h0:0<=u) (h1:u<18446744073709551616):IntKind.wrap .i64 (uE .u64 u 9223372036854775808)=u-9223372036854775808:=by
 rw[aEk h0 h1,aIy];omega
theorem be8 {ys:List Int} (hl:ys.length=8) (hb:bU ys):0<=be ys/\be ys<18446744073709551616:=by
 have:=zQ 8 ys hl hb;exact⟨this.1,Int.lt_of_lt_of_le this.2 (by decide)⟩
theorem tK {s:Sl} {xs:List Int} {i:Nat} (h:Rd w s 1 (nums .u8 xs)) (hb:bU xs) (hi:i+8<=xs.length) (hc:s.n<=s.c) (hm:s.n<1000000):cV s (i:Int) w=some (eY xs i,((i+8:Nat):Int),0,w):=by
 have hn:xs.length=s.n:=by have:=h.len;simpa using this
 obtain⟨s8,e8,r8,n8,_⟩:=uZ (lo:=i) (hi:=i+8) h (by omega) (by omega) hc;have hy:((nums .u8 xs).drop i).take (i+8-i)=nums .u8 ((xs.drop i).take 8):=by
  rw[show i+8-i=8 by omega];simp[nums,aKN,aKB]
 rw[hy] at r8;have hl:((xs.drop i).take 8).length=8:=by simp;omega
 have hby:bU ((xs.drop i).take 8):=fun b hb'=>hb b (aJC (aJh hb'));have hloop:=aCw r8 hl hby ((xs.drop i).take 8) [] rfl;have hr:=be8 hl hby;have g1:decide ((i:Int)<0)=false:=by simp
 have g2:decide ((s.n:Int)<(i:Int))=false:=by simp;omega
 have g3:decide (IntKind.wrap .i64 ((s.n:Int)-(i:Int))<8)=false:=by rw[aIy];simp;omega
 have g4:IntKind.wrap .i64 ((i:Int)+8)=((i+8:Nat):Int):=by rw[aIy];omega
 simp only[aIS,aJQ] at hloop;unfold cV;rw[g1,if_neg (by simp),g2,aE,if_neg (by simp),g3,if_neg (by simp),g4,e8,aLx];have hloop':bM (fun s:Int×Int×World=>iH s8 s.1 s.2.1 s.2.2) (0,0,w)=some (be ((xs.drop i).take 8),w):=hloop;rw[hloop',aE,aDv hr.1 hr.2];rfl
theorem aCb {n:Int} {j:Nat} (hj:j<8):(fK n).getD j 0=(n+9223372036854775808) / 2 ^ (56-8*j) % 256:=by
 rw[aIu,fK,aJA,List.getElem?_range hj];rfl
theorem aBB {n:Int} {xs:List Int} (hl:xs.length=8) (h:∀ j,j<8->xs.getD j 0=(fK n).getD j 0):xs=fK n:=by
 refine List.ext_getElem (by rw[hl,gU]) (fun j h1 h2=>?_);have:=h j (by omega);rw[aIu,aIu,aIs h1,aIs h2] at this;exact this
theorem zK {xs:List Int} {k j:Nat} {v:Int} (hk:k<xs.length):(xs.set k v).getD j 0=if k=j then v else xs.getD j 0:=by
 rw[aIu,List.getElem?_set];split
 .subst_vars;simp[hk]
 rw[aIu]
theorem aEc {n:Int} {T:TypeId} {s1:Sl} (hn:s1.n=8) (h0 : -9223372036854775808<=n) (h1:n<=9223372036854775807):∀ (m k:Nat) (xs:List Int) (w:World),k+m=8->xs.length=8->(∀ j,j<k->xs.getD j 0=(fK n).getD j 0)->Own w T s1 1 (nums .u8 xs) ->
  ∃ w',bM (fun s:Int×World=>mF s1 n s.1 s.2) ((k:Int),w)=some w'/\Own w' T s1 1 (nums .u8 (fK n))/\Fr s1.blk w w':=by
 intro m
 induction m with
 | zero =>
  intro k xs w hk hl hx ho;have:k=8:=by omega
  subst this;refine⟨w,bS ?_,by rw[<-aBB hl hx];exact ho,Fr.refl⟩;simp[mF,hn]
 | succ m ih =>
  intro k xs w hk hl hx ho;have hk8:k<8:=by omega
  have hlt:decide ((k:Int)<(s1.n:Int))=true:=by simp;omega
  obtain⟨g,w1,e1,_,_,e3,o1,f1⟩:=aBL ((fK n).getD k 0) ho (show k<s1.n by omega);obtain⟨w',e',o',f'⟩:=ih (k+1) _ w1 (by omega) (by rw[aJR];exact hl) (fun j hj=>by
   rw[zK (by omega)];split
   .subst_vars;rfl
   exact hx j (by omega)) o1
  refine⟨w',?_,o',f1.trans f'⟩;rw[<-e',<-cC (show k<9223372036854775807 by omega)];refine cH ?_;have e0:IntKind.wrap .i64 (56-IntKind.wrap .i64 (8*(k:Int)))=((56-8*k:Nat):Int):=by rw[aIy,aIy];omega
  have hu:uE .u64 (IntKind.wrap .u64 n) 9223372036854775808=n+9223372036854775808:=by
   rw[kW,aEk (by omega) (by omega)];omega
  have e4:aDn .u64 (n+9223372036854775808) ((56-8*k:Nat):Int)=some ((n+9223372036854775808) / 2 ^ (56-8*k)):=by
   unfold aDn;rw[if_neg (by omega),aJH,show min (56-8*k) (IntKind.bits .u64)=56-8*k by simp[IntKind.bits];omega,Int.fdiv_eq_ediv_of_nonneg _ (aLr (by decide))]
  have e5:IntKind.wrap .u8 ((n+9223372036854775808) / 2 ^ (56-8*k))=(fK n).getD k 0:=by
   rw[aCb hk8];simp[IntKind.wrap,IntKind.bits,IntKind.signed]
  simp only[mF,hlt,if_true,hu,e0,e4,aLx,e1,e5,e3]
theorem aBg {n:Int} (h0 : -9223372036854775808<=n) (h1:n<=9223372036854775807):∃ o w',jU n w=some (o,w')/\iS w' o (fK n)/\(∀ k,o.blk k->w.heap.size<=k)/\(∀ S,Fr S w w'):=by
 obtain⟨w1,e1,n1⟩:=wW (w:=w) mS (m:=8) (by omega) (by omega);rw[show(8:Int).toNat=8 from rfl] at e1 n1;rw[nV] at n1;have o1:iS w1 ⟨some ⟨w.heap.size,0,none⟩,8,8⟩ (List.replicate 8 0):=Own.of_new n1 (by simp only[bG,aIM]) (by omega);obtain⟨w',e',o',f'⟩:=aEc (n:=n) (s1:=⟨some ⟨w.heap.size,0,none⟩,8,8⟩) rfl h0 h1 8 0 _ w1 rfl (by simp only[aIM]) (fun j hj=>by omega) o1;simp only[aJQ] at e';refine⟨_,w',?_,o',fun k hk=>aKc (sQ hk).symm,fun S=>(n1.fr _ S (aIv _)).fr.trans_new f' (fun k hk=>.inr (aKc (sQ hk).symm))⟩;unfold jU;rw[e1,aE,e',aLx]
end
def sB (x y:Int):Bool:=decide (1<=x)&&decide (x<=4611686018427387904)&&decide (0<=y)&&decide (y<=1099511627776)
def eG (b:List Int):Int×Int×Bool :=
 if b.length=64/\b.getD 0 0=b.getD 63 0 then
  if (sB (eY b 1) (eY b 9)&&((b.drop 17).take 46).all (·==0))=true then (eY b 1,eY b 9,true) else (0,0,false)
 else (0,0,false)
section
variable {w w' : World}
theorem aAQ {s:Sl} {zs:List Int} (h:Rd w s 1 (nums .u8 zs)) (hm:s.n<1000000):∀ (suf pre:List Int),zs=pre++suf ->
  bM (fun r:Int×World=>jF s r.1 r.2) ((pre.length:Int),w)=some (if (suf.all (·==0))=true then .inl w else .inr (0,0,false,w)):=by
 have hn:zs.length=s.n:=by have:=h.len;simpa using this
 intro suf
 induction suf with
 | nil =>
  intro pre hp;refine bS ?_;have hl:zs.length=pre.length:=by rw[hp];simp
  have:decide ((pre.length:Int)<(s.n:Int))=false:=by simp;omega
  simp only[jF,this,aIx,if_false,List.all_nil,if_true]
 | cons b suf ih =>
  intro pre hp;have hk:pre.length<zs.length:=by rw[hp];simp
  obtain⟨a,e1,e2⟩:=tM (i:=pre.length) h hk;have hbx:zs.getD pre.length 0=b:=by rw[hp,aIu];simp
  rw[hbx] at e2;have hlt:decide ((pre.length:Int)<(s.n:Int))=true:=by simp;omega
  by_cases hb:b=0
  .have:=ih (pre++[b]) (by rw[hp];simp);rw[show((pre++[b]).length:Int)=((pre.length+1:Nat):Int) by simp] at this;simp only[aLv,hb,beq_self_eq_true,aKr];rw[<-this];refine cH ?_;simp only[jF,hlt,if_true,e1,aLx,e2,hb,bne_self_eq_false,aIx,if_false];rw[cC (by omega)]
  have hb':(b==0)=false:=by simpa using hb
  have hb2:(b !=0)=true:=by simpa using hb
  simp only[aLv,hb',aLs,aIx,if_false];refine bS ?_;simp only[jF,hlt,if_true,e1,aLx,e2,hb2]
theorem aCf {x y:Int}:(if decide (x<1)=true then some (true,w) else if decide (4611686018427387904<x)=true then some (true,w) else if decide (y<0)=true then some (true,w) else some (decide (1099511627776<y),w))=some (!sB x y,w):=by
 unfold sB;by_cases h1:x<1
 .have:decide (1<=x)=false:=by simp;omega
  simp[h1,this]
 by_cases h2:4611686018427387904<x
 .have:decide (x<=4611686018427387904)=false:=by simp;omega
  simp[h1,h2,this]
 by_cases h3:y<0
 .have:decide (0<=y)=false:=by simp;omega
  simp[h1,h2,h3,this]
 have g1:decide (1<=x)=true:=by simp;omega
 have g2:decide (x<=4611686018427387904)=true:=by simp;omega
 have g3:decide (0<=y)=true:=by simp;omega
 by_cases h4:1099511627776<y
 .have:decide (y<=1099511627776)=false:=by simp;omega
  simp[h1,h2,h3,h4,this]
 have:decide (y<=1099511627776)=true:=by simp;omega
 simp[h1,h2,h3,h4,this,g1,g2,g3]
theorem xT {s:Sl} {xs:List Int} (h:Rd w s 1 (nums .u8 xs)):(if ((s.n:Int) !=64)=true then some (true,w) else (ix s 0 1).bind fun p8=>(ldI .u8 w p8).bind fun v10=>(ix s 63 1).bind fun p12=>(ldI .u8 w p12).bind fun v14=>some ((v10 !=v14),w))=some (!decide (xs.length=64/\xs.getD 0 0=xs.getD 63 0),w):=by
 have hn:xs.length=s.n:=by have:=h.len;simpa using this
 by_cases hl:xs.length=64
 .have g:((s.n:Int) !=64)=false:=by simp;omega
  obtain⟨a,a1,a2⟩:=tM (i:=0) h (by omega);obtain⟨b,b1,b2⟩:=tM (i:=63) h (by omega);have a1':ix s 0 1=some a:=a1;have b1':ix s 63 1=some b:=b1;rw[g,if_neg (by simp),a1',aLx,a2,aLx,b1',aLx,b2,aLx];have hpq:∀ p q:Int,(p !=q)=!decide (p=q):=fun p q=>by by_cases h:p=q<;>simp[h]
  rw[hpq];simp only[hl,true_and]
 have g:((s.n:Int) !=64)=true:=by simp;omega
 rw[if_pos g];simp[hl]
theorem aCD {s:Sl} {xs:List Int} (h:Rd w s 1 (nums .u8 xs)) (hb:bU xs) (hc:s.n<=s.c) (hm:s.n<1000000):∃ w',pK s w=some ((eG xs).1,(eG xs).2.1,(eG xs).2.2,w')/\∀ S,Fr S w w':=by
 obtain⟨w1,e1,_,g1,_,_⟩:=tQ (w:=w);have f1:∀ S,Fr S w w1:=fun S=>(g1 w.heap.size S).fr;have h1:=h.fr (f1 (fun _=>False)) (fun _ _ _ h=>h);have hn:xs.length=s.n:=by have:=h.len;simpa using this
 refine⟨w1,?_,f1⟩;unfold pK;rw[e1,aLx,xT h1,aE];by_cases hd:xs.length=64/\xs.getD 0 0=xs.getD 63 0
 .have t1:=tK (i:=1) h1 hb (by omega) hc hm;have t2:=tK (i:=9) h1 hb (by omega) hc hm;obtain⟨s27,e2,r2,n2,_⟩:=uZ (lo:=17) (hi:=63) h1 (by omega) (by omega) hc;have hy:((nums .u8 xs).drop 17).take (63-17)=nums .u8 ((xs.drop 17).take 46):=by
   simp[nums,aKN,aKB]
  rw[hy] at r2;have l2:=aAQ r2 (by omega) ((xs.drop 17).take 46) [] rfl;have t1':cV s 1 w1=some (eY xs 1,((1+8:Nat):Int),0,w1):=t1;have t2':cV s 9 w1=some (eY xs 9,((9+8:Nat):Int),0,w1):=t2;have e2':slS s 17 63 (s.c:Int) 1=some s27:=e2;have l2':bM (fun r:Int×World=>jF s27 r.1 r.2) (0,w1)=some (if (((xs.drop 17).take 46).all (·==0))=true then .inl w1 else .inr (0,0,false,w1)):=l2;rw[decide_eq_true hd,if_neg (by simp),t1',cN,t2',cN,e2',aLx,l2',aLx];have hw:eG xs=if (sB (eY xs 1) (eY xs 9)&&((xs.drop 17).take 46).all (·==0))=true then (eY xs 1,eY xs 9,true) else (0,0,false):=by unfold eG;rw[if_pos hd]
  rw[hw];by_cases hz:(((xs.drop 17).take 46).all (·==0))=true
  .rw[if_pos hz];simp only[Sum.elim_inl,u1];rw[aCf,aE,hz,Bool.and_true];cases sB (eY xs 1) (eY xs 9)<;>rfl
  rw[if_neg hz];simp only[Sum.elim_inr,u4];have:(((xs.drop 17).take 46).all (·==0))=false:=by simpa using hz
  rw[this,Bool.and_false];rfl
 rw[decide_eq_false hd,if_pos (by simp)];have hw:eG xs=(0,0,false):=by unfold eG;rw[if_neg hd]
 rw[hw]
end
structure Dk.Bt (D:Dk):Prop where
 s:∀ x∈D.S,bU x
 w:∀ x∈D.W,bU x.2
def eF (k:Int) (s:Int×Int×Int) (r:Int×Int×Bool):Int×Int×Int:=if r.2.2=true/\s.2.1<r.1 then (k,r.1,r.2.1) else s
def Dk.found (D:Dk) (j:Int):Int×Int×Int:=eF 1 (eF 0 (-1,0,0) (eG (D.read j).1)) (eG (D.read (j+1)).1)
section
variable {w w' : World} {x c : Nat} {F : Nat -> Prop} {D : Dk} {base count : Int}
theorem vN {i:Int}:∀ (W:List (Int×List Int)) (b:List Int),(∀ x∈W,bU x.2)->bU b->bU (W.foldl (fun b x=>if x.1=i then x.2 else b) b)
 | [],_,_,hb=>hb
 | x::W,b,h,hb=>by
  rw[aJn];refine vN W _ (fun y hy=>h y (by simp[hy])) ?_;split
  .exact h x (by simp)
  exact hb
theorem vE {S:List (List Int)} {i:Nat} (h:∀ x∈S,bU x):bU (S.getD i []):=by
 rw[aIu]
 cases e:S[i]? with
 | none=>intro b hb;simp at hb
 | some y=>exact h y (aIF e)
theorem nM (h:D.Bt) (i:Int):bU (D.read i).1:=by
 unfold Dk.read;split;· intro b hb;simp at hb
 split;· intro b hb;simp at hb
 exact vN D.W _ h.w (vE h.s)
theorem tE (h:D.Wf) (i:Int):(D.read i).1.length<=64:=by
 unfold Dk.read;split;· simp
 split
 .simp
 rename_i hb;rw[Dk.cur,rX h (by simpa using hb) _ _ h.w64 (pH h (by simpa using hb))];exact aIv _
def yJ (x:Nat) (base count:Int):List Value:=[.pointer (some ⟨x,0,none⟩),.int .i64 base,.int .i64 count]
structure kV (w:World) (c x:Nat) (base count:Int):Prop where
 blk:B w c=some (yJ x base count,155)
 b0:0<=base
 b1:base<=512
 n0:1<=count
 n1:count<=32
theorem kV.fr {S:Nat->Prop} (h:kV w c x base count) (hf:Fr S w w') (hs:¬ S c):kV w' c x base count:=⟨hf.B h.blk hs,h.b0,h.b1,h.n0,h.n1⟩
theorem kV.all (h:kV w c x base count) (hf:∀ S,Fr S w w'):kV w' c x base count:=h.fr (hf (fun _=>False)) id
theorem wG (h:kV w c x base count):ldP w ⟨c,0,none⟩=some (some ⟨x,0,none⟩):=qF h.blk rfl
theorem aDW (h:kV w c x base count):ldI .i64 w ⟨c,1,none⟩=some base:=lP h.blk rfl
theorem yY (h:kV w c x base count):ldI .i64 w ⟨c,2,none⟩=some count:=lP h.blk rfl
theorem gQ.all (h:gQ w x F D) (hf:∀ S,Fr S w w'):gQ w' x F D:=h.fr (hf (fun _=>False)) (fun _ _ h=>h)
theorem vP (h:gQ w x F D) (hc:kV w c x base count) (hb:D.Bt) (hbd:D.W.length<900000) {i:Int} (i0:0<=i) (i1:i<count) {k:Nat} (hk:k<2) (s:Int×Int×Int) :
  ∃ w',eM (some ⟨c,0,none⟩) i s.1 s.2.1 s.2.2 (k:Int) w=some (.inl ((eF k s (eG (D.read (base+2*i+k)).1)).1,(eF k s (eG (D.read (base+2*i+k)).1)).2.1,(eF k s (eG (D.read (base+2*i+k)).1)).2.2,((k+1:Nat):Int),w'))/\∀ S,Fr S w w':=by
 have hb0:=hc.b0;have hb1:=hc.b1;have hn1:=hc.n1;obtain⟨w1,e1,_,g1,_,_⟩:=tQ (w:=w);have f1:∀ S,Fr S w w1:=fun S=>(g1 w.heap.size S).fr;have c1:=hc.all f1;obtain⟨o,w2,e2,r2⟩:=(h.all f1).read (i:=base+2*i+k) (by omega);have rl:=tE h.wf (base+2*i+k);obtain⟨w3,e3,f3⟩:=aCD r2.rd (nM hb _) r2.cap (by rw[r2.n];omega);refine⟨w3,?_,fun S=>((f1 S).trans (r2.fr S)).trans (f3 S)⟩;have hlt:decide ((k:Int)<2)=true:=by simp;omega
 have hwr:IntKind.wrap .i64 (IntKind.wrap .i64 (base+IntKind.wrap .i64 (2*i))+(k:Int))=base+2*i+k:=by
  rw[aIy,aIy,aIy];omega
 unfold eM;rw[if_pos hlt,e1,aLx,aLx,aD,aLy,wG c1,aLx,aD,aLy,aDW c1,aLx,hwr,e2,lW,e3,cN];obtain⟨r,hr⟩:∃ r,eG (D.read (base+2*i+k)).1=r:=⟨_,rfl⟩;rw[hr];have hwk:=cC (show k<9223372036854775807 by omega);by_cases h1:r.2.2=true
 .rw[if_pos h1,aE];by_cases h2:s.2.1<r.1
  .have:eF k s r=((k:Int),r.1,r.2.1):=by unfold eF;rw[if_pos ⟨h1,h2⟩]
   rw[if_pos (by simpa using h2),cN,this,hwk]
  have:eF k s r=s:=by unfold eF;rw[if_neg (fun h=>h2 h.2)]
  rw[if_neg (by simpa using h2),cN,this,hwk]
 have:eF k s r=s:=by unfold eF;rw[if_neg (fun h=>h1 h.1)]
 rw[if_neg h1,aE,if_neg (by simp),cN,this,hwk]
theorem aAh (h:gQ w x F D) (hc:kV w c x base count) (hb:D.Bt) (hbd:D.W.length<900000) {i:Int} (i0:0<=i) (i1:i<count) :
  ∃ w',jH (some ⟨c,0,none⟩) i w=some ((D.found (base+2*i)).1,(D.found (base+2*i)).2.1,(D.found (base+2*i)).2.2,w')/\∀ S,Fr S w w':=by
 obtain⟨w1,e1,f1⟩:=vP h hc hb hbd i0 i1 (k:=0) (by omega) (-1,0,0);obtain⟨w2,e2,f2⟩:=vP (h.all f1) (hc.all f1) hb hbd i0 i1 (k:=1) (by omega) (eF (0:Nat) (-1,0,0) (eG (D.read (base+2*i+(0:Nat))).1));refine⟨w2,?_,fun S=>(f1 S).trans (f2 S)⟩;have h0:base+2*i+((0:Nat):Int)=base+2*i:=by omega
 have hD:D.found (base+2*i)=eF (1:Nat) (eF (0:Nat) (-1,0,0) (eG (D.read (base+2*i+(0:Nat))).1)) (eG (D.read (base+2*i+(1:Nat))).1):=by
  rw[h0];rfl
 rw[hD];unfold jH;have l1:bM (fun s:Int×Int×Int×Int×World=>eM (some ⟨c,0,none⟩) i s.1 s.2.1 s.2.2.1 s.2.2.2.1 s.2.2.2.2) ((-1),0,0,0,w)=_:=cH e1;rw[l1];have l2:bM (fun s:Int×Int×Int×Int×World=>eM (some ⟨c,0,none⟩) i s.1 s.2.1 s.2.2.1 s.2.2.2.1 s.2.2.2.2) ((eF (0:Nat) (-1,0,0) (eG (D.read (base+2*i+(0:Nat))).1)).1,(eF (0:Nat) (-1,0,0) (eG (D.read (base+2*i+(0:Nat))).1)).2.1,(eF (0:Nat) (-1,0,0) (eG (D.read (base+2*i+(0:Nat))).1)).2.2,((0+1:Nat):Int),w1)=_:=cH e2;rw[l2,bS (r:=((eF (1:Nat) (eF (0:Nat) (-1,0,0) (eG (D.read (base+2*i+(0:Nat))).1)) (eG (D.read (base+2*i+(1:Nat))).1)).1,(eF (1:Nat) (eF (0:Nat) (-1,0,0) (eG (D.read (base+2*i+(0:Nat))).1)) (eG (D.read (base+2*i+(1:Nat))).1)).2.1,(eF (1:Nat) (eF (0:Nat) (-1,0,0) (eG (D.read (base+2*i+(0:Nat))).1)) (eG (D.read (base+2*i+(1:Nat))).1)).2.2,w2)) ?_,cN];unfold eM;rw[if_neg (by simp)]
def Dk.get (D:Dk) (base count i:Int):Int×Bool:=if i<0\/count<=i then (0,false) else ((D.found (base+2*i)).2.2,decide (0<=(D.found (base+2*i)).1))
theorem aFP (h:gQ w x F D) (hc:kV w c x base count) (hb:D.Bt) (hbd:D.W.length<900000) (i:Int) :
  ∃ w',kM (some ⟨c,0,none⟩) i w=some ((D.get base count i).1,(D.get base count i).2,w')/\∀ S,Fr S w w':=by
 unfold kM Dk.get;by_cases h0:i<0
 .refine⟨w,?_,fun S=>Fr.refl⟩;rw[if_neg (by simp),if_pos (by simpa using h0),aE,if_pos rfl,if_pos (.inl h0)]
 by_cases h1:count<=i
 .refine⟨w,?_,fun S=>Fr.refl⟩;rw[if_neg (by simp),if_neg (by simpa using h0),aLx,aD,aLy,yY hc,aLx,decide_eq_true h1,aE,if_pos rfl,if_pos (.inr h1)]
 obtain⟨w1,e1,f1⟩:=aAh h hc hb hbd (i:=i) (by omega) (by omega);refine⟨w1,?_,f1⟩;rw[if_neg (by simp),if_neg (by simpa using h0),aLx,aD,aLy,yY hc,aLx,decide_eq_false h1,aE,if_neg (by simp),e1,cN,if_neg (by omega)]
def nG (n base count:Int):Bool:=decide (1<=count)&&decide (count<=32)&&decide (0<=base)&&decide (base<=n-2*count)
theorem aCO (h : gQ w x F D) (hi : -9223372036854775808 <= count /\ count <= 9223372036854775807) : (if decide (count < 1) = true then some (true, w) else if decide (32 < count) = true then some (true, w) else if decide (base < 0) = true then some (true, w) else
      aN (eL (some ⟨x, 0, none⟩) w) fun v9 w10 => some ((decide ((IntKind.wrap .i64 (v9 - (IntKind.wrap .i64 (2 * count)))) < base)), w10)) = some (!nG D.S.length base count, w) := by
  have hn := h.wf.n
  have hb : ∀ b : Bool, ∀ p : Prop, [Decidable p] -> (b = true ↔ p) -> b = decide p := fun b p _ hh => by
    cases b
    . exact (decide_eq_false (fun hp => by simpa using hh.2 hp)).symm
    . exact (decide_eq_true (hh.1 rfl)).symm
  have hm : nG D.S.length base count = decide (1 <= count /\ count <= 32 /\ 0 <= base /\ base <= D.S.length - 2 * count) := hb _ _ (by simp [nG, and_assoc])
  rw [hm]
  by_cases h1 : count < 1
  . rw [if_pos (by simpa using h1), decide_eq_false (by omega)]; rfl
  by_cases h2 : 32 < count
  . rw [if_neg (by simpa using h1), if_pos (by simpa using h2), decide_eq_false (by omega)]; rfl
  by_cases h3 : base < 0
  . rw [if_neg (by simpa using h1), if_neg (by simpa using h2), if_pos (by simpa using h3), decide_eq_false (by omega)]; rfl
  have hwr : IntKind.wrap .i64 ((D.S.length : Int) - IntKind.wrap .i64 (2 * count)) = D.S.length - 2 * count := by rw [aIy, aIy]; omega
  rw [if_neg (by simpa using h1), if_neg (by simpa using h2), if_neg (by simpa using h3), h.size, aE, hwr]
  by_cases h4 : base <= D.S.length - 2 * count
  . rw [decide_eq_false (show ¬ (D.S.length : Int) - 2 * count < base by omega), decide_eq_true (by omega)]; rfl
  . rw [decide_eq_true (show (D.S.length : Int) - 2 * count < base by omega), decide_eq_false (by omega)]; rfl
theorem aDD (h:gQ w x F D) (hi : -9223372036854775808<=count/\count<=9223372036854775807) (hm:nG D.S.length base count=true):∃ c w',oZ (some ⟨x,0,none⟩) base count w=some (some ⟨c,0,none⟩,0,w')/\kV w' c x base count/\w.heap.size<=c/\∀ S,Fr S w w':=by
 have hn:=h.wf.n;have hr:1<=count/\count<=32/\0<=base/\base<=D.S.length-2*count:=by simpa[nG,and_assoc] using hm
 obtain⟨w1,e1,n1⟩:=aBn (w:=w) (T:=155) (cs:=yJ x base count);refine⟨_,w1,?_,⟨n1.b,by omega,by omega,by omega,by omega⟩,aIv _,fun S=>(n1.fr _ S (aIv _)).fr⟩;have e1':mk w 155 [.pointer (some ⟨x,0,none⟩),.int .i64 base,.int .i64 count]=some (⟨w.heap.size,0,none⟩,w1):=e1;unfold oZ;rw[if_neg (by simp),aCO h hi,aE,hm,if_neg (by simp),e1',aE]
end
def oL (was:List Int) (n v:Int):List Int:=((was.getD 63 0+1) % 256)::(fK (n+1)++fK v++List.replicate 46 0++[(was.getD 63 0+1) % 256])
def Dk.put (D:Dk) (base count i v:Int):Int×Dk :=
 if D.down=true then (10,D) else if i<0\/count<=i\/v<0\/1099511627776<v then (2,D) else
 if (D.found (base+2*i)).2.1=4611686018427387904 then (6,D) else
 if (D.write (base+2*i+((D.found (base+2*i)).1+1) % 2) (oL (D.read (base+2*i+((D.found (base+2*i)).1+1) % 2)).1 (D.found (base+2*i)).2.1 v)).1≠0 then D.write (base+2*i+((D.found (base+2*i)).1+1) % 2) (oL (D.read (base+2*i+((D.found (base+2*i)).1+1) % 2)).1 (D.found (base+2*i)).2.1 v)
 else (D.write (base+2*i+((D.found (base+2*i)).1+1) % 2) (oL (D.read (base+2*i+((D.found (base+2*i)).1+1) % 2)).1 (D.found (base+2*i)).2.1 v)).2.sync
theorem aFA {l:List Int} (h:l.length=8):∃ a b c d e f g i,l=[a,b,c,d,e,f,g,i]:=by
 match l,h with
 | [a,b,c,d,e,f,g,i],_=>exact⟨a,b,c,d,e,f,g,i,rfl⟩
theorem aCS {x:Int} {k1 k2:List Int} (h1:k1.length=8) (h2:k2.length=8) :
  jQ (jQ (((nums .u8 (List.replicate 64 0)).set 0 (.int .u8 x)).set 63 (.int .u8 x)) 1 (nums .u8 k1)) 9 (nums .u8 k2)=nums .u8 (x::(k1++k2++List.replicate 46 0++[x])):=by
 obtain⟨a1,a2,a3,a4,a5,a6,a7,a8,rfl⟩:=aFA h1;obtain⟨b1,b2,b3,b4,b5,b6,b7,b8,rfl⟩:=aFA h2;rfl
section
variable {w w' : World} {x c : Nat} {F : Nat -> Prop} {D : Dk} {base count : Int}
theorem uP {k:Int} {s:Int×Int×Int} {b:List Int} (h:0<=s.2.1/\s.2.1<=4611686018427387904):0<=(eF k s (eG b)).2.1/\(eF k s (eG b)).2.1<=4611686018427387904:=by
 unfold eF;split
 .rename_i hh;have hw:(eG b).1<=4611686018427387904:=by
   unfold eG;split
   .split
    .rename_i hf;simp only[sB,aIz,decide_eq_true_eq] at hf;exact hf.1.1.1.2
    simp
   simp
  exact⟨by simp only;omega,hw⟩
 exact h
theorem uR (D:Dk) (j:Int):0<=(D.found j).2.1/\(D.found j).2.1<=4611686018427387904:=uP (uP ⟨by decide,by decide⟩)
theorem aAb {k:Int} {s:Int×Int×Int} {r:Int×Int×Bool}:(eF k s r).1=k\/(eF k s r).1=s.1:=by
 unfold eF;split
 .exact .inl rfl
 exact .inr rfl
theorem vJ (D:Dk) (j:Int) : -1<=(D.found j).1/\(D.found j).1<=1:=by
 have h1:(D.found j).1=1\/(D.found j).1=(eF 0 (-1,0,0) (eG (D.read j).1)).1:=aAb;have h2:(eF 0 (-1,0,0) (eG (D.read j).1)).1=0\/(eF 0 (-1,0,0) (eG (D.read j).1)).1 = -1:=aAb;omega
theorem wU (was:List Int) (n v:Int):(oL was n v).length=64:=by simp[oL,gU]
theorem aFT (h:gQ w x F D) (hF:∀ k,F k->k<w.heap.size) (hc:kV w c x base count) (hcF:¬ F c) (hb:D.Bt) (hbd:D.W.length<900000) (hsz:base+2*count<=D.S.length) (i v:Int) :
  ∃ w',jN (some ⟨c,0,none⟩) i v w=some ((D.put base count i v).1,w')/\gQ w' x (qE F w w') (D.put base count i v).2/\Fr F w w':=by
 have hb0:=hc.b0;have hb1:=hc.b1;have hn1:=hc.n1;have stay:gQ w x (qE F w w) D:=h.mono fun k _ hk=>.inl hk;unfold jN Dk.put;rw[if_neg (by simp),aLx,aD,aLy,wG hc,aLx,h.downs,aE];by_cases hd:D.down=true
 .exact⟨w,by rw[if_pos hd,if_pos hd],by rw[if_pos hd];exact stay,Fr.refl⟩
 rw[if_neg hd,if_neg hd];by_cases hbad:i<0\/count<=i\/v<0\/1099511627776<v
 .refine⟨w,?_,by rw[if_pos hbad];exact stay,Fr.refl⟩;rw[if_pos hbad,aD,aLy,yY hc,aLx];by_cases h0:i<0
  .rw[if_pos (by simpa using h0),aE,if_pos rfl]
  by_cases h1:count<=i
  .rw[if_neg (by simpa using h0),if_pos (by simpa using h1),aE,if_pos rfl]
  by_cases h2:v<0
  .rw[if_neg (by simpa using h0),if_neg (by simpa using h1),if_pos (by simpa using h2),aE,if_pos rfl]
  rw[if_neg (by simpa using h0),if_neg (by simpa using h1),if_neg (by simpa using h2),decide_eq_true (show 1099511627776<v by omega),aE,if_pos rfl]
 rw[if_neg hbad];have hi:0<=i/\i<count/\0<=v/\v<=1099511627776:=by omega
 obtain⟨w1,e1,f1⟩:=aAh h hc hb hbd hi.1 hi.2.1;obtain⟨fr,hfr⟩:∃ fr,D.found (base+2*i)=fr:=⟨_,rfl⟩;have hrg:=uR D (base+2*i);have hat:=vJ D (base+2*i);rw[hfr] at e1 hrg hat ⊢;have tests:(if decide (i<0)=true then some (true,w) else (ldI .i64 w ((⟨c,0,none⟩:Addr).add 2)).bind fun v15=>if decide (v15<=i)=true then some (true,w) else if decide (v<0)=true then some (true,w) else some (decide (1099511627776<v),w))=some (false,w):=by
  rw[if_neg (by simp;omega),aD,aLy,yY hc,aLx,if_neg (by simp;omega),if_neg (by simp;omega),decide_eq_false (by omega)]
 rw[tests,aE,if_neg (by simp),e1,cN];have h1:=h.all f1;have c1:=hc.all f1;have z1:=(f1 (fun _=>False)).size;by_cases hm:fr.2.1=4611686018427387904
 .exact⟨w1,by rw[if_pos (by simpa using hm),if_pos hm],by rw[if_pos hm];exact h1.mono fun k _ hk=>.inl hk,f1 _⟩
 rw[if_neg (by simpa using hm),if_neg hm];obtain⟨to,hto⟩:∃ to,base+2*i+(fr.1+1) % 2=to:=⟨_,rfl⟩;rw[hto];have htb:D.bad to=false:=by simp[Dk.bad];omega
 have hrm:rmI (IntKind.wrap .i64 (fr.1+1)) 2=some ((fr.1+1) % 2):=by
  have:IntKind.wrap .i64 (fr.1+1)=fr.1+1:=by rw[aIy];omega
  rw[this];unfold rmI;rw[if_neg (by decide),aJS (by omega)]
 have hwt:IntKind.wrap .i64 (IntKind.wrap .i64 (base+IntKind.wrap .i64 (2*i))+(fr.1+1) % 2)=to:=by
  rw[aIy,aIy,aIy];omega
 obtain⟨o,w2,e2,r2⟩:=h1.read (i:=to) (by omega);have hrd:D.read to=(D.cur to,0):=by unfold Dk.read;rw[if_neg hd,htb,if_neg (by simp)]
 have hcl:(D.cur to).length=64:=rX h.wf htb _ _ h.wf.w64 (pH h.wf htb);have hby:=nM hb to;rw[hrd] at e2 r2 hby ⊢;simp only at e2 r2 hby;obtain⟨was,hwas⟩:∃ was,D.cur to=was:=⟨_,rfl⟩;rw[hwas] at r2 hcl hby ⊢;have h2:=h1.all r2.fr;have c2:=c1.all r2.fr;have z2:=(r2.fr (fun _=>False)).size;obtain⟨w3,e3,n3⟩:=wW (w:=w2) mS (m:=64) (by omega) (by omega);rw[show(64:Int).toNat=64 from rfl] at e3 n3;rw[nV] at n3;have z3:=n3.size;have f3:∀ S,Fr S w2 w3:=fun S=>(n3.fr _ S (aIv _)).fr;obtain⟨a63,a1,a2⟩:=tM (i:=63) (r2.rd.fr (f3 (fun _=>False)) (fun _ _ _ h=>h)) (by omega);have a1':ix o 63 1=some a63:=a1;obtain⟨p,hp⟩:∃ p,(was.getD 63 0+1) % 256=p:=⟨_,rfl⟩;have hp8:IntKind.wrap .u8 (was.getD 63 0+1)=p:=by rw[<-hp];simp[IntKind.wrap,IntKind.bits,IntKind.signed]
 obtain⟨w4,e4,b4,o4⟩:=mE (o:=0) (v:=.int .u8 p) n3.b (by simp only[bG,aIM];omega) rfl;have l4:ldI .u8 w4 ⟨w2.heap.size,0,none⟩=some p:=lP b4 rfl;obtain⟨w5,e5,b5,o5⟩:=mE (o:=63) (v:=.int .u8 p) b4 (by simp only[aJR,bG,aIM];omega) rfl;obtain⟨w6,e6,d6,g6,z6,_⟩:=tQ (w:=w5);have b6:=(d6 w2.heap.size).trans b5;have z45:w5.heap.size=w3.heap.size:=by have:=o4.size;have:=o5.size;omega
 have f26:∀ S,Fz w2.heap.size S w2 w6:=fun S=>(n3.fr _ _ (aIv _)).trans ((o4.fz (.inr (aIv _))).trans ((o5.fz (.inr (aIv _))).trans (g6 _ _)));obtain⟨k7,w7,e7,r7,kk7,f7⟩:=aBg (w:=w6) (n:=fr.2.1+1) (by omega) (by omega);have b7:=(f7 (fun _=>False)).B b6 id;have hk7:k7.n=8:=by have:=r7.len;rw[bG,gU] at this;omega
 obtain⟨w8,e8,b8,o8⟩:=aBM (u:=72) (m:=63) (c:=63) (o:=1) mS b7 (by simp only[aJR,bG,aIM];omega) r7.rd dU;have ht8:(nums .u8 (fK (fr.2.1+1))).take (min k7.n 63*1)=nums .u8 (fK (fr.2.1+1)):=aIB (by rw[bG,gU,hk7];decide);rw[ht8] at b8;obtain⟨w9,e9,d9,g9,z9,_⟩:=tQ (w:=w8);have b9:=(d9 w2.heap.size).trans b8;obtain⟨k10,w10,e10,r10,kk10,f10⟩:=aBg (w:=w9) (n:=v) (by omega) (by omega);have b10:=(f10 (fun _=>False)).B b9 id;have hk10:k10.n=8:=by have:=r10.len;rw[bG,gU] at this;omega
 obtain⟨w11,e11,b11,o11⟩:=aBM (u:=72) (m:=55) (c:=55) (o:=9) mS b10 (by rw[rI (by simp only[aJR,bG,aIM,gU];omega)];simp only[aJR,bG,aIM];omega) r10.rd dU;have ht11:(nums .u8 (fK v)).take (min k10.n 55*1)=nums .u8 (fK v):=aIB (by rw[bG,gU,hk10];decide);rw[ht11,aCS (gU _) (gU _)] at b11;have f211:∀ S,Fz w2.heap.size S w2 w11:=fun S=>((f26 S).trans ((f7 _).fz (S:=S) (S':=fun _=>False) (by have:=(f26 S).size;omega) (fun _ h=>h.elim))).trans ((o8.fz (.inr (aIv _))).trans ((g9 _ _).trans (((f10 (fun _=>False)).fz (S:=S) (by have:=(f26 S).size;have:=(f7 S).size;have:=o8.size;omega) (fun _ h=>h.elim)).trans (o11.fz (.inr (aIv _))))));have h11:=h2.all (fun S=>(f211 S).fr);have c11:=c2.all (fun S=>(f211 S).fr);have z11:=(f211 (fun _=>False)).size;have hsec:p::(fK (fr.2.1+1)++fK v++List.replicate 46 0++[p])=oL was fr.2.1 v:=by unfold oL;rw[hp]
 rw[hsec] at b11;have rd11:Rd w11 ⟨some ⟨w2.heap.size,0,none⟩,64,64⟩ 1 (nums .u8 (oL was fr.2.1 v)):=by
  have:=Rd.of_B (o:=0) (n:=64) (c:=64) (sz:=1) b11 (by rw[bG,wU];omega);rwa[aJj,aIB (by rw[bG,wU];omega)] at this
 obtain⟨w12,e12,x12,f12⟩:=h11.write (i:=to) rd11 (by omega);have c12:=c11.fr f12 hcF;have z12:=f12.size;have fw11:Fr F w w11:=((f1 _).trans (r2.fr _)).trans (f211 _).fr;have i0:ix ⟨some ⟨w2.heap.size,0,none⟩,64,64⟩ 0 1=some ⟨w2.heap.size,0,none⟩:=by simp[ix,Addr.add]
 have i63:ix ⟨some ⟨w2.heap.size,0,none⟩,64,64⟩ 63 1=some ⟨w2.heap.size,63,none⟩:=by simp[ix,Addr.add]
 have s1:slS ⟨some ⟨w2.heap.size,0,none⟩,64,64⟩ 1 ((64:Nat):Int) ((64:Nat):Int) 1=some ⟨some ⟨w2.heap.size,1,none⟩,63,63⟩:=by simp[slS,Addr.add]
 have s9:slS ⟨some ⟨w2.heap.size,0,none⟩,64,64⟩ 9 ((64:Nat):Int) ((64:Nat):Int) 1=some ⟨some ⟨w2.heap.size,9,none⟩,55,55⟩:=by simp[slS,Addr.add]
 have hwn:IntKind.wrap .i64 (fr.2.1+1)=fr.2.1+1:=by rw[aIy];omega
 obtain⟨q,hq⟩:∃ q,D.write to (oL was fr.2.1 v)=q:=⟨_,rfl⟩;rw[hq] at e12 x12 ⊢;have run:∀ r,(if (q.1 !=0)=true then some (q.1,w12) else (ldP w12 ⟨c,0,none⟩).bind fun v81=>aN (bY v81 w12) fun v83 w84=>some (v83,w84))=r ->
   ((ldI .i64 w1 ((⟨c,0,none⟩:Addr).add 1)).bind fun v26=>(rmI (IntKind.wrap .i64 (fr.1+1)) 2).bind fun v28=>(ldP w1 ⟨c,0,none⟩).bind fun v30 =>
    oM (eK v30 (IntKind.wrap .i64 ((IntKind.wrap .i64 (v26+(IntKind.wrap .i64 (2*i))))+v28)) w1) fun v32 v33 w34 =>
    aN (mkS Try.prog 72 64 64 w34) fun s36 w37=>(ix v32 63 1).bind fun p39=>(ldI .u8 w37 p39).bind fun v41=>(ix s36 0 1).bind fun p43 =>
    (stV w37 p43 (.int .u8 (IntKind.wrap .u8 (v41+1)))).bind fun w45=>(ix s36 0 1).bind fun p47=>(ldI .u8 w45 p47).bind fun v49=>(ix s36 63 1).bind fun p51 =>
    (stV w45 p51 (.int .u8 v49)).bind fun w53=>(dr w53).bind fun w55=>(slS s36 1 (s36.n:Int) (s36.c:Int) 1).bind fun s57 =>
    aN (jU (IntKind.wrap .i64 (fr.2.1+1)) w55) fun v59 w60=>aN (cpS Try.prog 72 72 s57 v59 w60) fun v62 w63=>(dr w63).bind fun w65 =>
    (slS s36 9 (s36.n:Int) (s36.c:Int) 1).bind fun s67=>aN (jU v w65) fun v69 w70=>aN (cpS Try.prog 72 72 s67 v69 w70) fun v72 w73 =>
    (ldP w73 ⟨c,0,none⟩).bind fun v75=>aN (cD v75 (IntKind.wrap .i64 ((IntKind.wrap .i64 (v26+(IntKind.wrap .i64 (2*i))))+v28)) s36 w73) fun v77 w78 =>
    if (v77 !=0)=true then (some (v77,w78)) else ((ldP w78 ⟨c,0,none⟩).bind fun v81=>aN (bY v81 w78) fun v83 w84=>some (v83,w84)))=r:=by
  intro r hr;rw[aD,aLy,aDW c1,aLx,hrm,aLx,wG c1,aLx,hwt,e2,lW,e3,aE,a1',aLx,a2,aLx,i0,aLx,hp8,e4,aLx,aLx,l4,aLx,i63,aLx,e5,aLx,e6,aLx,s1,aLx,hwn,e7,aE,e8,aE,e9,aLx,s9,aLx,e10,aE,e11,aE,wG c11,aLx,e12,aE];exact hr
 by_cases he:q.1=0
 .obtain⟨w13,e13,x13,f13⟩:=x12.sync (by have:=lH D to (oL was fr.2.1 v);rw[hq] at this;omega);refine⟨w13,run _ ?_,?_,?_⟩
  .rw[if_neg (by simp[he]),if_neg (by simp[he]),wG c12,aLx,e13,aE]
  .rw[if_neg (by simp[he])];exact x13.mono fun k hk h=>h.elim (fun h=>h.elim .inl (fun h=>.inr ⟨by omega,hk⟩)) (fun h=>.inr ⟨by omega,hk⟩)
  exact(fw11.trans f12).trans_new f13 (fun k hk=>hk.elim .inl (fun h=>.inr (by omega)))
 refine⟨w12,run _ ?_,?_,fw11.trans f12⟩
 .rw[if_pos (by simpa using he),if_pos he]
 rw[if_pos he];exact x12.mono fun k hk h=>h.elim .inl (fun h=>.inr ⟨by omega,hk⟩)
end
structure Sg where
 pos:Int
 seq:Int
 fin:Int
 high:Int
 recs:List (Int×List Int)
structure Lg where
 base:Int
 segs:Int
 age:Int
 high:Int
 rel:Int
 used:List Sg
def mK (b:List Int):Bool:=b.all fun x=>x==0
def sD (b:List Int):Bool :=
 decide (b.length=64)&&b.getD 0 0==231&&b.getD 63 0==231&&decide (1<=b.getD 1 0)&&decide (b.getD 1 0<=3)&&decide (b.getD 2 0<=59)&&decide (b.getD 3 0<=1)&&!(b.getD 3 0==0&&b.getD 2 0 !=59)&&mK ((b.take 63).drop (4+(b.getD 2 0).toNat))
def bL (b:List Int):Int×List Int×Bool:=if sD b=true then (b.getD 1 0,(b.drop 4).take (b.getD 2 0).toNat,b.getD 3 0==1) else (0,[],false)
def lL (kind:Int) (p:List Int) (last:Bool):List Int:=[231,kind,(p.length:Int),if last=true then 1 else 0]++p++List.replicate (59-p.length) 0++[231]
def Dk.look (D:Dk) (base pos i:Int):List Int:=(D.read (base+2+pos*16+i)).1
def hdC (n t:Int):Bool:=decide (1<=n)&&decide (n<=4611686018427387904)&&decide (0<=t)&&decide (t<=1099511627776)
def zM (b:List Int):Bool:=(bL b).1==1&&(bL b).2.2&&decide ((bL b).2.1.length=16)&&hdC (eY (bL b).2.1 0) (eY (bL b).2.1 8)
def nA (pos:Int) (b:List Int):Option Sg:=if zM b=true then some ⟨pos,eY (bL b).2.1 0,1,eY (bL b).2.1 8,[]⟩ else none
def Dk.rcd (D:Dk) (base pos:Int):Nat->Int->Int->List Int->Option (Int×List Int×Int)
 | 0,_,_,_=>none
 | m+1,i,want,all =>
  if (bL (D.look base pos i)).1=want then
   if (bL (D.look base pos i)).2.2=true then
    if (all++(bL (D.look base pos i)).2.1).length<8 then none else some (eY (all++(bL (D.look base pos i)).2.1) 0,(all++(bL (D.look base pos i)).2.1).drop 8,i+1)
   else D.rcd base pos m (i+1) 3 (all++(bL (D.look base pos i)).2.1)
  else none
def Dk.seg (D:Dk) (base pos:Int):Nat->Int->Int->List (Int×List Int)->Int×Int×List (Int×List Int)
 | 0,e,h,rs=>(e,h,rs)
 | m+1,e,h,rs=>match D.rcd base pos (16-e).toNat e 2 [] with
  | some (t,b,nx)=>if h<t/\t<=1099511627776 then D.seg base pos m nx t (rs++[(t,b)]) else (e,h,rs)
  | none=>(e,h,rs)
def qC (x:Sg):List Sg->List Sg
 | []=>[x]
 | y::l=>if x.seq<y.seq then y::qC x l else x::y::l
def jM (l:List Sg) (x:Sg):List Sg:=(qC x l.reverse).reverse
def Dk.heads (D:Dk) (base:Int) (n:Nat):List Sg:=(List.range n).filterMap fun k:Nat=>nA (k:Int) (D.look base k 0)
def Dk.segs (D:Dk) (base:Int):List Sg->Int->List Sg->Int×List Sg
 | [],h,ds=>(h,ds)
 | s::l,h,ds=>D.segs base l (D.seg base s.pos 16 s.fin (max h s.high) []).2.1 (ds++[⟨s.pos,s.seq,(D.seg base s.pos 16 s.fin (max h s.high) []).1,(D.seg base s.pos 16 s.fin (max h s.high) []).2.1,(D.seg base s.pos 16 s.fin (max h s.high) []).2.2⟩])
def Dk.readL (D:Dk) (base segs:Int):Lg :=
 ⟨base,segs,D.age,max (D.segs base ((D.heads base segs.toNat).foldl jM []) 0 []).1 (D.get base 1 0).1,(D.get base 1 0).1,(D.segs base ((D.heads base segs.toNat).foldl jM []) 0 []).2⟩
def Dk.free (D:Dk) (base rel:Int):List Sg->Int×Dk×List Sg
 | []=>(0,D,[])
 | s::l=>if l=[]\/rel<s.high then ((D.free base rel l).1,(D.free base rel l).2.1,s::(D.free base rel l).2.2)
  else if (D.write (base+2+s.pos*16+0) []).1=0 then (D.write (base+2+s.pos*16+0) []).2.free base rel l
  else ((D.write (base+2+s.pos*16+0) []).1,(D.write (base+2+s.pos*16+0) []).2,[])
def Dk.wipe (D:Dk) (base pos:Int):Nat->Int->Int->Int×Int×Dk
 | 0,_,n=>(n,0,D)
 | m+1,i,n=>if mK (D.look base pos i)=true then D.wipe base pos m (i+1) n
  else if (D.write (base+2+pos*16+i) []).1=0 then (D.write (base+2+pos*16+i) []).2.wipe base pos m (i+1) (n+1)
  else (n,(D.write (base+2+pos*16+i) []).1,(D.write (base+2+pos*16+i) []).2)
def wipeLast (D:Dk) (base:Int) (us:List Sg):Int×Int×Dk:=match us.getLast? with | some s=>D.wipe base s.pos (16-s.fin).toNat s.fin 0 | none=>(0,0,D)
def Dk.tidy (D:Dk) (l:Lg):Int×Dk×Option Lg :=
 if (D.free l.base l.rel l.used).1≠0 then ((D.free l.base l.rel l.used).1,(D.free l.base l.rel l.used).2.1,none) else
 if (wipeLast (D.free l.base l.rel l.used).2.1 l.base (D.free l.base l.rel l.used).2.2).2.1≠0 then ((wipeLast (D.free l.base l.rel l.used).2.1 l.base (D.free l.base l.rel l.used).2.2).2.1,(wipeLast (D.free l.base l.rel l.used).2.1 l.base (D.free l.base l.rel l.used).2.2).2.2,none) else
 if 0<(l.used.length:Int)-((D.free l.base l.rel l.used).2.2.length:Int)+(wipeLast (D.free l.base l.rel l.used).2.1 l.base (D.free l.base l.rel l.used).2.2).1 then
  if (wipeLast (D.free l.base l.rel l.used).2.1 l.base (D.free l.base l.rel l.used).2.2).2.2.sync.1≠0 then ((wipeLast (D.free l.base l.rel l.used).2.1 l.base (D.free l.base l.rel l.used).2.2).2.2.sync.1,(wipeLast (D.free l.base l.rel l.used).2.1 l.base (D.free l.base l.rel l.used).2.2).2.2.sync.2,none)
  else (0,(wipeLast (D.free l.base l.rel l.used).2.1 l.base (D.free l.base l.rel l.used).2.2).2.2.sync.2,some { l with used:=(D.free l.base l.rel l.used).2.2 })
 else (0,(wipeLast (D.free l.base l.rel l.used).2.1 l.base (D.free l.base l.rel l.used).2.2).2.2,some { l with used:=(D.free l.base l.rel l.used).2.2 })
def mQ (n base segs:Int):Bool:=decide (2<=segs)&&decide (segs<=16)&&decide (0<=base)&&decide (base<=n-2-segs*16)
def Dk.openL (D:Dk) (base segs:Int):Int×Dk×Option Lg:=if D.down=true then (10,D,none) else if mQ D.S.length base segs=true then D.tidy (D.readL base segs) else (2,D,none)
def Dk.badL (D:Dk) (l:Lg):Int:=if D.age≠l.age then 13 else if D.down=true then 10 else 0
def iI (us:List Sg):Nat->Int->Int
 | 0,p=>p
 | m+1,p=>if us.any (fun s=>s.pos==p)=true then iI us m (p+1) else p
def nJ (us:List Sg):Int:=match us.getLast? with | some s=>s.seq+1 | none=>1
def Dk.fresh (D:Dk) (l:Lg):Int×Dk :=
 if l.segs<=l.used.length then (9,D) else if 4611686018427387904<nJ l.used then (6,D) else
 if (D.wipe l.base (iI l.used l.used.length 0) 16 0 0).2.1≠0 then ((D.wipe l.base (iI l.used l.used.length 0) 16 0 0).2.1,(D.wipe l.base (iI l.used l.used.length 0) 16 0 0).2.2) else
 if (D.wipe l.base (iI l.used l.used.length 0) 16 0 0).2.2.sync.1≠0 then (D.wipe l.base (iI l.used l.used.length 0) 16 0 0).2.2.sync else
 (D.wipe l.base (iI l.used l.used.length 0) 16 0 0).2.2.sync.2.write (l.base+2+iI l.used l.used.length 0*16+0) (lL 1 (fK (nJ l.used)++fK l.high) true)
def Dk.puts (D:Dk) (base pos:Int):Nat->Int->Int->List Int->Int×Dk
 | 0,_,_,_=>(0,D)
 | m+1,i,kind,all=>if all=[] then (0,D) else
  if (D.write (base+2+pos*16+i) (lL kind (all.take (min 59 all.length)) (min 59 all.length==all.length))).1=0 then
   (D.write (base+2+pos*16+i) (lL kind (all.take (min 59 all.length)) (min 59 all.length==all.length))).2.puts base pos m (i+1) 3 (all.drop (min 59 all.length))
  else D.write (base+2+pos*16+i) (lL kind (all.take (min 59 all.length)) (min 59 all.length==all.length))
def bN (body:List Int):Nat:=(body.length+8+58) / 59
def fY (us:List Sg) (n:Int):Bool:=match us.getLast? with | some s=>decide (16<s.fin+n) | none=>true
def iR (l:Lg) (n:Int):Sg:=if fY l.used n=true then ⟨iI l.used l.used.length 0,nJ l.used,1,l.high,[]⟩ else l.used.getLast?.getD ⟨0,0,0,0,[]⟩
def oF (l:Lg) (t:Int) (body:List Int):Lg :=
 { l with high:=t,used:=(if fY l.used (bN body)=true then l.used else l.used.dropLast)++[⟨(iR l (bN body)).pos,(iR l (bN body)).seq,(iR l (bN body)).fin+bN body,t,(iR l (bN body)).recs++[(t,body)]⟩] }
def Dk.appendL (D:Dk) (l:Lg) (t:Int) (body:List Int):Int×Dk×Lg :=
 if D.badL l≠0 then (D.badL l,D,l) else if 400<body.length then (6,D,l) else if t<=l.high\/1099511627776<t then (14,D,l) else
 if fY l.used (bN body)=true/\(D.fresh l).1≠0 then ((D.fresh l).1,(D.fresh l).2,l) else
 if ((if fY l.used (bN body)=true then (D.fresh l).2 else D).puts l.base (iR l (bN body)).pos (bN body) (iR l (bN body)).fin 2 (fK t++body)).1≠0 then
  (((if fY l.used (bN body)=true then (D.fresh l).2 else D).puts l.base (iR l (bN body)).pos (bN body) (iR l (bN body)).fin 2 (fK t++body)).1,((if fY l.used (bN body)=true then (D.fresh l).2 else D).puts l.base (iR l (bN body)).pos (bN body) (iR l (bN body)).fin 2 (fK t++body)).2,l)
 else (0,((if fY l.used (bN body)=true then (D.fresh l).2 else D).puts l.base (iR l (bN body)).pos (bN body) (iR l (bN body)).fin 2 (fK t++body)).2,oF l t body)
def Dk.syncL (D:Dk) (l:Lg):Int×Dk:=if D.badL l≠0 then (D.badL l,D) else D.sync
def Dk.chopL (D:Dk) (l:Lg) (t:Int):Int×Dk×Lg :=
 if D.badL l≠0 then (D.badL l,D,l) else if t<0\/l.high<t then (2,D,l) else if t<=l.rel then (0,D,l) else
 if (D.put l.base 1 0 t).1≠0 then ((D.put l.base 1 0 t).1,(D.put l.base 1 0 t).2,l) else
 if ((D.put l.base 1 0 t).2.free l.base t l.used).1≠0 then (((D.put l.base 1 0 t).2.free l.base t l.used).1,((D.put l.base 1 0 t).2.free l.base t l.used).2.1,l) else
 if ((D.put l.base 1 0 t).2.free l.base t l.used).2.2.length<l.used.length then
  if ((D.put l.base 1 0 t).2.free l.base t l.used).2.1.sync.1≠0 then (((D.put l.base 1 0 t).2.free l.base t l.used).2.1.sync.1,((D.put l.base 1 0 t).2.free l.base t l.used).2.1.sync.2,l)
  else (0,((D.put l.base 1 0 t).2.free l.base t l.used).2.1.sync.2,{ l with rel:=t,used:=((D.put l.base 1 0 t).2.free l.base t l.used).2.2 })
 else (0,((D.put l.base 1 0 t).2.free l.base t l.used).2.1,{ l with rel:=t,used:=((D.put l.base 1 0 t).2.free l.base t l.used).2.2 })
def Lg.all (l:Lg):List (Int×List Int):=l.used.flatMap fun s=>s.recs
def Lg.events (l:Lg) (a b:Int):List (Int×List Int):=l.all.filter fun r=>decide (a<=r.1)&&decide (r.1<=b)&&decide (l.rel<r.1)
structure Sg.Wf (s:Sg) (segs:Int):Prop where
 p0:0<=s.pos
 p1:s.pos<segs
 q0:1<=s.seq
 q1:s.seq<=4611686018427387904
 f0:1<=s.fin
 f1:s.fin<=16
 h0:0<=s.high
 h1:s.high<=1099511627776
 rn:(s.recs.length:Int)<s.fin
 rb:∀ r∈s.recs,r.2.length<=1000/\bU r.2/\r.1<=s.high
structure Lg.Wf (l:Lg):Prop where
 b0:0<=l.base
 b1:l.base<=512
 s0:2<=l.segs
 s1:l.segs<=16
 h1:l.high<=1099511627776
 r0:0<=l.rel
 r1:l.rel<=l.high
 seg:∀ s∈l.used,s.Wf l.segs
 nd:(l.used.map fun s=>s.pos).Nodup
 hh:∀ s∈l.used,s.high<=l.high
structure ND (α:Type) where
 t:(α->Prop)->Prop
 m:∀ {Q Q':α->Prop},(∀ a,Q a->Q' a)->t Q->t Q'
section
variable {α β γ δ ε ζ ρ S R ι : Type}
def aU (a:α):ND α:=⟨fun Q=>Q a,fun h k=>h _ k⟩
def nck (p:Prop) (x:ND α):ND α:=⟨fun Q=>p/\x.t Q,fun h k=>⟨k.1,x.m h k.2⟩⟩
def lb1 (o:Option α) (f:α->ND ρ):ND ρ:=⟨fun Q=>∃ a,o=some a/\(f a).t Q,fun h ⟨a,e,k⟩=>⟨a,e,(f a).m h k⟩⟩
def lb2 (o:Option (α×β)) (f:α->β->ND ρ):ND ρ:=⟨fun Q=>∃ a b,o=some (a,b)/\(f a b).t Q,fun h ⟨a,b,e,k⟩=>⟨a,b,e,(f a b).m h k⟩⟩
def lb3 (o:Option (α×β×γ)) (f:α->β->γ->ND ρ):ND ρ:=⟨fun Q=>∃ a b c,o=some (a,b,c)/\(f a b c).t Q,fun h ⟨a,b,c,e,k⟩=>⟨a,b,c,e,(f a b c).m h k⟩⟩
def lb4 (o:Option (α×β×γ×δ)) (f:α->β->γ->δ->ND ρ):ND ρ:=⟨fun Q=>∃ a b c d,o=some (a,b,c,d)/\(f a b c d).t Q,fun h ⟨a,b,c,d,e,k⟩=>⟨a,b,c,d,e,(f a b c d).m h k⟩⟩
def lb5 (o:Option (α×β×γ×δ×ε)) (f:α->β->γ->δ->ε->ND ρ):ND ρ:=⟨fun Q=>∃ a b c d x,o=some (a,b,c,d,x)/\(f a b c d x).t Q,fun h ⟨a,b,c,d,x,e,k⟩=>⟨a,b,c,d,x,e,(f a b c d x).m h k⟩⟩
def cb1 (x:ND α) (f:α->ND ρ):ND ρ:=⟨fun Q=>x.t fun i=>(f i).t Q,fun h=>x.m fun i=>(f i).m h⟩
def cb2 (x:ND (α×β)) (f:α->β->ND ρ):ND ρ:=⟨fun Q=>x.t fun i=>(f i.1 i.2).t Q,fun h=>x.m fun i=>(f i.1 i.2).m h⟩
def cb3 (x:ND (α×β×γ)) (f:α->β->γ->ND ρ):ND ρ:=⟨fun Q=>x.t fun i=>(f i.1 i.2.1 i.2.2).t Q,fun h=>x.m fun i=>(f i.1 i.2.1 i.2.2).m h⟩
def cb4 (x:ND (α×β×γ×δ)) (f:α->β->γ->δ->ND ρ):ND ρ:=⟨fun Q=>x.t fun i=>(f i.1 i.2.1 i.2.2.1 i.2.2.2).t Q,fun h=>x.m fun i=>(f i.1 i.2.1 i.2.2.1 i.2.2.2).m h⟩
def cb5 (x:ND (α×β×γ×δ×ε)) (f:α->β->γ->δ->ε->ND ρ):ND ρ:=⟨fun Q=>x.t fun i=>(f i.1 i.2.1 i.2.2.1 i.2.2.2.1 i.2.2.2.2).t Q,fun h=>x.m fun i=>(f i.1 i.2.1 i.2.2.1 i.2.2.2.1 i.2.2.2.2).m h⟩
def cbX (x:ND (ρ⊕α)) (f:α->ND ρ):ND ρ:=⟨fun Q=>x.t (Sum.elim Q fun i=>(f i).t Q),fun h=>x.m fun i=>by cases i with | inl r=>exact h r | inr i=>exact(f i).m h⟩
def fB (step:S->ND (S⊕R)) (s:S):ND R :=
 ⟨fun Q=>∀ X:S->Prop,(∀ s,(step s).t (Sum.elim X Q)->X s)->X s,fun h k X hX=>k X fun s hs=>hX s ((step s).m (fun i=>by cases i with | inl x=>exact id | inr r=>exact h r) hs)⟩
variable {Q : ρ -> Prop}
theorem un1 {x:ND α} {f:α->ND ρ} (h:(cb1 x f).t Q):x.t fun i=>(f i).t Q:=h
theorem un2 {x:ND (α×β)} {f:α->β->ND ρ} (h:(cb2 x f).t Q):x.t fun i=>(f i.1 i.2).t Q:=h
theorem un3 {x:ND (α×β×γ)} {f:α->β->γ->ND ρ} (h:(cb3 x f).t Q):x.t fun i=>(f i.1 i.2.1 i.2.2).t Q:=h
theorem un4 {x:ND (α×β×γ×δ)} {f:α->β->γ->δ->ND ρ} (h:(cb4 x f).t Q):x.t fun i=>(f i.1 i.2.1 i.2.2.1 i.2.2.2).t Q:=h
theorem unX {x:ND (ρ⊕α)} {f:α->ND ρ} (h:(cbX x f).t Q):x.t (Sum.elim Q fun i=>(f i).t Q):=h
theorem unL {x:ND ρ} {K:α->Prop} (h:(cb1 x fun g=>aU (.inl g)).t (Sum.elim Q K)):x.t Q:=h
theorem iE {b:Bool} {A B:ND ρ} {G:Prop} (h:(if b=true then A else B).t Q) (ht:b=true->A.t Q->G) (hf:b≠true->B.t Q->G):G:=by
 by_cases e:b=true
 .exact ht e (by rwa[if_pos e] at h)
 exact hf e (by rwa[if_neg e] at h)
end
section
variable {ρ ι : Type} {P : Program} {n : Nat} {L : List (Nat × Value)} {a : Act} {w : World} {Q : Exit -> Act -> World -> Prop}
theorem aX {c:Operand} {x y:Code} {b:Bool} {A B:ND ρ} {C:ρ->Prop} (ha:Has n L a) (hc:evO L c=some (.bool b)) (h:(if b=true then A else B).t C)
  (ht:b=true->A.t C->x.wp P Q a w) (hf:b=false->B.t C->y.wp P Q a w):(Code.cond c x y).wp P Q a w:=by
 refine wp_cond_split (ha.ev hc) (fun e=>ht e ?_) (fun e=>hf e ?_)
 .rwa[if_pos e] at h
 rwa[if_neg (by simp[e])] at h
theorem gJ {x y:Code} {X:ND ι} {Lf:ι->List (Nat×Value)} {wf:ι->World} {C:ι->Prop} (h:X.t C) (hk:∀ i,C i->∀ a,Has n (Lf i) a->y.wp P Q a (wf i))
  (hx:X.t C->(∀ i,C i->∀ a,Has n (Lf i) a->Exit.then (y.wp P Q) Q .normal a (wf i))->x.wp P (Exit.then (y.wp P Q) Q) a w):(Code.seq x y).wp P Q a w :=
 wp_seq (hx h hk)
theorem mU {x y:Code} {X:ND (ρ⊕ι)} {Lf:ι->List (Nat×Value)} {wf:ι->World} {C0:ρ->Prop} {C:ι->Prop} (h:X.t (Sum.elim C0 C)) (hk:∀ i,C i->∀ a,Has n (Lf i) a->y.wp P Q a (wf i))
  (hx:X.t (Sum.elim C0 C)->(∀ i,C i->∀ a,Has n (Lf i) a->Exit.then (y.wp P Q) Q .normal a (wf i))->x.wp P (Exit.then (y.wp P Q) Q) a w):(Code.seq x y).wp P Q a w :=
 wp_seq (hx h hk)
theorem dD {c:Code} {X:ND ι} {Lf:ι->List (Nat×Value)} {wf:ι->World} {C:ι->Prop} (h:X.t C) (hk:∀ i,C i->∀ a,Has n (Lf i) a->Q .normal a (wf i))
  (hx:X.t C->(∀ i,C i->∀ a,Has n (Lf i) a->Q .normal a (wf i))->c.wp P Q a w):c.wp P Q a w:=hx h hk
theorem aBu {S R:Type} {step:S->ND (S⊕R)} {I:S->Act->World->Prop} {C:R->Prop} {body:Code} {s0:S}
  (h:(fB step s0).t C) (hI:I s0 a w)
  (hb:∀ (X:S->Prop) s a w,I s a w->(step s).t (Sum.elim X C)->body.wp P (Exit.then (fun a w=>∃ s,I s a w/\X s) Q) a w):(Code.loop body).wp P Q a w:=by
 have key:=h (fun s=>∀ a w,I s a w->∀ (b:Frame) (k:List Item) (cs:List Frame),∃ e a' w',Q e a' w'/\Arrives P (lone (b.at a (.code body :: .inLoop body::k)) cs w) b k cs e a' w') ?_
 .intro b k cs;obtain⟨e,a',w',hq,harr⟩:=key a w hI b k cs;exact⟨e,a',w',hq,.of_steps (.one step_loop) harr⟩
 intro s hs a w hIs b k cs;obtain⟨e,a₁,w₁,hq,harr⟩:=hb _ s a w hIs hs b (.inLoop body::k) cs
 cases e with
 | normal =>
  obtain⟨s',hI',hX⟩:=hq;obtain⟨e₂,a₂,w₂,hq₂,harr₂⟩:=hX a₁ w₁ hI' b k cs;exact⟨e₂,a₂,w₂,hq₂,.of_steps (Steps.trans harr (.one step_inLoop)) harr₂⟩
 | exit id=>exact⟨_,a₁,w₁,hq,.pass rfl (fun _ _=>.inl (by simp)) harr⟩
 | goto l=>exact⟨_,a₁,w₁,hq,.pass rfl (fun _ _=>.inl (by simp)) harr⟩
 | ret=>exact⟨_,a₁,w₁,hq,.pass rfl (fun _ _=>.inl (by simp)) harr⟩
 | panic ch=>exact⟨_,a₁,w₁,hq,.pass rfl (fun _ _=>.inl (by simp)) harr⟩
 | outgrown=>exact⟨_,a₁,w₁,hq,.pass rfl (fun _ _=>.inl (by simp)) harr⟩
theorem lE {S R:Type} {step:S->ND (S⊕R)} {I:S->Act->World->Prop} {C:R->Prop} {body:Code} {s0:S} {e:Exit} {Lr:R->List (Nat×Value)} {wr:R->World}
  (h:(fB step s0).t C) (hI:I s0 a w) (hk:∀ i,C i->∀ a,Has n (Lr i) a->Q e a (wr i))
  (hb:(∀ i,C i->∀ a,Has n (Lr i) a->Q e a (wr i))->∀ (X:S->Prop) s a w,I s a w->(step s).t (Sum.elim X C)->body.wp P (Exit.then (fun a w=>∃ s,I s a w/\X s) Q) a w):(Code.loop body).wp P Q a w:=aBu h hI (hb hk)
theorem sW {S R1 R2:Type} {step:S->ND (S⊕(R1⊕R2))} {I:S->Act->World->Prop} {C:R1⊕R2->Prop} {body:Code} {s0:S} {e1 e2:Exit} {L1:R1->List (Nat×Value)} {w1:R1->World} {L2:R2->List (Nat×Value)} {w2:R2->World}
  (h:(fB step s0).t C) (hI:I s0 a w) (hk1:∀ i,C (.inl i)->∀ a,Has n (L1 i) a->Q e1 a (w1 i)) (hk2:∀ i,C (.inr i)->∀ a,Has n (L2 i) a->Q e2 a (w2 i))
  (hb:(∀ i,C (.inl i)->∀ a,Has n (L1 i) a->Q e1 a (w1 i))->(∀ i,C (.inr i)->∀ a,Has n (L2 i) a->Q e2 a (w2 i))->∀ (X:S->Prop) s a w,I s a w->(step s).t (Sum.elim X C)->body.wp P (Exit.then (fun a w=>∃ s,I s a w/\X s) Q) a w):(Code.loop body).wp P Q a w:=aBu h hI (hb hk1 hk2)
theorem jV {ops:Array Oper} {rest:List Oper} {d ty pos af f} {xs:List Operand} {ts:Array TypeId} {vs:List Value} {pk:ι->Value} {wf:ι->World} {C:ι->Prop} (ha:Has n L a) (hx:evs L xs vs) (hf:∀ (args:Array Value) (w:World),(callFunc f args).run P w = .ok (.enter f args) w)
  (h:Calls P f vs.toArray w fun e w''=>∃ i,e = .returned (pk i)/\C i/\w''=wf i) (hr:∀ i,C i->∀ a',Has n (upd d (pk i) L) a'->wpList P ops Q rest a' (wf i)) (hd:ltb n d=true:=by rfl) :
  wpList P ops Q (⟨d,.call { callee:=.value (.func f),args:=xs.toArray,argTypes:=ts },ty,pos,af,none⟩::rest) a w:=by
 unfold wpList;rw[if_pos (by simp[Region.wanted])];left;unfold Oper.wp;have hrun:(execOp a.eval ⟨d,.call { callee:=.value (.func f),args:=xs.toArray,argTypes:=ts },ty,pos,af,none⟩).run P w = .ok (.enter f vs.toArray) w:=by
  simp[execOp,resolve,Deferred.ofValue,invoke,Act.eval,hf];have:=qT ha hx;exact this
 rw[hrun];refine h.mono fun e w' ⟨i,he,hC,hw⟩=>?_;subst he;subst hw;exact hr i hC _ (ha.put _ (ltd hd) _)
end
section
variable {α β γ δ ε ζ ρ S R : Type} {Φ : ρ -> Prop}
theorem Nd.ret {r:ρ} (h:Φ r):(aU r).t Φ:=h
theorem Nd.b1 {o:Option α} {a:α} {f:α->ND ρ} (e:o=some a) (h:(f a).t Φ):(lb1 o f).t Φ:=⟨a,e,h⟩
theorem Nd.s1 {a:α} {f:α->ND ρ} (h:(f a).t Φ):(lb1 (some a) f).t Φ:=⟨a,rfl,h⟩
theorem Nd.b2 {o:Option (α×β)} {a:α} {b:β} {f:α->β->ND ρ} (e:o=some (a,b)) (h:(f a b).t Φ):(lb2 o f).t Φ:=⟨a,b,e,h⟩
theorem Nd.b3 {o:Option (α×β×γ)} {a:α} {b:β} {c:γ} {f:α->β->γ->ND ρ} (e:o=some (a,b,c)) (h:(f a b c).t Φ):(lb3 o f).t Φ:=⟨a,b,c,e,h⟩
theorem Nd.b4 {o:Option (α×β×γ×δ)} {a:α} {b:β} {c:γ} {d:δ} {f:α->β->γ->δ->ND ρ} (e:o=some (a,b,c,d)) (h:(f a b c d).t Φ):(lb4 o f).t Φ:=⟨a,b,c,d,e,h⟩
theorem Nd.b5 {o:Option (α×β×γ×δ×ε)} {a:α} {b:β} {c:γ} {d:δ} {x:ε} {f:α->β->γ->δ->ε->ND ρ} (e:o=some (a,b,c,d,x)) (h:(f a b c d x).t Φ):(lb5 o f).t Φ:=⟨a,b,c,d,x,e,h⟩
theorem Nd.ck {p:Prop} {x:ND ρ} (hp:p) (h:x.t Φ):(nck p x).t Φ:=⟨hp,h⟩
theorem Nd.t {c:Prop} [Decidable c] {A B:ND ρ} (hc:c) (h:A.t Φ):(if c then A else B).t Φ:=by rw[if_pos hc];exact h
theorem Nd.f {c:Prop} [Decidable c] {A B:ND ρ} (hc:¬ c) (h:B.t Φ):(if c then A else B).t Φ:=by rw[if_neg hc];exact h
theorem Nd.j1 {x:ND α} {f:α->ND ρ} {Ψ:α->Prop} (h:x.t Ψ) (k:∀ a,Ψ a->(f a).t Φ):(cb1 x f).t Φ:=x.m k h
theorem Nd.j2 {x:ND (α×β)} {f:α->β->ND ρ} {Ψ:α×β->Prop} (h:x.t Ψ) (k:∀ a b,Ψ (a,b)->(f a b).t Φ):(cb2 x f).t Φ:=x.m (fun i hi=>k _ _ hi) h
theorem Nd.j3 {x:ND (α×β×γ)} {f:α->β->γ->ND ρ} {Ψ:α×β×γ->Prop} (h:x.t Ψ) (k:∀ a b c,Ψ (a,b,c)->(f a b c).t Φ):(cb3 x f).t Φ:=x.m (fun i hi=>k _ _ _ hi) h
theorem Nd.j4 {x:ND (α×β×γ×δ)} {f:α->β->γ->δ->ND ρ} {Ψ:α×β×γ×δ->Prop} (h:x.t Ψ) (k:∀ a b c d,Ψ (a,b,c,d)->(f a b c d).t Φ):(cb4 x f).t Φ:=x.m (fun i hi=>k _ _ _ _ hi) h
theorem Nd.j5 {x:ND (α×β×γ×δ×ε)} {f:α->β->γ->δ->ε->ND ρ} {Ψ:α×β×γ×δ×ε->Prop} (h:x.t Ψ) (k:∀ a b c d e,Ψ (a,b,c,d,e)->(f a b c d e).t Φ):(cb5 x f).t Φ:=x.m (fun i hi=>k _ _ _ _ _ hi) h
theorem Nd.jX {x:ND (ρ⊕α)} {f:α->ND ρ} {Ψ:α->Prop} (h:x.t (Sum.elim Φ Ψ)) (k:∀ a,Ψ a->(f a).t Φ):(cbX x f).t Φ:=x.m (fun i=>by cases i with | inl r=>exact id | inr i=>exact k i) h
theorem Nd.mono {x:ND ρ} {Ψ:ρ->Prop} (h:x.t Ψ) (k:∀ r,Ψ r->Φ r):x.t Φ:=x.m k h
theorem Nd.next {step:S->ND (S⊕R)} {s:S} {Φ:R->Prop} (h:(step s).t (Sum.elim (fun s'=>(fB step s').t Φ) Φ)):(fB step s).t Φ:=fun X hX =>
 hX s ((step s).m (fun i=>by cases i with | inl x=>exact fun h=>h X hX | inr r=>exact id) h)
theorem Nd.loop {step:S->ND (S⊕R)} {Φ:R->Prop} (I:Nat->S->Prop) (hs:∀ m s,I m s->(step s).t (Sum.elim (fun s'=>∃ m',m'<m/\I m' s') Φ)):∀ (m:Nat) (s:S),I m s->(fB step s).t Φ:=by
 intro m
 induction m using Nat.strongRecOn with
 | _ m ih =>
  intro s h;refine Nd.next ((step s).m (fun i=>?_) (hs m s h))
  cases i with
  | inl x=>exact fun ⟨m',hm,h'⟩=>ih m' hm x h'
  | inr r=>exact id
end
def aFn (X:List Nat) (ds:List OpD):Bool:=ds.zipIdx.all fun (d,i)=>d.cl.all fun k=>X.contains k||d.o.after.toList.any fun e=>Region.binds .any e&&decide (e.on<i)&&(k==e.on||((ds[e.on]?).any fun d'=>d'.cl.contains k))
def rK (X:List Nat) (ds:List OpD):Bool:=aFn X ds&&aAB ds&&aEv ds&&aFm ds&&yZ ds
section
variable {P : Program} {n : Nat} {L0 : List (Nat × Value)} {Q : Exit -> Act -> World -> Prop}
theorem rQ {ds:List OpD} {W:Nat->World} {X:List Nat} (hok:rK X ds=true) (hO:∀ (i:Nat) (d:OpD),ds[i]?=some d->¬ i∈X->∀ j,d.lo<=j->j<=d.hi->pJ P n (ds.map (·.o)).toArray d.o d.li d.v (W j) (W (j+if d.e=true then 1 else 0))) (hR:mJ ds L0) (hd:∀ (i:Nat) (d:OpD) (t:Nat),ds[i]?=some d->d.o.dst=some t->t<n)
  (hQ:∀ a,Has n (jS ds 0 (fun _=>true) L0) a->Q .normal a (W (cnt ds 0 fun _=>true))) :
  ∀ (fuel:Nat) (listed:Array Bool) (a:Act),listed.size=ds.length->(∀ k∈X,listed.getD k false=true) ->
   (∀ (i:Nat) (d:OpD),ds[i]?=some d->listed.getD i false=true->∀ e∈d.o.after.toList,Region.binds .any e=true->listed.getD e.on false=true) ->
   Has n (jS ds 0 (fun k=>listed.getD k false) L0) a->fuel=((List.range ds.length).filter fun i=>!listed.getD i false).length ->
   wpAny P .any (ds.map (·.o)).toArray Q fuel listed a (W (cnt ds 0 fun k=>listed.getD k false)):=by
 simp only[rK,aIz] at hok;obtain⟨⟨⟨⟨hcl,hds⟩,hli⟩,hrg⟩,hed⟩:=hok;have zi:∀ (i:Nat) (d:OpD),ds[i]?=some d->(d,i)∈ds.zipIdx:=fun i d h=>aIR.2 h;have hed':∀ (i:Nat) (d:OpD),ds[i]?=some d->∀ e∈d.o.after.toList,Region.binds .any e=true->e.on<i:=fun i d h e he hb=>by
  have:=aIw.1 (aIw.1 hed _ (zi i d h)) e he;simpa[hb] using this
 have hcl':∀ (i:Nat) (d:OpD),ds[i]?=some d->∀ k∈d.cl,k∈X\/∃ e∈d.o.after.toList,Region.binds .any e=true/\e.on<i/\(k=e.on\/∃ d',ds[e.on]?=some d'/\k∈d'.cl):=fun i d h k hk=>by
  have:=aIw.1 (aIw.1 hcl _ (zi i d h)) k hk;rcases aJc _ _ ▸ this with this | this
  .exact .inl (by simpa using this)
  right;obtain⟨e,he,hx⟩:=aJN.1 this;simp only[aIz,decide_eq_true_eq,aJc,beq_iff_eq,aKW,aJl] at hx;exact⟨e,he,hx.1.1,hx.1.2,hx.2⟩
 have hds':∀ (i k:Nat) (d d':OpD) (t:Nat),ds[i]?=some d->ds[k]?=some d'->i<k->d.o.dst=some t->d'.o.dst=some t->i∈d'.cl:=fun i k d d' t h h' hik ht ht'=>by
  have:=aIw.1 hds _ (zi i d h);simp only[ht,aLk] at this;have:=aIw.1 this _ (zi k d' h');simpa[hik,ht'] using this
 have hli':∀ (i k:Nat) (d d':OpD) (t:Nat) (u:Value),ds[i]?=some d->ds[k]?=some d'->(t,u)∈d.li->d'.o.dst=some t->k=i\/(k<i/\k∈d.cl)\/(i<k/\i∈d'.cl):=fun i k d d' t u h h' ht ht'=>by
  have:=aIw.1 (aIw.1 (aIw.1 hli _ (zi i d h)) _ ht) _ (zi k d' h');simp only[ht',bne_self_eq_false,aLu,aJc,beq_iff_eq,aIz,decide_eq_true_eq,aJl] at this;rcases this with(h1 | h1) | h1
  .exact .inl h1
  .exact .inr (.inl h1)
  exact .inr (.inr h1)
 have hrg':∀ (i:Nat) (d:OpD),ds[i]?=some d->d.lo<=(cnt ds 0 fun k=>d.cl.contains k)/\(cnt ds 0 fun k=>k !=i&&!((ds[k]?).any fun d'=>d'.cl.contains i))<=d.hi:=fun i d h=>by
  have:=aIw.1 hrg _ (zi i d h);simpa using this
 -- what lies ahead of a listed one is listed
 have closed:∀ (listed:Array Bool),(∀ k∈X,listed.getD k false=true)->(∀ (i:Nat) (d:OpD),ds[i]?=some d->listed.getD i false=true->∀ e∈d.o.after.toList,Region.binds .any e=true->listed.getD e.on false=true) ->
   ∀ (i:Nat) (d:OpD),ds[i]?=some d->(∀ e∈d.o.after.toList,Region.binds .any e=true->listed.getD e.on false=true)->∀ k∈d.cl,listed.getD k false=true:=by
  intro listed hX hc i
  induction i using Nat.strongRecOn with
  | _ i ih =>
   intro d hd0 he k hk;rcases hcl' i d hd0 k hk with hkX | ⟨e,he1,he2,he3,he4⟩
   .exact hX k hkX
   rcases he4 with rfl | ⟨d',hd',hk'⟩
   .exact he e he1 he2
   exact ih e.on he3 d' hd' (hc e.on d' hd' (he e he1 he2)) k hk'
 have opsAt:∀ (i:Nat),(ds.map fun d=>d.o).toArray[i]?=(ds[i]?).map (fun d:OpD=>d.o):=fun i=>by simp
 intro fuel
 induction fuel with
 | zero =>
  intro listed a hsz hX hc ha hf;have hall:∀ k,k<ds.length->listed.getD k false=true:=fun k hk=>by
   cases h:listed.getD k false with
   | true=>rfl
   | false =>
    have:k∈(List.range ds.length).filter fun i=>!listed.getD i false:=by simp[hk];simpa using h
    rw[aIA hf.symm] at this;cases this
  have e1:jS ds 0 (fun k=>listed.getD k false) L0=jS ds 0 (fun _=>true) L0:=by
   have key:∀ (l:List OpD) (m:Nat) (L:List (Nat×Value)),m+l.length<=ds.length->jS l m (fun k=>listed.getD k false) L=jS l m (fun _=>true) L:=by
    intro l
    induction l with
    | nil=>intro m L _;rfl
    | cons x xs ih=>intro m L hm;simp only[jS];simp only[aIH] at hm;rw[if_pos (hall m (by omega)),if_pos trivial];exact ih _ _ (by omega)
   exact key ds 0 L0 (by omega)
  have e2:(cnt ds 0 fun k=>listed.getD k false)=cnt ds 0 fun _=>true:=aDH ds 0 fun k hk=>by simpa using hall k hk
  rw[e2];refine⟨?_,hQ a (e1 ▸ ha)⟩;unfold Region.ready;rw[aJF];intro i hi;simp at hi;have:=hall i hi;simp only[aIC] at this ⊢;have h3:listed[i]?=some true:=by
   cases h4:listed[i]? with
   | none=>simp[h4] at this
   | some b=>simpa[h4] using this
  simp[h3]
 | succ fuel ih =>
  intro listed a hsz hX hc ha hf;have some_ready:Region.ready .any (ds.map (·.o)).toArray listed≠[]:=by
   have hne:((List.range ds.length).filter fun i=>!listed.getD i false)≠[]:=fun h=>by rw[h] at hf;cases hf
   obtain⟨x,hx⟩:=aJv _ hne;have hx':x<ds.length/\listed.getD x false=false:=by simpa using hx
   have hmin:∃ m,(m<ds.length/\listed.getD m false=false)/\∀ k,k<m->¬ (k<ds.length/\listed.getD k false=false):=by
    clear hx hf hne
    induction x using Nat.strongRecOn with
    | _ x ihx =>
     by_cases h:∃ k,k<x/\(k<ds.length/\listed.getD k false=false)
     .obtain⟨k,hk,hk'⟩:=h;exact ihx k hk hk'
     exact⟨x,hx',fun k hk hk'=>h ⟨k,hk,hk'⟩⟩
   obtain⟨m,⟨hm1,hm2⟩,hm3⟩:=hmin;intro hr;have:m∈Region.ready .any (ds.map (·.o)).toArray listed:=by
    unfold Region.ready;simp only[aJd,aIO,aIz,aIW];have hl:listed[m]?=some false:=by
     have h4:m<listed.size:=by omega
     simp only[aIC] at hm2;simpa[h4] using hm2
    refine⟨by simpa using hm1,by simp[hl],?_⟩;rw[opsAt];obtain⟨d,hd0⟩:∃ d,ds[m]?=some d:=⟨_,aIs hm1⟩;rw[hd0];simp only[aIT,aJb];rw[<-aKh,aIw];intro e he;by_cases hb:Region.binds .any e=true
    .have h5:=hed' m d hd0 e he hb;have h6:listed.getD e.on false=true:=by
      cases h7:listed.getD e.on false with
      | true=>rfl
      | false=>exact(hm3 e.on h5 ⟨by omega,h7⟩).elim
     simp[h6]
    simp at hb;simp[hb]
   rw[hr] at this;cases this
  refine⟨fun h=>(some_ready h).elim,fun i hi=>?_⟩;unfold Region.ready at hi;simp only[aJd,aIO,aIz,aIW] at hi;obtain⟨hi1,hi2,hi3⟩:=hi;have hi1':i<ds.length:=by simpa using hi1
  obtain⟨d,hd0⟩:∃ d,ds[i]?=some d:=⟨_,aIs hi1'⟩;have hun:listed.getD i false=false:=by
   have h4:i<listed.size:=by omega
   simp only[aIC] at hi2 ⊢;simpa[h4] using hi2
  rw[opsAt,hd0] at hi3;simp only[aIT,aJb] at hi3;rw[<-aKh,aIw] at hi3;have hed2:∀ e∈d.o.after.toList,Region.binds .any e=true->listed.getD e.on false=true:=fun e he hb=>by
   have:=hi3 e he;simpa[hb] using this
  have hcl2:=closed listed hX hc i d hd0 hed2;have notl:∀ k (d':OpD),ds[k]?=some d'->i∈d'.cl->listed.getD k false=false:=fun k d' hk hik=>by
   cases h:listed.getD k false with
   | false=>rfl
   | true =>
    have:=closed listed hX hc k d' hk (hc k d' hk h) i hik;rw[hun] at this;cases this
  have hj1:d.lo<=cnt ds 0 fun k=>listed.getD k false:=aJe (hrg' i d hd0).1 (qM ds 0 fun k d' h1 h2 h3=>by
   simp only[aLy] at h3 ⊢;exact hcl2 k (by simpa using h3))
  have hj2:(cnt ds 0 fun k=>listed.getD k false)<=d.hi:=aJe (qM ds 0 fun k d' h1 h2 h3=>by
   simp only[aLy] at h3 ⊢;simp only[aIz,bne_iff_ne,aIW,Option.any_eq_false];refine⟨fun e=>?_,fun d'' h4=>?_⟩
   .subst e;rw[hun] at h3;cases h3
   rw[h1] at h4;cases h4;simp only[List.contains_eq_mem,decide_eq_false_iff_not];intro h5;rw[notl k d' h1 h5] at h3;cases h3) (hrg' i d hd0).2
  have hop:=hO i d hd0 (fun h=>by have:=hX i h;rw[hun] at this;cases this) _ hj1 hj2;have hLi:Has n d.li a:=by
   have hs:=mJ.get 0 hR hd0;refine⟨ha.d,ha.z,fun t v hv=>ha.l t v ?_⟩;have h1:=hs.look hv;obtain⟨u,hu⟩:=sJ hv;rw[lT] at h1 ⊢;rw[<-h1];congr 1;refine lV ds 0 fun k d' hk hkd=>?_;simp only[aLy];rcases hli' i k d d' t u hd0 hk hu hkd with rfl | ⟨h2,h3⟩ | ⟨h2,h3⟩
   .rw[hun];simp
   .rw[hcl2 k h3];simp[h2]
   rw[notl k d' hk h3];simp;omega
  have goal:=fun K hk=>hop a hLi K Q hk;unfold wpOp;rw[opsAt,hd0];simp only[aIT];have hK:=goal (wpAny P .any (ds.map (·.o)).toArray Q fuel (listed.setIfInBounds i true)) ?_
  .split
   .rename_i hw;rw[if_pos hw] at hK;exact .inl hK
   rename_i hw;rw[if_neg hw] at hK;exact hK
  have hset:∀ k,(listed.setIfInBounds i true).getD k false=kT (fun k=>listed.getD k false) i k:=fun k=>by
   simp only[kT,aIC];by_cases h:k=i
   .subst h;have:k<listed.size:=by omega
    simp[this]
   rw[aJG (Ne.symm h),if_neg h]
  have hset':(fun k=>(listed.setIfInBounds i true).getD k false)=kT (fun k=>listed.getD k false) i:=funext hset;have hcnt:=vA (S:=fun k=>listed.getD k false) (j:=i) ds 0 i d hd0 (by omega) hun;have hfin:=ih (listed.setIfInBounds i true) (a.put d.o.dst d.v) (by simpa using hsz) ?_ ?_ ?_ ?_
  .rw[hset',hcnt] at hfin;exact hfin
  .intro k hk;rw[hset];simp only[kT];split
   .rfl
   exact hX k hk
  .intro k d' hk hl e he hb;rw[hset] at hl ⊢;simp only[kT] at hl ⊢;split
   .rfl
   split at hl
   .rename_i h1 h2;subst h2;rw[hd0] at hk;cases hk;exact hed2 e he hb
   exact hc k d' hk hl e he hb
  .have hput:=ha.put d.o.dst (fun t ht=>hd i d t hd0 ht) d.v;refine⟨hput.d,hput.z,fun t v hv=>hput.l t v ?_⟩;rw[hset'] at hv;rw[qP];rw[lT] at hv ⊢;by_cases ht:d.o.dst=some t
   .rw[if_pos ht];rw[tN ds 0 i d hd0 ht (by simp[kT]) (fun k' d' h1 h2 h3=>by
     simp only[aLy,kT];rw[if_neg (by omega)];exact notl k' d' h2 (hds' i k' d d' t hd0 h2 h1 ht h3))] at hv
    simpa using hv
   rw[if_neg ht];rw[<-hv];congr 1;refine lV ds 0 fun k d' hk hkd=>?_;simp only[aLy,kT];split
   .rename_i h1;subst h1;rw[hd0] at hk;cases hk;exact(ht hkd).elim
   rfl
  have h1:(List.range ds.length).filter (fun k=>!(listed.setIfInBounds i true).getD k false)=((List.range ds.length).filter fun k=>!listed.getD k false).filter (fun k=>k !=i):=by
   rw[aKk];apply aKp;intro k _;rw[hset];simp only[kT];by_cases h:k=i<;>simp[h]
  rw[h1];have hmem:i∈(List.range ds.length).filter fun k=>!listed.getD k false:=by
   simp only[aJd,aIO];exact⟨hi1',by rw[hun];rfl⟩
  have hnd:((List.range ds.length).filter fun k=>!listed.getD k false).Nodup:=List.nodup_range.filter _;have:=hnd.erase_eq_filter i;rw[<-this,aJZ hmem,<-hf];rfl
def aCW (ds:List OpD) (Pv Dp:List Nat):Bool :=
 (Pv.all fun i=>Dp.contains i&&decide (i<ds.length)) &&
 ds.zipIdx.all fun (d,i)=>if Dp.contains i then Pv.contains i||d.o.after.toList.any (fun e=>Region.binds .any e&&Dp.contains e.on) else !d.e&&d.cl.all fun k=>!Dp.contains k
def aGq (ds ds':List OpD) (Dp:List Nat):Prop:=∀ (i:Nat) (d d':OpD),ds[i]?=some d->ds'[i]?=some d'->¬ i∈Dp->d.v=d'.v/\d.cl=d'.cl
theorem lF {listed:Array Bool} {i:Nat} (hi:i<listed.size) (k:Nat):(listed.setIfInBounds i true).getD k false=kT (fun k=>listed.getD k false) i k:=by
 simp only[kT,aIC];by_cases h:k=i
 .subst h;simp[hi]
 rw[aJG (Ne.symm h),if_neg h]
theorem aBY {ds:List OpD} {listed:Array Bool} {a:Act} {i:Nat} {d:OpD} (hds:aAB ds=true) (hd0:ds[i]?=some d) (hi:i<listed.size) (notl:∀ k (d':OpD),ds[k]?=some d'->i∈d'.cl->listed.getD k false=false)
  (ha:Has n (jS ds 0 (fun k=>listed.getD k false) L0) a) (hd:∀ t,d.o.dst=some t->t<n):Has n (jS ds 0 (fun k=>(listed.setIfInBounds i true).getD k false) L0) (a.put d.o.dst d.v):=by
 have hset':(fun k=>(listed.setIfInBounds i true).getD k false)=kT (fun k=>listed.getD k false) i:=funext (lF hi);have zi:∀ (i:Nat) (d:OpD),ds[i]?=some d->(d,i)∈ds.zipIdx:=fun i d h=>aIR.2 h;have hds':∀ (i k:Nat) (d d':OpD) (t:Nat),ds[i]?=some d->ds[k]?=some d'->i<k->d.o.dst=some t->d'.o.dst=some t->i∈d'.cl:=fun i k d d' t h h' hik ht ht'=>by
  have:=aIw.1 hds _ (zi i d h);simp only[ht,aLk] at this;have:=aIw.1 this _ (zi k d' h');simpa[hik,ht'] using this
 have hput:=ha.put d.o.dst hd d.v;refine⟨hput.d,hput.z,fun t v hv=>hput.l t v ?_⟩;rw[hset'] at hv;rw[qP];rw[lT] at hv ⊢;by_cases ht:d.o.dst=some t
 .rw[if_pos ht];rw[tN ds 0 i d hd0 ht (by simp[kT]) (fun k' d' h1 h2 h3=>by
   simp only[aLy,kT];rw[if_neg (by omega)];exact notl k' d' h2 (hds' i k' d d' t hd0 h2 h1 ht h3))] at hv
  simpa using hv
 rw[if_neg ht];rw[<-hv];congr 1;refine lV ds 0 fun k d' hk hkd=>?_;simp only[aLy,kT];split
 .rename_i h1;subst h1;rw[hd0] at hk;cases hk;exact(ht hkd).elim
 rfl
theorem zR {N fuel:Nat} {listed:Array Bool} {i:Nat} (hi:i<listed.size) (hN:i<N) (hun:listed.getD i false=false) (hf:fuel+1=((List.range N).filter fun i=>!listed.getD i false).length) :
  fuel=((List.range N).filter fun k=>!(listed.setIfInBounds i true).getD k false).length:=by
 have h1:(List.range N).filter (fun k=>!(listed.setIfInBounds i true).getD k false)=((List.range N).filter fun k=>!listed.getD k false).filter (fun k=>k !=i):=by
  rw[aKk];apply aKp;intro k _;rw[lF hi];simp only[kT];by_cases h:k=i<;>simp[h]
 rw[h1];have hmem:i∈(List.range N).filter fun k=>!listed.getD k false:=by
  simp only[aJd,aIO];exact⟨hN,by rw[hun];rfl⟩
 have hnd:((List.range N).filter fun k=>!listed.getD k false).Nodup:=List.nodup_range.filter _;have:=hnd.erase_eq_filter i;rw[<-this,aJZ hmem,<-hf];rfl
theorem aDE {ops:List Oper} {fuel:Nat} {listed:Array Bool} (hsz:listed.size=ops.length) (hed:∀ (i:Nat) (o:Oper),ops[i]?=some o->∀ e∈o.after.toList,Region.binds .any e=true->e.on<i)
  (hf:fuel+1=((List.range ops.length).filter fun i=>!listed.getD i false).length):Region.ready .any ops.toArray listed≠[]:=by
 have hne:((List.range ops.length).filter fun i=>!listed.getD i false)≠[]:=fun h=>by rw[h] at hf;cases hf
 obtain⟨x,hx⟩:=aJv _ hne;have hx':x<ops.length/\listed.getD x false=false:=by simpa using hx
 have hmin:∃ m,(m<ops.length/\listed.getD m false=false)/\∀ k,k<m->¬ (k<ops.length/\listed.getD k false=false):=by
  clear hx hf hne
  induction x using Nat.strongRecOn with
  | _ x ihx =>
   by_cases h:∃ k,k<x/\(k<ops.length/\listed.getD k false=false)
   .obtain⟨k,hk,hk'⟩:=h;exact ihx k hk hk'
   exact⟨x,hx',fun k hk hk'=>h ⟨k,hk,hk'⟩⟩
 obtain⟨m,⟨hm1,hm2⟩,hm3⟩:=hmin;intro hr;have:m∈Region.ready .any ops.toArray listed:=by
  unfold Region.ready;simp only[aJd,aIO,aIz,aIW];have hl:listed[m]?=some false:=by
   have h4:m<listed.size:=by omega
   simp only[aIC] at hm2;simpa[h4] using hm2
  refine⟨by simpa using hm1,by simp[hl],?_⟩;rw[aJz,aIs hm1];simp only[aIT,aJb];rw[<-aKh,aIw];intro e he;by_cases hb:Region.binds .any e=true
  .have h5:=hed m ops[m] (aIs hm1) e he hb;have h6:listed.getD e.on false=true:=by
    cases h7:listed.getD e.on false with
    | true=>rfl
    | false=>exact(hm3 e.on h5 ⟨by omega,h7⟩).elim
   simp[h6]
  simp at hb;simp[hb]
 rw[hr] at this;cases this
theorem yV {σ:Type} {C:σ->Prop} {piv:σ->Nat} {ds0:List OpD} {D:σ->List OpD} {W:σ->Nat->World} {m:σ->Nat} {X:Nat->List Nat} {Pv Dp:List Nat} {w0:World} {ops:List Oper}
  (hok0:(aEG ds0&&aAB ds0&&aEv ds0&&yZ ds0)=true) (hdp:aCW ds0 Pv Dp=true) (hne:Pv≠[]) (ho0:ds0.map (·.o)=ops) (hR0:mJ ds0 L0) (hd:∀ (i:Nat) (d:OpD) (t:Nat),ds0[i]?=some d->d.o.dst=some t->t<n)
  (hO0:∀ (i:Nat) (d:OpD),ds0[i]?=some d->¬ i∈Dp->pJ P n ops.toArray d.o d.li d.v w0 w0)
  (hP:∀ i∈Pv,∀ (d:OpD),ds0[i]?=some d->∀ a,Has n d.li a->∀ (K:Act->World->Prop),(∀ s,C s->piv s=i->∀ v,((D s)[i]?).map (·.v)=some v->K (a.put d.o.dst v) (W s 1))->wpOp P ops.toArray Q i K a w0)
  (hXp:∀ i,i∈X i) (hX:∀ s,C s->∀ k∈X (piv s),k=piv s\/∃ d,ds0[piv s]?=some d/\k∈d.cl)
  (hS:∀ s,C s->(D s).map (·.o)=ops/\rK (X (piv s)) (D s)=true/\aGq ds0 (D s) Dp/\mJ (D s) L0/\((D s)[piv s]?).map (·.e)=some true/\(∀ (i:Nat) (d:OpD),(D s)[i]?=some d->i≠piv s->∀ j,d.lo<=j->j<=d.hi->pJ P n ops.toArray d.o d.li d.v (W s j) (W s (j+if d.e=true then 1 else 0)))/\(∀ (i:Nat) (d:OpD),(D s)[i]?=some d->¬ i∈Dp->d.e=false) /\
   ∀ a,Has n (jS (D s) 0 (fun _=>true) L0) a->Q .normal a (W s (cnt (D s) 0 fun _=>true))) :
  ∀ (fuel:Nat) (listed:Array Bool) (a:Act),listed.size=ds0.length->(∀ k∈Dp,listed.getD k false=false) ->
   (∀ (i:Nat) (d:OpD),ds0[i]?=some d->listed.getD i false=true->∀ e∈d.o.after.toList,Region.binds .any e=true->listed.getD e.on false=true) ->
   Has n (jS ds0 0 (fun k=>listed.getD k false) L0) a->fuel=((List.range ds0.length).filter fun i=>!listed.getD i false).length ->
   wpAny P .any ops.toArray Q fuel listed a w0:=by
 simp only[aIz] at hok0;obtain⟨⟨⟨hcl,hds⟩,hli⟩,hed⟩:=hok0;unfold aCW at hdp;simp only[aIz] at hdp;obtain⟨hdp1,hdp2⟩:=hdp;have zi:∀ (i:Nat) (d:OpD),ds0[i]?=some d->(d,i)∈ds0.zipIdx:=fun i d h=>aIR.2 h;have hpv:∀ i∈Pv,i∈Dp/\i<ds0.length:=fun i hi=>by
  have:=aIw.1 hdp1 i hi;simpa using this
 have hdep:∀ (i:Nat) (d:OpD),ds0[i]?=some d->i∈Dp->i∈Pv\/∃ e∈d.o.after.toList,Region.binds .any e=true/\e.on∈Dp:=fun i d h hi=>by
  have:=aIw.1 hdp2 _ (zi i d h);simp only[aJl,hi,if_true,aJc,aJN,aIz] at this;rcases this with h1 | ⟨e,h1,h2⟩
  .exact .inl (by simpa using h1)
  exact .inr ⟨e,h1,h2.1,by simpa using h2.2⟩
 have hind:∀ (i:Nat) (d:OpD),ds0[i]?=some d->¬ i∈Dp->d.e=false/\∀ k∈d.cl,¬ k∈Dp:=fun i d h hi=>by
  have:=aIw.1 hdp2 _ (zi i d h);simp only[aJl,hi,if_false,aIz,aIW,aIw,decide_eq_true_eq,Bool.not_eq_eq_eq_not,aKs] at this;exact⟨this.1,fun k hk=>by simpa using this.2 k hk⟩
 have hed':∀ (i:Nat) (d:OpD),ds0[i]?=some d->∀ e∈d.o.after.toList,Region.binds .any e=true->e.on<i:=fun i d h e he hb=>by
  have:=aIw.1 (aIw.1 hed _ (zi i d h)) e he;simpa[hb] using this
 have hcl':∀ (i:Nat) (d:OpD),ds0[i]?=some d->∀ k∈d.cl,∃ e∈d.o.after.toList,Region.binds .any e=true/\e.on<i/\(k=e.on\/∃ d',ds0[e.on]?=some d'/\k∈d'.cl):=fun i d h k hk=>by
  have:=aIw.1 (aIw.1 hcl _ (zi i d h)) k hk;obtain⟨e,he,hx⟩:=aJN.1 this;simp only[aIz,decide_eq_true_eq,aJc,beq_iff_eq,aKW,aJl] at hx;exact⟨e,he,hx.1.1,hx.1.2,hx.2⟩
 have hli':∀ (i k:Nat) (d d':OpD) (t:Nat) (u:Value),ds0[i]?=some d->ds0[k]?=some d'->(t,u)∈d.li->d'.o.dst=some t->k=i\/(k<i/\k∈d.cl)\/(i<k/\i∈d'.cl):=fun i k d d' t u h h' ht ht'=>by
  have:=aIw.1 (aIw.1 (aIw.1 hli _ (zi i d h)) _ ht) _ (zi k d' h');simp only[ht',bne_self_eq_false,aLu,aJc,beq_iff_eq,aIz,decide_eq_true_eq,aJl] at this;rcases this with(h1 | h1) | h1
  .exact .inl h1
  .exact .inr (.inl h1)
  exact .inr (.inr h1)
 have closed:∀ (listed:Array Bool),(∀ (i:Nat) (d:OpD),ds0[i]?=some d->listed.getD i false=true->∀ e∈d.o.after.toList,Region.binds .any e=true->listed.getD e.on false=true) ->
   ∀ (i:Nat) (d:OpD),ds0[i]?=some d->(∀ e∈d.o.after.toList,Region.binds .any e=true->listed.getD e.on false=true)->∀ k∈d.cl,listed.getD k false=true:=by
  intro listed hc i
  induction i using Nat.strongRecOn with
  | _ i ih =>
   intro d hd0 he k hk;obtain⟨e,he1,he2,he3,he4⟩:=hcl' i d hd0 k hk;rcases he4 with rfl | ⟨d',hd',hk'⟩
   .exact he e he1 he2
   exact ih e.on he3 d' hd' (hc e.on d' hd' (he e he1 he2)) k hk'
 have hol:ops.length=ds0.length:=by rw[<-ho0];simp
 have opsAt:∀ (i:Nat),ops.toArray[i]?=(ds0[i]?).map (fun d:OpD=>d.o):=fun i=>by rw[<-ho0];simp
 intro fuel
 induction fuel with
 | zero =>
  intro listed a hsz hdl hc ha hf;obtain⟨i,hi⟩:=aJv _ hne;obtain⟨h1,h2⟩:=hpv i hi;have:i∈(List.range ds0.length).filter fun i=>!listed.getD i false:=by
   simp only[aJd,aIO];exact⟨h2,by rw[hdl i h1];rfl⟩
  rw[aIA hf.symm] at this;cases this
 | succ fuel ih =>
  intro listed a hsz hdl hc ha hf;refine⟨fun h=>((aDE (ops:=ops) (fuel:=fuel) (by omega) (fun i o h=>?_) (by rw[hol];exact hf)) h).elim,fun i hi=>?_⟩
  .have h1:=opsAt i;rw[aJz,h] at h1;obtain⟨d,hd0,rfl⟩:=aKH.1 h1.symm;exact hed' i d hd0
  unfold Region.ready at hi;simp only[aJd,aIO,aIz,aIW] at hi;obtain⟨hi1,hi2,hi3⟩:=hi;have hi1':i<ds0.length:=by simpa[hol] using hi1
  have hils:i<listed.size:=by omega
  obtain⟨d,hd0⟩:∃ d,ds0[i]?=some d:=⟨_,aIs hi1'⟩;have hun:listed.getD i false=false:=by
   simp only[aIC] at hi2 ⊢;simpa[hils] using hi2
  rw[opsAt,hd0] at hi3;simp only[aIT,aJb] at hi3;rw[<-aKh,aIw] at hi3;have hed2:∀ e∈d.o.after.toList,Region.binds .any e=true->listed.getD e.on false=true:=fun e he hb=>by
   have:=hi3 e he;simpa[hb] using this
  have hcl2:=closed listed hc i d hd0 hed2;have hLi:Has n d.li a:=by
   have hs:=mJ.get 0 hR0 hd0;refine⟨ha.d,ha.z,fun t v hv=>ha.l t v ?_⟩;have h1:=hs.look hv;obtain⟨u,hu⟩:=sJ hv;rw[lT] at h1 ⊢;rw[<-h1];congr 1;refine lV ds0 0 fun k d' hk hkd=>?_;simp only[aLy];rcases hli' i k d d' t u hd0 hk hu hkd with rfl | ⟨h2,h3⟩ | ⟨h2,h3⟩
   .rw[hun];simp
   .rw[hcl2 k h3];simp[h2]
   have:listed.getD k false=false:=by
    cases h:listed.getD k false with
    | false=>rfl
    | true =>
     have:=closed listed hc k d' hk (hc k d' hk h) i h3;rw[hun] at this;cases this
   rw[this];simp;omega
  have hcset:∀ (k:Nat) (d':OpD),ds0[k]?=some d'->(listed.setIfInBounds i true).getD k false=true->∀ e∈d'.o.after.toList,Region.binds .any e=true->(listed.setIfInBounds i true).getD e.on false=true:=by
   intro k d' hk hl e he hb;rw[lF hils] at hl ⊢;simp only[kT] at hl ⊢;split
   .rfl
   split at hl
   .rename_i h1 h2;subst h2;rw[hd0] at hk;cases hk;exact hed2 e he hb
   exact hc k d' hk hl e he hb
  by_cases hiD:i∈Dp
  .-- the first act
   have hiP:i∈Pv:=by
    rcases hdep i d hd0 hiD with h | ⟨e,h1,h2,h3⟩
    .exact h
    have:=hed2 e h1 h2;rw[hdl _ h3] at this;cases this
   refine hP i hiP d hd0 a hLi _ fun s hs hps v hv=>?_;obtain⟨s1,s2,s3,s4,s5,s6,s7,s8⟩:=hS s hs;subst hps;have hlen:(D s).length=ds0.length:=by rw[<-hol,<-s1];simp
   obtain⟨ds',hds'⟩:∃ d',(D s)[piv s]?=some d':=⟨_,aIs (by omega)⟩;have same:∀ (k:Nat) (d':OpD),(D s)[k]?=some d'->∃ d1,ds0[k]?=some d1/\d1.o=d'.o:=fun k d' hk=>by
    have h1:=congrArg (fun l:List Oper=>l[k]?) (s1.trans ho0.symm);simp only[aJA,hk,aIT] at h1;obtain⟨d1,h2,h3⟩:=aKH.1 h1.symm;exact⟨d1,h2,h3⟩
   have hdo:d.o=ds'.o:=by obtain⟨d1,h1,h2⟩:=same _ _ hds';rw[hd0] at h1;cases h1;exact h2
   have hvs:ds'.v=v:=by rw[hds'] at hv;simpa using hv
   have hes:ds'.e=true:=by rw[hds'] at s5;simpa using s5
   have notD:∀ k,listed.getD k false=true->¬ k∈Dp:=fun k hk hkD=>by rw[hdl k hkD] at hk;cases hk
   have henv:jS (D s) 0 (fun k=>listed.getD k false) L0=jS ds0 0 (fun k=>listed.getD k false) L0:=by
    have key:∀ (l l':List OpD) (b:Nat) (L:List (Nat×Value)),(∀ j,l[j]?=(D s)[b+j]?)->(∀ j,l'[j]?=ds0[b+j]?)->jS l b (fun k=>listed.getD k false) L=jS l' b (fun k=>listed.getD k false) L:=by
     intro l
     induction l with
     | nil =>
      intro l' b L h1 h2
      cases l' with
      | nil=>rfl
      | cons x xs =>
       have e1:=h1 0;have e2:=h2 0
       simp only[aJs,List.getElem?_nil,aJu] at e1 e2;have:=aJW.1 e1.symm;have:=(aIt.1 e2.symm).1;omega
     | cons x xs ihx =>
      intro l' b L h1 h2
      cases l' with
      | nil =>
       have e1:=h1 0;have e2:=h2 0
       simp only[aJs,List.getElem?_nil,aJu] at e1 e2;have:=aJW.1 e2.symm;have:=(aIt.1 e1.symm).1;omega
      | cons y ys =>
       have e1:=h1 0;have e2:=h2 0
       simp only[aJs,aJu] at e1 e2;have hrec:∀ L,jS xs (b+1) (fun k=>listed.getD k false) L=jS ys (b+1) (fun k=>listed.getD k false) L:=fun L =>
        ihx ys (b+1) L (fun j=>by have:=h1 (j+1);simp only[aJt] at this;rw[this];congr 1;omega) (fun j=>by have:=h2 (j+1);simp only[aJt] at this;rw[this];congr 1;omega)
       simp only[jS];by_cases hb:listed.getD b false=true
       .have hag:=(s3 b y x e2.symm e1.symm (notD b hb)).1;obtain⟨d1,k1,k2⟩:=same b x e1.symm;rw[<-e2] at k1;cases k1;rw[if_pos hb,if_pos hb,hrec,k2,hag]
       rw[if_neg hb,if_neg hb,hrec]
    exact key (D s) ds0 0 L0 (fun j=>by rw[aLy]) (fun j=>by rw[aLy])
   have hallX:=s2;simp only[rK,aIz] at hallX;have hput:=aBY (n:=n) (L0:=L0) (ds:=D s) (listed:=listed) (a:=a) (i:=piv s) (d:=ds') hallX.1.1.1.2 hds' hils (fun k d' hk hik=>by
    cases h:listed.getD k false with
    | false=>rfl
    | true =>
     obtain⟨d1,k1,k2⟩:=same k d' hk;have hcl3:=(s3 k d1 d' k1 hk (notD k h)).2;rw[<-hcl3] at hik;exact((hind k d1 k1 (notD k h)).2 _ hik hiD).elim) (by rw[henv];exact ha) (fun t ht=>hd _ d t hd0 (by rw[hdo];exact ht))
   have hcnt:cnt (D s) 0 (fun k=>(listed.setIfInBounds (piv s) true).getD k false)=1:=by
    have h0:cnt (D s) 0 (fun k=>listed.getD k false)=0:=by
     have key:∀ (l:List OpD) (b:Nat),(∀ j,l[j]?=(D s)[b+j]?)->cnt l b (fun k=>listed.getD k false)=0:=by
      intro l
      induction l with
      | nil=>intro b _;rfl
      | cons x xs ihx =>
       intro b h1;have e1:=h1 0;simp only[aJs,aJu] at e1;simp only[cnt];rw[ihx (b+1) (fun j=>by have:=h1 (j+1);simp only[aJt] at this;rw[this];congr 1;omega),if_neg];rintro⟨h2,h3⟩;rw[s7 b x e1.symm (notD b h2)] at h3;cases h3
     exact key (D s) 0 (fun j=>by rw[aLy])
    have hset':(fun k=>(listed.setIfInBounds (piv s) true).getD k false)=kT (fun k=>listed.getD k false) (piv s):=funext (lF hils);rw[hset',vA (D s) 0 (piv s) ds' hds' (by omega) hun,h0,hes];rfl
   have hfin:=rQ (P:=P) (n:=n) (L0:=L0) (Q:=Q) (ds:=D s) (W:=W s) s2 (by rw[s1];exact fun i d h hi=>s6 i d h (fun e=>hi (by rw[e];exact hXp _))) s4 (fun i d' t h1 h2=>by
    obtain⟨d1,k1,k2⟩:=same i d' h1;exact hd i d1 t k1 (by rw[k2];exact h2)) s8 fuel (listed.setIfInBounds (piv s) true) (a.put ds'.o.dst ds'.v) (by simp[hsz,hlen]) (fun k hk=>by
     rw[lF hils];simp only[kT];rcases hX s hs k hk with rfl | ⟨d1,k1,k2⟩
     .simp
     .rw[hd0] at k1;cases k1;rw[hcl2 k k2];simp) (fun k d' hk hl e he hb=>by
     obtain⟨d1,k1,k2⟩:=same k d' hk;exact hcset k d1 k1 hl e (by rw[k2];exact he) hb) hput (by rw[hlen];exact zR hils hi1' hun hf)
   rw[hcnt,s1] at hfin;rw[hdo,<-hvs];exact hfin
  have hop:=hO0 i d hd0 hiD;unfold wpOp;rw[opsAt,hd0];simp only[aIT];have hK:=hop a hLi (wpAny P .any ops.toArray Q fuel (listed.setIfInBounds i true)) Q (ih (listed.setIfInBounds i true) (a.put d.o.dst d.v) (by simpa using hsz) (fun k hk=>by
    rw[lF hils];simp only[kT];rw[if_neg (fun e:k=i=>hiD (e ▸ hk))];exact hdl k hk) hcset
   (aBY hds hd0 hils (fun k d' hk hik=>by
    cases h:listed.getD k false with
    | false=>rfl
    | true =>
     have:=closed listed hc k d' hk (hc k d' hk h) i hik;rw[hun] at this;cases this) ha (fun t ht=>hd i d t hd0 ht)) (zR hils hi1' hun hf))
  split
  .rename_i hw;rw[if_pos hw] at hK;exact .inl hK
  rename_i hw;rw[if_neg hw] at hK;exact hK
end
def aCA {α:Type} (x y:ND α):ND α:=⟨fun Q=>x.t Q/\y.t Q,fun h k=>⟨x.m h k.1,y.m h k.2⟩⟩
theorem Nd.both {α:Type} {x y:ND α} {Φ:α->Prop} (h:x.t Φ) (k:y.t Φ):(aCA x y).t Φ:=⟨h,k⟩
def vY:List Oper->List (List Nat)->List (List Nat)
 | [],acc=>acc
 | o::os,acc=>vY os (acc++[(o.after.toList.filter fun e=>Region.binds .any e).flatMap fun e=>e.on::acc.getD e.on []])
def mW (ds:List OpD) (cls:List (List Nat)):List OpD:=List.zipWith (fun d c=>{ d with cl:=c }) ds cls
def lI (ds:List OpD):List OpD:=mW ds (vY (ds.map (·.o)) [])
def aCh (ds:List OpD) (Dp:List Nat):List (Value×List Nat):=(ds.zipIdx.filter fun x=>!Dp.contains x.2).map fun x=>(x.1.v,x.1.cl)
def sE (n:Nat) (ds:List OpD) (i:Nat) (Pv Dp:List Nat):Bool :=
 let b:=lI ds
 aEG b&&aAB b&&aEv b&&yZ b&&aCW b Pv Dp&&(ds.all fun d=>d.o.dst.all fun t=>decide (t<n))&&decide (b.length=ds.length) &&
 rK (i::((b[i]?).map (·.cl)).getD []) ds&&((ds[i]?).any fun d=>d.e&&d.lo==0)&&ds.zipIdx.all fun (d,k)=>Dp.contains k||(!d.e&&d.lo==0&&d.cl==((b[k]?).map (·.cl)).getD [])
section
variable {P : Program} {n : Nat} {L0 : List (Nat × Value)} {Q : Exit -> Act -> World -> Prop} {a : Act} {w : World}
theorem qV {ds:List OpD} {cls:List (List Nat)} {k:Nat} {d:OpD} (h:(mW ds cls)[k]?=some d):∃ d',ds[k]?=some d'/\d'.o=d.o/\d'.v=d.v/\d'.e=d.e/\d'.lo=d.lo/\d'.li=d.li/\cls[k]?=some d.cl:=by
 unfold mW at h;rw[aKn] at h
 cases h1:ds[k]? with
 | none=>rw[h1] at h;simp at h
 | some d' =>
  cases h2:cls[k]? with
  | none=>rw[h1,h2] at h;simp at h
  | some c=>rw[h1,h2] at h;simp at h;subst h;exact⟨d',rfl,rfl,rfl,rfl,rfl,rfl,rfl⟩
theorem tF:∀ {ds:List OpD} {cls:List (List Nat)} {L:List (Nat×Value)},mJ ds L->mJ (mW ds cls) L
 | [],_,_,_=>by simp[mW,mJ]
 | _::_,[],_,_=>by simp[mW,mJ]
 | d::ds,c::cls,L,h=>⟨h.1,tF h.2⟩
theorem zX:∀ {ds:List OpD} {cls:List (List Nat)},(mW ds cls).length=ds.length->(mW ds cls).map (·.o)=ds.map (·.o)
 | [],_,_=>by simp[mW]
 | _::_,[],h=>by simp[mW] at h
 | d::ds,c::cls,h=>by
  have:=zX (ds:=ds) (cls:=cls) (by simpa[mW] using h);simp only[mW,List.zipWith_cons_cons,aKf] at this ⊢;rw[this]
theorem aBq {ds ds':List OpD} {Dp:List Nat} (hl:ds.length=ds'.length) (h:aCh ds Dp=aCh ds' Dp) {k:Nat} {d d':OpD} (h1:ds[k]?=some d) (h2:ds'[k]?=some d') (hk:¬ k∈Dp):d.v=d'.v/\d.cl=d'.cl:=by
 have key:∀ (l l':List OpD) (b:Nat),l.length=l'.length->((l.zipIdx b).filter fun x=>!Dp.contains x.2).map (fun x=>(x.1.v,x.1.cl))=((l'.zipIdx b).filter fun x=>!Dp.contains x.2).map (fun x=>(x.1.v,x.1.cl))->∀ j x y,l[j]?=some x->l'[j]?=some y->¬ (b+j)∈Dp->x.v=y.v/\x.cl=y.cl:=by
  intro l
  induction l with
  | nil=>intro l' b _ _ j x y hx;simp at hx
  | cons u us ih =>
   intro l' b hl' he j x y hx hy hj
   cases l' with
   | nil=>simp at hl'
   | cons u' us' =>
    simp only[List.zipIdx_cons,aJO] at he;by_cases hb:b∈Dp
    .have:(!Dp.contains b)=false:=by simp[hb]
     simp only[this,aIx,if_false] at he
     cases j with
     | zero=>exact(hj (by simpa using hb)).elim
     | succ j=>exact ih us' (b+1) (by simpa using hl') he j x y (by simpa using hx) (by simpa using hy) (by rwa[show b+1+j=b+(j+1) by omega])
    have:(!Dp.contains b)=true:=by simp[hb]
    simp only[this,if_true,aKf,List.cons.injEq,Prod.mk.injEq] at he
    cases j with
    | zero=>simp at hx hy;subst hx;subst hy;exact he.1
    | succ j=>exact ih us' (b+1) (by simpa using hl') he.2 j x y (by simpa using hx) (by simpa using hy) (by rwa[show b+1+j=b+(j+1) by omega])
 exact key ds ds' 0 hl h k d d' h1 h2 (by simpa using hk)
theorem yB {ops:List Oper} {id:Nat} (hm:P.follows .mixedOrders=true) (h:wpAny P .any ops.toArray Q ops.length (Array.replicate ops.length false) a w.drew):(Code.region id ops.toArray true).wp P Q a w:=by
 refine wp_region_any hm ?_;have:ops.toArray.size=ops.length:=by simp
 rw[this];exact h
theorem qH (N k:Nat):(Array.replicate N false).getD k false=false:=by
 simp only[aIC,aJM];split<;>rfl
theorem aAd (l:List OpD):∀ (i:Nat) (L:List (Nat×Value)),jS l i (fun _=>false) L=L:=by
 induction l with
 | nil=>intro i L;rfl
 | cons x xs ih=>intro i L;simp only[jS];rw[if_neg (by simp)];exact ih _ _
theorem aBQ {ops:Array Oper} {i:Nat} {o:Oper} {li:List (Nat×Value)} {v:Value} {w w':World} (hi:ops[i]?=some o) (h:pJ P n ops o li v w w') (ha:Has n li a) {K:Act->World->Prop} (hk:K (a.put o.dst v) w'):wpOp P ops Q i K a w:=by
 unfold wpOp;rw[hi];simp only;have:=h a ha K Q hk;split
 .rename_i hw;rw[if_pos hw] at this;exact .inl this
 rename_i hw;rw[if_neg hw] at this;exact this
theorem aBk {σ : Type} {C : σ -> Prop} {piv : σ -> Nat} {Pv Dp : List Nat} {D : σ -> List OpD} {W : σ -> Nat -> World} {m : σ -> Nat} {ops : List Oper} {id : Nat} (s0 : σ) (hm : P.follows .mixedOrders = true) (ha : Has n L0 a) (hne : Pv ≠ [])
    (hs0 : (D s0).map (·.o) = ops) (hok : ∀ s, sE n (D s) (piv s) Pv Dp = true) (ho : ∀ s, (D s).map (·.o) = ops) (hv : ∀ s, aCh (D s) Dp = aCh (D s0) Dp) (hR : ∀ s, mJ (D s) L0) (hO0 : ∀ (i : Nat) (d : OpD), (D s0)[i]? = some d -> ¬ i ∈ Dp -> pJ P n ops.toArray d.o d.li d.v w.drew w.drew)
    (hP : ∀ i ∈ Pv, ∀ (d : OpD), (D s0)[i]? = some d -> ∀ a, Has n d.li a -> ∀ (K : Act -> World -> Prop), (∀ s, C s -> piv s = i -> ∀ v, ((D s)[i]?).map (·.v) = some v -> K (a.put d.o.dst v) (W s 1)) -> wpOp P ops.toArray Q i K a w.drew)
    (hO : ∀ s, C s -> ∀ (i : Nat) (d : OpD), (D s)[i]? = some d -> i ≠ piv s -> ∀ j, d.lo <= j -> j <= d.hi -> pJ P n ops.toArray d.o d.li d.v (W s j) (W s (j + if d.e = true then 1 else 0))) (hcm : ∀ s, cnt (D s) 0 (fun _ => true) = m s) (hQ : ∀ s, C s -> ∀ a, Has n (jS (D s) 0 (fun _ => true) L0) a -> Q .normal a (W s (m s))) : (Code.region id ops.toArray true).wp P Q a w := by
  have b0 := hok s0
  simp only [sE, aIz] at b0
  obtain ⟨⟨⟨⟨⟨⟨⟨⟨⟨c1, c2⟩, c3⟩, c4⟩, c5⟩, c6⟩, c7⟩, c8⟩, c9⟩, c10⟩ := b0
  have hl0 : (lI (D s0)).length = (D s0).length := by simpa using c7
  have hlo : ops.length = (D s0).length := by rw [<- hs0]; simp
  have hall : ∀ s, (D s).length = (D s0).length := fun s => by rw [<- hlo, <- ho s]; simp
  have zi : ∀ s (i : Nat) (d : OpD), (D s)[i]? = some d -> (d, i) ∈ (D s).zipIdx := fun s i d h => aIR.2 h
  have nd : ∀ s (k : Nat) (d : OpD), (D s)[k]? = some d -> ¬ k ∈ Dp -> d.e = false /\ d.cl = (((lI (D s))[k]?).map (·.cl)).getD [] := fun s k d h hk => by
    have b := hok s
    simp only [sE, aIz] at b
    have := aIw.1 b.2 _ (zi s k d h)
    simp only [aJc, aIz, aIW, beq_iff_eq] at this
    rcases this with h | h
    . exact (hk (by simpa using h)).elim
    . exact ⟨h.1.1, h.2⟩
  refine yB hm ?_
  have hmain := yV (P := P) (n := n) (L0 := L0) (Q := Q) (C := C) (piv := piv) (ds0 := lI (D s0)) (D := D) (W := W) (m := m) (X := fun i => i :: (((lI (D s0))[i]?).map (·.cl)).getD []) (Pv := Pv) (Dp := Dp) (w0 := w.drew) (ops := ops)
    (by simp only [aIz]; exact ⟨⟨⟨c1, c2⟩, c3⟩, c4⟩) c5 hne (by rw [<- hs0]; exact zX hl0) (tF (hR s0)) (fun i d t h ht => by
      obtain ⟨d', h1, h2, _⟩ := qV h
      have := aIw.1 c6 d' (aIF h1)
      rw [h2, ht] at this
      simpa using this) (fun i d h hi => by
      obtain ⟨d', h1, h2, h3, _, _, h6, _⟩ := qV h
      have := hO0 i d' h1 hi
      rwa [h2, h6, h3] at this) (fun i hi d h a ha K hK => by
      obtain ⟨d', h1, h2, h3, _, _, h6, _⟩ := qV h
      refine hP i hi d' h1 a (h6 ▸ ha) K fun s hs hp v hv => ?_
      rw [h2]; exact hK s hs hp v hv) (fun i => by simp) (fun s hs k hk => by
      rcases aJI.1 hk with h | h
      . exact .inl h
      . right
        cases e : (lI (D s0))[piv s]? with
        | none => rw [e] at h; simp at h
        | some d => rw [e] at h; exact ⟨d, rfl, by simpa using h⟩) (fun s hs => by
      have b := hok s
      simp only [sE, aIz] at b
      obtain ⟨⟨⟨_, b8⟩, b9⟩, b10⟩ := b
      have hpl : lI (D s) = mW (D s) (vY ops []) := by unfold lI; rw [ho s]
      have hpl0 : lI (D s0) = mW (D s0) (vY ops []) := by unfold lI; rw [hs0]
      have hcl : ∀ k : Nat, (((lI (D s))[k]?).map (·.cl)).getD [] = (((lI (D s0))[k]?).map (·.cl)).getD [] := fun k => by
        rw [hpl, hpl0]
        unfold mW
        rw [aKn, aKn]
        cases h1 : (D s)[k]? with
        | none =>
          have : (D s0)[k]? = none := by rw [aJW] at h1 ⊢; rw [<- hall s]; exact h1
          rw [this]
        | some d1 =>
          have : k < (D s0).length := by rw [<- hall s]; exact (aIt.1 h1).1
          rw [aIs this]
          cases (vY ops [])[k]? <;> simp
      refine ⟨ho s, by rw [<- hcl (piv s)]; exact b8, fun k d d' h h' hk => ?_, hR s, ?_, hO s hs, fun k d h hk => (nd s k d h hk).1, by rw [hcm s]; exact hQ s hs⟩
      . obtain ⟨d1, h1, h2, h3, _, _, _, h7⟩ := qV h
        have hva := aBq (hall s) (hv s) h' h1 hk
        refine ⟨by rw [<- h3, hva.1], ?_⟩
        rw [(nd s k d' h' hk).2, hcl k, h]; rfl
      . cases e : (D s)[piv s]? with
        | none => rw [e] at b9; simp at b9
        | some d => rw [e] at b9; simp at b9; simp [b9.1])
    ops.length (Array.replicate ops.length false) a (by simp [hl0, hlo]) (fun k _ => qH _ _) (fun i d _ h => by rw [qH] at h; cases h)
    (by have : (fun k => (Array.replicate ops.length false).getD k false) = fun _ => false := funext (qH _)
        rw [this, aAd]; exact ha)
    (by have : ((List.range (lI (D s0)).length).filter fun i => !(Array.replicate ops.length false).getD i false) = List.range (lI (D s0)).length := by
          rw [aKe]; intro k _; rw [qH]; rfl
        rw [this, aKq, hl0, hlo])
  exact hmain
theorem qN {i j:Nat} {Dp:List Nat} {ds1 ds2:List OpD} {W1 W2:Nat->World} {m1 m2:Nat} {id:Nat} (hm:P.follows .mixedOrders=true) (ha:Has n L0 a) (h1:W1 0=w.drew) (h2:W2 0=w.drew)
  (ho:ds2.map (·.o)=ds1.map (·.o)) (hok1:sE n ds1 i [i,j] Dp=true) (hok2:sE n ds2 j [i,j] Dp=true) (hv:aCh ds2 Dp=aCh ds1 Dp) (hli:(ds2[j]?).map (·.li)=(ds1[j]?).map (·.li)) (hij:i≠j)
  (hR1:mJ ds1 L0) (hR2:mJ ds2 L0) (hO1:Obl P n (ds1.map (·.o)).toArray W1 ds1) (hO2:Obl P n (ds1.map (·.o)).toArray W2 ds2) (hc1:cnt ds1 0 (fun _=>true)=m1) (hc2:cnt ds2 0 (fun _=>true)=m2)
  (hQ1:∀ a,Has n (jS ds1 0 (fun _=>true) L0) a->Q .normal a (W1 m1)) (hQ2:∀ a,Has n (jS ds2 0 (fun _=>true) L0) a->Q .normal a (W2 m2)):(Code.region id (ds1.map (·.o)).toArray true).wp P Q a w:=by
 have opsAt:∀ (k:Nat),(ds1.map (·.o)).toArray[k]?=(ds1[k]?).map (fun d:OpD=>d.o):=fun k=>by simp
 have lo0:∀ {ds:List OpD} {i:Nat} (hok:sE n ds i [i,j] Dp=true) (k:Nat) (d:OpD),ds[k]?=some d->¬ k∈Dp->d.e=false/\d.lo=0:=fun {ds i} hok k d h hk=>by
  simp only[sE,aIz] at hok;have:=aIw.1 hok.2 _ (aIR.2 h:(d,k)∈ds.zipIdx);simp only[aJc,aIz,aIW,beq_iff_eq] at this;rcases this with h | h
  .exact(hk (by simpa using h)).elim
  exact⟨h.1.1,h.1.2⟩
 have pv:∀ {ds:List OpD} {i j p:Nat} {Pv:List Nat} (hok:sE n ds p Pv Dp=true) (d:OpD),ds[p]?=some d->d.e=true/\d.lo=0:=fun {ds i j p Pv} hok d h=>by
  simp only[sE,aIz] at hok;have:=hok.1.2;rw[h] at this;simpa using this
 refine aBk (σ:=Bool) (C:=fun _=>True) (piv:=fun s=>if s=true then i else j) (Pv:=[i,j]) (Dp:=Dp) (D:=fun s=>if s=true then ds1 else ds2) (W:=fun s=>if s=true then W1 else W2) (m:=fun s=>if s=true then m1 else m2)
  true hm ha (by simp) rfl (fun s=>?_) (fun s=>?_) (fun s=>?_) (fun s=>?_) (fun k d h hk=>?_) (fun k hk d h a ha K hK=>?_) (fun s _=>?_) (fun s=>?_) (fun s _ a ha=>?_)
 .cases s
  .exact hok2
  exact hok1
 .cases s
  .exact ho
  rfl
 .cases s
  .exact hv
  rfl
 .cases s
  .exact hR2
  exact hR1
 .simp only[if_true] at h;obtain⟨he,hlo⟩:=lo0 hok1 k d h hk;have:=hO1.get h 0 (by omega) (by omega);rw[he,h1] at this;simpa[h1] using this
 .simp only[if_true] at h;have hk':k=i\/k=j:=by simpa using hk
  rcases hk' with rfl | rfl
  .obtain⟨he,hlo⟩:=pv (i:=k) (j:=j) hok1 d h;have hop:=hO1.get h 0 (by omega) (by omega);rw[he,h1] at hop;have hK1:=hK true trivial (by simp) d.v (by simp[h]);exact aBQ (by rw[opsAt,h];rfl) (by simpa using hop) ha (by simpa using hK1)
  obtain⟨d2,h2',hl2⟩:∃ d2,ds2[k]?=some d2/\d2.li=d.li:=by rw[h] at hli;exact aKH.1 hli
  have ho2:d2.o=d.o:=by
   have:=congrArg (fun l:List Oper=>l[k]?) ho;simp only[aJA,h2',h,aIT,Option.some.injEq] at this;exact this
  obtain⟨he,hlo⟩:=pv (i:=i) (j:=k) hok2 d2 h2';have hop:=hO2.get h2' 0 (by omega) (by omega);rw[he,h2,ho2,hl2] at hop;have hK1:=hK false trivial (by simp) d2.v (by simp[h2']);exact aBQ (by rw[opsAt,h];rfl) (by simpa using hop) ha (by simpa using hK1)
 .cases s
  .exact fun i d h _=>hO2.get h
  exact fun i d h _=>hO1.get h
 .cases s
  .exact hc2
  exact hc1
 cases s
 .exact hQ2 a ha
 exact hQ1 a ha
def aEt (P:Program) (n:Nat) (ops:Array Oper) (W:Nat->World) (p:Nat):Nat->List OpD->Prop
 | _,[]=>True
 | i,d::ds=>(if i==p then True else ∀ j,d.lo<=j->j<=d.hi->pJ P n ops d.o d.li d.v (W j) (W (j+if d.e=true then 1 else 0)))/\aEt P n ops W p (i+1) ds
theorem aEt.get {ops:Array Oper} {W:Nat->World} {p:Nat}:∀ {ds:List OpD} {b:Nat},aEt P n ops W p b ds->∀ {i:Nat} {d:OpD},ds[i]?=some d->b+i≠p->∀ j,d.lo<=j->j<=d.hi->pJ P n ops d.o d.li d.v (W j) (W (j+if d.e=true then 1 else 0))
 | [],_,_,_,_,h,_=>by simp at h
 | _::_,b,h,0,_,hd,hp=>by
  simp at hd;subst hd;have h1:=h.1;have:(b==p)=false:=by simpa using hp
  rw[this] at h1;simpa using h1
 | _::_,b,h,i+1,_,hd,hp=>aEt.get h.2 (i:=i) (by simpa using hd) (by omega)
end
def jD (a0:Option Addr) (a1:Int) (a2:Int) (w:World):Option (Int×World) :=
 (a0).bind fun p1 =>
 (ldI .i64 w (p1.add 2)).bind fun v3 =>
 some ((IntKind.wrap .i64 ((IntKind.wrap .i64 ((IntKind.wrap .i64 (v3+2))+(IntKind.wrap .i64 (a1*16))))+a2)),w)
theorem lD {a0 a1 a2 w w' r0} (h:jD a0 a1 a2 w=some (r0,w')):Calls Try.prog 85 #[(.pointer a0),(.int .i64 a1),(.int .i64 a2)] w fun e w''=>e=.returned (.int .i64 r0)/\w''=w':=by
 refine aP (n:=17) Try.func85 rfl Try.ntmps85 (by simp) fun a u=>?_;unfold jD at h;refine wp_seq<|aA<|qa u rfl fun a u=>aB<|t_n<|wp_seq<|aA<|qm u rfl fun a u=>?_;have⟨p1,e2,h⟩:=bs1 h;refine q u (aH u rfl e2) fun a u=>q u (aK u rfl aGO rfl rfl aGL) fun a u=>?_;have⟨v3,e4,h⟩:=bs1 h;refine q u (aJ u rfl aGN (aQ e4)) fun a u=>q u (bJ u rfl rfl) fun a u=>qm u rfl fun a u=>q u (oN u rfl rfl) fun a u=>q u (bJ u rfl rfl) fun a u=>qm u rfl fun a u=>q u (bJ u rfl rfl) fun a u=>qa u rfl fun a u=>aB<|t_n<|wp_ret<|?_;have y:=u;cases h;exact bI Try.results85 y rfl ⟨rfl,rfl⟩
noncomputable def jO (a0:Option Addr) (a1:Int) (a2:Int) (w:World):Option (Sl×World) :=
 (dr w).bind fun w1 =>
 (a0).bind fun p3 =>
 (ldP w1 (p3.add 0)).bind fun v5 =>
 aN (jD a0 a1 a2 w1) fun v7 w8 =>
 oM (eK v5 v7 w8) fun v10 v11 w12 =>
 chk (ldP w8 (p3.add 0)=some v5) <|
 some (v10,w12)
theorem nD {a0 a1 a2 w w' r0} (h:jO a0 a1 a2 w=some (r0,w')):Calls Try.prog 111 #[(.pointer a0),(.int .i64 a1),(.int .i64 a2)] w fun e w''=>e=.returned (Sl.v r0)/\w''=w':=by
 refine aP (n:=22) Try.func111 rfl Try.ntmps111 (by simp) fun a u=>?_;unfold jO at h;refine wp_seq<|aA<|qa u rfl fun a u=>aB<|t_n<|wp_seq<|?_;have⟨w1,e2,h⟩:=bs1 h;have⟨p3,e4,h⟩:=bs1 h;have⟨v5,e6,h⟩:=bs1 h;have⟨v7,w8,e9,h⟩:=bs2 h;have⟨v10,v11,w12,e13,h⟩:=bs3 h;obtain⟨e14,h⟩:=bO h;have u:Has 22 [(0,(pV a0)),(1,(iV a1)),(2,(iV a2))] a:=u.sb rfl;refine aM (n:=22) (ds:=(aI (pV a0) false 0 1 [] [(0,(pV a0))]::aI (pV (some p3)) false 0 1 [0] [(10,(pV a0))]::aI (pV (some (p3.add 0))) false 0 1 [0,1] [(11,(pV (some p3)))]::aI (pV v5) false 0 1 [0,1,2] [(12,(pV (some (p3.add 0))))]::aS (pV a0) 0 [] 0::aS (iV a1) 0 [] 1::aS (iV a2) 0 [] 2::aI (iV v7) true 0 0 [4,5,6] [(14,(pV a0)),(15,(iV a1)),(16,(iV a2))]::aI (.tuple #[(Sl.v v10),(iV v11)]) true 1 1 (rn 0 8) [(13,(pV v5)),(17,(iV v7))]::aS (.tuple #[(Sl.v v10),(iV v11)]) 2 (rn 0 9) 18::aG (Sl.v v10) 2 (rn 0 10) 9 (.tuple #[(Sl.v v10),(iV v11)])::aG (iV v11) 2 (rn 0 10) 9 (.tuple #[(Sl.v v10),(iV v11)])::aS (Sl.v v10) 2 (rn 0 11) 19::aS (iV v11) 2 (rn 0 13) 20::[])) (W:=(fun j=>match j with | 0=>w1 | 1=>w8 | 2=>w12 | _=>w12)) (by kernel_rfl) u (cY e2) (by kernel_rfl) ?_ (aR (by kernel_rfl)) (by kernel_rfl) (m:=2) (by kernel_rfl) (fun a u=>?_)
 .refine⟨oa (aC · rfl),oa (aH · rfl e4),oa (aK · rfl aGO rfl rfl aHm),?_,oa (aC · rfl),oa (aC · rfl),oa (aC · rfl),oc 0 (kd (dc3 · rfl rfl rfl Try.call85 (lD e9))),oc 1 (kd (dc2 · rfl rfl Try.call99 (mN e13))),oa (aC · rfl),oa (aW · rfl rfl),oa (aW · rfl rfl),oa (bD · rfl),oa (bD · rfl),aLz⟩;intro j h1 h2;have h1:0<=j:=h1;have h2:j<=1:=h2;rcases(by omega:j=0\/j=1) with rfl | rfl
  .exact kd (aJ · rfl aHj (bA e6))
  exact kd (aJ · rfl aHj (bA e14))
 have u:Has 22 [(7,(Sl.v v10))] a:=u.sb rfl;refine t_n<|wp_seq<|aA<|qm u rfl fun a u=>qa u rfl fun a u=>aB<|t_n<|wp_ret<|?_;have y:=u;cases h;exact bI Try.results111 y rfl ⟨rfl,rfl⟩
noncomputable def qB (a0:Int) (w:World):Option (Bool×World) :=
 some ((a0 !=0),w)
theorem uJ {a0 w w' r0} (h:qB a0 w=some (r0,w')):Calls Try.prog 144 #[(.int .u8 a0)] w fun e w''=>e=.returned (.bool r0)/\w''=w':=by
 refine aP (n:=5) Try.func144 rfl Try.ntmps144 (by simp) fun a u=>?_;unfold qB at h;refine wp_seq<|aA<|qa u rfl fun a u=>aB<|t_n<|wp_seq<|aA<|qm u rfl fun a u=>q u (fJ u rfl rfl) fun a u=>qa u rfl fun a u=>aB<|t_n<|wp_ret<|?_;have y:=u;cases h;exact bI Try.results144 y rfl ⟨rfl,rfl⟩
noncomputable def cW (a0:Sl) (x1:Int) (w2:World):Option ((Int×World)⊕((World)⊕(Int×World))) :=
 if (decide (x1<(a0.n:Int)))=true then
 ((ix a0 x1 1).bind fun p12 =>
 (ldI .u8 w2 p12).bind fun v14 =>
 aN (qB v14 w2) fun v16 w17 =>
 if v16=true then
 (some (.inr (.inr (x1,w17))))
 else
 (some (.inl ((IntKind.wrap .i64 (x1+1)),w17))))
 else
 (some (.inr (.inl w2)))
noncomputable def fE (a0:Sl) (w:World):Option (Int×World) :=
 (bM (fun s:Int×World=>cW a0 s.1 s.2) (0,w)).bind fun r3=>Sum.elim (fun (i:World)=>u1 i fun w5 =>
 some ((-1),w5)) (fun (i:Int×World)=>u2 i fun v6 w7 =>
 some (v6,w7)) r3
theorem nC {a0 w w' r0} (h:fE a0 w=some (r0,w')):Calls Try.prog 157 #[(Sl.v a0),(.func (.func 144) #[] #[])] w fun e w''=>e=.returned (.int .i64 r0)/\w''=w':=by
 refine aP (n:=19) Try.func157 rfl Try.ntmps157 (by simp) fun a u=>?_;unfold fE at h;refine wp_seq<|aA<|qa u rfl fun a u=>aB<|t_n<|wp_seq<|wp_seq<|aA<|qm u rfl fun a u=>q u (aZ u rfl aGK) fun a u=>qm u rfl fun a u=>aB<|t_n<|wp_block<|?_;have⟨r3,e4,h⟩:=bs1 h;refine oR (n:=19) (L1:=fun i=>[]) (w1:=fun i=>i) (L2:=fun i=>[(4,(iV i.1))]) (w2:=fun i=>i.2) (e1:=.exit 0) (e2:=.ret) (I:=fun (s:Int×World) a w=>Has 19 [(8,(iV s.1)),(0,(Sl.v a0)),(1,(.func (.func 144) #[] #[])),(7,(iV (a0.n:Int)))] a/\w=s.2) ⟨u.sub ⟨rfl,rfl,rfl,rfl,aLz⟩,rfl⟩ e4 (fun i hi a u=>?_) (fun i hi a u=>?_) (fun hk8 hk9=>?_)
 .subst hi;obtain⟨w5,rfl⟩:∃ x,x=i:=⟨i,rfl⟩;dsimp only[Sum.elim_inl,Sum.elim_inr,u1,u2,u3,u4,u5,u6] at h;have u:Has 19 [] a:=u;refine eC<|t_n<|wp_seq<|aA<|qa u rfl fun a u=>aB<|t_n<|wp_ret<|?_;have y:=u;cases h;exact bI Try.results157 y rfl ⟨rfl,rfl⟩
 .subst hi;obtain⟨v6,w7⟩:=i;dsimp only[Sum.elim_inl,Sum.elim_inr,u1,u2,u3,u4,u5,u6] at h;have u:Has 19 [(4,(iV v6))] a:=u;refine b_r<|t_r<|?_;have y:=u;cases h;exact bI Try.results157 y rfl ⟨rfl,rfl⟩
 clear h;rintro⟨x1,w2⟩ a wq o ⟨u,hwq⟩ h hr10;obtain rfl:w2=wq:=hwq.symm;have u:Has 19 [(8,(iV x1)),(0,(Sl.v a0)),(1,(.func (.func 144) #[] #[])),(7,(iV (a0.n:Int)))] a:=u;have h:cW a0 x1 w2=some o:=h;unfold cW at h;refine wp_seq<|aA<|q u (dK u rfl rfl) fun a u=>aB<|t_n<|wp_seq<|?_;refine aO u rfl h (fun b11 h=>?_) (fun b11 h=>?_)
 .refine wp_skip<|t_n<|wp_seq<|wp_block<|wp_seq<|aA<|qm u rfl fun a u=>qa u rfl fun a u=>aB<|t_n<|wp_seq<|aA<|qm u rfl fun a u=>qm u rfl fun a u=>qm u rfl fun a u=>?_;have⟨p12,e13,h⟩:=bs1 h;refine q u (bZ u rfl rfl aGK aGT e13) fun a u=>?_;have⟨v14,e15,h⟩:=bs1 h;refine q u (aJ u rfl aHs (aQ e15)) fun a u=>?_;have⟨v16,w17,e18,h⟩:=bs2 h;refine q u (yH (xs:=[_]) (vs:=[(.int .u8 v14)]) (cv:=[]) u rfl ⟨rfl,aLz⟩ Try.call144 (uJ e18)) fun a u=>aB<|t_n<|?_;refine aO u rfl h (fun b19 h=>?_) (fun b19 h=>?_)
  .refine wp_seq<|aA<|qm u rfl fun a u=>qa u rfl fun a u=>aB<|t_n<|wp_ret<|b_r<|t_r<|?_;have y:=u;cases h;cases hr10 _ rfl;refine vV<|?_;exact hk9 _ rfl _ (y.sb rfl)
  refine wp_skip<|b_n<|t_n<|aA<|q u (bJ u rfl rfl) fun a u=>qm u rfl fun a u=>aB<|?_;have y:=u;cases h;exact dS ⟨y.sb rfl,rfl⟩
 refine wp_exit<|t_x<|?_;have y:=u;cases h;cases hr10 _ rfl;refine lM<|?_;exact hk8 _ rfl _ (y.sb rfl)
noncomputable def eH (a0:Sl) (w:World):Option (Bool×World) :=
 aN (fE a0 w) fun v1 w2 =>
 some ((decide (0<=v1)),w2)
theorem mM {a0 w w' r0} (h:eH a0 w=some (r0,w')):Calls Try.prog 143 #[(Sl.v a0),(.func (.func 144) #[] #[])] w fun e w''=>e=.returned (.bool r0)/\w''=w':=by
 refine aP (n:=9) Try.func143 rfl Try.ntmps143 (by simp) fun a u=>?_;unfold eH at h;refine wp_seq<|aA<|qa u rfl fun a u=>aB<|t_n<|wp_seq<|aA<|qm u rfl fun a u=>qm u rfl fun a u=>?_;have⟨v1,w2,e3,h⟩:=bs2 h;refine q u (mO (xs:=[_,_]) (vs:=[(Sl.v a0),(.func (.func 144) #[] #[])]) u ⟨rfl,rfl,aLz⟩ Try.call157 (nC e3)) fun a u=>q u (pP u rfl rfl) fun a u=>qa u rfl fun a u=>aB<|t_n<|wp_ret<|?_;have y:=u;cases h;exact bI Try.results143 y rfl ⟨rfl,rfl⟩
noncomputable def mY (a0:Sl) (w:World):Option (Bool×World) :=
 aN (eH a0 w) fun v1 w2 =>
 some ((!v1),w2)
theorem rH {a0 w w' r0} (h:mY a0 w=some (r0,w')):Calls Try.prog 110 #[(Sl.v a0)] w fun e w''=>e=.returned (.bool r0)/\w''=w':=by
 refine aP (n:=6) Try.func110 rfl Try.ntmps110 (by simp) fun a u=>?_;unfold mY at h;refine wp_seq<|aA<|qa u rfl fun a u=>aB<|t_n<|wp_seq<|aA<|qm u rfl fun a u=>?_;have⟨v1,w2,e3,h⟩:=bs2 h;refine q u (mO (xs:=[_,_]) (vs:=[(Sl.v a0),(.func (.func 144) #[] #[])]) u ⟨rfl,rfl,aLz⟩ Try.call143 (mM e3)) fun a u=>q u (pR u rfl) fun a u=>qa u rfl fun a u=>aB<|t_n<|wp_ret<|?_;have y:=u;cases h;exact bI Try.results110 y rfl ⟨rfl,rfl⟩
noncomputable def nN (a0:Sl) (w:World):Option (Int×Sl×Bool×World) :=
 aN (if ((a0.n:Int) !=64)=true then
 (some (true,w))
 else
 ((ix a0 0 1).bind fun p6 =>
 (ldI .u8 w p6).bind fun v8 =>
 if (v8 !=231)=true then
 (some (true,w))
 else
 ((ix a0 63 1).bind fun p11 =>
 (ldI .u8 w p11).bind fun v13 =>
 if (v13 !=231)=true then
 (some (true,w))
 else
 ((ix a0 1 1).bind fun p16 =>
 (ldI .u8 w p16).bind fun v18 =>
 if (decide (v18<1))=true then
 (some (true,w))
 else
 ((ix a0 1 1).bind fun p21 =>
 (ldI .u8 w p21).bind fun v23 =>
 if (decide (3<v23))=true then
 (some (true,w))
 else
 ((ix a0 2 1).bind fun p26 =>
 (ldI .u8 w p26).bind fun v28 =>
 if (decide (59<v28))=true then
 (some (true,w))
 else
 ((ix a0 3 1).bind fun p31 =>
 (ldI .u8 w p31).bind fun v33 =>
 if (decide (1<v33))=true then
 (some (true,w))
 else
 ((ix a0 3 1).bind fun p36 =>
 (ldI .u8 w p36).bind fun v38 =>
 if (v38==0)=true then
 ((ix a0 2 1).bind fun p41 =>
 (ldI .u8 w p41).bind fun v43 =>
 some ((v43 !=59),w))
 else
 (some (false,w)))))))))) fun v1 w2 =>
 if v1=true then
 (some (0,Sl.nil,false,w2))
 else
 ((ix a0 2 1).bind fun p46 =>
 (ldI .u8 w2 p46).bind fun v48 =>
 (slS a0 (IntKind.wrap .i64 (4+(IntKind.wrap .i64 v48))) 63 (a0.c:Int) 1).bind fun s50 =>
 aN (mY s50 w2) fun v52 w53 =>
 if (!v52)=true then
 (some (0,Sl.nil,false,w53))
 else
 ((dr w53).bind fun w56 =>
 (ix a0 1 1).bind fun p58 =>
 (ldI .u8 w56 p58).bind fun v60 =>
 (slS a0 4 (IntKind.wrap .i64 (4+(IntKind.wrap .i64 v48))) (IntKind.wrap .i64 (4+(IntKind.wrap .i64 v48))) 1).bind fun s62 =>
 (ix a0 3 1).bind fun p64 =>
 (ldI .u8 w56 p64).bind fun v66 =>
 some ((IntKind.wrap .i64 v60),s62,(v66==1),w56)))
theorem sI {a0 w w' r0 r1 r2} (h:nN a0 w=some (r0,r1,r2,w')):Calls Try.prog 140 #[(Sl.v a0)] w fun e w''=>e=.returned (.tuple #[(.int .i64 r0),(Sl.v r1),(.bool r2)])/\w''=w':=by
 refine aP (n:=79) Try.func140 rfl Try.ntmps140 (by simp) fun a u=>?_;unfold nN at h;refine wp_seq<|aA<|qa u rfl fun a u=>qa u rfl fun a u=>qa u rfl fun a u=>aB<|t_n<|wp_seq<|wp_seq<|?_;have⟨v1,w2,e3,h⟩:=bs2 h;refine bP (n:=79) (L:=[(56,(bV v1)),(0,(Sl.v a0))]) (w':=w2) (fun a u=>?_) (fun hk4=>?_)
 .refine t_n<|?_;refine aO u rfl h (fun b45 h=>?_) (fun b45 h=>?_)
  .refine wp_seq<|aA<|qa u rfl fun a u=>qa u rfl fun a u=>qa u rfl fun a u=>aB<|t_n<|wp_ret<|t_r<|?_;have y:=u;cases h;exact oE Try.results140 y rfl rfl rfl ⟨rfl,rfl⟩
  refine wp_skip<|t_n<|wp_seq<|aA<|qm u rfl fun a u=>?_;have⟨p46,e47,h⟩:=bs1 h;refine q u (bZ u rfl rfl aGK aGT e47) fun a u=>?_;have⟨v48,e49,h⟩:=bs1 h;refine q u (aJ u rfl aHs (aQ e49)) fun a u=>q u (iP u rfl aGZ aHl) fun a u=>q u (bJ u rfl rfl) fun a u=>qa u rfl fun a u=>aB<|t_n<|wp_seq<|wp_seq<|aA<|qm u rfl fun a u=>qm u rfl fun a u=>?_;have⟨s50,e51,h⟩:=bs1 h;refine q u (oG u rfl aGK aGT ⟨_,rfl⟩ ⟨_,rfl⟩ rfl (by simp) e51) fun a u=>?_;have⟨v52,w53,e54,h⟩:=bs2 h;refine q u (dc1 u rfl Try.call110 (rH e54)) fun a u=>q u (pR u rfl) fun a u=>aB<|t_n<|?_;refine aO u rfl h (fun b55 h=>?_) (fun b55 h=>?_)
  .refine wp_seq<|aA<|qa u rfl fun a u=>qa u rfl fun a u=>qa u rfl fun a u=>aB<|t_n<|wp_ret<|t_r<|?_;have y:=u;cases h;exact oE Try.results140 y rfl rfl rfl ⟨rfl,rfl⟩
  refine wp_skip<|t_n<|wp_seq<|?_;have⟨w56,e57,h⟩:=bs1 h;have⟨p58,e59,h⟩:=bs1 h;have⟨v60,e61,h⟩:=bs1 h;have⟨s62,e63,h⟩:=bs1 h;have⟨p64,e65,h⟩:=bs1 h;have⟨v66,e67,h⟩:=bs1 h;have u:Has 79 [(0,(Sl.v a0)),(5,(iV (IntKind.wrap .i64 (4+(IntKind.wrap .i64 v48)))))] a:=u.sb rfl;refine aM (n:=79) (ds:=(aS (Sl.v a0) 0 [] 0::aG (pV (some p58)) 0 [0] 67 (Sl.v a0)::aG (.int .u8 v60) 0 [0,1] 68 (pV (some p58))::aG (iV (IntKind.wrap .i64 v60)) 0 [0,1,2] 69 (.int .u8 v60)::aS (Sl.v a0) 0 [] 0::aS (iV (IntKind.wrap .i64 (4+(IntKind.wrap .i64 v48)))) 0 [] 5::aS (iV (IntKind.wrap .i64 (4+(IntKind.wrap .i64 v48)))) 0 [] 5::aT (Sl.v s62) 0 [4,5,6] [(71,(Sl.v a0)),(72,(iV (IntKind.wrap .i64 (4+(IntKind.wrap .i64 v48))))),(73,(iV (IntKind.wrap .i64 (4+(IntKind.wrap .i64 v48)))))]::aS (Sl.v a0) 0 [] 0::aG (pV (some p64)) 0 [8] 75 (Sl.v a0)::aG (.int .u8 v66) 0 [8,9] 76 (pV (some p64))::aG (bV (v66==1)) 0 [8,9,10] 77 (.int .u8 v66)::aS (iV (IntKind.wrap .i64 v60)) 0 (rn 0 4) 70::aS (Sl.v s62) 0 (rn 0 8++[12]) 74::aS (bV (v66==1)) 0 (rn 0 14) 78::[])) (W:=(fun _=>w56)) (by kernel_rfl) u (cY e57) (by kernel_rfl) ?_ (aR (by kernel_rfl)) (by kernel_rfl) (m:=0) (by kernel_rfl) (fun a u=>?_)
  .exact⟨oa (aC · rfl),oa (bZ · rfl rfl aGK aGT e59),oc (e:=false) 0 (kd (aJ · rfl aHs (aQ e61))),oa (iP · rfl aGZ aHl),oa (aC · rfl),oa (aC · rfl),oa (aC · rfl),oa (oG · rfl aGK aGT ⟨_,rfl⟩ ⟨_,rfl⟩ ⟨_,rfl⟩ (fun _=>rfl) e63),oa (aC · rfl),oa (bZ · rfl rfl aGK aGT e65),oc (e:=false) 0 (kd (aJ · rfl aHs (aQ e67))),oa (gD · rfl rfl),oa (bD · rfl),oa (bD · rfl),oa (bD · rfl),aLz⟩
  have u:Has 79 [(2,(iV (IntKind.wrap .i64 v60))),(3,(Sl.v s62)),(4,(bV (v66==1)))] a:=u.sb rfl;refine t_n<|wp_ret<|?_;have y:=u;cases h;exact oE Try.results140 y rfl rfl rfl ⟨rfl,rfl⟩
 clear h;have h:=e3;refine aA<|qm u rfl fun a u=>q u (aZ u rfl aGK) fun a u=>q u (fJ u rfl rfl) fun a u=>qm u rfl fun a u=>?_;refine bW h (fun b5 h=>?_) (fun b5 h=>?_)
 .refine qn u 9 (tn b5) fun a u=>qn u 9 (tn b5) fun a u=>qn u 9 (tn b5) fun a u=>qn u 9 (tn b5) fun a u=>q u (aF u rfl b5 rfl) fun a u=>qm u rfl fun a u=>qn u 15 (tn rfl) fun a u=>qn u 15 (tn rfl) fun a u=>qn u 15 (tn rfl) fun a u=>qn u 15 (tn rfl) fun a u=>q u (aF u rfl rfl rfl) fun a u=>qm u rfl fun a u=>qn u 21 (tn rfl) fun a u=>qn u 21 (tn rfl) fun a u=>qn u 21 (tn rfl) fun a u=>qn u 21 (tn rfl) fun a u=>q u (aF u rfl rfl rfl) fun a u=>qm u rfl fun a u=>qn u 27 (tn rfl) fun a u=>qn u 27 (tn rfl) fun a u=>qn u 27 (tn rfl) fun a u=>qn u 27 (tn rfl) fun a u=>q u (aF u rfl rfl rfl) fun a u=>qm u rfl fun a u=>qn u 33 (tn rfl) fun a u=>qn u 33 (tn rfl) fun a u=>qn u 33 (tn rfl) fun a u=>qn u 33 (tn rfl) fun a u=>q u (aF u rfl rfl rfl) fun a u=>qm u rfl fun a u=>qn u 39 (tn rfl) fun a u=>qn u 39 (tn rfl) fun a u=>qn u 39 (tn rfl) fun a u=>qn u 39 (tn rfl) fun a u=>q u (aF u rfl rfl rfl) fun a u=>qm u rfl fun a u=>qn u 45 (tn rfl) fun a u=>qn u 45 (tn rfl) fun a u=>qn u 45 (tn rfl) fun a u=>qn u 45 (tn rfl) fun a u=>qn u 45 (tn rfl) fun a u=>qu u 50 fun a u=>qu u 50 fun a u=>qu u 50 fun a u=>qu u 50 fun a u=>qn u 45 (tn rfl) fun a u=>q u (aF u rfl rfl rfl) fun a u=>aB<|?_;have y:=u;cases h;exact hk4 _ (y.sb rfl)
 refine qg u 9 (nt b5) (aC u rfl) fun a u=>?_;have⟨p6,e7,h⟩:=bs1 h;refine qg u 9 (nt b5) (bZ u rfl rfl aGK aGT e7) fun a u=>?_;have⟨v8,e9,h⟩:=bs1 h;refine qg u 9 (nt b5) (aJ u rfl aHs (aQ e9)) fun a u=>qg u 9 (nt b5) (fJ u rfl rfl) fun a u=>q u (aL u rfl b5 rfl) fun a u=>qm u rfl fun a u=>?_;refine bW h (fun b10 h=>?_) (fun b10 h=>?_)
 .refine qn u 15 (tn b10) fun a u=>qn u 15 (tn b10) fun a u=>qn u 15 (tn b10) fun a u=>qn u 15 (tn b10) fun a u=>q u (aF u rfl b10 rfl) fun a u=>qm u rfl fun a u=>qn u 21 (tn rfl) fun a u=>qn u 21 (tn rfl) fun a u=>qn u 21 (tn rfl) fun a u=>qn u 21 (tn rfl) fun a u=>q u (aF u rfl rfl rfl) fun a u=>qm u rfl fun a u=>qn u 27 (tn rfl) fun a u=>qn u 27 (tn rfl) fun a u=>qn u 27 (tn rfl) fun a u=>qn u 27 (tn rfl) fun a u=>q u (aF u rfl rfl rfl) fun a u=>qm u rfl fun a u=>qn u 33 (tn rfl) fun a u=>qn u 33 (tn rfl) fun a u=>qn u 33 (tn rfl) fun a u=>qn u 33 (tn rfl) fun a u=>q u (aF u rfl rfl rfl) fun a u=>qm u rfl fun a u=>qn u 39 (tn rfl) fun a u=>qn u 39 (tn rfl) fun a u=>qn u 39 (tn rfl) fun a u=>qn u 39 (tn rfl) fun a u=>q u (aF u rfl rfl rfl) fun a u=>qm u rfl fun a u=>qn u 45 (tn rfl) fun a u=>qn u 45 (tn rfl) fun a u=>qn u 45 (tn rfl) fun a u=>qn u 45 (tn rfl) fun a u=>qn u 45 (tn rfl) fun a u=>qu u 50 fun a u=>qu u 50 fun a u=>qu u 50 fun a u=>qu u 50 fun a u=>qn u 45 (tn rfl) fun a u=>q u (aF u rfl rfl rfl) fun a u=>aB<|?_;have y:=u;cases h;exact hk4 _ (y.sb rfl)
 refine qg u 15 (nt b10) (aC u rfl) fun a u=>?_;have⟨p11,e12,h⟩:=bs1 h;refine qg u 15 (nt b10) (bZ u rfl rfl aGK aGT e12) fun a u=>?_;have⟨v13,e14,h⟩:=bs1 h;refine qg u 15 (nt b10) (aJ u rfl aHs (aQ e14)) fun a u=>qg u 15 (nt b10) (fJ u rfl rfl) fun a u=>q u (aL u rfl b10 rfl) fun a u=>qm u rfl fun a u=>?_;refine bW h (fun b15 h=>?_) (fun b15 h=>?_)
 .refine qn u 21 (tn b15) fun a u=>qn u 21 (tn b15) fun a u=>qn u 21 (tn b15) fun a u=>qn u 21 (tn b15) fun a u=>q u (aF u rfl b15 rfl) fun a u=>qm u rfl fun a u=>qn u 27 (tn rfl) fun a u=>qn u 27 (tn rfl) fun a u=>qn u 27 (tn rfl) fun a u=>qn u 27 (tn rfl) fun a u=>q u (aF u rfl rfl rfl) fun a u=>qm u rfl fun a u=>qn u 33 (tn rfl) fun a u=>qn u 33 (tn rfl) fun a u=>qn u 33 (tn rfl) fun a u=>qn u 33 (tn rfl) fun a u=>q u (aF u rfl rfl rfl) fun a u=>qm u rfl fun a u=>qn u 39 (tn rfl) fun a u=>qn u 39 (tn rfl) fun a u=>qn u 39 (tn rfl) fun a u=>qn u 39 (tn rfl) fun a u=>q u (aF u rfl rfl rfl) fun a u=>qm u rfl fun a u=>qn u 45 (tn rfl) fun a u=>qn u 45 (tn rfl) fun a u=>qn u 45 (tn rfl) fun a u=>qn u 45 (tn rfl) fun a u=>qn u 45 (tn rfl) fun a u=>qu u 50 fun a u=>qu u 50 fun a u=>qu u 50 fun a u=>qu u 50 fun a u=>qn u 45 (tn rfl) fun a u=>q u (aF u rfl rfl rfl) fun a u=>aB<|?_;have y:=u;cases h;exact hk4 _ (y.sb rfl)
 refine qg u 21 (nt b15) (aC u rfl) fun a u=>?_;have⟨p16,e17,h⟩:=bs1 h;refine qg u 21 (nt b15) (bZ u rfl rfl aGK aGT e17) fun a u=>?_;have⟨v18,e19,h⟩:=bs1 h;refine qg u 21 (nt b15) (aJ u rfl aHs (aQ e19)) fun a u=>qg u 21 (nt b15) (dK u rfl rfl) fun a u=>q u (aL u rfl b15 rfl) fun a u=>qm u rfl fun a u=>?_;refine bW h (fun b20 h=>?_) (fun b20 h=>?_)
 .refine qn u 27 (tn b20) fun a u=>qn u 27 (tn b20) fun a u=>qn u 27 (tn b20) fun a u=>qn u 27 (tn b20) fun a u=>q u (aF u rfl b20 rfl) fun a u=>qm u rfl fun a u=>qn u 33 (tn rfl) fun a u=>qn u 33 (tn rfl) fun a u=>qn u 33 (tn rfl) fun a u=>qn u 33 (tn rfl) fun a u=>q u (aF u rfl rfl rfl) fun a u=>qm u rfl fun a u=>qn u 39 (tn rfl) fun a u=>qn u 39 (tn rfl) fun a u=>qn u 39 (tn rfl) fun a u=>qn u 39 (tn rfl) fun a u=>q u (aF u rfl rfl rfl) fun a u=>qm u rfl fun a u=>qn u 45 (tn rfl) fun a u=>qn u 45 (tn rfl) fun a u=>qn u 45 (tn rfl) fun a u=>qn u 45 (tn rfl) fun a u=>qn u 45 (tn rfl) fun a u=>qu u 50 fun a u=>qu u 50 fun a u=>qu u 50 fun a u=>qu u 50 fun a u=>qn u 45 (tn rfl) fun a u=>q u (aF u rfl rfl rfl) fun a u=>aB<|?_;have y:=u;cases h;exact hk4 _ (y.sb rfl)
 refine qg u 27 (nt b20) (aC u rfl) fun a u=>?_;have⟨p21,e22,h⟩:=bs1 h;refine qg u 27 (nt b20) (bZ u rfl rfl aGK aGT e22) fun a u=>?_;have⟨v23,e24,h⟩:=bs1 h;refine qg u 27 (nt b20) (aJ u rfl aHs (aQ e24)) fun a u=>qg u 27 (nt b20) (gF u rfl rfl) fun a u=>q u (aL u rfl b20 rfl) fun a u=>qm u rfl fun a u=>?_;refine bW h (fun b25 h=>?_) (fun b25 h=>?_)
 .refine qn u 33 (tn b25) fun a u=>qn u 33 (tn b25) fun a u=>qn u 33 (tn b25) fun a u=>qn u 33 (tn b25) fun a u=>q u (aF u rfl b25 rfl) fun a u=>qm u rfl fun a u=>qn u 39 (tn rfl) fun a u=>qn u 39 (tn rfl) fun a u=>qn u 39 (tn rfl) fun a u=>qn u 39 (tn rfl) fun a u=>q u (aF u rfl rfl rfl) fun a u=>qm u rfl fun a u=>qn u 45 (tn rfl) fun a u=>qn u 45 (tn rfl) fun a u=>qn u 45 (tn rfl) fun a u=>qn u 45 (tn rfl) fun a u=>qn u 45 (tn rfl) fun a u=>qu u 50 fun a u=>qu u 50 fun a u=>qu u 50 fun a u=>qu u 50 fun a u=>qn u 45 (tn rfl) fun a u=>q u (aF u rfl rfl rfl) fun a u=>aB<|?_;have y:=u;cases h;exact hk4 _ (y.sb rfl)
 refine qg u 33 (nt b25) (aC u rfl) fun a u=>?_;have⟨p26,e27,h⟩:=bs1 h;refine qg u 33 (nt b25) (bZ u rfl rfl aGK aGT e27) fun a u=>?_;have⟨v28,e29,h⟩:=bs1 h;refine qg u 33 (nt b25) (aJ u rfl aHs (aQ e29)) fun a u=>qg u 33 (nt b25) (gF u rfl rfl) fun a u=>q u (aL u rfl b25 rfl) fun a u=>qm u rfl fun a u=>?_;refine bW h (fun b30 h=>?_) (fun b30 h=>?_)
 .refine qn u 39 (tn b30) fun a u=>qn u 39 (tn b30) fun a u=>qn u 39 (tn b30) fun a u=>qn u 39 (tn b30) fun a u=>q u (aF u rfl b30 rfl) fun a u=>qm u rfl fun a u=>qn u 45 (tn rfl) fun a u=>qn u 45 (tn rfl) fun a u=>qn u 45 (tn rfl) fun a u=>qn u 45 (tn rfl) fun a u=>qn u 45 (tn rfl) fun a u=>qu u 50 fun a u=>qu u 50 fun a u=>qu u 50 fun a u=>qu u 50 fun a u=>qn u 45 (tn rfl) fun a u=>q u (aF u rfl rfl rfl) fun a u=>aB<|?_;have y:=u;cases h;exact hk4 _ (y.sb rfl)
 refine qg u 39 (nt b30) (aC u rfl) fun a u=>?_;have⟨p31,e32,h⟩:=bs1 h;refine qg u 39 (nt b30) (bZ u rfl rfl aGK aGT e32) fun a u=>?_;have⟨v33,e34,h⟩:=bs1 h;refine qg u 39 (nt b30) (aJ u rfl aHs (aQ e34)) fun a u=>qg u 39 (nt b30) (gF u rfl rfl) fun a u=>q u (aL u rfl b30 rfl) fun a u=>qm u rfl fun a u=>?_;refine bW h (fun b35 h=>?_) (fun b35 h=>?_)
 .refine qn u 45 (tn b35) fun a u=>qn u 45 (tn b35) fun a u=>qn u 45 (tn b35) fun a u=>qn u 45 (tn b35) fun a u=>qn u 45 (tn b35) fun a u=>qu u 50 fun a u=>qu u 50 fun a u=>qu u 50 fun a u=>qu u 50 fun a u=>qn u 45 (tn b35) fun a u=>q u (aF u rfl b35 rfl) fun a u=>aB<|?_;have y:=u;cases h;exact hk4 _ (y.sb rfl)
 refine qg u 45 (nt b35) (aC u rfl) fun a u=>?_;have⟨p36,e37,h⟩:=bs1 h;refine qg u 45 (nt b35) (bZ u rfl rfl aGK aGT e37) fun a u=>?_;have⟨v38,e39,h⟩:=bs1 h;refine qg u 45 (nt b35) (aJ u rfl aHs (aQ e39)) fun a u=>qg u 45 (nt b35) (gD u rfl rfl) fun a u=>qg u 45 (nt b35) (aC u rfl) fun a u=>?_;refine bW h (fun b40 h=>?_) (fun b40 h=>?_)
 .refine qg u 50 b40 (aC u rfl) fun a u=>?_;have⟨p41,e42,h⟩:=bs1 h;refine qg u 50 b40 (bZ u rfl rfl aGK aGT e42) fun a u=>?_;have⟨v43,e44,h⟩:=bs1 h;refine qg u 50 b40 (aJ u rfl aHs (aQ e44)) fun a u=>qg u 50 b40 (fJ u rfl rfl) fun a u=>qg u 45 (nt b35) (aF u rfl b40 rfl) fun a u=>q u (aL u rfl b35 rfl) fun a u=>aB<|?_;have y:=u;cases h;exact hk4 _ (y.sb rfl)
 refine qn u 50 (nm b40) fun a u=>qn u 50 (nm b40) fun a u=>qn u 50 (nm b40) fun a u=>qn u 50 (nm b40) fun a u=>qg u 45 (nt b35) (aL u rfl b40 rfl) fun a u=>q u (aL u rfl b35 rfl) fun a u=>aB<|?_;have y:=u;cases h;exact hk4 _ (y.sb rfl)
noncomputable def kO (a0:Option Addr) (a1:Int) (w:World):Option ((List Value)×Bool×World) :=
 aN (mk w 125 (List.replicate 4 (.int .i64 0)++[.slice none 0 0])) fun p1 w2 =>
 aN (jO a0 a1 0 w2) fun v4 w5 =>
 kE (nN v4 w5) fun v7 v8 v9 w10 =>
 aN (if (v7 !=1)=true then
 (some (true,w10))
 else
 (if (!v9)=true then
 (some (true,w10))
 else
 (some (((v8.n:Int) !=16),w10)))) fun v12 w13 =>
 if v12=true then
 ((stA w13 p1 0 (List.replicate 4 (.int .i64 0)++[.slice none 0 0])).bind fun w19 =>
 (ldA 5 w19 p1 0).bind fun v21 =>
 some (v21,false,w19))
 else
 (kE (cV v8 0 w13) fun v23 v24 v25 w26 =>
 kE (cV v8 8 w26) fun v28 v29 v30 w31 =>
 aN (if (decide (v23<1))=true then
 (some (true,w31))
 else
 (if (decide (4611686018427387904<v23))=true then
 (some (true,w31))
 else
 (if (decide (v28<0))=true then
 (some (true,w31))
 else
 (some ((decide (1099511627776<v28)),w31))))) fun v33 w34 =>
 if v33=true then
 ((stA w34 p1 0 (List.replicate 4 (.int .i64 0)++[.slice none 0 0])).bind fun w41 =>
 (ldA 5 w41 p1 0).bind fun v43 =>
 some (v43,false,w41))
 else
 ((stA w34 p1 0 ([.int .i64 a1,.int .i64 v23,.int .i64 1,.int .i64 v28,.slice none 0 0])).bind fun w45 =>
 (ldA 5 w45 p1 0).bind fun v47 =>
 some (v47,true,w45)))
theorem sC {a0 a1 w w' r0 r1} (h:kO a0 a1 w=some (r0,r1,w')):Calls Try.prog 105 #[(.pointer a0),(.int .i64 a1)] w fun e w''=>e=.returned (.tuple #[(.agg (List.toArray r0)),(.bool r1)])/\w''=w':=by
 refine aP (n:=66) Try.func105 rfl Try.ntmps105 (by simp) fun a u=>?_;unfold kO at h;refine wp_seq<|aA<|?_;have⟨p1,w2,e3,h⟩:=bs2 h;refine q u (eX aHq (by kernel_rfl) e3) fun a u=>qa u rfl fun a u=>aB<|t_n<|wp_seq<|aA<|qm u rfl fun a u=>qm u rfl fun a u=>?_;have⟨v4,w5,e6,h⟩:=bs2 h;refine q u (dc3 u rfl rfl rfl Try.call111 (nD e6)) fun a u=>?_;have⟨v7,v8,v9,w10,e11,h⟩:=bs4 h;refine q u (dc1 u rfl Try.call140 (sI e11)) fun a u=>qm u rfl fun a u=>q u (aW u rfl rfl) fun a u=>q u (aW u rfl rfl) fun a u=>q u (aW u rfl rfl) fun a u=>qa u rfl fun a u=>qa u rfl fun a u=>qa u rfl fun a u=>aB<|t_n<|wp_seq<|wp_seq<|?_;have⟨v12,w13,e14,h⟩:=bs2 h;refine bP (n:=66) (L:=[(33,(bV v12)),(1,(iV a1)),(4,(pV (some p1))),(7,(Sl.v v8))]) (w':=w13) (fun a u=>?_) (fun hk15=>?_)
 .refine t_n<|?_;refine aO u rfl h (fun b18 h=>?_) (fun b18 h=>?_)
  .refine wp_seq<|aA<|q u (dZ (vs:=[]) (pl:=#[(0,1),(1,1),(2,1),(3,1),(4,1)]) (cs:=(List.replicate 4 (iV 0)++[.slice none 0 0])) u trivial aHq aGU (by intro w;kernel_rfl) (by kernel_rfl)) fun a u=>?_;have⟨w19,e20,h⟩:=bs1 h;refine q u (eW u rfl rfl aGW rfl e20) fun a u=>qa u rfl fun a u=>aB<|t_n<|wp_ret<|t_r<|?_;have⟨v21,e22,h⟩:=bs1 h;have y:=u;cases h;exact uH (vs:=[_,_]) Try.results105 y ⟨⟨_,rfl,uI aHx aGW e22⟩,rfl,aLz⟩ ⟨rfl,rfl⟩
  refine wp_skip<|t_n<|wp_seq<|aA<|qm u rfl fun a u=>?_;have⟨v23,v24,v25,w26,e27,h⟩:=bs4 h;refine q u (dc2 u rfl rfl Try.call141 (kN e27)) fun a u=>qm u rfl fun a u=>q u (aW u rfl rfl) fun a u=>q u (aW u rfl rfl) fun a u=>q u (aW u rfl rfl) fun a u=>qa u rfl fun a u=>qa u rfl fun a u=>qa u rfl fun a u=>aB<|t_n<|wp_seq<|aA<|qm u rfl fun a u=>?_;have⟨v28,v29,v30,w31,e32,h⟩:=bs4 h;refine q u (dc2 u rfl rfl Try.call141 (kN e32)) fun a u=>qm u rfl fun a u=>q u (aW u rfl rfl) fun a u=>q u (aW u rfl rfl) fun a u=>q u (aW u rfl rfl) fun a u=>qa u rfl fun a u=>qa u rfl fun a u=>qa u rfl fun a u=>aB<|t_n<|wp_seq<|wp_seq<|?_;have⟨v33,w34,e35,h⟩:=bs2 h;refine bP (n:=66) (L:=[(60,(bV v33)),(1,(iV a1)),(4,(pV (some p1))),(9,(iV v23)),(12,(iV v28))]) (w':=w34) (fun a u=>?_) (fun hk36=>?_)
  .refine t_n<|?_;refine aO u rfl h (fun b40 h=>?_) (fun b40 h=>?_)
   .refine wp_seq<|aA<|q u (dZ (vs:=[]) (pl:=#[(0,1),(1,1),(2,1),(3,1),(4,1)]) (cs:=(List.replicate 4 (iV 0)++[.slice none 0 0])) u trivial aHq aGU (by intro w;kernel_rfl) (by kernel_rfl)) fun a u=>?_;have⟨w41,e42,h⟩:=bs1 h;refine q u (eW u rfl rfl aGW rfl e42) fun a u=>qa u rfl fun a u=>aB<|t_n<|wp_ret<|t_r<|?_;have⟨v43,e44,h⟩:=bs1 h;have y:=u;cases h;exact uH (vs:=[_,_]) Try.results105 y ⟨⟨_,rfl,uI aHx aGW e44⟩,rfl,aLz⟩ ⟨rfl,rfl⟩
   refine wp_skip<|t_n<|wp_seq<|aA<|qm u rfl fun a u=>qm u rfl fun a u=>qm u rfl fun a u=>q u (dZ (vs:=[(0,(iV a1)),(1,(iV v23)),(2,(iV 1)),(3,(iV v28))]) (pl:=#[(0,1),(1,1),(2,1),(3,1),(4,1)]) (cs:=([.int .i64 a1,.int .i64 v23,.int .i64 1,.int .i64 v28,.slice none 0 0])) u ⟨rfl,rfl,rfl,rfl,rfl,rfl,rfl,rfl,aLz⟩ aHq aGU (by intro w;kernel_rfl) (by kernel_rfl)) fun a u=>?_;have⟨w45,e46,h⟩:=bs1 h;refine q u (eW u rfl rfl aGW rfl e46) fun a u=>qa u rfl fun a u=>aB<|t_n<|wp_ret<|?_;have⟨v47,e48,h⟩:=bs1 h;have y:=u;cases h;exact uH (vs:=[_,_]) Try.results105 y ⟨⟨_,rfl,uI aHx aGW e48⟩,rfl,aLz⟩ ⟨rfl,rfl⟩
  clear h;have h:=e35;refine aA<|qm u rfl fun a u=>q u (dK u rfl rfl) fun a u=>qm u rfl fun a u=>?_;refine bW h (fun b37 h=>?_) (fun b37 h=>?_)
  .refine qn u 49 (tn b37) fun a u=>qn u 49 (tn b37) fun a u=>q u (aF u rfl b37 rfl) fun a u=>qm u rfl fun a u=>qn u 53 (tn rfl) fun a u=>qn u 53 (tn rfl) fun a u=>q u (aF u rfl rfl rfl) fun a u=>qm u rfl fun a u=>qn u 57 (tn rfl) fun a u=>qn u 57 (tn rfl) fun a u=>q u (aF u rfl rfl rfl) fun a u=>aB<|?_;have y:=u;cases h;exact hk36 _ (y.sb rfl)
  refine qg u 49 (nt b37) (aC u rfl) fun a u=>qg u 49 (nt b37) (gF u rfl rfl) fun a u=>q u (aL u rfl b37 rfl) fun a u=>qm u rfl fun a u=>?_;refine bW h (fun b38 h=>?_) (fun b38 h=>?_)
  .refine qn u 53 (tn b38) fun a u=>qn u 53 (tn b38) fun a u=>q u (aF u rfl b38 rfl) fun a u=>qm u rfl fun a u=>qn u 57 (tn rfl) fun a u=>qn u 57 (tn rfl) fun a u=>q u (aF u rfl rfl rfl) fun a u=>aB<|?_;have y:=u;cases h;exact hk36 _ (y.sb rfl)
  refine qg u 53 (nt b38) (aC u rfl) fun a u=>qg u 53 (nt b38) (dK u rfl rfl) fun a u=>q u (aL u rfl b38 rfl) fun a u=>qm u rfl fun a u=>?_;refine bW h (fun b39 h=>?_) (fun b39 h=>?_)
  .refine qn u 57 (tn b39) fun a u=>qn u 57 (tn b39) fun a u=>q u (aF u rfl b39 rfl) fun a u=>aB<|?_;have y:=u;cases h;exact hk36 _ (y.sb rfl)
  refine qg u 57 (nt b39) (aC u rfl) fun a u=>qg u 57 (nt b39) (gF u rfl rfl) fun a u=>q u (aL u rfl b39 rfl) fun a u=>aB<|?_;have y:=u;cases h;exact hk36 _ (y.sb rfl)
 clear h;have h:=e14;refine aA<|qm u rfl fun a u=>q u (fJ u rfl rfl) fun a u=>qm u rfl fun a u=>?_;refine bW h (fun b16 h=>?_) (fun b16 h=>?_)
 .refine qn u 25 (tn b16) fun a u=>qn u 25 (tn b16) fun a u=>q u (aF u rfl b16 rfl) fun a u=>qm u rfl fun a u=>qn u 29 (tn rfl) fun a u=>qn u 29 (tn rfl) fun a u=>qn u 29 (tn rfl) fun a u=>q u (aF u rfl rfl rfl) fun a u=>aB<|?_;have y:=u;cases h;exact hk15 _ (y.sb rfl)
 refine qg u 25 (nt b16) (aC u rfl) fun a u=>qg u 25 (nt b16) (pR u rfl) fun a u=>q u (aL u rfl b16 rfl) fun a u=>qm u rfl fun a u=>?_;refine bW h (fun b17 h=>?_) (fun b17 h=>?_)
 .refine qn u 29 (tn b17) fun a u=>qn u 29 (tn b17) fun a u=>qn u 29 (tn b17) fun a u=>q u (aF u rfl b17 rfl) fun a u=>aB<|?_;have y:=u;cases h;exact hk15 _ (y.sb rfl)
 refine qg u 29 (nt b17) (aC u rfl) fun a u=>qg u 29 (nt b17) (aZ u rfl aGK) fun a u=>qg u 29 (nt b17) (fJ u rfl rfl) fun a u=>q u (aL u rfl b17 rfl) fun a u=>aB<|?_;have y:=u;cases h;exact hk15 _ (y.sb rfl)
noncomputable def kL (a0:List Value) (a1:List Value) (w:World):Option (Int×World) :=
 aN (mk w 125 a0) fun p1 w2 =>
 aN (mk w2 125 a1) fun p4 w5 =>
 (ldI .i64 w5 (p1.add 1)).bind fun v7 =>
 (ldI .i64 w5 (p4.add 1)).bind fun v9 =>
 some ((IntKind.wrap .i64 (v7-v9)),w5)
theorem sA {a0 a1 w w' r0} (h:kL a0 a1 w=some (r0,w')):Calls Try.prog 107 #[(.agg (List.toArray a0)),(.agg (List.toArray a1))] w fun e w''=>e=.returned (.int .i64 r0)/\w''=w':=by
 refine aP (n:=10) Try.func107 rfl Try.ntmps107 (by simp) fun a u=>?_;unfold kL at h;refine wp_seq<|aA<|?_;have⟨p1,w2,e3,h⟩:=bs2 h;refine q u (rF u rfl rfl e3) fun a u=>?_;have⟨p4,w5,e6,h⟩:=bs2 h;refine q u (rF u rfl rfl e6) fun a u=>qa u rfl fun a u=>aB<|t_n<|wp_seq<|aA<|q u (aK u rfl aGU rfl rfl aGL) fun a u=>?_;have⟨v7,e8,h⟩:=bs1 h;refine q u (aJ u rfl aGN (aQ e8)) fun a u=>q u (aK u rfl aGU rfl rfl aGL) fun a u=>?_;have⟨v9,e10,h⟩:=bs1 h;refine q u (aJ u rfl aGN (aQ e10)) fun a u=>q u (iB u rfl rfl) fun a u=>qa u rfl fun a u=>aB<|t_n<|wp_ret<|?_;have y:=u;cases h;exact bI Try.results107 y rfl ⟨rfl,rfl⟩
noncomputable def bC (a1:Int) (a0:Sl) (x9:Int) (w10:World):Option ((Int×World)⊕(World)) :=
 aN ((dr w10).bind fun w20 =>
 if (decide (a1<x9))=true then
 ((ix a0 x9 5).bind fun p23 =>
 (ldA 5 w20 p23 0).bind fun c25 =>
 (ix a0 (IntKind.wrap .i64 (x9-1)) 5).bind fun p27 =>
 (ldA 5 w20 p27 0).bind fun c29 =>
 aN (kL c25 c29 w20) fun v31 w32 =>
 some ((decide (v31<0)),w32))
 else
 (some (false,w20))) fun v16 w17 =>
 if v16=true then
 ((dr w17).bind fun w35 =>
 (ix a0 (IntKind.wrap .i64 (x9-1)) 5).bind fun p37 =>
 (ldA 5 w35 p37 0).bind fun c39 =>
 (ix a0 x9 5).bind fun p41 =>
 (ldA 5 w35 p41 0).bind fun c43 =>
 (ix a0 x9 5).bind fun p45 =>
 (stA w35 p45 0 c39).bind fun w47 =>
 (ix a0 (IntKind.wrap .i64 (x9-1)) 5).bind fun p49 =>
 (stA w47 p49 0 c43).bind fun w51 =>
 some (.inl ((IntKind.wrap .i64 (x9-1)),w51)))
 else
 (some (.inr w17))
noncomputable def aY (a2:Int) (a1:Int) (a0:Sl) (x1:Int) (w2:World):Option ((Int×World)⊕(World)) :=
 if (decide (x1<a2))=true then
 ((bM (fun s:Int×World=>bC a1 a0 s.1 s.2) (x1,w2)).bind fun w13 =>
 some (.inl ((IntKind.wrap .i64 (x1+1)),w13)))
 else
 (some (.inr w2))
noncomputable def cA (a0:Sl) (a1:Int) (a2:Int) (w:World):Option (World) :=
 (bM (fun s:Int×World=>aY a2 a1 a0 s.1 s.2) ((IntKind.wrap .i64 (a1+1)),w)).bind fun w5 =>
 some w5
theorem gO {a0 a1 a2 w w'} (h:cA a0 a1 a2 w=some w'):Calls Try.prog 155 #[(Sl.v a0),(.int .i64 a1),(.int .i64 a2),(.func (.func 107) #[] #[])] w fun e w''=>e=.returned (.tuple #[])/\w''=w':=by
 refine aP (n:=53) Try.func155 rfl Try.ntmps155 (by simp) fun a u=>?_;unfold cA at h;refine wp_seq<|aA<|qm u rfl fun a u=>q u (bJ u rfl rfl) fun a u=>qa u rfl fun a u=>aB<|t_n<|wp_block<|?_;have⟨w5,e4,h⟩:=bs1 h;refine gT (n:=53) (L:=[]) (w':=w5) (e:=.exit 0) (I:=fun (s:Int×World) a w=>Has 53 [(8,(iV s.1)),(0,(Sl.v a0)),(1,(iV a1)),(2,(iV a2)),(3,(.func (.func 107) #[] #[]))] a/\w=s.2) ⟨u.sub ⟨rfl,rfl,rfl,rfl,rfl,aLz⟩,rfl⟩ e4 (fun a u=>?_) (fun hk6=>?_)
 .refine eC<|?_;have y:=u;cases h;exact aCp Try.results155 y ⟨rfl,rfl⟩
 clear h;rintro⟨x1,w2⟩ a wq o ⟨u,hwq⟩ h hr7;obtain rfl:w2=wq:=hwq.symm;have u:Has 53 [(8,(iV x1)),(0,(Sl.v a0)),(1,(iV a1)),(2,(iV a2)),(3,(.func (.func 107) #[] #[]))] a:=u;have h:aY a2 a1 a0 x1 w2=some o:=h;unfold aY at h;refine wp_seq<|wp_seq<|aA<|qm u rfl fun a u=>qm u rfl fun a u=>q u (dK u rfl rfl) fun a u=>aB<|t_n<|?_;refine aO u rfl h (fun b8 h=>?_) (fun b8 h=>?_)
 .refine wp_skip<|t_n<|wp_seq<|wp_block<|wp_seq<|aA<|qm u rfl fun a u=>qa u rfl fun a u=>aB<|t_n<|wp_block<|?_;have⟨w13,e12,h⟩:=bs1 h;refine gT (n:=53) (L:=[(0,(Sl.v a0)),(1,(iV a1)),(2,(iV a2)),(3,(.func (.func 107) #[] #[])),(8,(iV x1))]) (w':=w13) (e:=.exit 2) (I:=fun (s:Int×World) a w=>Has 53 [(9,(iV s.1)),(0,(Sl.v a0)),(1,(iV a1)),(2,(iV a2)),(3,(.func (.func 107) #[] #[])),(8,(iV x1))] a/\w=s.2) ⟨u.sub ⟨rfl,rfl,rfl,rfl,rfl,rfl,aLz⟩,rfl⟩ e12 (fun a u=>?_) (fun hk14=>?_)
  .refine eC<|b_n<|t_n<|aA<|qm u rfl fun a u=>q u (bJ u rfl rfl) fun a u=>qa u rfl fun a u=>aB<|?_;have y:=u;cases h;exact dS ⟨y.sb rfl,rfl⟩
  clear h;rintro⟨x9,w10⟩ a wq o ⟨u,hwq⟩ h hr15;obtain rfl:w10=wq:=hwq.symm;have u:Has 53 [(9,(iV x9)),(0,(Sl.v a0)),(1,(iV a1)),(2,(iV a2)),(3,(.func (.func 107) #[] #[])),(8,(iV x1))] a:=u;have h:bC a1 a0 x9 w10=some o:=h;unfold bC at h;refine wp_seq<|wp_seq<|?_;have⟨v16,w17,e18,h⟩:=bs2 h;refine bP (n:=53) (L:=[(34,(bV v16)),(0,(Sl.v a0)),(1,(iV a1)),(2,(iV a2)),(3,(.func (.func 107) #[] #[])),(8,(iV x1)),(9,(iV x9))]) (w':=w17) (fun a u=>?_) (fun hk19=>?_)
  .refine t_n<|?_;refine aO u rfl h (fun b34 h=>?_) (fun b34 h=>?_)
   .refine wp_skip<|t_n<|wp_seq<|wp_block<|?_;have⟨w35,e36,h⟩:=bs1 h;have⟨p37,e38,h⟩:=bs1 h;have⟨c39,e40,h⟩:=bs1 h;have⟨p41,e42,h⟩:=bs1 h;have⟨c43,e44,h⟩:=bs1 h;have⟨p45,e46,h⟩:=bs1 h;have⟨w47,e48,h⟩:=bs1 h;have⟨p49,e50,h⟩:=bs1 h;have⟨w51,e52,h⟩:=bs1 h;have u:Has 53 [(0,(Sl.v a0)),(1,(iV a1)),(2,(iV a2)),(3,(.func (.func 107) #[] #[])),(8,(iV x1)),(9,(iV x9))] a:=u.sb rfl;refine aM (n:=53) (ds:=(aS (Sl.v a0) 0 [] 0::aS (iV x9) 0 [] 9::aI (Sl.v a0) false 0 1 [] [(0,(Sl.v a0))]::aI (iV x9) false 0 1 [] [(9,(iV x9))]::aI (iV (IntKind.wrap .i64 (x9-1))) false 0 1 [3] [(40,(iV x9))]::aS (Sl.v a0) 0 [] 0::aS (iV x9) 0 [] 9::aG (iV (IntKind.wrap .i64 (x9-1))) 0 [6] 43 (iV x9)::aT (pV (some p37)) 0 [5,6,7] [(42,(Sl.v a0)),(44,(iV (IntKind.wrap .i64 (x9-1))))]::aG (.agg (List.toArray c39)) 0 (rn 5 4) 45 (pV (some p37))::aS (Sl.v a0) 0 [] 0::aS (iV x9) 0 [] 9::aT (pV (some p41)) 0 [10,11] [(47,(Sl.v a0)),(48,(iV x9))]::aG (.agg (List.toArray c43)) 0 [10,11,12] 49 (pV (some p41))::aT (pV (some p45)) 0 ([0,1]++rn 5 9) [(37,(Sl.v a0)),(38,(iV x9))]::aI (undef) true 0 0 ([0,1]++rn 5 10) [(51,(pV (some p45))),(46,(.agg (List.toArray c39)))]::aT (pV (some p49)) 1 (rn 0 16) [(39,(Sl.v a0)),(41,(iV (IntKind.wrap .i64 (x9-1))))]::aI (undef) true 1 1 (rn 0 17) [(52,(pV (some p49))),(50,(.agg (List.toArray c43)))]::[])) (W:=(fun j=>match j with | 0=>w35 | 1=>w47 | 2=>w51 | _=>w51)) (by kernel_rfl) u (cY e36) (by kernel_rfl) ?_ (aR (by kernel_rfl)) (by kernel_rfl) (m:=2) (by kernel_rfl) (fun a u=>?_)
    .exact⟨oa (aC · rfl),oa (aC · rfl),oa (aC · rfl),oa (aC · rfl),oa (iB · rfl rfl),oa (aC · rfl),oa (aC · rfl),oa (iB · rfl rfl),oa (bZ · rfl rfl aGX aGW e38),oc 0 (kd (gC · rfl aHx aGW e40)),oa (aC · rfl),oa (aC · rfl),oa (bZ · rfl rfl aGX aGW e42),oc 0 (kd (gC · rfl aHx aGW e44)),oa (bZ · rfl rfl aGX aGW e46),oc 0 (kd (eW · rfl rfl aGW ((kR e40).1) e48)),oa (bZ · rfl rfl aGX aGW e50),oc 1 (kd (eW · rfl rfl aGW ((kR e44).1) e52)),aLz⟩
    have u:Has 53 [(0,(Sl.v a0)),(1,(iV a1)),(2,(iV a2)),(3,(.func (.func 107) #[] #[])),(8,(iV x1)),(9,(iV x9))] a:=u.sb rfl;refine b_n<|t_n<|aA<|qm u rfl fun a u=>q u (iB u rfl rfl) fun a u=>qa u rfl fun a u=>aB<|?_;have y:=u;cases h;exact dS ⟨y.sb rfl,rfl⟩
   refine wp_exit<|t_x<|?_;have y:=u;cases h;cases hr15 _ rfl;refine lM<|?_;exact hk14 _ (y.sb rfl)
  clear h;have h:=e18;have⟨w20,e21,h⟩:=bs1 h;refine bW h (fun b22 h=>?_) (fun b22 h=>?_)
  .have⟨p23,e24,h⟩:=bs1 h;have⟨c25,e26,h⟩:=bs1 h;have⟨p27,e28,h⟩:=bs1 h;have⟨c29,e30,h⟩:=bs1 h;have⟨v31,w32,e33,h⟩:=bs2 h;have u:Has 53 [(0,(Sl.v a0)),(1,(iV a1)),(2,(iV a2)),(3,(.func (.func 107) #[] #[])),(8,(iV x1)),(9,(iV x9))] a:=u.sb rfl;refine aM (n:=53) (ds:=(aS (iV x9) 0 [] 9::aS (iV a1) 0 [] 1::aT (bV (decide (a1<x9))) 0 [0,1] [(18,(iV x9)),(19,(iV a1))]::aS (bV (decide (a1<x9))) 0 [0,1,2] 20::aT (.func (.func 107) #[] #[]) 0 (rn 0 4) [(3,(.func (.func 107) #[] #[])),(21,(bV (decide (a1<x9))))]::aT (Sl.v a0) 0 (rn 0 4) [(0,(Sl.v a0)),(21,(bV (decide (a1<x9))))]::aT (iV x9) 0 (rn 0 4) [(9,(iV x9)),(21,(bV (decide (a1<x9))))]::aT (pV (some p23)) 0 (rn 0 4++[5,6]) [(23,(Sl.v a0)),(24,(iV x9)),(21,(bV (decide (a1<x9))))]::aT (.agg (List.toArray c25)) 0 (rn 0 4++[5,6,7]) [(25,(pV (some p23))),(21,(bV (decide (a1<x9))))]::aT (Sl.v a0) 0 (rn 0 4) [(0,(Sl.v a0)),(21,(bV (decide (a1<x9))))]::aT (iV x9) 0 (rn 0 4) [(9,(iV x9)),(21,(bV (decide (a1<x9))))]::aT (iV (IntKind.wrap .i64 (x9-1))) 0 (rn 0 4++[10]) [(28,(iV x9)),(21,(bV (decide (a1<x9))))]::aT (pV (some p27)) 0 (rn 0 4++[9,10,11]) [(27,(Sl.v a0)),(29,(iV (IntKind.wrap .i64 (x9-1)))),(21,(bV (decide (a1<x9))))]::aT (.agg (List.toArray c29)) 0 (rn 0 4++rn 9 4) [(30,(pV (some p27))),(21,(bV (decide (a1<x9))))]::aI (iV v31) true 0 0 (rn 0 14) [(22,(.func (.func 107) #[] #[])),(26,(.agg (List.toArray c25))),(31,(.agg (List.toArray c29))),(21,(bV (decide (a1<x9))))]::aT (bV (decide (v31<0))) 1 (rn 0 15) [(32,(iV v31)),(21,(bV (decide (a1<x9))))]::aT (bV (decide (v31<0))) 1 (rn 0 16) [(21,(bV (decide (a1<x9)))),(33,(bV (decide (v31<0))))]::[])) (W:=(fun j=>match j with | 0=>w20 | 1=>w32 | _=>w32)) (by kernel_rfl) u (cY e21) (by kernel_rfl) ?_ (aR (by kernel_rfl)) (by kernel_rfl) (m:=1) (by kernel_rfl) (fun a u=>?_)
   .exact⟨oa (aC · rfl),oa (aC · rfl),oa (gF · rfl rfl),oa (aC · rfl),oag 21 b22 (aC · rfl),oag 21 b22 (aC · rfl),oag 21 b22 (aC · rfl),oag 21 b22 (bZ · rfl rfl aGX aGW e24),oc 0 (kg 21 b22 (gC · rfl aHx aGW e26)),oag 21 b22 (aC · rfl),oag 21 b22 (aC · rfl),oag 21 b22 (iB · rfl rfl),oag 21 b22 (bZ · rfl rfl aGX aGW e28),oc 0 (kg 21 b22 (gC · rfl aHx aGW e30)),oc 0 (kg 21 b22 (yH (xs:=[_,_]) (vs:=[(.agg (List.toArray c25)),(.agg (List.toArray c29))]) (cv:=[]) · rfl ⟨rfl,rfl,aLz⟩ Try.call107 (sA e33))),oag 21 b22 (dK · rfl rfl),oa (aF · rfl b22 rfl),aLz⟩
   have u:Has 53 [(0,(Sl.v a0)),(1,(iV a1)),(2,(iV a2)),(3,(.func (.func 107) #[] #[])),(8,(iV x1)),(9,(iV x9)),(34,(bV (decide (v31<0))))] a:=u.sb rfl;have y:=u;cases h;exact hk19 _ (y.sb rfl)
  have u:Has 53 [(0,(Sl.v a0)),(1,(iV a1)),(2,(iV a2)),(3,(.func (.func 107) #[] #[])),(8,(iV x1)),(9,(iV x9))] a:=u.sb rfl;refine aM (n:=53) (ds:=(aS (iV x9) 0 [] 9::aS (iV a1) 0 [] 1::aT (bV (decide (a1<x9))) 0 [0,1] [(18,(iV x9)),(19,(iV a1))]::aS (bV (decide (a1<x9))) 0 [0,1,2] 20::aG (undef) 0 (rn 0 4) 21 (bV (decide (a1<x9)))::aG (undef) 0 (rn 0 4) 21 (bV (decide (a1<x9)))::aG (undef) 0 (rn 0 4) 21 (bV (decide (a1<x9)))::aG (undef) 0 (rn 0 4++[5,6]) 21 (bV (decide (a1<x9)))::aG (undef) 0 (rn 0 4++[5,6,7]) 21 (bV (decide (a1<x9)))::aG (undef) 0 (rn 0 4) 21 (bV (decide (a1<x9)))::aG (undef) 0 (rn 0 4) 21 (bV (decide (a1<x9)))::aG (undef) 0 (rn 0 4++[10]) 21 (bV (decide (a1<x9)))::aG (undef) 0 (rn 0 4++[9,10,11]) 21 (bV (decide (a1<x9)))::aG (undef) 0 (rn 0 4++rn 9 4) 21 (bV (decide (a1<x9)))::aG (undef) 0 (rn 0 14) 21 (bV (decide (a1<x9)))::aG (undef) 0 (rn 0 15) 21 (bV (decide (a1<x9)))::aT (bV false) 0 (rn 0 16) [(21,(bV (decide (a1<x9)))),(33,undef)]::[])) (W:=(fun _=>w20)) (by kernel_rfl) u (cY e21) (by kernel_rfl) ?_ (aR (by kernel_rfl)) (by kernel_rfl) (m:=0) (by kernel_rfl) (fun a u=>?_)
  .exact⟨oa (aC · rfl),oa (aC · rfl),oa (gF · rfl rfl),oa (aC · rfl),on 21 (nm b22),on 21 (nm b22),on 21 (nm b22),on 21 (nm b22),on 21 (nm b22),on 21 (nm b22),on 21 (nm b22),on 21 (nm b22),on 21 (nm b22),on 21 (nm b22),on 21 (nm b22),on 21 (nm b22),oa (aL · rfl b22 rfl),aLz⟩
  have u:Has 53 [(0,(Sl.v a0)),(1,(iV a1)),(2,(iV a2)),(3,(.func (.func 107) #[] #[])),(8,(iV x1)),(9,(iV x9)),(34,(bV false))] a:=u.sb rfl;have y:=u;cases h;exact hk19 _ (y.sb rfl)
 refine wp_exit<|t_x<|?_;have y:=u;cases h;cases hr7 _ rfl;refine lM<|?_;exact hk6 _ (y.sb rfl)
noncomputable def cI (a1:Int) (a0:Sl) (x1:Int) (x2:Int) (w3:World):Option ((Int×Int×World)⊕(Int×World)) :=
 if (decide (x2<=a1))=true then
 ((cA a0 x1 x2 w3).bind fun w11 =>
 some (.inl (x2,(IntKind.wrap .i64 (x2+20)),w11)))
 else
 (some (.inr (x1,w3)))
noncomputable def fH (a1:Int) (x23:Int) (x24:Int) (w25:World):Option ((Int×Int×World)⊕(Int×World)) :=
 if (decide (x24<=a1))=true then
 none
 else
 (some (.inr (x23,w25)))
noncomputable def cK (a1:Int) (x15:Int) (w16:World):Option ((Int×World)⊕(World)) :=
 if (decide (x15<a1))=true then
 (aN (bM (fun s:Int×Int×World=>fH a1 s.1 s.2.1 s.2.2) (0,(IntKind.wrap .i64 (2*x15)),w16)) fun v28 w29 =>
 (if (decide ((IntKind.wrap .i64 (v28+x15))<a1))=true then
 none
 else
 (some w29)).bind fun w33 =>
 some (.inl ((IntKind.wrap .i64 (x15*2)),w33)))
 else
 (some (.inr w16))
noncomputable def dY (a0:Sl) (a1:Int) (w:World):Option (World) :=
 aN (bM (fun s:Int×Int×World=>cI a1 a0 s.1 s.2.1 s.2.2) (0,20,w)) fun v6 w7 =>
 (cA a0 v6 a1 w7).bind fun w13 =>
 (bM (fun s:Int×World=>cK a1 s.1 s.2) (20,w13)).bind fun w19 =>
 some w19
theorem mI {a0 a1 w w'} (h:dY a0 a1 w=some w'):Calls Try.prog 142 #[(Sl.v a0),(.int .i64 a1),(.func (.func 107) #[] #[])] w fun e w''=>e=.returned (.tuple #[])/\w''=w':=by
 refine aP (n:=63) Try.func142 rfl Try.ntmps142 (by simp) fun a u=>?_;unfold dY at h;refine wp_seq<|aA<|qa u rfl fun a u=>aB<|t_n<|wp_seq<|aA<|qm u rfl fun a u=>qa u rfl fun a u=>qa u rfl fun a u=>aB<|t_n<|wp_seq<|wp_block<|?_;have⟨v6,w7,e5,h⟩:=bs2 h;refine gT (n:=63) (L:=[(7,(iV v6)),(0,(Sl.v a0)),(1,(iV a1)),(2,(.func (.func 107) #[] #[])),(6,(iV 20))]) (w':=w7) (e:=.exit 0) (I:=fun (s:Int×Int×World) a w=>Has 63 [(7,(iV s.1)),(8,(iV s.2.1)),(0,(Sl.v a0)),(1,(iV a1)),(2,(.func (.func 107) #[] #[])),(6,(iV 20))] a/\w=s.2.2) ⟨u.sub ⟨rfl,rfl,rfl,rfl,rfl,rfl,aLz⟩,rfl⟩ e5 (fun a u=>?_) (fun hk8=>?_)
 .refine eC<|t_n<|wp_seq<|aA<|qm u rfl fun a u=>qm u rfl fun a u=>qm u rfl fun a u=>qm u rfl fun a u=>?_;have⟨w13,e14,h⟩:=bs1 h;refine q u (mO (xs:=[_,_,_,_]) (vs:=[(Sl.v a0),(iV v6),(iV a1),(.func (.func 107) #[] #[])]) u ⟨rfl,rfl,rfl,rfl,aLz⟩ Try.call155 (gO e14)) fun a u=>aB<|t_n<|wp_block<|?_;have⟨w19,e18,h⟩:=bs1 h;refine gT (n:=63) (L:=[]) (w':=w19) (e:=.exit 2) (I:=fun (s:Int×World) a w=>Has 63 [(6,(iV s.1)),(0,(Sl.v a0)),(1,(iV a1)),(2,(.func (.func 107) #[] #[]))] a/\w=s.2) ⟨u.sub ⟨rfl,rfl,rfl,rfl,aLz⟩,rfl⟩ e18 (fun a u=>?_) (fun hk20=>?_)
  .refine eC<|?_;have y:=u;cases h;exact aCp Try.results142 y ⟨rfl,rfl⟩
  clear h;rintro⟨x15,w16⟩ a wq o ⟨u,hwq⟩ h hr21;obtain rfl:w16=wq:=hwq.symm;have u:Has 63 [(6,(iV x15)),(0,(Sl.v a0)),(1,(iV a1)),(2,(.func (.func 107) #[] #[]))] a:=u;have h:cK a1 x15 w16=some o:=h;unfold cK at h;refine wp_seq<|wp_seq<|aA<|qm u rfl fun a u=>qm u rfl fun a u=>q u (dK u rfl rfl) fun a u=>aB<|t_n<|?_;refine aO u rfl h (fun b22 h=>?_) (fun b22 h=>?_)
  .refine wp_skip<|t_n<|wp_block<|wp_seq<|aA<|qm u rfl fun a u=>q u (oN u rfl rfl) fun a u=>qa u rfl fun a u=>qa u rfl fun a u=>aB<|t_n<|wp_seq<|wp_block<|?_;have⟨v28,w29,e27,h⟩:=bs2 h;refine gT (n:=63) (L:=[(7,(iV v28)),(0,(Sl.v a0)),(1,(iV a1)),(2,(.func (.func 107) #[] #[])),(6,(iV x15))]) (w':=w29) (e:=.exit 4) (I:=fun (s:Int×Int×World) a w=>Has 63 [(7,(iV s.1)),(8,(iV s.2.1)),(0,(Sl.v a0)),(1,(iV a1)),(2,(.func (.func 107) #[] #[])),(6,(iV x15))] a/\w=s.2.2) ⟨u.sub ⟨rfl,rfl,rfl,rfl,rfl,rfl,aLz⟩,rfl⟩ e27 (fun a u=>?_) (fun hk30=>?_)
   .refine eC<|t_n<|?_;have⟨w33,e34,h⟩:=bs1 h;refine gW (n:=63) (L:=[(0,(Sl.v a0)),(1,(iV a1)),(2,(.func (.func 107) #[] #[])),(6,(iV x15))]) (w':=w33) (fun a u=>?_) (fun hk35=>?_)
    .refine aA<|qm u rfl fun a u=>q u (oN u rfl rfl) fun a u=>qa u rfl fun a u=>aB<|b_n<|?_;have y:=u;cases h;exact dS ⟨y.sb rfl,rfl⟩
    clear h;have h:=e34;refine wp_seq<|aA<|qm u rfl fun a u=>qm u rfl fun a u=>q u (bJ u rfl rfl) fun a u=>qa u rfl fun a u=>aB<|t_n<|wp_seq<|aA<|qm u rfl fun a u=>qm u rfl fun a u=>q u (dK u rfl rfl) fun a u=>aB<|t_n<|?_;refine aO u rfl h (fun b36 h=>?_) (fun b36 h=>?_)
    .cases h
    refine wp_skip<|?_;have y:=u;cases h;exact hk35 _ (y.sb rfl)
   clear h;rintro⟨x23,x24,w25⟩ a wq o ⟨u,hwq⟩ h hr31;obtain rfl:w25=wq:=hwq.symm;have u:Has 63 [(7,(iV x23)),(8,(iV x24)),(0,(Sl.v a0)),(1,(iV a1)),(2,(.func (.func 107) #[] #[])),(6,(iV x15))] a:=u;have h:fH a1 x23 x24 w25=some o:=h;unfold fH at h;refine wp_seq<|wp_seq<|aA<|qm u rfl fun a u=>qm u rfl fun a u=>q u (sU u rfl rfl) fun a u=>aB<|t_n<|?_;refine aO u rfl h (fun b32 h=>?_) (fun b32 h=>?_)
   .refine wp_skip<|t_n<|wp_block<|wp_seq<|?_;cases h
   refine wp_exit<|t_x<|?_;have y:=u;cases h;cases hr31 _ rfl;refine lM<|?_;exact hk30 _ (y.sb rfl)
  refine wp_exit<|t_x<|?_;have y:=u;cases h;cases hr21 _ rfl;refine lM<|?_;exact hk20 _ (y.sb rfl)
 clear h;rintro⟨x1,x2,w3⟩ a wq o ⟨u,hwq⟩ h hr9;obtain rfl:w3=wq:=hwq.symm;have u:Has 63 [(7,(iV x1)),(8,(iV x2)),(0,(Sl.v a0)),(1,(iV a1)),(2,(.func (.func 107) #[] #[])),(6,(iV 20))] a:=u;have h:cI a1 a0 x1 x2 w3=some o:=h;unfold cI at h;refine wp_seq<|wp_seq<|aA<|qm u rfl fun a u=>qm u rfl fun a u=>q u (sU u rfl rfl) fun a u=>aB<|t_n<|?_;refine aO u rfl h (fun b10 h=>?_) (fun b10 h=>?_)
 .refine wp_skip<|t_n<|wp_block<|wp_seq<|aA<|qm u rfl fun a u=>qm u rfl fun a u=>qm u rfl fun a u=>qm u rfl fun a u=>?_;have⟨w11,e12,h⟩:=bs1 h;refine q u (mO (xs:=[_,_,_,_]) (vs:=[(Sl.v a0),(iV x1),(iV x2),(.func (.func 107) #[] #[])]) u ⟨rfl,rfl,rfl,rfl,aLz⟩ Try.call155 (gO e12)) fun a u=>aB<|t_n<|wp_seq<|aA<|qm u rfl fun a u=>qa u rfl fun a u=>aB<|t_n<|aA<|qm u rfl fun a u=>qm u rfl fun a u=>q u (bJ u rfl rfl) fun a u=>qa u rfl fun a u=>aB<|b_n<|?_;have y:=u;cases h;exact dS ⟨y.sb rfl,rfl⟩
 refine wp_exit<|t_x<|?_;have y:=u;cases h;cases hr9 _ rfl;refine lM<|?_;exact hk8 _ (y.sb rfl)
noncomputable def bQ (a0:Sl) (w:World):Option (World) :=
 (dY a0 (a0.n:Int) w).bind fun w1 =>
 some w1
theorem jT {a0 w w'} (h:bQ a0 w=some w'):Calls Try.prog 106 #[(Sl.v a0),(.func (.func 107) #[] #[])] w fun e w''=>e=.returned (.tuple #[])/\w''=w':=by
 refine aP (n:=9) Try.func106 rfl Try.ntmps106 (by simp) fun a u=>?_;unfold bQ at h;refine aA<|qm u rfl fun a u=>qm u rfl fun a u=>q u (aZ u rfl aGX) fun a u=>qm u rfl fun a u=>?_;have⟨w1,e2,h⟩:=bs1 h;refine q u (mO (xs:=[_,_,_]) (vs:=[(Sl.v a0),(iV (a0.n:Int)),(.func (.func 107) #[] #[])]) u ⟨rfl,rfl,rfl,aLz⟩ Try.call142 (mI e2)) fun a u=>aB<|?_;have y:=u;cases h;exact aCp Try.results106 y ⟨rfl,rfl⟩
noncomputable def iY (a0:Option Addr) (a1:Int) (p1:Addr) (x4:Int) (x5:Sl) (x6:Int) (w7:World):Option ((Int×Sl×Int×World)⊕((World)⊕(Int×Bool×World))) :=
 if (decide (x4<16))=true then
 (aN (jO a0 a1 x4 w7) fun v18 w19 =>
 kE (nN v18 w19) fun v21 v22 v23 w24 =>
 if (v21 !=x6)=true then
 (some (.inr (.inl w24)))
 else
 (aN (apS Try.prog 72 x5 v22 w24) fun s27 w28 =>
 if v23=true then
 (kE (cV s27 0 w28) fun v31 v32 v33 w34 =>
 aN (if (v33 !=0)=true then
 (some (true,w34))
 else
 (if (decide (v31<0))=true then
 (some (true,w34))
 else
 (some ((decide (1099511627776<v31)),w34)))) fun v36 w37 =>
 if v36=true then
 (some (.inr (.inl w37)))
 else
 ((slS s27 8 (s27.n:Int) (s27.c:Int) 1).bind fun s43 =>
 (stA w37 p1 0 ([.int .i64 v31,Sl.v s43])).bind fun w45 =>
 some (.inr (.inr ((IntKind.wrap .i64 (x4+1)),true,w45)))))
 else
 (some (.inl ((IntKind.wrap .i64 (x4+1)),s27,3,w28)))))
 else
 (some (.inr (.inl w7)))
noncomputable def jI (a0:Option Addr) (a1:Int) (a2:Int) (w:World):Option ((List Value)×Int×Bool×World) :=
 aN (mk w 87 ([.int .i64 0,.slice none 0 0])) fun p1 w2 =>
 (bM (fun s:Int×Sl×Int×World=>iY a0 a1 p1 s.1 s.2.1 s.2.2.1 s.2.2.2) (a2,Sl.nil,2,w2)).bind fun r8=>Sum.elim (fun (i:World)=>u1 i fun w10 =>
 (stA w10 p1 0 ([.int .i64 0,.slice none 0 0])).bind fun w47 =>
 (ldA 2 w47 p1 0).bind fun v49 =>
 some (v49,0,false,w47)) (fun (i:Int×Bool×World)=>u3 i fun v11 v12 w13 =>
 (ldA 2 w13 p1 0).bind fun v51 =>
 some (v51,v11,v12,w13)) r8
theorem oH {a0 a1 a2 w w' r0 r1 r2} (h:jI a0 a1 a2 w=some (r0,r1,r2,w')):Calls Try.prog 108 #[(.pointer a0),(.int .i64 a1),(.int .i64 a2)] w fun e w''=>e=.returned (.tuple #[(.agg (List.toArray r0)),(.int .i64 r1),(.bool r2)])/\w''=w':=by
 refine aP (n:=59) Try.func108 rfl Try.ntmps108 (by simp) fun a u=>?_;unfold jI at h;refine wp_seq<|aA<|?_;have⟨p1,w2,e3,h⟩:=bs2 h;refine q u (eX aHh (by kernel_rfl) e3) fun a u=>qa u rfl fun a u=>qa u rfl fun a u=>aB<|t_n<|wp_seq<|aA<|qa u rfl fun a u=>aB<|t_n<|wp_seq<|wp_seq<|aA<|qa u rfl fun a u=>aB<|t_n<|wp_block<|?_;have⟨r8,e9,h⟩:=bs1 h;refine oR (n:=59) (L1:=fun i=>[(6,(pV (some p1)))]) (w1:=fun i=>i) (L2:=fun i=>[(7,(iV i.1)),(8,(bV i.2.1)),(6,(pV (some p1)))]) (w2:=fun i=>i.2.2) (e1:=.exit 0) (e2:=.ret) (I:=fun (s:Int×Sl×Int×World) a w=>Has 59 [(2,(iV s.1)),(9,(Sl.v s.2.1)),(10,(iV s.2.2.1)),(0,(pV a0)),(1,(iV a1)),(6,(pV (some p1)))] a/\w=s.2.2.2) ⟨u.sub ⟨rfl,rfl,rfl,rfl,rfl,rfl,aLz⟩,rfl⟩ e9 (fun i hi a u=>?_) (fun i hi a u=>?_) (fun hk14 hk15=>?_)
 .subst hi;obtain⟨w10,rfl⟩:∃ x,x=i:=⟨i,rfl⟩;dsimp only[Sum.elim_inl,Sum.elim_inr,u1,u2,u3,u4,u5,u6] at h;have u:Has 59 [(6,(pV (some p1)))] a:=u;refine eC<|t_n<|wp_seq<|aA<|q u (dZ (vs:=[]) (pl:=#[(0,1),(1,1)]) (cs:=([.int .i64 0,.slice none 0 0])) u trivial aHh aHa (by intro w;kernel_rfl) (by kernel_rfl)) fun a u=>?_;have⟨w47,e48,h⟩:=bs1 h;refine q u (eW u rfl rfl aHe rfl e48) fun a u=>qa u rfl fun a u=>qa u rfl fun a u=>aB<|t_n<|wp_ret<|?_;have⟨v49,e50,h⟩:=bs1 h;have y:=u;cases h;exact uH (vs:=[_,_,_]) Try.results108 y ⟨⟨_,rfl,uI aHW aHe e50⟩,rfl,rfl,aLz⟩ ⟨rfl,rfl⟩
 .subst hi;obtain⟨v11,v12,w13⟩:=i;dsimp only[Sum.elim_inl,Sum.elim_inr,u1,u2,u3,u4,u5,u6] at h;have u:Has 59 [(7,(iV v11)),(8,(bV v12)),(6,(pV (some p1)))] a:=u;refine b_r<|t_r<|?_;have⟨v51,e52,h⟩:=bs1 h;have y:=u;cases h;exact uH (vs:=[_,_,_]) Try.results108 y ⟨⟨_,rfl,uI aHW aHe e52⟩,rfl,rfl,aLz⟩ ⟨rfl,rfl⟩
 clear h;rintro⟨x4,x5,x6,w7⟩ a wq o ⟨u,hwq⟩ h hr16;obtain rfl:w7=wq:=hwq.symm;have u:Has 59 [(2,(iV x4)),(9,(Sl.v x5)),(10,(iV x6)),(0,(pV a0)),(1,(iV a1)),(6,(pV (some p1)))] a:=u;have h:iY a0 a1 p1 x4 x5 x6 w7=some o:=h;unfold iY at h;refine wp_seq<|wp_seq<|aA<|qm u rfl fun a u=>q u (dK u rfl rfl) fun a u=>aB<|t_n<|?_;refine aO u rfl h (fun b17 h=>?_) (fun b17 h=>?_)
 .refine wp_skip<|t_n<|wp_seq<|wp_block<|wp_seq<|aA<|qm u rfl fun a u=>qm u rfl fun a u=>qm u rfl fun a u=>?_;have⟨v18,w19,e20,h⟩:=bs2 h;refine q u (dc3 u rfl rfl rfl Try.call111 (nD e20)) fun a u=>?_;have⟨v21,v22,v23,w24,e25,h⟩:=bs4 h;refine q u (dc1 u rfl Try.call140 (sI e25)) fun a u=>qm u rfl fun a u=>q u (aW u rfl rfl) fun a u=>q u (aW u rfl rfl) fun a u=>q u (aW u rfl rfl) fun a u=>qa u rfl fun a u=>qa u rfl fun a u=>qa u rfl fun a u=>aB<|t_n<|wp_seq<|wp_seq<|aA<|qm u rfl fun a u=>qm u rfl fun a u=>q u (fJ u rfl rfl) fun a u=>aB<|t_n<|?_;refine aO u rfl h (fun b26 h=>?_) (fun b26 h=>?_)
  .refine wp_exit<|t_x<|b_x (by decide)<|t_x<|?_;have y:=u;cases h;cases hr16 _ rfl;refine lM<|?_;exact hk14 _ rfl _ (y.sb rfl)
  refine wp_skip<|t_n<|wp_seq<|aA<|qm u rfl fun a u=>qm u rfl fun a u=>?_;have⟨s27,w28,e29,h⟩:=bs2 h;refine q u (iF u rfl rfl e29) fun a u=>qa u rfl fun a u=>aB<|t_n<|wp_seq<|aA<|qm u rfl fun a u=>q u (bJ u rfl rfl) fun a u=>qa u rfl fun a u=>aB<|t_n<|wp_seq<|aA<|qm u rfl fun a u=>aB<|t_n<|?_;refine aO u rfl h (fun b30 h=>?_) (fun b30 h=>?_)
  .refine wp_seq<|aA<|qm u rfl fun a u=>?_;have⟨v31,v32,v33,w34,e35,h⟩:=bs4 h;refine q u (dc2 u rfl rfl Try.call141 (kN e35)) fun a u=>qm u rfl fun a u=>q u (aW u rfl rfl) fun a u=>q u (aW u rfl rfl) fun a u=>q u (aW u rfl rfl) fun a u=>qa u rfl fun a u=>qa u rfl fun a u=>qa u rfl fun a u=>aB<|t_n<|wp_seq<|wp_seq<|?_;have⟨v36,w37,e38,h⟩:=bs2 h;refine bP (n:=59) (L:=[(52,(bV v36)),(2,(iV (IntKind.wrap .i64 (x4+1)))),(6,(pV (some p1))),(9,(Sl.v s27)),(14,(iV v31))]) (w':=w37) (fun a u=>?_) (fun hk39=>?_)
   .refine t_n<|?_;refine aO u rfl h (fun b42 h=>?_) (fun b42 h=>?_)
    .refine wp_exit<|t_x<|b_x (by decide)<|t_x<|?_;have y:=u;cases h;cases hr16 _ rfl;refine lM<|?_;exact hk14 _ rfl _ (y.sb rfl)
    refine wp_skip<|t_n<|wp_seq<|aA<|qm u rfl fun a u=>qm u rfl fun a u=>?_;have⟨s43,e44,h⟩:=bs1 h;refine q u (oG u rfl aGK aGT ⟨_,rfl⟩ rfl rfl (by simp) e44) fun a u=>q u (dZ (vs:=[(0,(iV v31)),(1,(Sl.v s43))]) (pl:=#[(0,1),(1,1)]) (cs:=([.int .i64 v31,Sl.v s43])) u ⟨rfl,rfl,rfl,rfl,aLz⟩ aHh aHa (by intro w;kernel_rfl) (by kernel_rfl)) fun a u=>qm u rfl fun a u=>?_;have⟨w45,e46,h⟩:=bs1 h;refine q u (eW u rfl rfl aHe rfl e46) fun a u=>qa u rfl fun a u=>qa u rfl fun a u=>aB<|t_n<|wp_ret<|b_r<|t_r<|?_;have y:=u;cases h;cases hr16 _ rfl;refine vV<|?_;exact hk15 _ rfl _ (y.sb rfl)
   clear h;have h:=e38;refine aA<|qm u rfl fun a u=>q u (fJ u rfl rfl) fun a u=>qm u rfl fun a u=>?_;refine bW h (fun b40 h=>?_) (fun b40 h=>?_)
   .refine qn u 45 (tn b40) fun a u=>qn u 45 (tn b40) fun a u=>q u (aF u rfl b40 rfl) fun a u=>qm u rfl fun a u=>qn u 49 (tn rfl) fun a u=>qn u 49 (tn rfl) fun a u=>q u (aF u rfl rfl rfl) fun a u=>aB<|?_;have y:=u;cases h;exact hk39 _ (y.sb rfl)
   refine qg u 45 (nt b40) (aC u rfl) fun a u=>qg u 45 (nt b40) (dK u rfl rfl) fun a u=>q u (aL u rfl b40 rfl) fun a u=>qm u rfl fun a u=>?_;refine bW h (fun b41 h=>?_) (fun b41 h=>?_)
   .refine qn u 49 (tn b41) fun a u=>qn u 49 (tn b41) fun a u=>q u (aF u rfl b41 rfl) fun a u=>aB<|?_;have y:=u;cases h;exact hk39 _ (y.sb rfl)
   refine qg u 49 (nt b41) (aC u rfl) fun a u=>qg u 49 (nt b41) (gF u rfl rfl) fun a u=>q u (aL u rfl b41 rfl) fun a u=>aB<|?_;have y:=u;cases h;exact hk39 _ (y.sb rfl)
  refine wp_skip<|b_n<|t_n<|aA<|qa u rfl fun a u=>aB<|?_;have y:=u;cases h;exact dS ⟨y.sb rfl,rfl⟩
 refine wp_exit<|t_x<|?_;have y:=u;cases h;cases hr16 _ rfl;refine lM<|?_;exact hk14 _ rfl _ (y.sb rfl)
noncomputable def jZ (v3:Int) (a0:Option Addr) (x5:Int) (w6:World):ND ((Int×World)⊕(World)) :=
 if (decide (x5<v3))=true then
 (cb1 (lb3 (kO a0 x5 w6) fun v16 v17 w18 =>
 lb2 (mk w18 125 (List.replicate 4 (.int .i64 0)++[.slice none 0 0])) fun p20 w21 =>
 lb1 (stA w21 p20 0 v16) fun w24 =>
 nck ((v16).length=5) <|
 if v17=true then
 (lb1 (dr w24) fun w27 =>
 lb1 (a0) fun p29 =>
 lb1 (ldL w27 (p29.add 7)) fun v31 =>
 lb1 (ldA 5 w27 p20 0) fun c33 =>
 lb2 (bsl w27 125 5 [c33]) fun s35 w36 =>
 lb2 (apS Try.prog 117 v31 s35 w36) fun s38 w39 =>
 lb1 (stV w39 (p29.add 7) (Sl.v s38)) fun w41 =>
 nck (ldL w36 (p29.add 7)=some v31) <|
 aU w41)
 else
 (aU w24)) fun w13 =>
 aU (.inl ((IntKind.wrap .i64 (x5+1)),w13)))
 else
 (aU (.inr w6))
noncomputable def iU (p62:Addr) (a0:Option Addr)  (w72:World):ND ((World)⊕(World)) :=
 cb4 (lb1 (dr w72) fun w84 =>
 lb1 (ldI .i64 w84 (p62.add 0)) fun v86 =>
 lb1 (ldI .i64 w84 (p62.add 2)) fun v88 =>
 aCA (lb4 (jI a0 v86 v88 w84) fun v90 v91 v92 w93 =>
 lb2 (mk w93 87 ([.int .i64 0,.slice none 0 0])) fun p95 w96 =>
 lb1 (stA w96 p95 0 v90) fun w99 =>
 nck ((v90).length=2) <|
 aU (p95,v91,v92,w99)) (lb2 (mk w84 87 ([.int .i64 0,.slice none 0 0])) fun p101 w102 =>
 lb4 (jI a0 v86 v88 w102) fun v104 v105 v106 w107 =>
 lb1 (stA w107 p101 0 v104) fun w110 =>
 nck ((v104).length=2) <|
 nck (ldI .i64 w102 (p62.add 0)=some v86) <|
 nck (ldI .i64 w102 (p62.add 2)=some v88) <|
 aU (p101,v105,v106,w110))) fun v78 v79 v80 w81 =>
 cb2 (lb1 (dr w81) fun w118 =>
 if (!v80)=true then
 (aU (true,w118))
 else
 (lb1 (ldI .i64 w118 (v78.add 0)) fun v121 =>
 lb1 (a0) fun p123 =>
 lb1 (ldI .i64 w118 (p123.add 5)) fun v125 =>
 aU ((decide (v121<=v125)),w118))) fun v114 w115 =>
 if v114=true then
 (aU (.inr w115))
 else
 (lb1 (dr w115) fun w128 =>
 lb1 (ldL w128 (p62.add 4)) fun v130 =>
 lb1 (ldA 2 w128 v78 0) fun c132 =>
 lb2 (bsl w128 87 2 [c132]) fun s134 w135 =>
 lb2 (apS Try.prog 74 v130 s134 w135) fun s137 w138 =>
 lb1 (stV w138 (p62.add 4) (Sl.v s137)) fun w140 =>
 nck (ldL w135 (p62.add 4)=some v130) <|
 lb1 (dr w140) fun w143 =>
 lb1 (ldI .i64 w143 (v78.add 0)) fun v145 =>
 lb1 (stV w143 (p62.add 2) (.int .i64 v79)) fun w147 =>
 lb1 (a0) fun p149 =>
 lb1 (stV w147 (p149.add 5) (.int .i64 v145)) fun w151 =>
 nck (ldI .i64 w147 (v78.add 0)=some v145) <|
 aU (.inl w151))
noncomputable def iT (v48:Sl) (a0:Option Addr) (x50:Int) (w51:World):ND ((Int×World)⊕(World)) :=
 if (decide (x50<(v48.n:Int)))=true then
 (lb1 (a0) fun p58 =>
 lb1 (ldL w51 (p58.add 7)) fun v60 =>
 lb1 (ix v60 x50 5) fun p62 =>
 lb1 (dr w51) fun w64 =>
 lb1 (ldI .i64 w64 (p58.add 5)) fun v66 =>
 lb1 (ldI .i64 w64 (p62.add 3)) fun v68 =>
 lb1 (stV w64 (p58.add 5) (.int .i64 (mxI v66 v68))) fun w70 =>
 cb1 (fB (fun s:World=>iU p62 a0 s) w70) fun w75 =>
 lb1 (ldI .i64 w75 (p58.add 5)) fun v154 =>
 lb1 (stV w75 (p62.add 3) (.int .i64 v154)) fun w156 =>
 aU (.inl ((IntKind.wrap .i64 (x50+1)),w156)))
 else
 (aU (.inr w51))
noncomputable def lZ (a0:Option Addr) (w:World):ND (World) :=
 lb1 (a0) fun p1 =>
 lb1 (ldI .i64 w (p1.add 3)) fun v3 =>
 cb1 (fB (fun s:Int×World=>jZ v3 a0 s.1 s.2) (0,w)) fun w9 =>
 lb1 (ldL w9 (p1.add 7)) fun v44 =>
 lb1 (bQ v44 w9) fun w46 =>
 lb1 (ldL w46 (p1.add 7)) fun v48 =>
 cb1 (fB (fun s:Int×World=>iT v48 a0 s.1 s.2) (0,w46)) fun w54 =>
 lb1 (ldP w54 (p1.add 1)) fun v159 =>
 lb3 (kM v159 0 w54) fun v161 v162 w163 =>
 lb1 (stV w163 (p1.add 6) (.int .i64 v161)) fun w165 =>
 lb1 (dr w165) fun w167 =>
 lb1 (ldI .i64 w167 (p1.add 5)) fun v169 =>
 lb1 (ldI .i64 w167 (p1.add 6)) fun v171 =>
 lb1 (stV w167 (p1.add 5) (.int .i64 (mxI v169 v171))) fun w173 =>
 aU w173
theorem tD {a0 w Q} (h:(lZ a0 w).t Q):Calls Try.prog 70 #[(.pointer a0)] w fun e w''=>∃ i,e=.returned (.tuple #[])/\Q i/\w''=i:=by
 refine aP (n:=141) Try.func70 rfl Try.ntmps70 (by simp) fun a u=>?_;unfold lZ at h;refine wp_seq<|wp_seq<|aA<|qm u rfl fun a u=>?_;obtain⟨p1,e2,h⟩:=h;refine q u (aH u rfl e2) fun a u=>q u (aK u rfl aGO rfl rfl aGL) fun a u=>?_;obtain⟨v3,e4,h⟩:=h;refine q u (aJ u rfl aGN (aQ e4)) fun a u=>qm u rfl fun a u=>aB<|t_n<|wp_block<|?_;refine lE (n:=141) (Lr:=fun i=>[(0,(pV a0))]) (wr:=fun i=>i) (e:=.exit 0) (I:=fun (s:Int×World) a w=>Has 141 [(14,(iV s.1)),(0,(pV a0)),(13,(iV v3))] a/\w=s.2) (un1 h) ⟨u.sub ⟨rfl,rfl,rfl,aLz⟩,rfl⟩ (fun i h a u=>?_) (fun hk10=>?_)
 .obtain⟨w9,rfl⟩:∃ x,x=i:=⟨i,rfl⟩;have u:Has 141 [(0,(pV a0))] a:=u;refine eC<|t_n<|wp_seq<|aA<|qm u rfl fun a u=>q u (aH u rfl e2) fun a u=>q u (aK u rfl aGO rfl rfl aHn) fun a u=>?_;obtain⟨v44,e45,h⟩:=h;refine q u (aJ u rfl aHA (aV e45)) fun a u=>?_;obtain⟨w46,e47,h⟩:=h;refine q u (mO (xs:=[_,_]) (vs:=[(Sl.v v44),(.func (.func 107) #[] #[])]) u ⟨rfl,rfl,aLz⟩ Try.call106 (jT e47)) fun a u=>aB<|t_n<|wp_seq<|wp_seq<|aA<|qm u rfl fun a u=>q u (aH u rfl e2) fun a u=>q u (aK u rfl aGO rfl rfl aHn) fun a u=>?_;obtain⟨v48,e49,h⟩:=h;refine q u (aJ u rfl aHA (aV e49)) fun a u=>q u (aZ u rfl aGX) fun a u=>qm u rfl fun a u=>aB<|t_n<|wp_block<|?_;refine lE (n:=141) (Lr:=fun i=>[(0,(pV a0))]) (wr:=fun i=>i) (e:=.exit 2) (I:=fun (s:Int×World) a w=>Has 141 [(45,(iV s.1)),(0,(pV a0)),(44,(iV (v48.n:Int)))] a/\w=s.2) (un1 h) ⟨u.sub ⟨rfl,rfl,rfl,aLz⟩,rfl⟩ (fun i h a u=>?_) (fun hk55=>?_)
  .obtain⟨w54,rfl⟩:∃ x,x=i:=⟨i,rfl⟩;have u:Has 141 [(0,(pV a0))] a:=u;refine eC<|t_n<|wp_seq<|aA<|qm u rfl fun a u=>qm u rfl fun a u=>q u (aH u rfl e2) fun a u=>q u (aK u rfl aGO rfl rfl aIn) fun a u=>?_;obtain⟨v159,e160,h⟩:=h;refine q u (aJ u rfl Try.isAgg116 (bA e160)) fun a u=>?_;obtain⟨v161,v162,w163,e164,h⟩:=h;refine q u (dc2 u rfl rfl Try.call109 (tI e164)) fun a u=>qm u rfl fun a u=>q u (aW u rfl rfl) fun a u=>q u (aW u rfl rfl) fun a u=>q u (aH u rfl e2) fun a u=>q u (aK u rfl aGO rfl rfl aGL) fun a u=>?_;obtain⟨w165,e166,h⟩:=h;refine q u (fO u rfl rfl aGL e166) fun a u=>aB<|t_n<|?_;obtain⟨w167,e168,h⟩:=h;obtain⟨v169,e170,h⟩:=h;obtain⟨v171,e172,h⟩:=h;obtain⟨w173,e174,h⟩:=h;have u:Has 141 [(0,(pV a0))] a:=u.sb rfl;refine aM (n:=141) (ds:=(aS (pV a0) 0 [] 0::aS (pV a0) 0 [] 0::aG (pV (some p1)) 0 [1] 130 (pV a0)::aG (pV (some (p1.add 5))) 0 [1,2] 131 (pV (some p1))::aG (iV v169) 0 [1,2,3] 132 (pV (some (p1.add 5)))::aS (pV a0) 0 [] 0::aG (pV (some p1)) 0 [5] 134 (pV a0)::aG (pV (some (p1.add 6))) 0 [5,6] 135 (pV (some p1))::aG (iV v171) 0 [5,6,7] 136 (pV (some (p1.add 6)))::aT (iV (mxI v169 v171)) 0 (rn 1 8) [(133,(iV v169)),(137,(iV v171))]::aG (pV (some p1)) 0 (rn 0 10) 129 (pV a0)::aG (pV (some (p1.add 5))) 0 (rn 0 11) 139 (pV (some p1))::aI (undef) true 0 0 (rn 0 12) [(140,(pV (some (p1.add 5)))),(138,(iV (mxI v169 v171)))]::[])) (W:=(fun j=>match j with | 0=>w167 | 1=>w173 | _=>w173)) (by kernel_rfl) u (cY e168) (by kernel_rfl) ?_ (aR (by kernel_rfl)) (by kernel_rfl) (m:=1) (by kernel_rfl) (fun a u=>?_)
   .exact⟨oa (aC · rfl),oa (aC · rfl),oa (aH · rfl e2),oa (aK · rfl aGO rfl rfl aGL),oc 0 (kd (aJ · rfl aGN (aQ e170))),oa (aC · rfl),oa (aH · rfl e2),oa (aK · rfl aGO rfl rfl aGL),oc 0 (kd (aJ · rfl aGN (aQ e172))),oa (aFh · rfl rfl),oa (aH · rfl e2),oa (aK · rfl aGO rfl rfl aGL),oc 0 (kd (fO · rfl rfl aGL e174)),aLz⟩
   have u:Has 141 [] a:=u.sb rfl;exact aCp Try.results70 u ⟨w173,rfl,h,rfl⟩
  clear h;intro hX175;rintro⟨x50,w51⟩ a wq ⟨u,hwq⟩ h;obtain rfl:w51=wq:=hwq.symm;have u:Has 141 [(45,(iV x50)),(0,(pV a0)),(44,(iV (v48.n:Int)))] a:=u;have h:(iT v48 a0 x50 w51).t _:=h;unfold iT at h;refine wp_seq<|aA<|q u (dK u rfl rfl) fun a u=>aB<|t_n<|wp_seq<|?_;refine aX u rfl h (fun b57 h=>?_) (fun b57 h=>?_)
  .refine wp_skip<|t_n<|wp_seq<|wp_block<|wp_seq<|aA<|qm u rfl fun a u=>qa u rfl fun a u=>aB<|t_n<|wp_seq<|aA<|qm u rfl fun a u=>?_;obtain⟨p58,e59,h⟩:=h;refine q u (aH u rfl e59) fun a u=>q u (aK u rfl aGO rfl rfl aHn) fun a u=>?_;obtain⟨v60,e61,h⟩:=h;refine q u (aJ u rfl aHA (aV e61)) fun a u=>qm u rfl fun a u=>?_;obtain⟨p62,e63,h⟩:=h;refine q u (bZ u rfl rfl aGX aGW e63) fun a u=>qa u rfl fun a u=>aB<|t_n<|wp_seq<|?_;obtain⟨w64,e65,h⟩:=h;obtain⟨v66,e67,h⟩:=h;obtain⟨v68,e69,h⟩:=h;obtain⟨w70,e71,h⟩:=h;have u:Has 141 [(0,(pV a0)),(6,(pV (some p62))),(44,(iV (v48.n:Int))),(45,(iV x50))] a:=u.sb rfl;refine aM (n:=141) (ds:=(aS (pV a0) 0 [] 0::aS (pV a0) 0 [] 0::aG (pV (some p58)) 0 [1] 55 (pV a0)::aG (pV (some (p58.add 5))) 0 [1,2] 56 (pV (some p58))::aG (iV v66) 0 [1,2,3] 57 (pV (some (p58.add 5)))::aS (pV (some p62)) 0 [] 6::aS (pV (some p62)) 0 [5] 59::aG (pV (some (p62.add 3))) 0 [5,6] 60 (pV (some p62))::aG (iV v68) 0 [5,6,7] 61 (pV (some (p62.add 3)))::aT (iV (mxI v66 v68)) 0 (rn 1 8) [(58,(iV v66)),(62,(iV v68))]::aG (pV (some p58)) 0 (rn 0 10) 54 (pV a0)::aG (pV (some (p58.add 5))) 0 (rn 0 11) 64 (pV (some p58))::aI (undef) true 0 0 (rn 0 12) [(65,(pV (some (p58.add 5)))),(63,(iV (mxI v66 v68)))]::[])) (W:=(fun j=>match j with | 0=>w64 | 1=>w70 | _=>w70)) (by kernel_rfl) u (cY e65) (by kernel_rfl) ?_ (aR (by kernel_rfl)) (by kernel_rfl) (m:=1) (by kernel_rfl) (fun a u=>?_)
   .exact⟨oa (aC · rfl),oa (aC · rfl),oa (aH · rfl e59),oa (aK · rfl aGO rfl rfl aGL),oc 0 (kd (aJ · rfl aGN (aQ e67))),oa (aC · rfl),oa (lX · rfl),oa (aK · rfl aGU rfl rfl aGL),oc 0 (kd (aJ · rfl aGN (aQ e69))),oa (aFh · rfl rfl),oa (aH · rfl e59),oa (aK · rfl aGO rfl rfl aGL),oc 0 (kd (fO · rfl rfl aGL e71)),aLz⟩
   have u:Has 141 [(0,(pV a0)),(6,(pV (some p62))),(44,(iV (v48.n:Int))),(45,(iV x50))] a:=u.sb rfl;refine t_n<|wp_seq<|wp_block<|?_;refine lE (n:=141) (Lr:=fun i=>[(0,(pV a0)),(6,(pV (some p62))),(44,(iV (v48.n:Int))),(45,(iV x50))]) (wr:=fun i=>i) (e:=.exit 4) (I:=fun (s:World) a w=>Has 141 [(0,(pV a0)),(6,(pV (some p62))),(44,(iV (v48.n:Int))),(45,(iV x50))] a/\w=s) (un1 h) ⟨u.sub ⟨rfl,rfl,rfl,rfl,aLz⟩,rfl⟩ (fun i h a u=>?_) (fun hk76=>?_)
   .obtain⟨w75,rfl⟩:∃ x,x=i:=⟨i,rfl⟩;have u:Has 141 [(0,(pV a0)),(6,(pV (some p62))),(44,(iV (v48.n:Int))),(45,(iV x50))] a:=u;refine eC<|t_n<|aA<|qm u rfl fun a u=>qm u rfl fun a u=>q u (aH u rfl e59) fun a u=>q u (aK u rfl aGO rfl rfl aGL) fun a u=>?_;obtain⟨v154,e155,h⟩:=h;refine q u (aJ u rfl aGN (aQ e155)) fun a u=>q u (lX u rfl) fun a u=>q u (aK u rfl aGU rfl rfl aGL) fun a u=>?_;obtain⟨w156,e157,h⟩:=h;refine q u (fO u rfl rfl aGL e157) fun a u=>aB<|b_n<|t_n<|aA<|q u (bJ u rfl rfl) fun a u=>qm u rfl fun a u=>aB<|?_;exact⟨((IntKind.wrap .i64 (x50+1)),w156),⟨u.sb rfl,rfl⟩,h⟩
   clear h;intro hX158;rintro w72 a wq ⟨u,hwq⟩ h;obtain rfl:w72=wq:=hwq.symm;have u:Has 141 [(0,(pV a0)),(6,(pV (some p62))),(44,(iV (v48.n:Int))),(45,(iV x50))] a:=u;have h:(iU p62 a0 w72).t _:=h;unfold iU at h;refine wp_block<|wp_seq<|?_;refine dD (n:=141) (ι:=Addr×Int×Bool×World) (Lf:=fun i=>[(7,(pV (some i.1))),(8,(iV i.2.1)),(9,(bV i.2.2.1)),(0,(pV a0)),(6,(pV (some p62))),(44,(iV (v48.n:Int))),(45,(iV x50))]) (wf:=fun i=>i.2.2.2) (un4 h) (fun i h a u=>?_) (fun h hk83=>?_)
   .obtain⟨v78,v79,v80,w81⟩:=i;have u:Has 141 [(7,(pV (some v78))),(8,(iV v79)),(9,(bV v80)),(0,(pV a0)),(6,(pV (some p62))),(44,(iV (v48.n:Int))),(45,(iV x50))] a:=u;refine t_n<|wp_seq<|wp_seq<|?_;refine dD (n:=141) (ι:=Bool×World) (Lf:=fun i=>[(90,(bV i.1)),(0,(pV a0)),(6,(pV (some p62))),(7,(pV (some v78))),(8,(iV v79)),(44,(iV (v48.n:Int))),(45,(iV x50))]) (wf:=fun i=>i.2) (un2 h) (fun i h a u=>?_) (fun h hk117=>?_)
    .obtain⟨v114,w115⟩:=i;have u:Has 141 [(90,(bV v114)),(0,(pV a0)),(6,(pV (some p62))),(7,(pV (some v78))),(8,(iV v79)),(44,(iV (v48.n:Int))),(45,(iV x50))] a:=u;refine t_n<|?_;refine aX u rfl h (fun b127 h=>?_) (fun b127 h=>?_)
     .refine wp_exit<|t_x<|b_x (by decide)<|t_x<|?_;exact hk76 w115 h _ (u.sb rfl)
     refine wp_skip<|t_n<|wp_seq<|?_;obtain⟨w128,e129,h⟩:=h;obtain⟨v130,e131,h⟩:=h;obtain⟨c132,e133,h⟩:=h;obtain⟨s134,w135,e136,h⟩:=h;obtain⟨s137,w138,e139,h⟩:=h;obtain⟨w140,e141,h⟩:=h;obtain⟨e142,h⟩:=h;have u:Has 141 [(0,(pV a0)),(6,(pV (some p62))),(7,(pV (some v78))),(8,(iV v79)),(44,(iV (v48.n:Int))),(45,(iV x50))] a:=u.sb rfl;refine aM (n:=141) (ds:=(aI (pV (some p62)) false 0 2 [] [(6,(pV (some p62)))]::aI (pV (some p62)) false 0 1 [] [(6,(pV (some p62)))]::aI (pV (some p62)) false 0 1 [1] [(92,(pV (some p62)))]::aI (pV (some (p62.add 4))) false 0 1 [1,2] [(93,(pV (some p62)))]::aI (Sl.v v130) false 0 1 [1,2,3] [(94,(pV (some (p62.add 4))))]::aG (.agg (List.toArray c132)) 0 [] 7 (pV (some v78))::aI (Sl.v s134) true 0 0 [5] [(96,(.agg (List.toArray c132)))]::aI (Sl.v s137) true 1 1 (rn 1 6) [(95,(Sl.v v130)),(97,(Sl.v s134))]::aS (pV (some p62)) 2 (rn 0 8) 91::aG (pV (some (p62.add 4))) 2 (rn 0 9) 99 (pV (some p62))::aI (undef) true 2 2 (rn 0 10) [(100,(pV (some (p62.add 4)))),(98,(Sl.v s137))]::[])) (W:=(fun j=>match j with | 0=>w128 | 1=>w135 | 2=>w138 | 3=>w140 | _=>w140)) (by kernel_rfl) u (cY e129) (by kernel_rfl) ?_ (aR (by kernel_rfl)) (by kernel_rfl) (m:=3) (by kernel_rfl) (fun a u=>?_)
     .refine⟨oa (aC · rfl),oa (aC · rfl),oa (lX · rfl),oa (aK · rfl aGU rfl rfl aHy),?_,oc 0 (kd (gC · rfl aHW aHe e133)),oc 0 (kd (iK (vs:=[(0,(.agg (List.toArray c132)))]) (ps:=[c132]) · ⟨rfl,rfl,aLz⟩ ⟨rfl,rfl,aLz⟩ rfl aGY aHe aHh (by decide) e136)),oc 1 (kd (iF · rfl rfl e139)),oa (lX · rfl),oa (aK · rfl aGU rfl rfl aHy),oc 2 (kd (fO · rfl rfl aHy e141)),aLz⟩;intro j h1 h2;have h1:0<=j:=h1;have h2:j<=1:=h2;rcases(by omega:j=0\/j=1) with rfl | rfl
      .exact kd (aJ · rfl aHI (aV e131))
      exact kd (aJ · rfl aHI (aV e142))
     have u:Has 141 [(0,(pV a0)),(6,(pV (some p62))),(7,(pV (some v78))),(8,(iV v79)),(44,(iV (v48.n:Int))),(45,(iV x50))] a:=u.sb rfl;refine t_n<|?_;obtain⟨w143,e144,h⟩:=h;obtain⟨v145,e146,h⟩:=h;obtain⟨w147,e148,h⟩:=h;obtain⟨p149,e150,h⟩:=h;obtain⟨w151,e152,h⟩:=h;obtain⟨e153,h⟩:=h;have u:Has 141 [(0,(pV a0)),(6,(pV (some p62))),(7,(pV (some v78))),(8,(iV v79)),(44,(iV (v48.n:Int))),(45,(iV x50))] a:=u.sb rfl;refine aM (n:=141) (ds:=(aS (pV (some p62)) 0 [] 6::aI (pV a0) false 0 1 [] [(0,(pV a0))]::aS (iV v79) 0 [] 8::aI (pV (some (v78.add 0))) false 0 1 [] [(7,(pV (some v78)))]::aI (iV v145) false 0 1 [3] [(104,(pV (some (v78.add 0))))]::aS (pV (some p62)) 0 [0,2] 101::aG (pV (some (p62.add 2))) 0 [0,2,5] 106 (pV (some p62))::aI (undef) true 0 0 [0,2,5,6] [(107,(pV (some (p62.add 2)))),(103,(iV v79))]::aG (pV (some p149)) 1 (rn 0 8) 102 (pV a0)::aG (pV (some (p149.add 5))) 1 (rn 0 9) 108 (pV (some p149))::aI (undef) true 1 1 (rn 0 10) [(109,(pV (some (p149.add 5)))),(105,(iV v145))]::[])) (W:=(fun j=>match j with | 0=>w143 | 1=>w147 | 2=>w151 | _=>w151)) (by kernel_rfl) u (cY e144) (by kernel_rfl) ?_ (aR (by kernel_rfl)) (by kernel_rfl) (m:=2) (by kernel_rfl) (fun a u=>?_)
     .refine⟨oa (aC · rfl),oa (aC · rfl),oa (aC · rfl),oa (aK · rfl aHa rfl rfl aGL),?_,oa (lX · rfl),oa (aK · rfl aGU rfl rfl aGL),oc 0 (kd (fO · rfl rfl aGL e148)),oa (aH · rfl e150),oa (aK · rfl aGO rfl rfl aGL),oc 1 (kd (fO · rfl rfl aGL e152)),aLz⟩;intro j h1 h2;have h1:0<=j:=h1;have h2:j<=1:=h2;rcases(by omega:j=0\/j=1) with rfl | rfl
      .exact kd (aJ · rfl aGN (aQ e146))
      exact kd (aJ · rfl aGN (aQ e153))
     have u:Has 141 [(0,(pV a0)),(6,(pV (some p62))),(44,(iV (v48.n:Int))),(45,(iV x50))] a:=u.sb rfl;refine b_n<|?_;exact⟨w151,⟨u.sb rfl,rfl⟩,h⟩
    obtain⟨w118,e119,h⟩:=h;refine iE h (fun b120 h=>?_) (fun b120 h=>?_)
    .have u:Has 141 [(0,(pV a0)),(6,(pV (some p62))),(7,(pV (some v78))),(8,(iV v79)),(9,(bV v80)),(44,(iV (v48.n:Int))),(45,(iV x50))] a:=u.sb rfl;refine aM (n:=141) (ds:=(aS (bV v80) 0 [] 9::aG (bV (!v80)) 0 [0] 80 (bV v80)::aS (bV (!v80)) 0 [0,1] 81::aG (undef) 0 [0,1,2] 82 (bV (!v80))::aG (undef) 0 (rn 0 4) 82 (bV (!v80))::aG (undef) 0 [0,1,2] 82 (bV (!v80))::aG (undef) 0 [0,1,2,5] 82 (bV (!v80))::aG (undef) 0 [0,1,2,5,6] 82 (bV (!v80))::aG (undef) 0 [0,1,2,5,6,7] 82 (bV (!v80))::aG (undef) 0 (rn 0 9) 82 (bV (!v80))::aT (bV true) 0 (rn 0 10) [(82,(bV (!v80))),(89,undef)]::[])) (W:=(fun _=>w118)) (by kernel_rfl) u (cY e119) (by kernel_rfl) ?_ (aR (by kernel_rfl)) (by kernel_rfl) (m:=0) (by kernel_rfl) (fun a u=>?_)
     .exact⟨oa (aC · rfl),oa (pR · rfl),oa (aC · rfl),on 82 (tn b120),on 82 (tn b120),on 82 (tn b120),on 82 (tn b120),on 82 (tn b120),on 82 (tn b120),on 82 (tn b120),oa (aF · rfl b120 rfl),aLz⟩
     have u:Has 141 [(0,(pV a0)),(6,(pV (some p62))),(7,(pV (some v78))),(8,(iV v79)),(44,(iV (v48.n:Int))),(45,(iV x50)),(90,(bV true))] a:=u.sb rfl;exact hk117 (true,w118) h _ (u.sb rfl)
    obtain⟨v121,e122,h⟩:=h;obtain⟨p123,e124,h⟩:=h;obtain⟨v125,e126,h⟩:=h;have u:Has 141 [(0,(pV a0)),(6,(pV (some p62))),(7,(pV (some v78))),(8,(iV v79)),(9,(bV v80)),(44,(iV (v48.n:Int))),(45,(iV x50))] a:=u.sb rfl;refine aM (n:=141) (ds:=(aS (bV v80) 0 [] 9::aG (bV (!v80)) 0 [0] 80 (bV v80)::aS (bV (!v80)) 0 [0,1] 81::aT (pV (some (v78.add 0))) 0 [0,1,2] [(7,(pV (some v78))),(82,(bV (!v80)))]::aT (iV v121) 0 (rn 0 4) [(83,(pV (some (v78.add 0)))),(82,(bV (!v80)))]::aT (pV a0) 0 [0,1,2] [(0,(pV a0)),(82,(bV (!v80)))]::aT (pV (some p123)) 0 [0,1,2,5] [(85,(pV a0)),(82,(bV (!v80)))]::aT (pV (some (p123.add 5))) 0 [0,1,2,5,6] [(86,(pV (some p123))),(82,(bV (!v80)))]::aT (iV v125) 0 [0,1,2,5,6,7] [(87,(pV (some (p123.add 5)))),(82,(bV (!v80)))]::aT (bV (decide (v121<=v125))) 0 (rn 0 9) [(84,(iV v121)),(88,(iV v125)),(82,(bV (!v80)))]::aT (bV (decide (v121<=v125))) 0 (rn 0 10) [(82,(bV (!v80))),(89,(bV (decide (v121<=v125))))]::[])) (W:=(fun _=>w118)) (by kernel_rfl) u (cY e119) (by kernel_rfl) ?_ (aR (by kernel_rfl)) (by kernel_rfl) (m:=0) (by kernel_rfl) (fun a u=>?_)
    .exact⟨oa (aC · rfl),oa (pR · rfl),oa (aC · rfl),oag 82 (nt b120) (aK · rfl aHa rfl rfl aGL),oc (e:=false) 0 (kg 82 (nt b120) (aJ · rfl aGN (aQ e122))),oag 82 (nt b120) (aC · rfl),oag 82 (nt b120) (aH · rfl e124),oag 82 (nt b120) (aK · rfl aGO rfl rfl aGL),oc (e:=false) 0 (kg 82 (nt b120) (aJ · rfl aGN (aQ e126))),oag 82 (nt b120) (sU · rfl rfl),oa (aL · rfl b120 rfl),aLz⟩
    have u:Has 141 [(0,(pV a0)),(6,(pV (some p62))),(7,(pV (some v78))),(8,(iV v79)),(44,(iV (v48.n:Int))),(45,(iV x50)),(90,(bV (decide (v121<=v125))))] a:=u.sb rfl;exact hk117 ((decide (v121<=v125)),w118) h _ (u.sb rfl)
   obtain⟨w84,e85,h⟩:=h;obtain⟨v86,e87,h⟩:=h;obtain⟨v88,e89,h⟩:=h;obtain⟨h,hB⟩:=h;obtain⟨v90,v91,v92,w93,e94,h⟩:=h;obtain⟨p95,w96,e97,h⟩:=h;obtain⟨w99,e100,h⟩:=h;obtain⟨e98,h⟩:=h;have hA:=h;have h:=hB;obtain⟨p101,w102,e103,h⟩:=h;obtain⟨v104,v105,v106,w107,e108,h⟩:=h;obtain⟨w110,e111,h⟩:=h;obtain⟨e109,h⟩:=h;obtain⟨e112,h⟩:=h;obtain⟨e113,h⟩:=h;have hB:=h;have u:Has 141 [(0,(pV a0)),(6,(pV (some p62))),(44,(iV (v48.n:Int))),(45,(iV x50))] a:=u.sb rfl;refine qN (n:=141) (i:=9) (j:=14) (Dp:=[9,10,11,12,13,14,15,16,17]) (ds1:=(aS (pV a0) 0 [] 0::aS (pV (some p62)) 0 [] 6::aS (pV (some p62)) 0 [1] 68::aG (pV (some (p62.add 0))) 0 [2,1] 69 (pV (some p62))::aG (iV v86) 0 [3,2,1] 70 (pV (some (p62.add 0)))::aS (pV (some p62)) 0 [] 6::aS (pV (some p62)) 0 [5] 72::aG (pV (some (p62.add 2))) 0 [6,5] 73 (pV (some p62))::aG (iV v88) 0 [7,6,5] 74 (pV (some (p62.add 2)))::aI (.tuple #[(.agg (List.toArray v90)),(iV v91),(bV v92)]) true 0 0 (rn 0 9) [(67,(pV a0)),(71,(iV v86)),(75,(iV v88))]::aI (.tuple #[(.agg (List.toArray v90)),(iV v91),(bV v92)]) false 1 2 (rn 0 10) [(76,(.tuple #[(.agg (List.toArray v90)),(iV v91),(bV v92)]))]::aI (.agg (List.toArray v90)) false 1 2 (rn 0 11) [(66,(.tuple #[(.agg (List.toArray v90)),(iV v91),(bV v92)]))]::aI (iV v91) false 1 3 (rn 0 11) [(66,(.tuple #[(.agg (List.toArray v90)),(iV v91),(bV v92)]))]::aI (bV v92) false 1 3 (rn 0 11) [(66,(.tuple #[(.agg (List.toArray v90)),(iV v91),(bV v92)]))]::aI (pV (some p95)) true 1 1 (rn 0 10) []::aI (undef) true 2 2 (rn 0 12++[14]) [(7,(pV (some p95))),(77,(.agg (List.toArray v90)))]::aS (iV v91) 3 (rn 0 13++[14,15]) 78::aS (bV v92) 3 (rn 0 17) 79::[])) (ds2:=(aI (pV a0) false 0 1 [] [(0,(pV a0))]::aI (pV (some p62)) false 0 1 [] [(6,(pV (some p62)))]::aI (pV (some p62)) false 0 1 [1] [(68,(pV (some p62)))]::aI (pV (some (p62.add 0))) false 0 1 [2,1] [(69,(pV (some p62)))]::aI (iV v86) false 0 1 [3,2,1] [(70,(pV (some (p62.add 0))))]::aI (pV (some p62)) false 0 1 [] [(6,(pV (some p62)))]::aI (pV (some p62)) false 0 1 [5] [(72,(pV (some p62)))]::aI (pV (some (p62.add 2))) false 0 1 [6,5] [(73,(pV (some p62)))]::aI (iV v88) false 0 1 [7,6,5] [(74,(pV (some (p62.add 2))))]::aI (.tuple #[(.agg (List.toArray v104)),(iV v105),(bV v106)]) true 1 1 (rn 0 9++[14]) [(67,(pV a0)),(71,(iV v86)),(75,(iV v88))]::aS (.tuple #[(.agg (List.toArray v104)),(iV v105),(bV v106)]) 2 (rn 0 10++[14]) 76::aG (.agg (List.toArray v104)) 2 (rn 0 11++[14]) 66 (.tuple #[(.agg (List.toArray v104)),(iV v105),(bV v106)])::aI (iV v105) false 2 3 (rn 0 11++[14]) [(66,(.tuple #[(.agg (List.toArray v104)),(iV v105),(bV v106)]))]::aI (bV v106) false 2 3 (rn 0 11++[14]) [(66,(.tuple #[(.agg (List.toArray v104)),(iV v105),(bV v106)]))]::aI (pV (some p101)) true 0 0 [] []::aI (undef) true 2 2 (rn 0 12++[14]) [(7,(pV (some p101))),(77,(.agg (List.toArray v104)))]::aS (iV v105) 3 (rn 0 13++[14,15]) 78::aS (bV v106) 3 (rn 0 17) 79::[])) (W1:=(fun j=>match j with | 0=>w84 | 1=>w93 | 2=>w96 | 3=>w99 | _=>w99)) (W2:=(fun j=>match j with | 0=>w84 | 1=>w102 | 2=>w107 | 3=>w110 | _=>w110)) (m1:=3) (m2:=3) (by kernel_rfl) u (cY e85) (cY e85) rfl (by kernel_rfl) (by kernel_rfl) rfl rfl (by decide) (aR (by kernel_rfl)) (aR (by kernel_rfl)) ?_ ?_ (by kernel_rfl) (by kernel_rfl) (fun a u=>?_) (fun a u=>?_)
   .exact⟨oa (aC · rfl),oa (aC · rfl),oa (lX · rfl),oa (aK · rfl aGU rfl rfl aGL),oc 0 (kd (aJ · rfl aGN (aQ e87))),oa (aC · rfl),oa (lX · rfl),oa (aK · rfl aGU rfl rfl aGL),oc 0 (kd (aJ · rfl aGN (aQ e89))),oc 0 (kd (dc3 · rfl rfl rfl Try.call108 (oH e94))),oa (aC · rfl),oa (aW · rfl rfl),oa (aW · rfl rfl),oa (aW · rfl rfl),oc 1 (kd fun {a} u=>eX aHh (by kernel_rfl) e97),oc 2 (kd (eW · rfl rfl aHe e98 e100)),oa (bD · rfl),oa (bD · rfl),aLz⟩
   .refine⟨oa (aC · rfl),oa (aC · rfl),oa (lX · rfl),oa (aK · rfl aGU rfl rfl aGL),?_,oa (aC · rfl),oa (lX · rfl),oa (aK · rfl aGU rfl rfl aGL),?_,oc 1 (kd (dc3 · rfl rfl rfl Try.call108 (oH e108))),oa (aC · rfl),oa (aW · rfl rfl),oa (aW · rfl rfl),oa (aW · rfl rfl),oc 0 (kd fun {a} u=>eX aHh (by kernel_rfl) e103),oc 2 (kd (eW · rfl rfl aHe e109 e111)),oa (bD · rfl),oa (bD · rfl),aLz⟩
    .intro j h1 h2;have h1:0<=j:=h1;have h2:j<=1:=h2;rcases(by omega:j=0\/j=1) with rfl | rfl
     .exact kd (aJ · rfl aGN (aQ e87))
     exact kd (aJ · rfl aGN (aQ e112))
    intro j h1 h2;have h1:0<=j:=h1;have h2:j<=1:=h2;rcases(by omega:j=0\/j=1) with rfl | rfl
    .exact kd (aJ · rfl aGN (aQ e89))
    exact kd (aJ · rfl aGN (aQ e113))
   .have h:=hA;have u:Has 141 [(0,(pV a0)),(6,(pV (some p62))),(7,(pV (some p95))),(8,(iV v91)),(9,(bV v92)),(44,(iV (v48.n:Int))),(45,(iV x50))] a:=u.sb rfl;exact hk83 (p95,v91,v92,w99) h _ (u.sb rfl)
   have h:=hB;have u:Has 141 [(0,(pV a0)),(6,(pV (some p62))),(7,(pV (some p101))),(8,(iV v105)),(9,(bV v106)),(44,(iV (v48.n:Int))),(45,(iV x50))] a:=u.sb rfl;exact hk83 (p101,v105,v106,w110) h _ (u.sb rfl)
  refine wp_exit<|t_x<|t_x<|?_;exact hk55 w51 h _ (u.sb rfl)
 clear h;intro hX176;rintro⟨x5,w6⟩ a wq ⟨u,hwq⟩ h;obtain rfl:w6=wq:=hwq.symm;have u:Has 141 [(14,(iV x5)),(0,(pV a0)),(13,(iV v3))] a:=u;have h:(jZ v3 a0 x5 w6).t _:=h;unfold jZ at h;refine wp_seq<|aA<|q u (dK u rfl rfl) fun a u=>aB<|t_n<|wp_seq<|?_;refine aX u rfl h (fun b12 h=>?_) (fun b12 h=>?_)
 .refine wp_skip<|t_n<|?_;refine gJ (n:=141) (ι:=World) (Lf:=fun i=>[(0,(pV a0)),(13,(iV v3)),(14,(iV x5))]) (wf:=fun i=>i) (un1 h) (fun i h a u=>?_) (fun h hk15=>?_)
  .obtain⟨w13,rfl⟩:∃ x,x=i:=⟨i,rfl⟩;have u:Has 141 [(0,(pV a0)),(13,(iV v3)),(14,(iV x5))] a:=u;refine aA<|q u (bJ u rfl rfl) fun a u=>qm u rfl fun a u=>aB<|?_;exact⟨((IntKind.wrap .i64 (x5+1)),w13),⟨u.sb rfl,rfl⟩,h⟩
  refine wp_block<|wp_seq<|aA<|qm u rfl fun a u=>qa u rfl fun a u=>aB<|t_n<|wp_seq<|aA<|qm u rfl fun a u=>qm u rfl fun a u=>?_;obtain⟨v16,v17,w18,e19,h⟩:=h;refine q u (dc2 u rfl rfl Try.call105 (sC e19)) fun a u=>qm u rfl fun a u=>q u (aW u rfl rfl) fun a u=>q u (aW u rfl rfl) fun a u=>?_;obtain⟨p20,w21,e22,h⟩:=h;refine q u (eX aHq (by kernel_rfl) e22) fun a u=>?_;obtain⟨w24,e25,h⟩:=h;obtain⟨e23,h⟩:=h;refine q u (eW u rfl rfl aGW e23 e25) fun a u=>qa u rfl fun a u=>aB<|t_n<|wp_seq<|aA<|qm u rfl fun a u=>aB<|t_n<|?_;refine aX u rfl h (fun b26 h=>?_) (fun b26 h=>?_)
  .obtain⟨w27,e28,h⟩:=h;obtain⟨p29,e30,h⟩:=h;obtain⟨v31,e32,h⟩:=h;obtain⟨c33,e34,h⟩:=h;obtain⟨s35,w36,e37,h⟩:=h;obtain⟨s38,w39,e40,h⟩:=h;obtain⟨w41,e42,h⟩:=h;obtain⟨e43,h⟩:=h;have u:Has 141 [(0,(pV a0)),(3,(pV (some p20))),(13,(iV v3)),(14,(iV x5)),(23,(bV v17))] a:=u.sb rfl;refine aM (n:=141) (ds:=(aI (pV a0) false 0 2 [] [(0,(pV a0))]::aI (pV a0) false 0 1 [] [(0,(pV a0))]::aI (pV (some p29)) false 0 1 [1] [(25,(pV a0))]::aI (pV (some (p29.add 7))) false 0 1 [1,2] [(26,(pV (some p29)))]::aI (Sl.v v31) false 0 1 [1,2,3] [(27,(pV (some (p29.add 7))))]::aG (.agg (List.toArray c33)) 0 [] 3 (pV (some p20))::aI (Sl.v s35) true 0 0 [5] [(29,(.agg (List.toArray c33)))]::aI (Sl.v s38) true 1 1 (rn 1 6) [(28,(Sl.v v31)),(30,(Sl.v s35))]::aG (pV (some p29)) 2 (rn 0 8) 24 (pV a0)::aG (pV (some (p29.add 7))) 2 (rn 0 9) 32 (pV (some p29))::aI (undef) true 2 2 (rn 0 10) [(33,(pV (some (p29.add 7)))),(31,(Sl.v s38))]::[])) (W:=(fun j=>match j with | 0=>w27 | 1=>w36 | 2=>w39 | 3=>w41 | _=>w41)) (by kernel_rfl) u (cY e28) (by kernel_rfl) ?_ (aR (by kernel_rfl)) (by kernel_rfl) (m:=3) (by kernel_rfl) (fun a u=>?_)
   .refine⟨oa (aC · rfl),oa (aC · rfl),oa (aH · rfl e30),oa (aK · rfl aGO rfl rfl aHn),?_,oc 0 (kd (gC · rfl aHx aGW e34)),oc 0 (kd (iK (vs:=[(0,(.agg (List.toArray c33)))]) (ps:=[c33]) · ⟨rfl,rfl,aLz⟩ ⟨rfl,rfl,aLz⟩ rfl aGX aGW aHq (by decide) e37)),oc 1 (kd (iF · rfl rfl e40)),oa (aH · rfl e30),oa (aK · rfl aGO rfl rfl aHn),oc 2 (kd (fO · rfl rfl aHn e42)),aLz⟩;intro j h1 h2;have h1:0<=j:=h1;have h2:j<=1:=h2;rcases(by omega:j=0\/j=1) with rfl | rfl
    .exact kd (aJ · rfl aHA (aV e32))
    exact kd (aJ · rfl aHA (aV e43))
   have u:Has 141 [(0,(pV a0)),(13,(iV v3)),(14,(iV x5))] a:=u.sb rfl;refine b_n<|?_;exact hk15 w41 h _ (u.sb rfl)
  refine wp_skip<|b_n<|?_;exact hk15 w24 h _ (u.sb rfl)
 refine wp_exit<|t_x<|t_x<|?_;exact hk10 w6 h _ (u.sb rfl)
end
end Go.Proofs.Ytejkaciimmfgcaa.D
