/- CoverInside -/
import Derived.Test.YtggheaclnklhaaaPCoverInsideA
import Derived.Test.YtggheaclnklhaaaPCoverInsideB
namespace Go.Proofs.Ytggheaclnklhaaa.D
open Go
set_option linter.unusedVariables false
set_option linter.unusedSimpArgs false
set_option maxHeartbeats 1000000
set_option maxRecDepth 100000
noncomputable section
def gJ (a0:List Value) (w:World):Option ((List Value)×World) :=
 aE (mk w 40 a0) fun p1 w2 =>
 aE (mk w2 40 ([.string ByteArray.empty,.int .i64 0,.bool false,.int .i64 0,.int .i64 0,.string ByteArray.empty,.string ByteArray.empty,.bool false,.int .u8 0,.bool false,.slice none 0 0,.slice none 0 0])) fun p4 w5 =>
 (ldS w5 (p1.add 0)).bind fun v7 =>
 (ldI .i64 w5 (p1.add 1)).bind fun v9 =>
 (ldB w5 (p1.add 2)).bind fun v11 =>
 aE (mk w5 40 ([.string ByteArray.empty,.int .i64 0,.bool false,.int .i64 0,.int .i64 0,.string ByteArray.empty,.string ByteArray.empty,.bool false,.int .u8 0,.bool false,.slice none 0 0,.slice none 0 0])) fun p13 w14 =>
 (stA w14 p13 0 ([.string v7,.int .i64 v9,.bool v11,.int .i64 0,.int .i64 0,.string ByteArray.empty,.string ByteArray.empty,.bool false,.int .u8 0,.bool false,.slice none 0 0,.slice none 0 0])).bind fun w16 =>
 ((ldI .i64 w16 (p1.add 1)).bind fun v21 =>
 if (v21==1)=true then
 ((stV w16 (p13.add 3) (.int .i64 1)).bind fun w24 =>
 some w24)
 else
 (if (v21==4)=true then
 ((stV w16 (p13.add 9) (.bool true)).bind fun w27 =>
 some w27)
 else
 (some w16))).bind fun w18 =>
 (ldA 12 w18 p13 0).bind fun c29 =>
 (stA w18 p4 0 c29).bind fun w31 =>
 (ldA 12 w31 p4 0).bind fun v33 =>
 some (v33,w31)
theorem hH {a0 w w' r0} (h:gJ a0 w=some (r0,w')):Calls Try.prog 55 #[(.agg (List.toArray a0))] w fun e w''=>e=.returned (.agg (List.toArray r0))/\w''=w':=by
 refine aG (n:=20) Try.func55 rfl Try.ntmps55 (by simp) fun a u=>?_;unfold gJ at h;refine wp_seq<|aA<|?_;have⟨p1,w2,e3,h⟩:=bs2 h;refine q u (dJ u rfl rfl e3) fun a u=>?_;have⟨p4,w5,e6,h⟩:=bs2 h;refine q u (dG yZ (by kernel_rfl) e6) fun a u=>aC<|t_n<|wp_seq<|aA<|q u (aI u rfl yG rfl rfl yN) fun a u=>?_;have⟨v7,e8,h⟩:=bs1 h;refine q u (aH u rfl yP (cG e8)) fun a u=>q u (aI u rfl yG rfl rfl yR) fun a u=>?_;have⟨v9,e10,h⟩:=bs1 h;refine q u (aH u rfl yS (aL e10)) fun a u=>q u (aI u rfl yG rfl rfl zA) fun a u=>?_;have⟨v11,e12,h⟩:=bs1 h;refine q u (aH u rfl zT (iU e12)) fun a u=>q u (gT (vs:=[(0,(.string v7)),(1,(iV v9)),(2,(bV v11))]) (pl:=#[(0,1),(1,1),(2,1),(3,1),(4,1),(5,1),(6,1),(7,1),(8,1),(9,1),(10,1),(11,1)]) (cs:=([.string v7,.int .i64 v9,.bool v11,.int .i64 0,.int .i64 0,.string ByteArray.empty,.string ByteArray.empty,.bool false,.int .u8 0,.bool false,.slice none 0 0,.slice none 0 0])) u ⟨rfl,rfl,rfl,rfl,rfl,rfl,aBP⟩ yZ yG (by intro w;kernel_rfl) (by kernel_rfl)) fun a u=>?_;have⟨p13,w14,e15,h⟩:=bs2 h;refine q u (dG yZ (by kernel_rfl) e15) fun a u=>?_;have⟨w16,e17,h⟩:=bs1 h;refine q u (eU u rfl rfl yH rfl e17) fun a u=>aC<|t_n<|?_;have⟨w18,e19,h⟩:=bs1 h;refine iS (n:=20) (L:=[(2,(pV (some p4))),(3,(pV (some p13)))]) (w':=w18) (fun a u=>?_) (fun hk20=>?_)
 .refine wp_seq<|aA<|?_;have⟨c29,e30,h⟩:=bs1 h;refine q u (bE u rfl zC yH e30) fun a u=>?_;have⟨w31,e32,h⟩:=bs1 h;refine q u (eU u rfl rfl yH ((jI e30).1) e32) fun a u=>aC<|t_n<|wp_ret<|?_;have⟨v33,e34,h⟩:=bs1 h;have y:=u;cases h;exact wI (vs:=[_]) Try.results55 y ⟨⟨_,rfl,wD zC yH e34⟩,aBP⟩ ⟨rfl,rfl⟩
 clear h;have h:=e19;refine wp_seq<|aA<|q u (aI u rfl yG rfl rfl yR) fun a u=>?_;have⟨v21,e22,h⟩:=bs1 h;refine q u (aH u rfl yS (aL e22)) fun a u=>aC<|t_n<|wp_block<|wp_seq<|aA<|q u (cA u rfl rfl) fun a u=>qa u rfl fun a u=>aC<|t_n<|?_;refine aF u rfl h (fun b23 h=>?_) (fun b23 h=>?_)
 .refine aA<|q u (aI u rfl yG rfl rfl yW) fun a u=>?_;have⟨w24,e25,h⟩:=bs1 h;refine q u (iI u rfl rfl yW e25) fun a u=>aC<|b_n<|?_;have y:=u;cases h;exact hk20 _ (y.sb rfl)
 refine wp_seq<|aA<|q u (cA u rfl rfl) fun a u=>qa u rfl fun a u=>aC<|t_n<|?_;refine aF u rfl h (fun b26 h=>?_) (fun b26 h=>?_)
 .refine aA<|q u (aI u rfl yG rfl rfl zA) fun a u=>?_;have⟨w27,e28,h⟩:=bs1 h;refine q u (iI u rfl rfl zA e28) fun a u=>aC<|b_n<|?_;have y:=u;cases h;exact hk20 _ (y.sb rfl)
 refine wp_skip<|b_n<|?_;have y:=u;cases h;exact hk20 _ (y.sb rfl)
noncomputable def iA (a0:Option Addr) (a1:Bool) (w:World):ND (World) :=
 cb2 (lb1 (dr w) fun w5 =>
 lb1 (a0) fun p7 =>
 lb1 (ldS w5 (p7.add 0)) fun v9 =>
 lb1 (ldI .i64 w5 (p7.add 1)) fun v11 =>
 qH (lb2 (dQ v9 v11 w5) fun v13 w14 =>
 lb2 (mk w14 40 ([.string ByteArray.empty,.int .i64 0,.bool false,.int .i64 0,.int .i64 0,.string ByteArray.empty,.string ByteArray.empty,.bool false,.int .u8 0,.bool false,.slice none 0 0,.slice none 0 0])) fun p16 w17 =>
 lb1 (stA w17 p16 0 v13) fun w20 =>
 nck ((v13).length=12) <|
 cO (p16,w20)) (lb2 (mk w5 40 ([.string ByteArray.empty,.int .i64 0,.bool false,.int .i64 0,.int .i64 0,.string ByteArray.empty,.string ByteArray.empty,.bool false,.int .u8 0,.bool false,.slice none 0 0,.slice none 0 0])) fun p22 w23 =>
 lb2 (dQ v9 v11 w23) fun v25 w26 =>
 lb1 (stA w26 p22 0 v25) fun w29 =>
 nck ((v25).length=12) <|
 nck (ldS w23 (p7.add 0)=some v9) <|
 nck (ldI .i64 w23 (p7.add 1)=some v11) <|
 cO (p22,w29))) fun v1 w2 =>
 lb1 (stV w2 (v1.add 2) (.bool a1)) fun w33 =>
 lb1 (kN (some v1) w33) fun w35 =>
 cbX (lb1 (ldA 12 w35 v1 0) fun c43 =>
 lb2 (dM c43 w35) fun v45 w46 =>
 if v45=true then
 (lb1 (ldA 12 w46 v1 0) fun c49 =>
 lb2 (gJ c49 w46) fun v51 w52 =>
 lb1 (stA w52 v1 0 v51) fun w55 =>
 nck ((v51).length=12) <|
 if (!a1)=true then
 (cb1 (cO w55) fun g42=>cO (.inl g42))
 else
 (cO (.inr w55)))
 else
 (cO (.inr w46))) fun (i:World)=>u1 i fun w37 =>
 lb1 (dr w37) fun w59 =>
 lb1 (a0) fun p61 =>
 lb1 (ldL w59 (p61.add 2)) fun v63 =>
 lb1 (ldA 12 w59 v1 0) fun c65 =>
 lb2 (bsl w59 40 12 [c65]) fun s67 w68 =>
 lb2 (bsl w68 22 1 [[(Sl.v s67)]]) fun s70 w71 =>
 lb2 (apS Try.prog 47 v63 s70 w71) fun s73 w74 =>
 lb1 (stV w74 (p61.add 2) (Sl.v s73)) fun w76 =>
 nck (ldL w68 (p61.add 2)=some v63) <|
 nck (ldL w71 (p61.add 2)=some v63) <|
 cO w76
theorem kT {a0 a1 w Q} (h:(iA a0 a1 w).t Q):Calls Try.prog 56 #[(.pointer a0),(.bool a1),(.func (.func 53) #[] #[])] w fun e w''=>∃ i,e=.returned (.tuple #[])/\Q i/\w''=i:=by
 refine aG (n:=37) Try.func56 rfl Try.ntmps56 (by simp) fun a u=>?_;unfold iA at h;refine wp_seq<|?_;refine gU (n:=37) (ι:=Addr×World) (Lf:=fun i=>[(6,(pV (some i.1))),(0,(pV a0)),(1,(bV a1)),(2,(.func (.func 53) #[] #[]))]) (wf:=fun i=>i.2) (un2 h) (fun i h a u=>?_) (fun h hk4=>?_)
 .obtain⟨v1,w2⟩:=i;have u:Has 37 [(6,(pV (some v1))),(0,(pV a0)),(1,(bV a1)),(2,(.func (.func 53) #[] #[]))] a:=u;refine t_n<|wp_seq<|aA<|qm u rfl fun a u=>q u (aI u rfl yG rfl rfl zA) fun a u=>?_;obtain⟨w33,e34,h⟩:=h;refine q u (iI u rfl rfl zA e34) fun a u=>aC<|t_n<|wp_seq<|aA<|qm u rfl fun a u=>?_;obtain⟨w35,e36,h⟩:=h;refine q u (fD (xs:=[_]) (vs:=[(pV (some v1))]) (cv:=[]) u rfl ⟨rfl,aBP⟩ Try.call53 (nF e36)) fun a u=>aC<|t_n<|?_;refine kL (n:=37) (ι:=World) (Lf:=fun i=>[(0,(pV a0)),(6,(pV (some v1)))]) (wf:=fun i=>i) (unX h) (fun i h a u=>?_) (fun h hk41=>?_)
  .obtain⟨w37,rfl⟩:∃ x,x=i:=⟨i,rfl⟩
   try dsimp only[Sum.elim_inl,Sum.elim_inr,u1,u2,u3,u4,u5,u6] at h
   have u:Has 37 [(0,(pV a0)),(6,(pV (some v1)))] a:=u;obtain⟨w59,e60,h⟩:=h;obtain⟨p61,e62,h⟩:=h;obtain⟨v63,e64,h⟩:=h;obtain⟨c65,e66,h⟩:=h;obtain⟨s67,w68,e69,h⟩:=h;obtain⟨s70,w71,e72,h⟩:=h;obtain⟨s73,w74,e75,h⟩:=h;obtain⟨w76,e77,h⟩:=h;obtain⟨e78,h⟩:=h;obtain⟨e79,h⟩:=h;have u:Has 37 [(0,(pV a0)),(6,(pV (some v1)))] a:=u.sb rfl;refine bC (n:=37) (ds:=(aN (pV a0) false 0 3 [] [(0,(pV a0))]::aN (pV a0) false 0 2 [] [(0,(pV a0))]::aN (pV (some p61)) false 0 2 [1] [(27,(pV a0))]::aN (pV (some (p61.add 2))) false 0 2 [1,2] [(28,(pV (some p61)))]::aN (Sl.v v63) false 0 2 [1,2,3] [(29,(pV (some (p61.add 2))))]::aQ (.agg (List.toArray c65)) 0 [] 6 (pV (some v1))::aN (Sl.v s67) true 0 0 [5] [(31,(.agg (List.toArray c65)))]::aN (Sl.v s70) true 1 1 [5,6] [(32,(Sl.v s67))]::aN (Sl.v s73) true 2 2 (rn 1 7) [(30,(Sl.v v63)),(33,(Sl.v s70))]::aQ (pV (some p61)) 3 (rn 0 9) 26 (pV a0)::aQ (pV (some (p61.add 2))) 3 (rn 0 10) 35 (pV (some p61))::aN (undef) true 3 3 (rn 0 11) [(36,(pV (some (p61.add 2)))),(34,(Sl.v s73))]::[])) (W:=(fun j=>match j with | 0=>w59 | 1=>w68 | 2=>w71 | 3=>w74 | 4=>w76 | _=>w76)) (by kernel_rfl) u (gN e60) (by kernel_rfl) ?_ (bA (by kernel_rfl)) (by kernel_rfl) (m:=4) (by kernel_rfl) (fun a u=>?_)
   .refine⟨oa (aD · rfl),oa (aD · rfl),oa (bT · rfl e62),oa (aI · rfl yM rfl rfl zE),?_,oc 0 (kd (bE · rfl zC yH e66)),oc 0 (kd (iJ (vs:=[(0,(.agg (List.toArray c65)))]) (ps:=[c65]) · ⟨rfl,rfl,aBP⟩ ⟨rfl,rfl,aBP⟩ rfl yI yH yZ (by decide) e69)),oc 1 (kd (iJ (vs:=[(0,(Sl.v s67))]) (ps:=[[(Sl.v s67)]]) · ⟨rfl,rfl,aBP⟩ ⟨rfl,rfl,aBP⟩ rfl yQ zJ zY (by decide) e72)),oc 2 (kd (lG · rfl rfl e75)),oa (bT · rfl e62),oa (aI · rfl yM rfl rfl zE),oc 3 (kd (iI · rfl rfl zE e77)),aBP⟩;intro j h1 h2;have h1:0<=j:=h1;have h2:j<=2:=h2;rcases(by omega:j=0\/j=1\/j=2) with rfl | rfl | rfl
    .exact kd (aH · rfl zK (bG e64))
    .exact kd (aH · rfl zK (bG e78))
    exact kd (aH · rfl zK (bG e79))
   have u:Has 37 [] a:=u.sb rfl;exact nP Try.results56 u ⟨w76,rfl,h,rfl⟩
  refine wp_seq<|aA<|?_;obtain⟨c43,e44,h⟩:=h;refine q u (bE u rfl zC yH e44) fun a u=>?_;obtain⟨v45,w46,e47,h⟩:=h;refine q u (dc1 u rfl Try.call41 (fJ e47)) fun a u=>aC<|t_n<|?_;refine cJ u rfl h (fun b48 h=>?_) (fun b48 h=>?_)
  .refine wp_seq<|aA<|?_;obtain⟨c49,e50,h⟩:=h;refine q u (bE u rfl zC yH e50) fun a u=>?_;obtain⟨v51,w52,e53,h⟩:=h;refine q u (dc1 u rfl Try.call55 (hH e53)) fun a u=>?_;obtain⟨w55,e56,h⟩:=h;obtain⟨e54,h⟩:=h;refine q u (eU u rfl rfl yH e54 e56) fun a u=>aC<|t_n<|wp_seq<|aA<|qm u rfl fun a u=>q u (eP u rfl) fun a u=>aC<|t_n<|?_;refine cJ u rfl h (fun b57 h=>?_) (fun b57 h=>?_)
   .refine wp_ret<|?_;have h:=unL h;refine t_r<|?_;exact pQ Try.results56 u ⟨w55,rfl,h,rfl⟩
   refine wp_skip<|?_;exact hk41 w55 h _ (u.sb rfl)
  refine wp_skip<|?_;exact hk41 w46 h _ (u.sb rfl)
 obtain⟨w5,e6,h⟩:=h;obtain⟨p7,e8,h⟩:=h;obtain⟨v9,e10,h⟩:=h;obtain⟨v11,e12,h⟩:=h;obtain⟨h,hB⟩:=h;obtain⟨v13,w14,e15,h⟩:=h;obtain⟨p16,w17,e18,h⟩:=h;obtain⟨w20,e21,h⟩:=h;obtain⟨e19,h⟩:=h;have hA:=h;have h:=hB;obtain⟨p22,w23,e24,h⟩:=h;obtain⟨v25,w26,e27,h⟩:=h;obtain⟨w29,e30,h⟩:=h;obtain⟨e28,h⟩:=h;obtain⟨e31,h⟩:=h;obtain⟨e32,h⟩:=h;have hB:=h;have u:Has 37 [(0,(pV a0)),(1,(bV a1)),(2,(.func (.func 53) #[] #[]))] a:=u.sb rfl;refine jD (n:=37) (i:=8) (j:=9) (Dp:=[8,9,10]) (ds1:=(dD (pV a0) 0 [] 0::aQ (pV (some p7)) 0 [0] 7 (pV a0)::aQ (pV (some (p7.add 0))) 0 [1,0] 8 (pV (some p7))::aQ (.string v9) 0 [2,1,0] 9 (pV (some (p7.add 0)))::dD (pV a0) 0 [] 0::aQ (pV (some p7)) 0 [4] 11 (pV a0)::aQ (pV (some (p7.add 1))) 0 [5,4] 12 (pV (some p7))::aQ (iV v11) 0 [6,5,4] 13 (pV (some (p7.add 1)))::aN (.agg (List.toArray v13)) true 0 0 (rn 0 8) [(10,(.string v9)),(14,(iV v11))]::aN (pV (some p16)) true 1 1 (rn 0 9) []::aN (undef) true 2 2 (rn 0 10) [(6,(pV (some p16))),(15,(.agg (List.toArray v13)))]::[])) (ds2:=(aN (pV a0) false 0 1 [] [(0,(pV a0))]::aN (pV (some p7)) false 0 1 [0] [(7,(pV a0))]::aN (pV (some (p7.add 0))) false 0 1 [1,0] [(8,(pV (some p7)))]::aN (.string v9) false 0 1 [2,1,0] [(9,(pV (some (p7.add 0))))]::aN (pV a0) false 0 1 [] [(0,(pV a0))]::aN (pV (some p7)) false 0 1 [4] [(11,(pV a0))]::aN (pV (some (p7.add 1))) false 0 1 [5,4] [(12,(pV (some p7)))]::aN (iV v11) false 0 1 [6,5,4] [(13,(pV (some (p7.add 1))))]::aN (.agg (List.toArray v25)) true 1 1 (rn 0 8++[9]) [(10,(.string v9)),(14,(iV v11))]::aN (pV (some p22)) true 0 0 [] []::aN (undef) true 2 2 (rn 0 10) [(6,(pV (some p22))),(15,(.agg (List.toArray v25)))]::[])) (W1:=(fun j=>match j with | 0=>w5 | 1=>w14 | 2=>w17 | 3=>w20 | _=>w20)) (W2:=(fun j=>match j with | 0=>w5 | 1=>w23 | 2=>w26 | 3=>w29 | _=>w29)) (m1:=3) (m2:=3) (by kernel_rfl) u (gN e6) (gN e6) rfl (by kernel_rfl) (by kernel_rfl) rfl rfl (by decide) (bA (by kernel_rfl)) (bA (by kernel_rfl)) ?_ ?_ (by kernel_rfl) (by kernel_rfl) (fun a u=>?_) (fun a u=>?_)
 .exact⟨oa (aD · rfl),oa (bT · rfl e8),oa (aI · rfl yM rfl rfl yN),oc 0 (kd (aH · rfl yP (cG e10))),oa (aD · rfl),oa (bT · rfl e8),oa (aI · rfl yM rfl rfl yR),oc 0 (kd (aH · rfl yS (aL e12))),oc 0 (kd (dc2 · rfl rfl Try.call78 (eM e15))),oc 1 (kd fun {a} u=>dG yZ (by kernel_rfl) e18),oc 2 (kd (eU · rfl rfl yH e19 e21)),aBP⟩
 .refine⟨oa (aD · rfl),oa (bT · rfl e8),oa (aI · rfl yM rfl rfl yN),?_,oa (aD · rfl),oa (bT · rfl e8),oa (aI · rfl yM rfl rfl yR),?_,oc 1 (kd (dc2 · rfl rfl Try.call78 (eM e27))),oc 0 (kd fun {a} u=>dG yZ (by kernel_rfl) e24),oc 2 (kd (eU · rfl rfl yH e28 e30)),aBP⟩
  .intro j h1 h2;have h1:0<=j:=h1;have h2:j<=1:=h2;rcases(by omega:j=0\/j=1) with rfl | rfl
   .exact kd (aH · rfl yP (cG e10))
   exact kd (aH · rfl yP (cG e31))
  intro j h1 h2;have h1:0<=j:=h1;have h2:j<=1:=h2;rcases(by omega:j=0\/j=1) with rfl | rfl
  .exact kd (aH · rfl yS (aL e12))
  exact kd (aH · rfl yS (aL e32))
 .have h:=hA;have u:Has 37 [(0,(pV a0)),(1,(bV a1)),(2,(.func (.func 53) #[] #[])),(6,(pV (some p16)))] a:=u.sb rfl;exact hk4 (p16,w20) h _ (u.sb rfl)
 have h:=hB;have u:Has 37 [(0,(pV a0)),(1,(bV a1)),(2,(.func (.func 53) #[] #[])),(6,(pV (some p22)))] a:=u.sb rfl;exact hk4 (p22,w29) h _ (u.sb rfl)
noncomputable def kB (a0:Option Addr) (w:World):Option (World) :=
 (a0).bind fun p1 =>
 (ldA 12 w p1 0).bind fun c3 =>
 aE (gJ c3 w) fun v5 w6 =>
 (stA w6 p1 0 v5).bind fun w9 =>
 chk ((v5).length=12) <|
 some w9
theorem nE {a0 w w'} (h:kB a0 w=some w'):Calls Try.prog 54 #[(.pointer a0)] w fun e w''=>e=.returned (.tuple #[])/\w''=w':=by
 refine aG (n:=8) Try.func54 rfl Try.ntmps54 (by simp) fun a u=>?_;unfold kB at h;refine aA<|qm u rfl fun a u=>qm u rfl fun a u=>?_;have⟨p1,e2,h⟩:=bs1 h;refine q u (bT u rfl e2) fun a u=>?_;have⟨c3,e4,h⟩:=bs1 h;refine q u (bE u rfl zC yH e4) fun a u=>?_;have⟨v5,w6,e7,h⟩:=bs2 h;refine q u (dc1 u rfl Try.call55 (hH e7)) fun a u=>q u (bT u rfl e2) fun a u=>?_;have⟨w9,e10,h⟩:=bs1 h;obtain⟨e8,h⟩:=dO h;refine q u (eU u rfl rfl yH e8 e10) fun a u=>aC<|?_;have y:=u;cases h;exact nP Try.results54 y ⟨rfl,rfl⟩
noncomputable def hT (a0:Option Addr) (a1:Bool) (w:World):ND (World) :=
 cb2 (lb1 (dr w) fun w5 =>
 lb1 (a0) fun p7 =>
 lb1 (ldS w5 (p7.add 0)) fun v9 =>
 lb1 (ldI .i64 w5 (p7.add 1)) fun v11 =>
 qH (lb2 (dQ v9 v11 w5) fun v13 w14 =>
 lb2 (mk w14 40 ([.string ByteArray.empty,.int .i64 0,.bool false,.int .i64 0,.int .i64 0,.string ByteArray.empty,.string ByteArray.empty,.bool false,.int .u8 0,.bool false,.slice none 0 0,.slice none 0 0])) fun p16 w17 =>
 lb1 (stA w17 p16 0 v13) fun w20 =>
 nck ((v13).length=12) <|
 cO (p16,w20)) (lb2 (mk w5 40 ([.string ByteArray.empty,.int .i64 0,.bool false,.int .i64 0,.int .i64 0,.string ByteArray.empty,.string ByteArray.empty,.bool false,.int .u8 0,.bool false,.slice none 0 0,.slice none 0 0])) fun p22 w23 =>
 lb2 (dQ v9 v11 w23) fun v25 w26 =>
 lb1 (stA w26 p22 0 v25) fun w29 =>
 nck ((v25).length=12) <|
 nck (ldS w23 (p7.add 0)=some v9) <|
 nck (ldI .i64 w23 (p7.add 1)=some v11) <|
 cO (p22,w29))) fun v1 w2 =>
 lb1 (stV w2 (v1.add 2) (.bool a1)) fun w33 =>
 lb1 (kB (some v1) w33) fun w35 =>
 cbX (lb1 (ldA 12 w35 v1 0) fun c43 =>
 lb2 (dM c43 w35) fun v45 w46 =>
 if v45=true then
 (lb1 (ldA 12 w46 v1 0) fun c49 =>
 lb2 (gJ c49 w46) fun v51 w52 =>
 lb1 (stA w52 v1 0 v51) fun w55 =>
 nck ((v51).length=12) <|
 if (!a1)=true then
 (cb1 (cO w55) fun g42=>cO (.inl g42))
 else
 (cO (.inr w55)))
 else
 (cO (.inr w46))) fun (i:World)=>u1 i fun w37 =>
 lb1 (dr w37) fun w59 =>
 lb1 (a0) fun p61 =>
 lb1 (ldL w59 (p61.add 2)) fun v63 =>
 lb1 (ldA 12 w59 v1 0) fun c65 =>
 lb2 (bsl w59 40 12 [c65]) fun s67 w68 =>
 lb2 (bsl w68 22 1 [[(Sl.v s67)]]) fun s70 w71 =>
 lb2 (apS Try.prog 47 v63 s70 w71) fun s73 w74 =>
 lb1 (stV w74 (p61.add 2) (Sl.v s73)) fun w76 =>
 nck (ldL w68 (p61.add 2)=some v63) <|
 nck (ldL w71 (p61.add 2)=some v63) <|
 cO w76
theorem kU {a0 a1 w Q} (h:(hT a0 a1 w).t Q):Calls Try.prog 56 #[(.pointer a0),(.bool a1),(.func (.func 54) #[] #[])] w fun e w''=>∃ i,e=.returned (.tuple #[])/\Q i/\w''=i:=by
 refine aG (n:=37) Try.func56 rfl Try.ntmps56 (by simp) fun a u=>?_;unfold hT at h;refine wp_seq<|?_;refine gU (n:=37) (ι:=Addr×World) (Lf:=fun i=>[(6,(pV (some i.1))),(0,(pV a0)),(1,(bV a1)),(2,(.func (.func 54) #[] #[]))]) (wf:=fun i=>i.2) (un2 h) (fun i h a u=>?_) (fun h hk4=>?_)
 .obtain⟨v1,w2⟩:=i;have u:Has 37 [(6,(pV (some v1))),(0,(pV a0)),(1,(bV a1)),(2,(.func (.func 54) #[] #[]))] a:=u;refine t_n<|wp_seq<|aA<|qm u rfl fun a u=>q u (aI u rfl yG rfl rfl zA) fun a u=>?_;obtain⟨w33,e34,h⟩:=h;refine q u (iI u rfl rfl zA e34) fun a u=>aC<|t_n<|wp_seq<|aA<|qm u rfl fun a u=>?_;obtain⟨w35,e36,h⟩:=h;refine q u (fD (xs:=[_]) (vs:=[(pV (some v1))]) (cv:=[]) u rfl ⟨rfl,aBP⟩ Try.call54 (nE e36)) fun a u=>aC<|t_n<|?_;refine kL (n:=37) (ι:=World) (Lf:=fun i=>[(0,(pV a0)),(6,(pV (some v1)))]) (wf:=fun i=>i) (unX h) (fun i h a u=>?_) (fun h hk41=>?_)
  .obtain⟨w37,rfl⟩:∃ x,x=i:=⟨i,rfl⟩
   try dsimp only[Sum.elim_inl,Sum.elim_inr,u1,u2,u3,u4,u5,u6] at h
   have u:Has 37 [(0,(pV a0)),(6,(pV (some v1)))] a:=u;obtain⟨w59,e60,h⟩:=h;obtain⟨p61,e62,h⟩:=h;obtain⟨v63,e64,h⟩:=h;obtain⟨c65,e66,h⟩:=h;obtain⟨s67,w68,e69,h⟩:=h;obtain⟨s70,w71,e72,h⟩:=h;obtain⟨s73,w74,e75,h⟩:=h;obtain⟨w76,e77,h⟩:=h;obtain⟨e78,h⟩:=h;obtain⟨e79,h⟩:=h;have u:Has 37 [(0,(pV a0)),(6,(pV (some v1)))] a:=u.sb rfl;refine bC (n:=37) (ds:=(aN (pV a0) false 0 3 [] [(0,(pV a0))]::aN (pV a0) false 0 2 [] [(0,(pV a0))]::aN (pV (some p61)) false 0 2 [1] [(27,(pV a0))]::aN (pV (some (p61.add 2))) false 0 2 [1,2] [(28,(pV (some p61)))]::aN (Sl.v v63) false 0 2 [1,2,3] [(29,(pV (some (p61.add 2))))]::aQ (.agg (List.toArray c65)) 0 [] 6 (pV (some v1))::aN (Sl.v s67) true 0 0 [5] [(31,(.agg (List.toArray c65)))]::aN (Sl.v s70) true 1 1 [5,6] [(32,(Sl.v s67))]::aN (Sl.v s73) true 2 2 (rn 1 7) [(30,(Sl.v v63)),(33,(Sl.v s70))]::aQ (pV (some p61)) 3 (rn 0 9) 26 (pV a0)::aQ (pV (some (p61.add 2))) 3 (rn 0 10) 35 (pV (some p61))::aN (undef) true 3 3 (rn 0 11) [(36,(pV (some (p61.add 2)))),(34,(Sl.v s73))]::[])) (W:=(fun j=>match j with | 0=>w59 | 1=>w68 | 2=>w71 | 3=>w74 | 4=>w76 | _=>w76)) (by kernel_rfl) u (gN e60) (by kernel_rfl) ?_ (bA (by kernel_rfl)) (by kernel_rfl) (m:=4) (by kernel_rfl) (fun a u=>?_)
   .refine⟨oa (aD · rfl),oa (aD · rfl),oa (bT · rfl e62),oa (aI · rfl yM rfl rfl zE),?_,oc 0 (kd (bE · rfl zC yH e66)),oc 0 (kd (iJ (vs:=[(0,(.agg (List.toArray c65)))]) (ps:=[c65]) · ⟨rfl,rfl,aBP⟩ ⟨rfl,rfl,aBP⟩ rfl yI yH yZ (by decide) e69)),oc 1 (kd (iJ (vs:=[(0,(Sl.v s67))]) (ps:=[[(Sl.v s67)]]) · ⟨rfl,rfl,aBP⟩ ⟨rfl,rfl,aBP⟩ rfl yQ zJ zY (by decide) e72)),oc 2 (kd (lG · rfl rfl e75)),oa (bT · rfl e62),oa (aI · rfl yM rfl rfl zE),oc 3 (kd (iI · rfl rfl zE e77)),aBP⟩;intro j h1 h2;have h1:0<=j:=h1;have h2:j<=2:=h2;rcases(by omega:j=0\/j=1\/j=2) with rfl | rfl | rfl
    .exact kd (aH · rfl zK (bG e64))
    .exact kd (aH · rfl zK (bG e78))
    exact kd (aH · rfl zK (bG e79))
   have u:Has 37 [] a:=u.sb rfl;exact nP Try.results56 u ⟨w76,rfl,h,rfl⟩
  refine wp_seq<|aA<|?_;obtain⟨c43,e44,h⟩:=h;refine q u (bE u rfl zC yH e44) fun a u=>?_;obtain⟨v45,w46,e47,h⟩:=h;refine q u (dc1 u rfl Try.call41 (fJ e47)) fun a u=>aC<|t_n<|?_;refine cJ u rfl h (fun b48 h=>?_) (fun b48 h=>?_)
  .refine wp_seq<|aA<|?_;obtain⟨c49,e50,h⟩:=h;refine q u (bE u rfl zC yH e50) fun a u=>?_;obtain⟨v51,w52,e53,h⟩:=h;refine q u (dc1 u rfl Try.call55 (hH e53)) fun a u=>?_;obtain⟨w55,e56,h⟩:=h;obtain⟨e54,h⟩:=h;refine q u (eU u rfl rfl yH e54 e56) fun a u=>aC<|t_n<|wp_seq<|aA<|qm u rfl fun a u=>q u (eP u rfl) fun a u=>aC<|t_n<|?_;refine cJ u rfl h (fun b57 h=>?_) (fun b57 h=>?_)
   .refine wp_ret<|?_;have h:=unL h;refine t_r<|?_;exact pQ Try.results56 u ⟨w55,rfl,h,rfl⟩
   refine wp_skip<|?_;exact hk41 w55 h _ (u.sb rfl)
  refine wp_skip<|?_;exact hk41 w46 h _ (u.sb rfl)
 obtain⟨w5,e6,h⟩:=h;obtain⟨p7,e8,h⟩:=h;obtain⟨v9,e10,h⟩:=h;obtain⟨v11,e12,h⟩:=h;obtain⟨h,hB⟩:=h;obtain⟨v13,w14,e15,h⟩:=h;obtain⟨p16,w17,e18,h⟩:=h;obtain⟨w20,e21,h⟩:=h;obtain⟨e19,h⟩:=h;have hA:=h;have h:=hB;obtain⟨p22,w23,e24,h⟩:=h;obtain⟨v25,w26,e27,h⟩:=h;obtain⟨w29,e30,h⟩:=h;obtain⟨e28,h⟩:=h;obtain⟨e31,h⟩:=h;obtain⟨e32,h⟩:=h;have hB:=h;have u:Has 37 [(0,(pV a0)),(1,(bV a1)),(2,(.func (.func 54) #[] #[]))] a:=u.sb rfl;refine jD (n:=37) (i:=8) (j:=9) (Dp:=[8,9,10]) (ds1:=(dD (pV a0) 0 [] 0::aQ (pV (some p7)) 0 [0] 7 (pV a0)::aQ (pV (some (p7.add 0))) 0 [1,0] 8 (pV (some p7))::aQ (.string v9) 0 [2,1,0] 9 (pV (some (p7.add 0)))::dD (pV a0) 0 [] 0::aQ (pV (some p7)) 0 [4] 11 (pV a0)::aQ (pV (some (p7.add 1))) 0 [5,4] 12 (pV (some p7))::aQ (iV v11) 0 [6,5,4] 13 (pV (some (p7.add 1)))::aN (.agg (List.toArray v13)) true 0 0 (rn 0 8) [(10,(.string v9)),(14,(iV v11))]::aN (pV (some p16)) true 1 1 (rn 0 9) []::aN (undef) true 2 2 (rn 0 10) [(6,(pV (some p16))),(15,(.agg (List.toArray v13)))]::[])) (ds2:=(aN (pV a0) false 0 1 [] [(0,(pV a0))]::aN (pV (some p7)) false 0 1 [0] [(7,(pV a0))]::aN (pV (some (p7.add 0))) false 0 1 [1,0] [(8,(pV (some p7)))]::aN (.string v9) false 0 1 [2,1,0] [(9,(pV (some (p7.add 0))))]::aN (pV a0) false 0 1 [] [(0,(pV a0))]::aN (pV (some p7)) false 0 1 [4] [(11,(pV a0))]::aN (pV (some (p7.add 1))) false 0 1 [5,4] [(12,(pV (some p7)))]::aN (iV v11) false 0 1 [6,5,4] [(13,(pV (some (p7.add 1))))]::aN (.agg (List.toArray v25)) true 1 1 (rn 0 8++[9]) [(10,(.string v9)),(14,(iV v11))]::aN (pV (some p22)) true 0 0 [] []::aN (undef) true 2 2 (rn 0 10) [(6,(pV (some p22))),(15,(.agg (List.toArray v25)))]::[])) (W1:=(fun j=>match j with | 0=>w5 | 1=>w14 | 2=>w17 | 3=>w20 | _=>w20)) (W2:=(fun j=>match j with | 0=>w5 | 1=>w23 | 2=>w26 | 3=>w29 | _=>w29)) (m1:=3) (m2:=3) (by kernel_rfl) u (gN e6) (gN e6) rfl (by kernel_rfl) (by kernel_rfl) rfl rfl (by decide) (bA (by kernel_rfl)) (bA (by kernel_rfl)) ?_ ?_ (by kernel_rfl) (by kernel_rfl) (fun a u=>?_) (fun a u=>?_)
 .exact⟨oa (aD · rfl),oa (bT · rfl e8),oa (aI · rfl yM rfl rfl yN),oc 0 (kd (aH · rfl yP (cG e10))),oa (aD · rfl),oa (bT · rfl e8),oa (aI · rfl yM rfl rfl yR),oc 0 (kd (aH · rfl yS (aL e12))),oc 0 (kd (dc2 · rfl rfl Try.call78 (eM e15))),oc 1 (kd fun {a} u=>dG yZ (by kernel_rfl) e18),oc 2 (kd (eU · rfl rfl yH e19 e21)),aBP⟩
 .refine⟨oa (aD · rfl),oa (bT · rfl e8),oa (aI · rfl yM rfl rfl yN),?_,oa (aD · rfl),oa (bT · rfl e8),oa (aI · rfl yM rfl rfl yR),?_,oc 1 (kd (dc2 · rfl rfl Try.call78 (eM e27))),oc 0 (kd fun {a} u=>dG yZ (by kernel_rfl) e24),oc 2 (kd (eU · rfl rfl yH e28 e30)),aBP⟩
  .intro j h1 h2;have h1:0<=j:=h1;have h2:j<=1:=h2;rcases(by omega:j=0\/j=1) with rfl | rfl
   .exact kd (aH · rfl yP (cG e10))
   exact kd (aH · rfl yP (cG e31))
  intro j h1 h2;have h1:0<=j:=h1;have h2:j<=1:=h2;rcases(by omega:j=0\/j=1) with rfl | rfl
  .exact kd (aH · rfl yS (aL e12))
  exact kd (aH · rfl yS (aL e32))
 .have h:=hA;have u:Has 37 [(0,(pV a0)),(1,(bV a1)),(2,(.func (.func 54) #[] #[])),(6,(pV (some p16)))] a:=u.sb rfl;exact hk4 (p16,w20) h _ (u.sb rfl)
 have h:=hB;have u:Has 37 [(0,(pV a0)),(1,(bV a1)),(2,(.func (.func 54) #[] #[])),(6,(pV (some p22)))] a:=u.sb rfl;exact hk4 (p22,w29) h _ (u.sb rfl)
noncomputable def eS (a0:List Value) (a1:Int) (w:World):Option (Addr×Addr×World) :=
 aE (mk w 55 a0) fun p1 w2 =>
 aE (mk w2 2 ([(.int .i64 a1)])) fun p4 w5 =>
 some (p1,p4,w5)
theorem gK {a0 a1 w w' r0_0 r0_1} (h:eS a0 a1 w=some (r0_0,r0_1,w')):Calls Try.prog 62 #[(.agg (List.toArray a0)),(.int .i64 a1)] w fun e w''=>e=.returned (.func (.func 82) #[] #[(.pointer (some r0_0)),(.pointer (some r0_1))])/\w''=w':=by
 refine aG (n:=6) Try.func62 rfl Try.ntmps62 (by simp) fun a u=>?_;unfold eS at h;refine wp_seq<|aA<|?_;have⟨p1,w2,e3,h⟩:=bs2 h;refine q u (dJ u rfl rfl e3) fun a u=>?_;have⟨p4,w5,e6,h⟩:=bs2 h;refine q u (dJ u rfl rfl e6) fun a u=>qa u rfl fun a u=>aC<|t_n<|wp_seq<|aA<|q u (kY (vs:=[(pV (some p1)),(pV (some p4))]) u ⟨rfl,rfl,aBP⟩) fun a u=>qa u rfl fun a u=>aC<|t_n<|wp_ret<|?_;have y:=u;cases h;exact aX Try.results62 y rfl ⟨rfl,rfl⟩
noncomputable def fZ (a0:Option Addr) (a1:Addr) (a2:Addr) (w:World):Option (World) :=
 (a0).bind fun p1 =>
 (stV w (p1.add 7) (.bool false)).bind fun w3 =>
 (ldS w3 (a1.add 2)).bind fun v5 =>
 (stV w3 (p1.add 6) (.string v5)).bind fun w7 =>
 ((ldI .i64 w7 a2).bind fun v12 =>
 if (v12==1)=true then
 ((ldS w7 (p1.add 6)).bind fun v15 =>
 (uQ v15 (ByteArray.mk #[0])).bind fun s17 =>
 (stV w7 (p1.add 6) (.string s17)).bind fun w19 =>
 some w19)
 else
 (some w7)).bind fun w9 =>
 (ldI .i64 w9 (p1.add 1)).bind fun v21 =>
 if (v21 !=1)=true then
 (some w9)
 else
 ((stV w9 (p1.add 6) (.string (ByteArray.mk #[]))).bind fun w24 =>
 (ldI .i64 w24 (a1.add 1)).bind fun v26 =>
 (stV w24 (p1.add 4) (.int .i64 v26)).bind fun w28 =>
 (ldI .i64 w28 a2).bind fun v30 =>
 if (v30==0)=true then
 ((ldI .i64 w28 (p1.add 4)).bind fun v33 =>
 (stV w28 (p1.add 4) (.int .i64 (IntKind.wrap .i64 (v33-1)))).bind fun w35 =>
 (ldI .i64 w35 (a1.add 1)).bind fun v37 =>
 if (v37==(-9223372036854775808))=true then
 ((stV w35 (p1.add 3) (.int .i64 1)).bind fun w40 =>
 (stV w40 (p1.add 4) (.int .i64 0)).bind fun w42 =>
 some w42)
 else
 (some w35))
 else
 (some w28))
theorem mS {a0 a1 a2 w w'} (h:fZ a0 a1 a2 w=some w'):Calls Try.prog 82 #[(.pointer a0),(.pointer (some a1)),(.pointer (some a2))] w fun e w''=>e=.returned (.tuple #[])/\w''=w':=by
 refine aG (n:=52) Try.func82 rfl Try.ntmps82 (by simp) fun a u=>?_;unfold fZ at h;refine wp_seq<|aA<|qm u rfl fun a u=>?_;have⟨p1,e2,h⟩:=bs1 h;refine q u (bT u rfl e2) fun a u=>q u (aI u rfl yG rfl rfl zA) fun a u=>?_;have⟨w3,e4,h⟩:=bs1 h;refine q u (iI u rfl rfl zA e4) fun a u=>aC<|t_n<|wp_seq<|aA<|qm u rfl fun a u=>q u (aI u rfl zD rfl rfl yN) fun a u=>?_;have⟨v5,e6,h⟩:=bs1 h;refine q u (aH u rfl yP (cG e6)) fun a u=>q u (bT u rfl e2) fun a u=>q u (aI u rfl yG rfl rfl yN) fun a u=>?_;have⟨w7,e8,h⟩:=bs1 h;refine q u (iI u rfl rfl yN e8) fun a u=>aC<|t_n<|?_;have⟨w9,e10,h⟩:=bs1 h;refine iS (n:=52) (L:=[(0,(pV a0)),(1,(pV (some a1))),(2,(pV (some a2)))]) (w':=w9) (fun a u=>?_) (fun hk11=>?_)
 .refine wp_seq<|wp_seq<|aA<|qm u rfl fun a u=>q u (bT u rfl e2) fun a u=>q u (aI u rfl yG rfl rfl yR) fun a u=>?_;have⟨v21,e22,h⟩:=bs1 h;refine q u (aH u rfl yS (aL e22)) fun a u=>q u (kE u rfl rfl) fun a u=>aC<|t_n<|?_;refine aF u rfl h (fun b23 h=>?_) (fun b23 h=>?_)
  .refine wp_ret<|t_r<|?_;have y:=u;cases h;exact pQ Try.results82 y ⟨rfl,rfl⟩
  refine wp_skip<|t_n<|wp_seq<|aA<|qm u rfl fun a u=>q u (bT u rfl e2) fun a u=>q u (aI u rfl yG rfl rfl yN) fun a u=>?_;have⟨w24,e25,h⟩:=bs1 h;refine q u (iI u rfl rfl yN e25) fun a u=>aC<|t_n<|wp_seq<|aA<|qm u rfl fun a u=>q u (aI u rfl zD rfl rfl yW) fun a u=>?_;have⟨v26,e27,h⟩:=bs1 h;refine q u (aH u rfl zG (aL e27)) fun a u=>q u (bT u rfl e2) fun a u=>q u (aI u rfl yG rfl rfl yW) fun a u=>?_;have⟨w28,e29,h⟩:=bs1 h;refine q u (iI u rfl rfl yW e29) fun a u=>aC<|t_n<|wp_seq<|aA<|?_;have⟨v30,e31,h⟩:=bs1 h;refine q u (aH u rfl zG (aL e31)) fun a u=>q u (cA u rfl rfl) fun a u=>aC<|t_n<|?_;refine aF u rfl h (fun b32 h=>?_) (fun b32 h=>?_)
  .refine wp_seq<|aA<|qm u rfl fun a u=>q u (bT u rfl e2) fun a u=>q u (aI u rfl yG rfl rfl yW) fun a u=>?_;have⟨v33,e34,h⟩:=bs1 h;refine q u (aH u rfl zG (aL e34)) fun a u=>q u (jM u rfl rfl) fun a u=>q u (bT u rfl e2) fun a u=>q u (aI u rfl yG rfl rfl yW) fun a u=>?_;have⟨w35,e36,h⟩:=bs1 h;refine q u (iI u rfl rfl yW e36) fun a u=>aC<|t_n<|wp_seq<|aA<|q u (aI u rfl zD rfl rfl yW) fun a u=>?_;have⟨v37,e38,h⟩:=bs1 h;refine q u (aH u rfl zG (aL e38)) fun a u=>q u (cA u rfl rfl) fun a u=>aC<|t_n<|?_;refine aF u rfl h (fun b39 h=>?_) (fun b39 h=>?_)
   .refine aA<|qm u rfl fun a u=>qm u rfl fun a u=>q u (bT u rfl e2) fun a u=>q u (aI u rfl yG rfl rfl yW) fun a u=>?_;have⟨w40,e41,h⟩:=bs1 h;refine q u (iI u rfl rfl yW e41) fun a u=>q u (bT u rfl e2) fun a u=>q u (aI u rfl yG rfl rfl yW) fun a u=>?_;have⟨w42,e43,h⟩:=bs1 h;refine q u (iI u rfl rfl yW e43) fun a u=>aC<|?_;have y:=u;cases h;exact nP Try.results82 y ⟨rfl,rfl⟩
   refine wp_skip<|?_;have y:=u;cases h;exact nP Try.results82 y ⟨rfl,rfl⟩
  refine wp_skip<|?_;have y:=u;cases h;exact nP Try.results82 y ⟨rfl,rfl⟩
 clear h;have h:=e10;refine wp_seq<|aA<|?_;have⟨v12,e13,h⟩:=bs1 h;refine q u (aH u rfl zG (aL e13)) fun a u=>q u (cA u rfl rfl) fun a u=>aC<|t_n<|?_;refine aF u rfl h (fun b14 h=>?_) (fun b14 h=>?_)
 .refine aA<|qm u rfl fun a u=>q u (bT u rfl e2) fun a u=>q u (aI u rfl yG rfl rfl yN) fun a u=>?_;have⟨v15,e16,h⟩:=bs1 h;refine q u (aH u rfl yP (cG e16)) fun a u=>?_;have⟨s17,e18,h⟩:=bs1 h;refine q u (sR u rfl rfl e18) fun a u=>q u (bT u rfl e2) fun a u=>q u (aI u rfl yG rfl rfl yN) fun a u=>?_;have⟨w19,e20,h⟩:=bs1 h;refine q u (iI u rfl rfl yN e20) fun a u=>aC<|?_;have y:=u;cases h;exact hk11 _ (y.sb rfl)
 refine wp_skip<|?_;have y:=u;cases h;exact hk11 _ (y.sb rfl)
noncomputable def cV (a0:Option Addr) (a1:Bool) (a2_0:Addr) (a2_1:Addr) (w:World):ND (World) :=
 cb2 (lb1 (dr w) fun w5 =>
 lb1 (a0) fun p7 =>
 lb1 (ldS w5 (p7.add 0)) fun v9 =>
 lb1 (ldI .i64 w5 (p7.add 1)) fun v11 =>
 qH (lb2 (dQ v9 v11 w5) fun v13 w14 =>
 lb2 (mk w14 40 ([.string ByteArray.empty,.int .i64 0,.bool false,.int .i64 0,.int .i64 0,.string ByteArray.empty,.string ByteArray.empty,.bool false,.int .u8 0,.bool false,.slice none 0 0,.slice none 0 0])) fun p16 w17 =>
 lb1 (stA w17 p16 0 v13) fun w20 =>
 nck ((v13).length=12) <|
 cO (p16,w20)) (lb2 (mk w5 40 ([.string ByteArray.empty,.int .i64 0,.bool false,.int .i64 0,.int .i64 0,.string ByteArray.empty,.string ByteArray.empty,.bool false,.int .u8 0,.bool false,.slice none 0 0,.slice none 0 0])) fun p22 w23 =>
 lb2 (dQ v9 v11 w23) fun v25 w26 =>
 lb1 (stA w26 p22 0 v25) fun w29 =>
 nck ((v25).length=12) <|
 nck (ldS w23 (p7.add 0)=some v9) <|
 nck (ldI .i64 w23 (p7.add 1)=some v11) <|
 cO (p22,w29))) fun v1 w2 =>
 lb1 (stV w2 (v1.add 2) (.bool a1)) fun w33 =>
 lb1 (fZ (some v1) a2_0 a2_1 w33) fun w35 =>
 cbX (lb1 (ldA 12 w35 v1 0) fun c43 =>
 lb2 (dM c43 w35) fun v45 w46 =>
 if v45=true then
 (lb1 (ldA 12 w46 v1 0) fun c49 =>
 lb2 (gJ c49 w46) fun v51 w52 =>
 lb1 (stA w52 v1 0 v51) fun w55 =>
 nck ((v51).length=12) <|
 if (!a1)=true then
 (cb1 (cO w55) fun g42=>cO (.inl g42))
 else
 (cO (.inr w55)))
 else
 (cO (.inr w46))) fun (i:World)=>u1 i fun w37 =>
 lb1 (dr w37) fun w59 =>
 lb1 (a0) fun p61 =>
 lb1 (ldL w59 (p61.add 2)) fun v63 =>
 lb1 (ldA 12 w59 v1 0) fun c65 =>
 lb2 (bsl w59 40 12 [c65]) fun s67 w68 =>
 lb2 (bsl w68 22 1 [[(Sl.v s67)]]) fun s70 w71 =>
 lb2 (apS Try.prog 47 v63 s70 w71) fun s73 w74 =>
 lb1 (stV w74 (p61.add 2) (Sl.v s73)) fun w76 =>
 nck (ldL w68 (p61.add 2)=some v63) <|
 nck (ldL w71 (p61.add 2)=some v63) <|
 cO w76
theorem dV {a0 a1 a2_0 a2_1 w Q} (h:(cV a0 a1 a2_0 a2_1 w).t Q):Calls Try.prog 56 #[(.pointer a0),(.bool a1),(.func (.func 82) #[] #[(.pointer (some a2_0)),(.pointer (some a2_1))])] w fun e w''=>∃ i,e=.returned (.tuple #[])/\Q i/\w''=i:=by
 refine aG (n:=37) Try.func56 rfl Try.ntmps56 (by simp) fun a u=>?_;unfold cV at h;refine wp_seq<|?_;refine gU (n:=37) (ι:=Addr×World) (Lf:=fun i=>[(6,(pV (some i.1))),(0,(pV a0)),(1,(bV a1)),(2,(.func (.func 82) #[] #[(pV (some a2_0)),(pV (some a2_1))]))]) (wf:=fun i=>i.2) (un2 h) (fun i h a u=>?_) (fun h hk4=>?_)
 .obtain⟨v1,w2⟩:=i;have u:Has 37 [(6,(pV (some v1))),(0,(pV a0)),(1,(bV a1)),(2,(.func (.func 82) #[] #[(pV (some a2_0)),(pV (some a2_1))]))] a:=u;refine t_n<|wp_seq<|aA<|qm u rfl fun a u=>q u (aI u rfl yG rfl rfl zA) fun a u=>?_;obtain⟨w33,e34,h⟩:=h;refine q u (iI u rfl rfl zA e34) fun a u=>aC<|t_n<|wp_seq<|aA<|qm u rfl fun a u=>?_;obtain⟨w35,e36,h⟩:=h;refine q u (fD (xs:=[_]) (vs:=[(pV (some v1))]) (cv:=[(pV (some a2_0)),(pV (some a2_1))]) u rfl ⟨rfl,aBP⟩ Try.call82 (mS e36)) fun a u=>aC<|t_n<|?_;refine kL (n:=37) (ι:=World) (Lf:=fun i=>[(0,(pV a0)),(6,(pV (some v1)))]) (wf:=fun i=>i) (unX h) (fun i h a u=>?_) (fun h hk41=>?_)
  .obtain⟨w37,rfl⟩:∃ x,x=i:=⟨i,rfl⟩
   try dsimp only[Sum.elim_inl,Sum.elim_inr,u1,u2,u3,u4,u5,u6] at h
   have u:Has 37 [(0,(pV a0)),(6,(pV (some v1)))] a:=u;obtain⟨w59,e60,h⟩:=h;obtain⟨p61,e62,h⟩:=h;obtain⟨v63,e64,h⟩:=h;obtain⟨c65,e66,h⟩:=h;obtain⟨s67,w68,e69,h⟩:=h;obtain⟨s70,w71,e72,h⟩:=h;obtain⟨s73,w74,e75,h⟩:=h;obtain⟨w76,e77,h⟩:=h;obtain⟨e78,h⟩:=h;obtain⟨e79,h⟩:=h;have u:Has 37 [(0,(pV a0)),(6,(pV (some v1)))] a:=u.sb rfl;refine bC (n:=37) (ds:=(aN (pV a0) false 0 3 [] [(0,(pV a0))]::aN (pV a0) false 0 2 [] [(0,(pV a0))]::aN (pV (some p61)) false 0 2 [1] [(27,(pV a0))]::aN (pV (some (p61.add 2))) false 0 2 [1,2] [(28,(pV (some p61)))]::aN (Sl.v v63) false 0 2 [1,2,3] [(29,(pV (some (p61.add 2))))]::aQ (.agg (List.toArray c65)) 0 [] 6 (pV (some v1))::aN (Sl.v s67) true 0 0 [5] [(31,(.agg (List.toArray c65)))]::aN (Sl.v s70) true 1 1 [5,6] [(32,(Sl.v s67))]::aN (Sl.v s73) true 2 2 (rn 1 7) [(30,(Sl.v v63)),(33,(Sl.v s70))]::aQ (pV (some p61)) 3 (rn 0 9) 26 (pV a0)::aQ (pV (some (p61.add 2))) 3 (rn 0 10) 35 (pV (some p61))::aN (undef) true 3 3 (rn 0 11) [(36,(pV (some (p61.add 2)))),(34,(Sl.v s73))]::[])) (W:=(fun j=>match j with | 0=>w59 | 1=>w68 | 2=>w71 | 3=>w74 | 4=>w76 | _=>w76)) (by kernel_rfl) u (gN e60) (by kernel_rfl) ?_ (bA (by kernel_rfl)) (by kernel_rfl) (m:=4) (by kernel_rfl) (fun a u=>?_)
   .refine⟨oa (aD · rfl),oa (aD · rfl),oa (bT · rfl e62),oa (aI · rfl yM rfl rfl zE),?_,oc 0 (kd (bE · rfl zC yH e66)),oc 0 (kd (iJ (vs:=[(0,(.agg (List.toArray c65)))]) (ps:=[c65]) · ⟨rfl,rfl,aBP⟩ ⟨rfl,rfl,aBP⟩ rfl yI yH yZ (by decide) e69)),oc 1 (kd (iJ (vs:=[(0,(Sl.v s67))]) (ps:=[[(Sl.v s67)]]) · ⟨rfl,rfl,aBP⟩ ⟨rfl,rfl,aBP⟩ rfl yQ zJ zY (by decide) e72)),oc 2 (kd (lG · rfl rfl e75)),oa (bT · rfl e62),oa (aI · rfl yM rfl rfl zE),oc 3 (kd (iI · rfl rfl zE e77)),aBP⟩;intro j h1 h2;have h1:0<=j:=h1;have h2:j<=2:=h2;rcases(by omega:j=0\/j=1\/j=2) with rfl | rfl | rfl
    .exact kd (aH · rfl zK (bG e64))
    .exact kd (aH · rfl zK (bG e78))
    exact kd (aH · rfl zK (bG e79))
   have u:Has 37 [] a:=u.sb rfl;exact nP Try.results56 u ⟨w76,rfl,h,rfl⟩
  refine wp_seq<|aA<|?_;obtain⟨c43,e44,h⟩:=h;refine q u (bE u rfl zC yH e44) fun a u=>?_;obtain⟨v45,w46,e47,h⟩:=h;refine q u (dc1 u rfl Try.call41 (fJ e47)) fun a u=>aC<|t_n<|?_;refine cJ u rfl h (fun b48 h=>?_) (fun b48 h=>?_)
  .refine wp_seq<|aA<|?_;obtain⟨c49,e50,h⟩:=h;refine q u (bE u rfl zC yH e50) fun a u=>?_;obtain⟨v51,w52,e53,h⟩:=h;refine q u (dc1 u rfl Try.call55 (hH e53)) fun a u=>?_;obtain⟨w55,e56,h⟩:=h;obtain⟨e54,h⟩:=h;refine q u (eU u rfl rfl yH e54 e56) fun a u=>aC<|t_n<|wp_seq<|aA<|qm u rfl fun a u=>q u (eP u rfl) fun a u=>aC<|t_n<|?_;refine cJ u rfl h (fun b57 h=>?_) (fun b57 h=>?_)
   .refine wp_ret<|?_;have h:=unL h;refine t_r<|?_;exact pQ Try.results56 u ⟨w55,rfl,h,rfl⟩
   refine wp_skip<|?_;exact hk41 w55 h _ (u.sb rfl)
  refine wp_skip<|?_;exact hk41 w46 h _ (u.sb rfl)
 obtain⟨w5,e6,h⟩:=h;obtain⟨p7,e8,h⟩:=h;obtain⟨v9,e10,h⟩:=h;obtain⟨v11,e12,h⟩:=h;obtain⟨h,hB⟩:=h;obtain⟨v13,w14,e15,h⟩:=h;obtain⟨p16,w17,e18,h⟩:=h;obtain⟨w20,e21,h⟩:=h;obtain⟨e19,h⟩:=h;have hA:=h;have h:=hB;obtain⟨p22,w23,e24,h⟩:=h;obtain⟨v25,w26,e27,h⟩:=h;obtain⟨w29,e30,h⟩:=h;obtain⟨e28,h⟩:=h;obtain⟨e31,h⟩:=h;obtain⟨e32,h⟩:=h;have hB:=h;have u:Has 37 [(0,(pV a0)),(1,(bV a1)),(2,(.func (.func 82) #[] #[(pV (some a2_0)),(pV (some a2_1))]))] a:=u.sb rfl;refine jD (n:=37) (i:=8) (j:=9) (Dp:=[8,9,10]) (ds1:=(dD (pV a0) 0 [] 0::aQ (pV (some p7)) 0 [0] 7 (pV a0)::aQ (pV (some (p7.add 0))) 0 [1,0] 8 (pV (some p7))::aQ (.string v9) 0 [2,1,0] 9 (pV (some (p7.add 0)))::dD (pV a0) 0 [] 0::aQ (pV (some p7)) 0 [4] 11 (pV a0)::aQ (pV (some (p7.add 1))) 0 [5,4] 12 (pV (some p7))::aQ (iV v11) 0 [6,5,4] 13 (pV (some (p7.add 1)))::aN (.agg (List.toArray v13)) true 0 0 (rn 0 8) [(10,(.string v9)),(14,(iV v11))]::aN (pV (some p16)) true 1 1 (rn 0 9) []::aN (undef) true 2 2 (rn 0 10) [(6,(pV (some p16))),(15,(.agg (List.toArray v13)))]::[])) (ds2:=(aN (pV a0) false 0 1 [] [(0,(pV a0))]::aN (pV (some p7)) false 0 1 [0] [(7,(pV a0))]::aN (pV (some (p7.add 0))) false 0 1 [1,0] [(8,(pV (some p7)))]::aN (.string v9) false 0 1 [2,1,0] [(9,(pV (some (p7.add 0))))]::aN (pV a0) false 0 1 [] [(0,(pV a0))]::aN (pV (some p7)) false 0 1 [4] [(11,(pV a0))]::aN (pV (some (p7.add 1))) false 0 1 [5,4] [(12,(pV (some p7)))]::aN (iV v11) false 0 1 [6,5,4] [(13,(pV (some (p7.add 1))))]::aN (.agg (List.toArray v25)) true 1 1 (rn 0 8++[9]) [(10,(.string v9)),(14,(iV v11))]::aN (pV (some p22)) true 0 0 [] []::aN (undef) true 2 2 (rn 0 10) [(6,(pV (some p22))),(15,(.agg (List.toArray v25)))]::[])) (W1:=(fun j=>match j with | 0=>w5 | 1=>w14 | 2=>w17 | 3=>w20 | _=>w20)) (W2:=(fun j=>match j with | 0=>w5 | 1=>w23 | 2=>w26 | 3=>w29 | _=>w29)) (m1:=3) (m2:=3) (by kernel_rfl) u (gN e6) (gN e6) rfl (by kernel_rfl) (by kernel_rfl) rfl rfl (by decide) (bA (by kernel_rfl)) (bA (by kernel_rfl)) ?_ ?_ (by kernel_rfl) (by kernel_rfl) (fun a u=>?_) (fun a u=>?_)
 .exact⟨oa (aD · rfl),oa (bT · rfl e8),oa (aI · rfl yM rfl rfl yN),oc 0 (kd (aH · rfl yP (cG e10))),oa (aD · rfl),oa (bT · rfl e8),oa (aI · rfl yM rfl rfl yR),oc 0 (kd (aH · rfl yS (aL e12))),oc 0 (kd (dc2 · rfl rfl Try.call78 (eM e15))),oc 1 (kd fun {a} u=>dG yZ (by kernel_rfl) e18),oc 2 (kd (eU · rfl rfl yH e19 e21)),aBP⟩
 .refine⟨oa (aD · rfl),oa (bT · rfl e8),oa (aI · rfl yM rfl rfl yN),?_,oa (aD · rfl),oa (bT · rfl e8),oa (aI · rfl yM rfl rfl yR),?_,oc 1 (kd (dc2 · rfl rfl Try.call78 (eM e27))),oc 0 (kd fun {a} u=>dG yZ (by kernel_rfl) e24),oc 2 (kd (eU · rfl rfl yH e28 e30)),aBP⟩
  .intro j h1 h2;have h1:0<=j:=h1;have h2:j<=1:=h2;rcases(by omega:j=0\/j=1) with rfl | rfl
   .exact kd (aH · rfl yP (cG e10))
   exact kd (aH · rfl yP (cG e31))
  intro j h1 h2;have h1:0<=j:=h1;have h2:j<=1:=h2;rcases(by omega:j=0\/j=1) with rfl | rfl
  .exact kd (aH · rfl yS (aL e12))
  exact kd (aH · rfl yS (aL e32))
 .have h:=hA;have u:Has 37 [(0,(pV a0)),(1,(bV a1)),(2,(.func (.func 82) #[] #[(pV (some a2_0)),(pV (some a2_1))])),(6,(pV (some p16)))] a:=u.sb rfl;exact hk4 (p16,w20) h _ (u.sb rfl)
 have h:=hB;have u:Has 37 [(0,(pV a0)),(1,(bV a1)),(2,(.func (.func 82) #[] #[(pV (some a2_0)),(pV (some a2_1))])),(6,(pV (some p22)))] a:=u.sb rfl;exact hk4 (p22,w29) h _ (u.sb rfl)
noncomputable def eV (a0:List Value) (a1:Int) (w:World):Option (Addr×Addr×World) :=
 aE (mk w 55 a0) fun p1 w2 =>
 aE (mk w2 2 ([(.int .i64 a1)])) fun p4 w5 =>
 some (p1,p4,w5)
theorem gO {a0 a1 w w' r0_0 r0_1} (h:eV a0 a1 w=some (r0_0,r0_1,w')):Calls Try.prog 63 #[(.agg (List.toArray a0)),(.int .i64 a1)] w fun e w''=>e=.returned (.func (.func 83) #[] #[(.pointer (some r0_0)),(.pointer (some r0_1))])/\w''=w':=by
 refine aG (n:=6) Try.func63 rfl Try.ntmps63 (by simp) fun a u=>?_;unfold eV at h;refine wp_seq<|aA<|?_;have⟨p1,w2,e3,h⟩:=bs2 h;refine q u (dJ u rfl rfl e3) fun a u=>?_;have⟨p4,w5,e6,h⟩:=bs2 h;refine q u (dJ u rfl rfl e6) fun a u=>qa u rfl fun a u=>aC<|t_n<|wp_seq<|aA<|q u (kY (vs:=[(pV (some p1)),(pV (some p4))]) u ⟨rfl,rfl,aBP⟩) fun a u=>qa u rfl fun a u=>aC<|t_n<|wp_ret<|?_;have y:=u;cases h;exact aX Try.results63 y rfl ⟨rfl,rfl⟩
noncomputable def fY (a0:Option Addr) (a1:Addr) (a2:Addr) (w:World):Option (World) :=
 (a0).bind fun p1 =>
 (ldI .i64 w (p1.add 1)).bind fun v3 =>
 if (v3==1)=true then
 ((ldI .i64 w (a1.add 1)).bind fun v6 =>
 (stV w (p1.add 3) (.int .i64 v6)).bind fun w8 =>
 (ldI .i64 w8 a2).bind fun v10 =>
 if (v10==0)=true then
 ((ldI .i64 w8 (p1.add 3)).bind fun v13 =>
 (stV w8 (p1.add 3) (.int .i64 (IntKind.wrap .i64 (v13+1)))).bind fun w15 =>
 (ldI .i64 w15 (a1.add 1)).bind fun v17 =>
 if (v17==9223372036854775807)=true then
 ((stV w15 (p1.add 3) (.int .i64 1)).bind fun w20 =>
 (stV w20 (p1.add 4) (.int .i64 0)).bind fun w22 =>
 some w22)
 else
 (some w15))
 else
 (some w8))
 else
 ((ldS w (a1.add 2)).bind fun v24 =>
 (stV w (p1.add 5) (.string v24)).bind fun w26 =>
 (ldI .i64 w26 a2).bind fun v28 =>
 if (v28==0)=true then
 ((ldS w26 (p1.add 5)).bind fun v31 =>
 (uQ v31 (ByteArray.mk #[0])).bind fun s33 =>
 (stV w26 (p1.add 5) (.string s33)).bind fun w35 =>
 some w35)
 else
 (some w26))
theorem mV {a0 a1 a2 w w'} (h:fY a0 a1 a2 w=some w'):Calls Try.prog 83 #[(.pointer a0),(.pointer (some a1)),(.pointer (some a2))] w fun e w''=>e=.returned (.tuple #[])/\w''=w':=by
 refine aG (n:=46) Try.func83 rfl Try.ntmps83 (by simp) fun a u=>?_;unfold fY at h;refine wp_seq<|wp_seq<|aA<|qm u rfl fun a u=>?_;have⟨p1,e2,h⟩:=bs1 h;refine q u (bT u rfl e2) fun a u=>q u (aI u rfl yG rfl rfl yR) fun a u=>?_;have⟨v3,e4,h⟩:=bs1 h;refine q u (aH u rfl yS (aL e4)) fun a u=>q u (cA u rfl rfl) fun a u=>aC<|t_n<|?_;refine aF u rfl h (fun b5 h=>?_) (fun b5 h=>?_)
 .refine wp_seq<|aA<|qm u rfl fun a u=>q u (aI u rfl zD rfl rfl yW) fun a u=>?_;have⟨v6,e7,h⟩:=bs1 h;refine q u (aH u rfl zG (aL e7)) fun a u=>q u (bT u rfl e2) fun a u=>q u (aI u rfl yG rfl rfl yW) fun a u=>?_;have⟨w8,e9,h⟩:=bs1 h;refine q u (iI u rfl rfl yW e9) fun a u=>aC<|t_n<|wp_seq<|wp_seq<|aA<|?_;have⟨v10,e11,h⟩:=bs1 h;refine q u (aH u rfl zG (aL e11)) fun a u=>q u (cA u rfl rfl) fun a u=>aC<|t_n<|?_;refine aF u rfl h (fun b12 h=>?_) (fun b12 h=>?_)
  .refine wp_seq<|aA<|qm u rfl fun a u=>q u (bT u rfl e2) fun a u=>q u (aI u rfl yG rfl rfl yW) fun a u=>?_;have⟨v13,e14,h⟩:=bs1 h;refine q u (aH u rfl zG (aL e14)) fun a u=>q u (dP u rfl rfl) fun a u=>q u (bT u rfl e2) fun a u=>q u (aI u rfl yG rfl rfl yW) fun a u=>?_;have⟨w15,e16,h⟩:=bs1 h;refine q u (iI u rfl rfl yW e16) fun a u=>aC<|t_n<|wp_seq<|aA<|q u (aI u rfl zD rfl rfl yW) fun a u=>?_;have⟨v17,e18,h⟩:=bs1 h;refine q u (aH u rfl zG (aL e18)) fun a u=>q u (cA u rfl rfl) fun a u=>aC<|t_n<|?_;refine aF u rfl h (fun b19 h=>?_) (fun b19 h=>?_)
   .refine aA<|qm u rfl fun a u=>qm u rfl fun a u=>q u (bT u rfl e2) fun a u=>q u (aI u rfl yG rfl rfl yW) fun a u=>?_;have⟨w20,e21,h⟩:=bs1 h;refine q u (iI u rfl rfl yW e21) fun a u=>q u (bT u rfl e2) fun a u=>q u (aI u rfl yG rfl rfl yW) fun a u=>?_;have⟨w22,e23,h⟩:=bs1 h;refine q u (iI u rfl rfl yW e23) fun a u=>aC<|t_n<|wp_ret<|t_r<|?_;have y:=u;cases h;exact pQ Try.results83 y ⟨rfl,rfl⟩
   refine wp_skip<|t_n<|wp_ret<|t_r<|?_;have y:=u;cases h;exact pQ Try.results83 y ⟨rfl,rfl⟩
  refine wp_skip<|t_n<|wp_ret<|t_r<|?_;have y:=u;cases h;exact pQ Try.results83 y ⟨rfl,rfl⟩
 refine wp_skip<|t_n<|wp_seq<|aA<|qm u rfl fun a u=>q u (aI u rfl zD rfl rfl yN) fun a u=>?_;have⟨v24,e25,h⟩:=bs1 h;refine q u (aH u rfl yP (cG e25)) fun a u=>q u (bT u rfl e2) fun a u=>q u (aI u rfl yG rfl rfl yN) fun a u=>?_;have⟨w26,e27,h⟩:=bs1 h;refine q u (iI u rfl rfl yN e27) fun a u=>aC<|t_n<|wp_seq<|aA<|?_;have⟨v28,e29,h⟩:=bs1 h;refine q u (aH u rfl zG (aL e29)) fun a u=>q u (cA u rfl rfl) fun a u=>aC<|t_n<|?_;refine aF u rfl h (fun b30 h=>?_) (fun b30 h=>?_)
 .refine aA<|qm u rfl fun a u=>q u (bT u rfl e2) fun a u=>q u (aI u rfl yG rfl rfl yN) fun a u=>?_;have⟨v31,e32,h⟩:=bs1 h;refine q u (aH u rfl yP (cG e32)) fun a u=>?_;have⟨s33,e34,h⟩:=bs1 h;refine q u (sR u rfl rfl e34) fun a u=>q u (bT u rfl e2) fun a u=>q u (aI u rfl yG rfl rfl yN) fun a u=>?_;have⟨w35,e36,h⟩:=bs1 h;refine q u (iI u rfl rfl yN e36) fun a u=>aC<|?_;have y:=u;cases h;exact nP Try.results83 y ⟨rfl,rfl⟩
 refine wp_skip<|?_;have y:=u;cases h;exact nP Try.results83 y ⟨rfl,rfl⟩
noncomputable def cU (a0:Option Addr) (a1:Bool) (a2_0:Addr) (a2_1:Addr) (w:World):ND (World) :=
 cb2 (lb1 (dr w) fun w5 =>
 lb1 (a0) fun p7 =>
 lb1 (ldS w5 (p7.add 0)) fun v9 =>
 lb1 (ldI .i64 w5 (p7.add 1)) fun v11 =>
 qH (lb2 (dQ v9 v11 w5) fun v13 w14 =>
 lb2 (mk w14 40 ([.string ByteArray.empty,.int .i64 0,.bool false,.int .i64 0,.int .i64 0,.string ByteArray.empty,.string ByteArray.empty,.bool false,.int .u8 0,.bool false,.slice none 0 0,.slice none 0 0])) fun p16 w17 =>
 lb1 (stA w17 p16 0 v13) fun w20 =>
 nck ((v13).length=12) <|
 cO (p16,w20)) (lb2 (mk w5 40 ([.string ByteArray.empty,.int .i64 0,.bool false,.int .i64 0,.int .i64 0,.string ByteArray.empty,.string ByteArray.empty,.bool false,.int .u8 0,.bool false,.slice none 0 0,.slice none 0 0])) fun p22 w23 =>
 lb2 (dQ v9 v11 w23) fun v25 w26 =>
 lb1 (stA w26 p22 0 v25) fun w29 =>
 nck ((v25).length=12) <|
 nck (ldS w23 (p7.add 0)=some v9) <|
 nck (ldI .i64 w23 (p7.add 1)=some v11) <|
 cO (p22,w29))) fun v1 w2 =>
 lb1 (stV w2 (v1.add 2) (.bool a1)) fun w33 =>
 lb1 (fY (some v1) a2_0 a2_1 w33) fun w35 =>
 cbX (lb1 (ldA 12 w35 v1 0) fun c43 =>
 lb2 (dM c43 w35) fun v45 w46 =>
 if v45=true then
 (lb1 (ldA 12 w46 v1 0) fun c49 =>
 lb2 (gJ c49 w46) fun v51 w52 =>
 lb1 (stA w52 v1 0 v51) fun w55 =>
 nck ((v51).length=12) <|
 if (!a1)=true then
 (cb1 (cO w55) fun g42=>cO (.inl g42))
 else
 (cO (.inr w55)))
 else
 (cO (.inr w46))) fun (i:World)=>u1 i fun w37 =>
 lb1 (dr w37) fun w59 =>
 lb1 (a0) fun p61 =>
 lb1 (ldL w59 (p61.add 2)) fun v63 =>
 lb1 (ldA 12 w59 v1 0) fun c65 =>
 lb2 (bsl w59 40 12 [c65]) fun s67 w68 =>
 lb2 (bsl w68 22 1 [[(Sl.v s67)]]) fun s70 w71 =>
 lb2 (apS Try.prog 47 v63 s70 w71) fun s73 w74 =>
 lb1 (stV w74 (p61.add 2) (Sl.v s73)) fun w76 =>
 nck (ldL w68 (p61.add 2)=some v63) <|
 nck (ldL w71 (p61.add 2)=some v63) <|
 cO w76
theorem dU {a0 a1 a2_0 a2_1 w Q} (h:(cU a0 a1 a2_0 a2_1 w).t Q):Calls Try.prog 56 #[(.pointer a0),(.bool a1),(.func (.func 83) #[] #[(.pointer (some a2_0)),(.pointer (some a2_1))])] w fun e w''=>∃ i,e=.returned (.tuple #[])/\Q i/\w''=i:=by
 refine aG (n:=37) Try.func56 rfl Try.ntmps56 (by simp) fun a u=>?_;unfold cU at h;refine wp_seq<|?_;refine gU (n:=37) (ι:=Addr×World) (Lf:=fun i=>[(6,(pV (some i.1))),(0,(pV a0)),(1,(bV a1)),(2,(.func (.func 83) #[] #[(pV (some a2_0)),(pV (some a2_1))]))]) (wf:=fun i=>i.2) (un2 h) (fun i h a u=>?_) (fun h hk4=>?_)
 .obtain⟨v1,w2⟩:=i;have u:Has 37 [(6,(pV (some v1))),(0,(pV a0)),(1,(bV a1)),(2,(.func (.func 83) #[] #[(pV (some a2_0)),(pV (some a2_1))]))] a:=u;refine t_n<|wp_seq<|aA<|qm u rfl fun a u=>q u (aI u rfl yG rfl rfl zA) fun a u=>?_;obtain⟨w33,e34,h⟩:=h;refine q u (iI u rfl rfl zA e34) fun a u=>aC<|t_n<|wp_seq<|aA<|qm u rfl fun a u=>?_;obtain⟨w35,e36,h⟩:=h;refine q u (fD (xs:=[_]) (vs:=[(pV (some v1))]) (cv:=[(pV (some a2_0)),(pV (some a2_1))]) u rfl ⟨rfl,aBP⟩ Try.call83 (mV e36)) fun a u=>aC<|t_n<|?_;refine kL (n:=37) (ι:=World) (Lf:=fun i=>[(0,(pV a0)),(6,(pV (some v1)))]) (wf:=fun i=>i) (unX h) (fun i h a u=>?_) (fun h hk41=>?_)
  .obtain⟨w37,rfl⟩:∃ x,x=i:=⟨i,rfl⟩
   try dsimp only[Sum.elim_inl,Sum.elim_inr,u1,u2,u3,u4,u5,u6] at h
   have u:Has 37 [(0,(pV a0)),(6,(pV (some v1)))] a:=u;obtain⟨w59,e60,h⟩:=h;obtain⟨p61,e62,h⟩:=h;obtain⟨v63,e64,h⟩:=h;obtain⟨c65,e66,h⟩:=h;obtain⟨s67,w68,e69,h⟩:=h;obtain⟨s70,w71,e72,h⟩:=h;obtain⟨s73,w74,e75,h⟩:=h;obtain⟨w76,e77,h⟩:=h;obtain⟨e78,h⟩:=h;obtain⟨e79,h⟩:=h;have u:Has 37 [(0,(pV a0)),(6,(pV (some v1)))] a:=u.sb rfl;refine bC (n:=37) (ds:=(aN (pV a0) false 0 3 [] [(0,(pV a0))]::aN (pV a0) false 0 2 [] [(0,(pV a0))]::aN (pV (some p61)) false 0 2 [1] [(27,(pV a0))]::aN (pV (some (p61.add 2))) false 0 2 [1,2] [(28,(pV (some p61)))]::aN (Sl.v v63) false 0 2 [1,2,3] [(29,(pV (some (p61.add 2))))]::aQ (.agg (List.toArray c65)) 0 [] 6 (pV (some v1))::aN (Sl.v s67) true 0 0 [5] [(31,(.agg (List.toArray c65)))]::aN (Sl.v s70) true 1 1 [5,6] [(32,(Sl.v s67))]::aN (Sl.v s73) true 2 2 (rn 1 7) [(30,(Sl.v v63)),(33,(Sl.v s70))]::aQ (pV (some p61)) 3 (rn 0 9) 26 (pV a0)::aQ (pV (some (p61.add 2))) 3 (rn 0 10) 35 (pV (some p61))::aN (undef) true 3 3 (rn 0 11) [(36,(pV (some (p61.add 2)))),(34,(Sl.v s73))]::[])) (W:=(fun j=>match j with | 0=>w59 | 1=>w68 | 2=>w71 | 3=>w74 | 4=>w76 | _=>w76)) (by kernel_rfl) u (gN e60) (by kernel_rfl) ?_ (bA (by kernel_rfl)) (by kernel_rfl) (m:=4) (by kernel_rfl) (fun a u=>?_)
   .refine⟨oa (aD · rfl),oa (aD · rfl),oa (bT · rfl e62),oa (aI · rfl yM rfl rfl zE),?_,oc 0 (kd (bE · rfl zC yH e66)),oc 0 (kd (iJ (vs:=[(0,(.agg (List.toArray c65)))]) (ps:=[c65]) · ⟨rfl,rfl,aBP⟩ ⟨rfl,rfl,aBP⟩ rfl yI yH yZ (by decide) e69)),oc 1 (kd (iJ (vs:=[(0,(Sl.v s67))]) (ps:=[[(Sl.v s67)]]) · ⟨rfl,rfl,aBP⟩ ⟨rfl,rfl,aBP⟩ rfl yQ zJ zY (by decide) e72)),oc 2 (kd (lG · rfl rfl e75)),oa (bT · rfl e62),oa (aI · rfl yM rfl rfl zE),oc 3 (kd (iI · rfl rfl zE e77)),aBP⟩;intro j h1 h2;have h1:0<=j:=h1;have h2:j<=2:=h2;rcases(by omega:j=0\/j=1\/j=2) with rfl | rfl | rfl
    .exact kd (aH · rfl zK (bG e64))
    .exact kd (aH · rfl zK (bG e78))
    exact kd (aH · rfl zK (bG e79))
   have u:Has 37 [] a:=u.sb rfl;exact nP Try.results56 u ⟨w76,rfl,h,rfl⟩
  refine wp_seq<|aA<|?_;obtain⟨c43,e44,h⟩:=h;refine q u (bE u rfl zC yH e44) fun a u=>?_;obtain⟨v45,w46,e47,h⟩:=h;refine q u (dc1 u rfl Try.call41 (fJ e47)) fun a u=>aC<|t_n<|?_;refine cJ u rfl h (fun b48 h=>?_) (fun b48 h=>?_)
  .refine wp_seq<|aA<|?_;obtain⟨c49,e50,h⟩:=h;refine q u (bE u rfl zC yH e50) fun a u=>?_;obtain⟨v51,w52,e53,h⟩:=h;refine q u (dc1 u rfl Try.call55 (hH e53)) fun a u=>?_;obtain⟨w55,e56,h⟩:=h;obtain⟨e54,h⟩:=h;refine q u (eU u rfl rfl yH e54 e56) fun a u=>aC<|t_n<|wp_seq<|aA<|qm u rfl fun a u=>q u (eP u rfl) fun a u=>aC<|t_n<|?_;refine cJ u rfl h (fun b57 h=>?_) (fun b57 h=>?_)
   .refine wp_ret<|?_;have h:=unL h;refine t_r<|?_;exact pQ Try.results56 u ⟨w55,rfl,h,rfl⟩
   refine wp_skip<|?_;exact hk41 w55 h _ (u.sb rfl)
  refine wp_skip<|?_;exact hk41 w46 h _ (u.sb rfl)
 obtain⟨w5,e6,h⟩:=h;obtain⟨p7,e8,h⟩:=h;obtain⟨v9,e10,h⟩:=h;obtain⟨v11,e12,h⟩:=h;obtain⟨h,hB⟩:=h;obtain⟨v13,w14,e15,h⟩:=h;obtain⟨p16,w17,e18,h⟩:=h;obtain⟨w20,e21,h⟩:=h;obtain⟨e19,h⟩:=h;have hA:=h;have h:=hB;obtain⟨p22,w23,e24,h⟩:=h;obtain⟨v25,w26,e27,h⟩:=h;obtain⟨w29,e30,h⟩:=h;obtain⟨e28,h⟩:=h;obtain⟨e31,h⟩:=h;obtain⟨e32,h⟩:=h;have hB:=h;have u:Has 37 [(0,(pV a0)),(1,(bV a1)),(2,(.func (.func 83) #[] #[(pV (some a2_0)),(pV (some a2_1))]))] a:=u.sb rfl;refine jD (n:=37) (i:=8) (j:=9) (Dp:=[8,9,10]) (ds1:=(dD (pV a0) 0 [] 0::aQ (pV (some p7)) 0 [0] 7 (pV a0)::aQ (pV (some (p7.add 0))) 0 [1,0] 8 (pV (some p7))::aQ (.string v9) 0 [2,1,0] 9 (pV (some (p7.add 0)))::dD (pV a0) 0 [] 0::aQ (pV (some p7)) 0 [4] 11 (pV a0)::aQ (pV (some (p7.add 1))) 0 [5,4] 12 (pV (some p7))::aQ (iV v11) 0 [6,5,4] 13 (pV (some (p7.add 1)))::aN (.agg (List.toArray v13)) true 0 0 (rn 0 8) [(10,(.string v9)),(14,(iV v11))]::aN (pV (some p16)) true 1 1 (rn 0 9) []::aN (undef) true 2 2 (rn 0 10) [(6,(pV (some p16))),(15,(.agg (List.toArray v13)))]::[])) (ds2:=(aN (pV a0) false 0 1 [] [(0,(pV a0))]::aN (pV (some p7)) false 0 1 [0] [(7,(pV a0))]::aN (pV (some (p7.add 0))) false 0 1 [1,0] [(8,(pV (some p7)))]::aN (.string v9) false 0 1 [2,1,0] [(9,(pV (some (p7.add 0))))]::aN (pV a0) false 0 1 [] [(0,(pV a0))]::aN (pV (some p7)) false 0 1 [4] [(11,(pV a0))]::aN (pV (some (p7.add 1))) false 0 1 [5,4] [(12,(pV (some p7)))]::aN (iV v11) false 0 1 [6,5,4] [(13,(pV (some (p7.add 1))))]::aN (.agg (List.toArray v25)) true 1 1 (rn 0 8++[9]) [(10,(.string v9)),(14,(iV v11))]::aN (pV (some p22)) true 0 0 [] []::aN (undef) true 2 2 (rn 0 10) [(6,(pV (some p22))),(15,(.agg (List.toArray v25)))]::[])) (W1:=(fun j=>match j with | 0=>w5 | 1=>w14 | 2=>w17 | 3=>w20 | _=>w20)) (W2:=(fun j=>match j with | 0=>w5 | 1=>w23 | 2=>w26 | 3=>w29 | _=>w29)) (m1:=3) (m2:=3) (by kernel_rfl) u (gN e6) (gN e6) rfl (by kernel_rfl) (by kernel_rfl) rfl rfl (by decide) (bA (by kernel_rfl)) (bA (by kernel_rfl)) ?_ ?_ (by kernel_rfl) (by kernel_rfl) (fun a u=>?_) (fun a u=>?_)
 .exact⟨oa (aD · rfl),oa (bT · rfl e8),oa (aI · rfl yM rfl rfl yN),oc 0 (kd (aH · rfl yP (cG e10))),oa (aD · rfl),oa (bT · rfl e8),oa (aI · rfl yM rfl rfl yR),oc 0 (kd (aH · rfl yS (aL e12))),oc 0 (kd (dc2 · rfl rfl Try.call78 (eM e15))),oc 1 (kd fun {a} u=>dG yZ (by kernel_rfl) e18),oc 2 (kd (eU · rfl rfl yH e19 e21)),aBP⟩
 .refine⟨oa (aD · rfl),oa (bT · rfl e8),oa (aI · rfl yM rfl rfl yN),?_,oa (aD · rfl),oa (bT · rfl e8),oa (aI · rfl yM rfl rfl yR),?_,oc 1 (kd (dc2 · rfl rfl Try.call78 (eM e27))),oc 0 (kd fun {a} u=>dG yZ (by kernel_rfl) e24),oc 2 (kd (eU · rfl rfl yH e28 e30)),aBP⟩
  .intro j h1 h2;have h1:0<=j:=h1;have h2:j<=1:=h2;rcases(by omega:j=0\/j=1) with rfl | rfl
   .exact kd (aH · rfl yP (cG e10))
   exact kd (aH · rfl yP (cG e31))
  intro j h1 h2;have h1:0<=j:=h1;have h2:j<=1:=h2;rcases(by omega:j=0\/j=1) with rfl | rfl
  .exact kd (aH · rfl yS (aL e12))
  exact kd (aH · rfl yS (aL e32))
 .have h:=hA;have u:Has 37 [(0,(pV a0)),(1,(bV a1)),(2,(.func (.func 83) #[] #[(pV (some a2_0)),(pV (some a2_1))])),(6,(pV (some p16)))] a:=u.sb rfl;exact hk4 (p16,w20) h _ (u.sb rfl)
 have h:=hB;have u:Has 37 [(0,(pV a0)),(1,(bV a1)),(2,(.func (.func 83) #[] #[(pV (some a2_0)),(pV (some a2_1))])),(6,(pV (some p22)))] a:=u.sb rfl;exact hk4 (p22,w29) h _ (u.sb rfl)
noncomputable def jH (a0:List Value) (a1:Int) (w:World):ND ((List Value)×World) :=
 lb2 (mk w 57 a0) fun p1 w2 =>
 lb2 (mk w2 70 ([.slice none 0 0,.slice none 0 0])) fun p4 w5 =>
 cb3 (lb1 (dr w5) fun w12 =>
 lb1 (ldS w12 (p1.add 1)) fun v14 =>
 lb1 (ldS w12 (p1.add 1)) fun v16 =>
 qH (lb2 (mk w12 83 ([.string v14,.int .i64 a1,.slice none 0 0])) fun p18 w19 =>
 lb2 (mk w19 83 ([.string v16,.int .i64 a1,.slice none 0 0])) fun p21 w22 =>
 nck (ldS w19 (p1.add 1)=some v16) <|
 cO (p18,p21,w22)) (lb2 (mk w12 83 ([.string v16,.int .i64 a1,.slice none 0 0])) fun p25 w26 =>
 lb2 (mk w26 83 ([.string v14,.int .i64 a1,.slice none 0 0])) fun p28 w29 =>
 nck (ldS w26 (p1.add 1)=some v14) <|
 cO (p28,p25,w29))) fun v7 v8 w9 =>
 lb1 (ldA 5 w9 (p1.add 3) 0) fun c32 =>
 lb2 (mk w9 55 ([.int .i64 0,.int .i64 0,.string ByteArray.empty,.bool false,.complex .f64 0 0])) fun p34 w35 =>
 lb1 (stA w35 p34 0 c32) fun w37 =>
 cb1 (lb1 (ldI .i64 w37 (p1.add 2)) fun v42 =>
 if (v42==1)=true then
 (cb1 (iA (some v7) false w37) fun w45 =>
 cb1 (hT (some v8) true w45) fun w47 =>
 cO w47)
 else
 (if (a1==3)=true then
 (cb2 (lb1 (ldI .i64 w37 (p1.add 2)) fun v54 =>
 if (v54==2)=true then
 (cO (true,w37))
 else
 (lb1 (ldB w37 (p34.add 3)) fun v57 =>
 lb1 (ldI .i64 w37 (p1.add 2)) fun v59 =>
 cO ((v57==(v59==3)),w37))) fun v50 w51 =>
 nX)
 else
 (if (a1==4)=true then
 (cb1 (lb1 (ldI .i64 w37 (p1.add 2)) fun v65 =>
 if (v65==4)=true then
 (cO w37)
 else
 (cO w37)) fun w62 =>
 nX)
 else
 (lb1 (ldI .i64 w37 (p1.add 2)) fun v68 =>
 if (v68==3)=true then
 nX
 else
 (lb1 (ldI .i64 w37 (p1.add 2)) fun v71 =>
 if (v71==4)=true then
 (lb1 (ldA 5 w37 p34 0) fun c74 =>
 lb3 (eS c74 0 w37) fun v76 v77 w78 =>
 cb1 (cV (some v7) false v76 v77 w78) fun w80 =>
 lb1 (ldA 5 w80 p34 0) fun c82 =>
 lb3 (eV c82 0 w80) fun v84 v85 w86 =>
 cb1 (cU (some v7) false v84 v85 w86) fun w88 =>
 nX)
 else
 (lb1 (ldI .i64 w37 (p1.add 2)) fun v90 =>
 if (v90==5)=true then
 (lb1 (ldA 5 w37 p34 0) fun c93 =>
 lb3 (eS c93 0 w37) fun v95 v96 w97 =>
 cb1 (cV (some v7) false v95 v96 w97) fun w99 =>
 lb1 (ldA 5 w99 p34 0) fun c101 =>
 lb3 (eV c101 1 w99) fun v103 v104 w105 =>
 cb1 (cU (some v8) true v103 v104 w105) fun w107 =>
 cO w107)
 else
 (lb1 (ldI .i64 w37 (p1.add 2)) fun v109 =>
 if (v109==6)=true then
 (lb1 (ldA 5 w37 p34 0) fun c112 =>
 lb3 (eS c112 1 w37) fun v114 v115 w116 =>
 cb1 (cV (some v7) false v114 v115 w116) fun w118 =>
 lb1 (ldA 5 w118 p34 0) fun c120 =>
 lb3 (eV c120 0 w118) fun v122 v123 w124 =>
 cb1 (cU (some v8) true v122 v123 w124) fun w126 =>
 cO w126)
 else
 (lb1 (ldI .i64 w37 (p1.add 2)) fun v128 =>
 if (v128==7)=true then
 (lb1 (ldA 5 w37 p34 0) fun c131 =>
 lb3 (eV c131 0 w37) fun v133 v134 w135 =>
 cb1 (cU (some v7) false v133 v134 w135) fun w137 =>
 lb1 (ldA 5 w137 p34 0) fun c139 =>
 lb3 (eS c139 1 w137) fun v141 v142 w143 =>
 cb1 (cV (some v8) true v141 v142 w143) fun w145 =>
 cO w145)
 else
 (lb1 (ldI .i64 w37 (p1.add 2)) fun v147 =>
 if (v147==8)=true then
 (lb1 (ldA 5 w37 p34 0) fun c150 =>
 lb3 (eV c150 1 w37) fun v152 v153 w154 =>
 cb1 (cU (some v7) false v152 v153 w154) fun w156 =>
 lb1 (ldA 5 w156 p34 0) fun c158 =>
 lb3 (eS c158 0 w156) fun v160 v161 w162 =>
 cb1 (cV (some v8) true v160 v161 w162) fun w164 =>
 cO w164)
 else
 nX))))))))) fun w39 =>
 lb1 (dr w39) fun w166 =>
 lb1 (ldL w166 (v7.add 2)) fun v168 =>
 lb1 (ldL w166 (v8.add 2)) fun v170 =>
 lb1 (stA w166 p4 0 ([Sl.v v168,Sl.v v170])) fun w172 =>
 lb1 (ldA 2 w172 p4 0) fun v174 =>
 cO (v174,w172)
theorem oG {a0 a1 w Q} (h:(jH a0 a1 w).t Q):Calls Try.prog 35 #[(.agg (List.toArray a0)),(.int .i64 a1)] w fun e w''=>∃ i,e=.returned (.agg (List.toArray i.1))/\Q i/\w''=i.2:=by
 refine aG (n:=182) Try.func35 rfl Try.ntmps35 (by simp) fun a u=>?_;unfold jH at h;refine wp_seq<|aA<|?_;obtain⟨p1,w2,e3,h⟩:=h;refine q u (dJ u rfl rfl e3) fun a u=>?_;obtain⟨p4,w5,e6,h⟩:=h;refine q u (dG zU (by kernel_rfl) e6) fun a u=>aC<|t_n<|wp_seq<|?_;refine gU (n:=182) (ι:=Addr×Addr×World) (Lf:=fun i=>[(5,(pV (some i.1))),(6,(pV (some i.2.1))),(1,(iV a1)),(2,(pV (some p1))),(4,(pV (some p4)))]) (wf:=fun i=>i.2.2) (un3 h) (fun i h a u=>?_) (fun h hk11=>?_)
 .obtain⟨v7,v8,w9⟩:=i;have u:Has 182 [(5,(pV (some v7))),(6,(pV (some v8))),(1,(iV a1)),(2,(pV (some p1))),(4,(pV (some p4)))] a:=u;refine t_n<|wp_seq<|aA<|q u (aI u rfl yL rfl rfl zI) fun a u=>?_;obtain⟨c32,e33,h⟩:=h;refine q u (bE u rfl zV zI e33) fun a u=>?_;obtain⟨p34,w35,e36,h⟩:=h;refine q u (dG Try.zeroValue55 (by kernel_rfl) e36) fun a u=>?_;obtain⟨w37,e38,h⟩:=h;refine q u (eU u rfl rfl zI ((jI e33).1) e38) fun a u=>aC<|t_n<|wp_seq<|aA<|qa u rfl fun a u=>aC<|t_n<|wp_seq<|aA<|qa u rfl fun a u=>aC<|t_n<|?_;refine mU (n:=182) (ι:=World) (Lf:=fun i=>[(4,(pV (some p4))),(5,(pV (some v7))),(6,(pV (some v8)))]) (wf:=fun i=>i) (un1 h) (fun i h a u=>?_) (fun h hk41=>?_)
  .obtain⟨w39,rfl⟩:∃ x,x=i:=⟨i,rfl⟩;have u:Has 182 [(4,(pV (some p4))),(5,(pV (some v7))),(6,(pV (some v8)))] a:=u;refine wp_seq<|?_;obtain⟨w166,e167,h⟩:=h;obtain⟨v168,e169,h⟩:=h;obtain⟨v170,e171,h⟩:=h;obtain⟨w172,e173,h⟩:=h;have u:Has 182 [(4,(pV (some p4))),(5,(pV (some v7))),(6,(pV (some v8)))] a:=u.sb rfl;refine bC (n:=182) (ds:=(dD (pV (some v7)) 0 [] 5::dD (pV (some v7)) 0 [0] 173::aQ (pV (some (v7.add 2))) 0 [0,1] 174 (pV (some v7))::aQ (Sl.v v168) 0 [0,1,2] 175 (pV (some (v7.add 2)))::dD (pV (some v8)) 0 [] 6::dD (pV (some v8)) 0 [4] 177::aQ (pV (some (v8.add 2))) 0 [4,5] 178 (pV (some v8))::aQ (Sl.v v170) 0 [4,5,6] 179 (pV (some (v8.add 2)))::bY (.agg (List.toArray ([Sl.v v168,Sl.v v170]))) 0 (rn 0 8) [(176,(Sl.v v168)),(180,(Sl.v v170))]::aN (undef) true 0 0 (rn 0 9) [(4,(pV (some p4))),(181,(.agg (List.toArray ([Sl.v v168,Sl.v v170]))))]::[])) (W:=(fun j=>match j with | 0=>w166 | 1=>w172 | _=>w172)) (by kernel_rfl) u (gN e167) (by kernel_rfl) ?_ (bA (by kernel_rfl)) (by kernel_rfl) (m:=1) (by kernel_rfl) (fun a u=>?_)
   .exact⟨oa (aD · rfl),oa (tA · rfl),oa (aI · rfl yM rfl rfl zE),oc 0 (kd (aH · rfl zK (bG e169))),oa (aD · rfl),oa (tA · rfl),oa (aI · rfl yM rfl rfl zE),oc 0 (kd (aH · rfl zK (bG e171))),oa (gT (vs:=[(0,(Sl.v v168)),(1,(Sl.v v170))]) (pl:=#[(0,1),(1,1)]) (cs:=([Sl.v v168,Sl.v v170])) · ⟨rfl,rfl,rfl,rfl,aBP⟩ zU zN (by intro w;kernel_rfl) (by kernel_rfl)),oc 0 (kd (eU · rfl rfl zS rfl e173)),aBP⟩
   have u:Has 182 [(4,(pV (some p4)))] a:=u.sb rfl;refine t_n<|wp_ret<|?_;obtain⟨v174,e175,h⟩:=h;exact wI (vs:=[_]) Try.results35 u ⟨⟨_,rfl,wD Try.isAgg70 zS e175⟩,aBP⟩ ⟨(v174,w172),rfl,h,rfl⟩
  refine wp_block<|wp_seq<|aA<|q u (aI u rfl yL rfl rfl zH) fun a u=>?_;obtain⟨v42,e43,h⟩:=h;refine q u (aH u rfl zO (aL e43)) fun a u=>q u (cA u rfl rfl) fun a u=>qa u rfl fun a u=>aC<|t_n<|?_;refine cJ u rfl h (fun b44 h=>?_) (fun b44 h=>?_)
  .refine wp_seq<|aA<|qm u rfl fun a u=>qm u rfl fun a u=>?_;refine eT (ι:=World) (pk:=fun i=>(.tuple #[])) (wf:=fun i=>i) (xs:=[_,_,_]) (vs:=[(pV (some v7)),(bV false),(.func (.func 53) #[] #[])]) u ⟨rfl,rfl,rfl,aBP⟩ Try.call56 (kT (un1 h)) (fun i h a u=>?_);obtain⟨w45,rfl⟩:∃ x,x=i:=⟨i,rfl⟩;refine aC<|t_n<|aA<|qm u rfl fun a u=>qm u rfl fun a u=>?_;refine eT (ι:=World) (pk:=fun i=>(.tuple #[])) (wf:=fun i=>i) (xs:=[_,_,_]) (vs:=[(pV (some v8)),(bV true),(.func (.func 54) #[] #[])]) u ⟨rfl,rfl,rfl,aBP⟩ Try.call56 (kU (un1 h)) (fun i h a u=>?_);obtain⟨w47,rfl⟩:∃ x,x=i:=⟨i,rfl⟩;refine aC<|b_n<|?_;exact hk41 w47 h _ (u.sb rfl)
  refine wp_seq<|aA<|qm u rfl fun a u=>q u (cA u rfl rfl) fun a u=>qa u rfl fun a u=>aC<|t_n<|?_;refine cJ u rfl h (fun b49 h=>?_) (fun b49 h=>?_)
  .refine wp_seq<|?_;refine gU (n:=182) (ι:=Bool×World) (Lf:=fun i=>[(10,(bV i.1)),(4,(pV (some p4))),(5,(pV (some v7))),(6,(pV (some v8)))]) (wf:=fun i=>i.2) (un2 h) (fun i h a u=>?_) (fun h hk53=>?_)
   .obtain⟨v50,w51⟩:=i;have u:Has 182 [(10,(bV v50)),(4,(pV (some p4))),(5,(pV (some v7))),(6,(pV (some v8)))] a:=u;refine t_n<|wp_seq<|?_;exact(show False from h).elim
   refine aA<|q u (aI u rfl yL rfl rfl zH) fun a u=>?_;obtain⟨v54,e55,h⟩:=h;refine q u (aH u rfl zO (aL e55)) fun a u=>q u (cA u rfl rfl) fun a u=>qm u rfl fun a u=>?_;refine oD h (fun b56 h=>?_) (fun b56 h=>?_)
   .refine qn u 60 (tn b56) fun a u=>qn u 60 (tn b56) fun a u=>qn u 60 (tn b56) fun a u=>qn u 60 (tn b56) fun a u=>qn u 60 (tn b56) fun a u=>qn u 60 (tn b56) fun a u=>q u (aK u rfl b56 rfl) fun a u=>qa u rfl fun a u=>aC<|?_;exact hk53 (true,w37) h _ (u.sb rfl)
   refine qg u 60 (nt b56) (aI u rfl zD rfl rfl zA) fun a u=>?_;obtain⟨v57,e58,h⟩:=h;refine qg u 60 (nt b56) (aH u rfl zT (iU e58)) fun a u=>qg u 60 (nt b56) (aI u rfl yL rfl rfl zH) fun a u=>?_;obtain⟨v59,e60,h⟩:=h;refine qg u 60 (nt b56) (aH u rfl zO (aL e60)) fun a u=>qg u 60 (nt b56) (cA u rfl rfl) fun a u=>qg u 60 (nt b56) (vH u rfl rfl Try.runUnderlying4) fun a u=>q u (aJ u rfl b56 rfl) fun a u=>qa u rfl fun a u=>aC<|?_;exact hk53 ((v57==(v59==3)),w37) h _ (u.sb rfl)
  refine wp_seq<|aA<|qm u rfl fun a u=>q u (cA u rfl rfl) fun a u=>qa u rfl fun a u=>aC<|t_n<|?_;refine cJ u rfl h (fun b61 h=>?_) (fun b61 h=>?_)
  .refine wp_seq<|aA<|q u (kY (vs:=[(pV (some p1))]) u ⟨rfl,aBP⟩) fun a u=>qa u rfl fun a u=>aC<|t_n<|wp_seq<|aA<|q u (kY (vs:=[(pV (some p1))]) u ⟨rfl,aBP⟩) fun a u=>qa u rfl fun a u=>aC<|t_n<|?_;refine mU (n:=182) (ι:=World) (Lf:=fun i=>[(4,(pV (some p4))),(5,(pV (some v7))),(6,(pV (some v8)))]) (wf:=fun i=>i) (un1 h) (fun i h a u=>?_) (fun h hk64=>?_)
   .obtain⟨w62,rfl⟩:∃ x,x=i:=⟨i,rfl⟩;have u:Has 182 [(4,(pV (some p4))),(5,(pV (some v7))),(6,(pV (some v8)))] a:=u;refine wp_seq<|?_;exact(show False from h).elim
   refine wp_seq<|aA<|q u (aI u rfl yL rfl rfl zH) fun a u=>?_;obtain⟨v65,e66,h⟩:=h;refine q u (aH u rfl zO (aL e66)) fun a u=>q u (cA u rfl rfl) fun a u=>aC<|t_n<|?_;refine cJ u rfl h (fun b67 h=>?_) (fun b67 h=>?_)
   .refine aA<|qm u rfl fun a u=>qm u rfl fun a u=>qa u rfl fun a u=>qa u rfl fun a u=>aC<|?_;exact hk64 w37 h _ (u.sb rfl)
   refine wp_skip<|?_;exact hk64 w37 h _ (u.sb rfl)
  refine wp_seq<|aA<|q u (aI u rfl yL rfl rfl zH) fun a u=>?_;obtain⟨v68,e69,h⟩:=h;refine q u (aH u rfl zO (aL e69)) fun a u=>q u (cA u rfl rfl) fun a u=>qa u rfl fun a u=>aC<|t_n<|?_;refine cJ u rfl h (fun b70 h=>?_) (fun b70 h=>?_)
  .refine wp_seq<|?_;exact(show False from h).elim
  refine wp_seq<|aA<|q u (aI u rfl yL rfl rfl zH) fun a u=>?_;obtain⟨v71,e72,h⟩:=h;refine q u (aH u rfl zO (aL e72)) fun a u=>q u (cA u rfl rfl) fun a u=>qa u rfl fun a u=>aC<|t_n<|?_;refine cJ u rfl h (fun b73 h=>?_) (fun b73 h=>?_)
  .refine wp_seq<|aA<|qm u rfl fun a u=>?_;obtain⟨c74,e75,h⟩:=h;refine q u (bE u rfl zV zI e75) fun a u=>?_;obtain⟨v76,v77,w78,e79,h⟩:=h;refine q u (dc2 u rfl rfl Try.call62 (gK e79)) fun a u=>?_;refine eT (ι:=World) (pk:=fun i=>(.tuple #[])) (wf:=fun i=>i) (xs:=[_,_,_]) (vs:=[(pV (some v7)),(bV false),(.func (.func 82) #[] #[(pV (some v76)),(pV (some v77))])]) u ⟨rfl,rfl,rfl,aBP⟩ Try.call56 (dV (un1 h)) (fun i h a u=>?_);obtain⟨w80,rfl⟩:∃ x,x=i:=⟨i,rfl⟩;refine aC<|t_n<|wp_seq<|aA<|qm u rfl fun a u=>?_;obtain⟨c82,e83,h⟩:=h;refine q u (bE u rfl zV zI e83) fun a u=>?_;obtain⟨v84,v85,w86,e87,h⟩:=h;refine q u (dc2 u rfl rfl Try.call63 (gO e87)) fun a u=>?_;refine eT (ι:=World) (pk:=fun i=>(.tuple #[])) (wf:=fun i=>i) (xs:=[_,_,_]) (vs:=[(pV (some v7)),(bV false),(.func (.func 83) #[] #[(pV (some v84)),(pV (some v85))])]) u ⟨rfl,rfl,rfl,aBP⟩ Try.call56 (dU (un1 h)) (fun i h a u=>?_);obtain⟨w88,rfl⟩:∃ x,x=i:=⟨i,rfl⟩;refine aC<|t_n<|?_;exact(show False from h).elim
  refine wp_seq<|aA<|q u (aI u rfl yL rfl rfl zH) fun a u=>?_;obtain⟨v90,e91,h⟩:=h;refine q u (aH u rfl zO (aL e91)) fun a u=>q u (cA u rfl rfl) fun a u=>qa u rfl fun a u=>aC<|t_n<|?_;refine cJ u rfl h (fun b92 h=>?_) (fun b92 h=>?_)
  .refine wp_seq<|aA<|qm u rfl fun a u=>?_;obtain⟨c93,e94,h⟩:=h;refine q u (bE u rfl zV zI e94) fun a u=>?_;obtain⟨v95,v96,w97,e98,h⟩:=h;refine q u (dc2 u rfl rfl Try.call62 (gK e98)) fun a u=>?_;refine eT (ι:=World) (pk:=fun i=>(.tuple #[])) (wf:=fun i=>i) (xs:=[_,_,_]) (vs:=[(pV (some v7)),(bV false),(.func (.func 82) #[] #[(pV (some v95)),(pV (some v96))])]) u ⟨rfl,rfl,rfl,aBP⟩ Try.call56 (dV (un1 h)) (fun i h a u=>?_);obtain⟨w99,rfl⟩:∃ x,x=i:=⟨i,rfl⟩;refine aC<|t_n<|aA<|qm u rfl fun a u=>?_;obtain⟨c101,e102,h⟩:=h;refine q u (bE u rfl zV zI e102) fun a u=>?_;obtain⟨v103,v104,w105,e106,h⟩:=h;refine q u (dc2 u rfl rfl Try.call63 (gO e106)) fun a u=>?_;refine eT (ι:=World) (pk:=fun i=>(.tuple #[])) (wf:=fun i=>i) (xs:=[_,_,_]) (vs:=[(pV (some v8)),(bV true),(.func (.func 83) #[] #[(pV (some v103)),(pV (some v104))])]) u ⟨rfl,rfl,rfl,aBP⟩ Try.call56 (dU (un1 h)) (fun i h a u=>?_);obtain⟨w107,rfl⟩:∃ x,x=i:=⟨i,rfl⟩;refine aC<|b_n<|?_;exact hk41 w107 h _ (u.sb rfl)
  refine wp_seq<|aA<|q u (aI u rfl yL rfl rfl zH) fun a u=>?_;obtain⟨v109,e110,h⟩:=h;refine q u (aH u rfl zO (aL e110)) fun a u=>q u (cA u rfl rfl) fun a u=>qa u rfl fun a u=>aC<|t_n<|?_;refine cJ u rfl h (fun b111 h=>?_) (fun b111 h=>?_)
  .refine wp_seq<|aA<|qm u rfl fun a u=>?_;obtain⟨c112,e113,h⟩:=h;refine q u (bE u rfl zV zI e113) fun a u=>?_;obtain⟨v114,v115,w116,e117,h⟩:=h;refine q u (dc2 u rfl rfl Try.call62 (gK e117)) fun a u=>?_;refine eT (ι:=World) (pk:=fun i=>(.tuple #[])) (wf:=fun i=>i) (xs:=[_,_,_]) (vs:=[(pV (some v7)),(bV false),(.func (.func 82) #[] #[(pV (some v114)),(pV (some v115))])]) u ⟨rfl,rfl,rfl,aBP⟩ Try.call56 (dV (un1 h)) (fun i h a u=>?_);obtain⟨w118,rfl⟩:∃ x,x=i:=⟨i,rfl⟩;refine aC<|t_n<|aA<|qm u rfl fun a u=>?_;obtain⟨c120,e121,h⟩:=h;refine q u (bE u rfl zV zI e121) fun a u=>?_;obtain⟨v122,v123,w124,e125,h⟩:=h;refine q u (dc2 u rfl rfl Try.call63 (gO e125)) fun a u=>?_;refine eT (ι:=World) (pk:=fun i=>(.tuple #[])) (wf:=fun i=>i) (xs:=[_,_,_]) (vs:=[(pV (some v8)),(bV true),(.func (.func 83) #[] #[(pV (some v122)),(pV (some v123))])]) u ⟨rfl,rfl,rfl,aBP⟩ Try.call56 (dU (un1 h)) (fun i h a u=>?_);obtain⟨w126,rfl⟩:∃ x,x=i:=⟨i,rfl⟩;refine aC<|b_n<|?_;exact hk41 w126 h _ (u.sb rfl)
  refine wp_seq<|aA<|q u (aI u rfl yL rfl rfl zH) fun a u=>?_;obtain⟨v128,e129,h⟩:=h;refine q u (aH u rfl zO (aL e129)) fun a u=>q u (cA u rfl rfl) fun a u=>qa u rfl fun a u=>aC<|t_n<|?_;refine cJ u rfl h (fun b130 h=>?_) (fun b130 h=>?_)
  .refine wp_seq<|aA<|qm u rfl fun a u=>?_;obtain⟨c131,e132,h⟩:=h;refine q u (bE u rfl zV zI e132) fun a u=>?_;obtain⟨v133,v134,w135,e136,h⟩:=h;refine q u (dc2 u rfl rfl Try.call63 (gO e136)) fun a u=>?_;refine eT (ι:=World) (pk:=fun i=>(.tuple #[])) (wf:=fun i=>i) (xs:=[_,_,_]) (vs:=[(pV (some v7)),(bV false),(.func (.func 83) #[] #[(pV (some v133)),(pV (some v134))])]) u ⟨rfl,rfl,rfl,aBP⟩ Try.call56 (dU (un1 h)) (fun i h a u=>?_);obtain⟨w137,rfl⟩:∃ x,x=i:=⟨i,rfl⟩;refine aC<|t_n<|aA<|qm u rfl fun a u=>?_;obtain⟨c139,e140,h⟩:=h;refine q u (bE u rfl zV zI e140) fun a u=>?_;obtain⟨v141,v142,w143,e144,h⟩:=h;refine q u (dc2 u rfl rfl Try.call62 (gK e144)) fun a u=>?_;refine eT (ι:=World) (pk:=fun i=>(.tuple #[])) (wf:=fun i=>i) (xs:=[_,_,_]) (vs:=[(pV (some v8)),(bV true),(.func (.func 82) #[] #[(pV (some v141)),(pV (some v142))])]) u ⟨rfl,rfl,rfl,aBP⟩ Try.call56 (dV (un1 h)) (fun i h a u=>?_);obtain⟨w145,rfl⟩:∃ x,x=i:=⟨i,rfl⟩;refine aC<|b_n<|?_;exact hk41 w145 h _ (u.sb rfl)
  refine wp_seq<|aA<|q u (aI u rfl yL rfl rfl zH) fun a u=>?_;obtain⟨v147,e148,h⟩:=h;refine q u (aH u rfl zO (aL e148)) fun a u=>q u (cA u rfl rfl) fun a u=>qa u rfl fun a u=>aC<|t_n<|?_;refine cJ u rfl h (fun b149 h=>?_) (fun b149 h=>?_)
  .refine wp_seq<|aA<|qm u rfl fun a u=>?_;obtain⟨c150,e151,h⟩:=h;refine q u (bE u rfl zV zI e151) fun a u=>?_;obtain⟨v152,v153,w154,e155,h⟩:=h;refine q u (dc2 u rfl rfl Try.call63 (gO e155)) fun a u=>?_;refine eT (ι:=World) (pk:=fun i=>(.tuple #[])) (wf:=fun i=>i) (xs:=[_,_,_]) (vs:=[(pV (some v7)),(bV false),(.func (.func 83) #[] #[(pV (some v152)),(pV (some v153))])]) u ⟨rfl,rfl,rfl,aBP⟩ Try.call56 (dU (un1 h)) (fun i h a u=>?_);obtain⟨w156,rfl⟩:∃ x,x=i:=⟨i,rfl⟩;refine aC<|t_n<|aA<|qm u rfl fun a u=>?_;obtain⟨c158,e159,h⟩:=h;refine q u (bE u rfl zV zI e159) fun a u=>?_;obtain⟨v160,v161,w162,e163,h⟩:=h;refine q u (dc2 u rfl rfl Try.call62 (gK e163)) fun a u=>?_;refine eT (ι:=World) (pk:=fun i=>(.tuple #[])) (wf:=fun i=>i) (xs:=[_,_,_]) (vs:=[(pV (some v8)),(bV true),(.func (.func 82) #[] #[(pV (some v160)),(pV (some v161))])]) u ⟨rfl,rfl,rfl,aBP⟩ Try.call56 (dV (un1 h)) (fun i h a u=>?_);obtain⟨w164,rfl⟩:∃ x,x=i:=⟨i,rfl⟩;refine aC<|b_n<|?_;exact hk41 w164 h _ (u.sb rfl)
  refine wp_seq<|?_;exact(show False from h).elim
 obtain⟨w12,e13,h⟩:=h;obtain⟨v14,e15,h⟩:=h;obtain⟨v16,e17,h⟩:=h;obtain⟨h,hB⟩:=h;obtain⟨p18,w19,e20,h⟩:=h;obtain⟨p21,w22,e23,h⟩:=h;obtain⟨e24,h⟩:=h;have hA:=h;have h:=hB;obtain⟨p25,w26,e27,h⟩:=h;obtain⟨p28,w29,e30,h⟩:=h;obtain⟨e31,h⟩:=h;have hB:=h;have u:Has 182 [(1,(iV a1)),(2,(pV (some p1))),(4,(pV (some p4)))] a:=u.sb rfl;refine jD (n:=182) (i:=4) (j:=9) (Dp:=[4,9,10,11]) (ds1:=(aQ (pV (some (p1.add 1))) 0 [] 2 (pV (some p1))::aQ (.string v14) 0 [0] 15 (pV (some (p1.add 1)))::dD (iV a1) 0 [] 1::bY (.agg (List.toArray ([.string v14,.int .i64 a1,.slice none 0 0]))) 0 [1,0,2] [(16,(.string v14)),(17,(iV a1))]::aN (pV (some p18)) true 0 0 (rn 0 4) [(18,(.agg (List.toArray ([.string v14,.int .i64 a1,.slice none 0 0]))))]::aN (pV (some (p1.add 1))) false 0 1 [] [(2,(pV (some p1)))]::aN (.string v16) false 0 1 [5] [(20,(pV (some (p1.add 1))))]::aN (iV a1) false 0 1 [] [(1,(iV a1))]::aN (.agg (List.toArray ([.string v16,.int .i64 a1,.slice none 0 0]))) false 0 1 [6,5,7] [(21,(.string v16)),(22,(iV a1))]::aN (pV (some p21)) true 1 1 (rn 0 9) [(23,(.agg (List.toArray ([.string v16,.int .i64 a1,.slice none 0 0]))))]::aN (pV (some p18)) false 1 2 (rn 0 5) [(19,(pV (some p18)))]::dD (pV (some p21)) 2 (rn 0 11) 24::[])) (ds2:=(aN (pV (some (p1.add 1))) false 0 1 [] [(2,(pV (some p1)))]::aN (.string v14) false 0 1 [0] [(15,(pV (some (p1.add 1))))]::aN (iV a1) false 0 1 [] [(1,(iV a1))]::aN (.agg (List.toArray ([.string v14,.int .i64 a1,.slice none 0 0]))) false 0 1 [1,0,2] [(16,(.string v14)),(17,(iV a1))]::aN (pV (some p28)) true 1 1 (rn 0 4++rn 5 5) [(18,(.agg (List.toArray ([.string v14,.int .i64 a1,.slice none 0 0]))))]::aQ (pV (some (p1.add 1))) 0 [] 2 (pV (some p1))::aQ (.string v16) 0 [5] 20 (pV (some (p1.add 1)))::dD (iV a1) 0 [] 1::bY (.agg (List.toArray ([.string v16,.int .i64 a1,.slice none 0 0]))) 0 [6,5,7] [(21,(.string v16)),(22,(iV a1))]::aN (pV (some p25)) true 0 0 (rn 5 4) [(23,(.agg (List.toArray ([.string v16,.int .i64 a1,.slice none 0 0]))))]::dD (pV (some p28)) 2 (rn 0 10) 19::dD (pV (some p25)) 2 (rn 0 11) 24::[])) (W1:=(fun j=>match j with | 0=>w12 | 1=>w19 | 2=>w22 | _=>w22)) (W2:=(fun j=>match j with | 0=>w12 | 1=>w26 | 2=>w29 | _=>w29)) (m1:=2) (m2:=2) (by kernel_rfl) u (gN e13) (gN e13) rfl (by kernel_rfl) (by kernel_rfl) rfl rfl (by decide) (bA (by kernel_rfl)) (bA (by kernel_rfl)) ?_ ?_ (by kernel_rfl) (by kernel_rfl) (fun a u=>?_) (fun a u=>?_)
 .refine⟨oa (aI · rfl yL rfl rfl yN),oc 0 (kd (aH · rfl yP (cG e15))),oa (aD · rfl),oa (gT (vs:=[(0,(.string v14)),(1,(iV a1))]) (pl:=#[(0,1),(1,1),(2,1)]) (cs:=([.string v14,.int .i64 a1,.slice none 0 0])) · ⟨rfl,rfl,rfl,rfl,aBP⟩ aAe yM (by intro w;kernel_rfl) (by kernel_rfl)),oc 0 (kd (dJ · rfl rfl e20)),oa (aI · rfl yL rfl rfl yN),?_,oa (aD · rfl),oa (gT (vs:=[(0,(.string v16)),(1,(iV a1))]) (pl:=#[(0,1),(1,1),(2,1)]) (cs:=([.string v16,.int .i64 a1,.slice none 0 0])) · ⟨rfl,rfl,rfl,rfl,aBP⟩ aAe yM (by intro w;kernel_rfl) (by kernel_rfl)),oc 1 (kd (dJ · rfl rfl e23)),oa (dZ · rfl),oa (dZ · rfl),aBP⟩;intro j h1 h2;have h1:0<=j:=h1;have h2:j<=1:=h2;rcases(by omega:j=0\/j=1) with rfl | rfl
  .exact kd (aH · rfl yP (cG e17))
  exact kd (aH · rfl yP (cG e24))
 .refine⟨oa (aI · rfl yL rfl rfl yN),?_,oa (aD · rfl),oa (gT (vs:=[(0,(.string v14)),(1,(iV a1))]) (pl:=#[(0,1),(1,1),(2,1)]) (cs:=([.string v14,.int .i64 a1,.slice none 0 0])) · ⟨rfl,rfl,rfl,rfl,aBP⟩ aAe yM (by intro w;kernel_rfl) (by kernel_rfl)),oc 1 (kd (dJ · rfl rfl e30)),oa (aI · rfl yL rfl rfl yN),oc 0 (kd (aH · rfl yP (cG e17))),oa (aD · rfl),oa (gT (vs:=[(0,(.string v16)),(1,(iV a1))]) (pl:=#[(0,1),(1,1),(2,1)]) (cs:=([.string v16,.int .i64 a1,.slice none 0 0])) · ⟨rfl,rfl,rfl,rfl,aBP⟩ aAe yM (by intro w;kernel_rfl) (by kernel_rfl)),oc 0 (kd (dJ · rfl rfl e27)),oa (dZ · rfl),oa (dZ · rfl),aBP⟩;intro j h1 h2;have h1:0<=j:=h1;have h2:j<=1:=h2;rcases(by omega:j=0\/j=1) with rfl | rfl
  .exact kd (aH · rfl yP (cG e15))
  exact kd (aH · rfl yP (cG e31))
 .have h:=hA;have u:Has 182 [(1,(iV a1)),(2,(pV (some p1))),(4,(pV (some p4))),(5,(pV (some p18))),(6,(pV (some p21)))] a:=u.sb rfl;exact hk11 (p18,p21,w22) h _ (u.sb rfl)
 have h:=hB;have u:Has 182 [(1,(iV a1)),(2,(pV (some p1))),(4,(pV (some p4))),(5,(pV (some p28))),(6,(pV (some p25)))] a:=u.sb rfl;exact hk11 (p28,p25,w29) h _ (u.sb rfl)
noncomputable def fU (a0:List Value) (w:World):Option (Bool×World) :=
 aE (mk w 40 a0) fun p1 w2 =>
 aE ((ldL w2 (p1.add 10)).bind fun v8 =>
 if (decide (4<(v8.n:Int)))=true then
 (some (true,w2))
 else
 ((ldL w2 (p1.add 11)).bind fun v11 =>
 some ((decide (4<(v11.n:Int))),w2))) fun v4 w5 =>
 some (v4,w5)
theorem mD {a0 w w' r0} (h:fU a0 w=some (r0,w')):Calls Try.prog 71 #[(.agg (List.toArray a0))] w fun e w''=>e=.returned (.bool r0)/\w''=w':=by
 refine aG (n:=13) Try.func71 rfl Try.ntmps71 (by simp) fun a u=>?_;unfold fU at h;refine wp_seq<|aA<|?_;have⟨p1,w2,e3,h⟩:=bs2 h;refine q u (dJ u rfl rfl e3) fun a u=>qa u rfl fun a u=>aC<|t_n<|wp_seq<|?_;have⟨v4,w5,e6,h⟩:=bs2 h;refine aW (n:=13) (L:=[(2,(bV v4))]) (w':=w5) (fun a u=>?_) (fun hk7=>?_)
 .refine t_n<|wp_ret<|?_;have y:=u;cases h;exact aX Try.results71 y rfl ⟨rfl,rfl⟩
 clear h;have h:=e6;refine aA<|q u (aI u rfl yG rfl rfl yV) fun a u=>?_;have⟨v8,e9,h⟩:=bs1 h;refine q u (aH u rfl yX (bG e9)) fun a u=>q u (bZ u rfl yJ) fun a u=>q u (iM u rfl rfl) fun a u=>qm u rfl fun a u=>?_;refine bU h (fun b10 h=>?_) (fun b10 h=>?_)
 .refine qn u 7 (tn b10) fun a u=>qn u 7 (tn b10) fun a u=>qn u 7 (tn b10) fun a u=>qn u 7 (tn b10) fun a u=>q u (aK u rfl b10 rfl) fun a u=>qa u rfl fun a u=>aC<|?_;have y:=u;cases h;exact hk7 _ (y.sb rfl)
 refine qg u 7 (nt b10) (aI u rfl yG rfl rfl yV) fun a u=>?_;have⟨v11,e12,h⟩:=bs1 h;refine qg u 7 (nt b10) (aH u rfl yX (bG e12)) fun a u=>qg u 7 (nt b10) (bZ u rfl yJ) fun a u=>qg u 7 (nt b10) (iM u rfl rfl) fun a u=>q u (aJ u rfl b10 rfl) fun a u=>qa u rfl fun a u=>aC<|?_;have y:=u;cases h;exact hk7 _ (y.sb rfl)
noncomputable def aR (a0:Sl) (x1:Int) (w2:World):Option ((Int×World)⊕((World)⊕(Int×World))) :=
 if (decide (x1<(a0.n:Int)))=true then
 ((ix a0 x1 12).bind fun p12 =>
 (ldA 12 w2 p12 0).bind fun c14 =>
 aE (fU c14 w2) fun v16 w17 =>
 if v16=true then
 (some (.inr (.inr (x1,w17))))
 else
 (some (.inl ((IntKind.wrap .i64 (x1+1)),w17))))
 else
 (some (.inr (.inl w2)))
noncomputable def cD (a0:Sl) (w:World):Option (Int×World) :=
 (bB (fun s:Int×World=>aR a0 s.1 s.2) (0,w)).bind fun r3=>Sum.elim (fun (i:World)=>u1 i fun w5 =>
 some ((-1),w5)) (fun (i:Int×World)=>u2 i fun v6 w7 =>
 some (v6,w7)) r3
theorem gE {a0 w w' r0} (h:cD a0 w=some (r0,w')):Calls Try.prog 26 #[(Sl.v a0),(.func (.func 71) #[] #[])] w fun e w''=>e=.returned (.int .i64 r0)/\w''=w':=by
 refine aG (n:=19) Try.func26 rfl Try.ntmps26 (by simp) fun a u=>?_;unfold cD at h;refine wp_seq<|aA<|qa u rfl fun a u=>aC<|t_n<|wp_seq<|wp_seq<|aA<|qm u rfl fun a u=>q u (bZ u rfl yI) fun a u=>qm u rfl fun a u=>aC<|t_n<|wp_block<|?_;have⟨r3,e4,h⟩:=bs1 h;refine dH (n:=19) (L1:=fun i=>[]) (w1:=fun i=>i) (L2:=fun i=>[(4,(iV i.1))]) (w2:=fun i=>i.2) (e1:=.exit 0) (e2:=.ret) (I:=fun (s:Int×World) a w=>Has 19 [(8,(iV s.1)),(0,(Sl.v a0)),(1,(.func (.func 71) #[] #[])),(7,(iV (a0.n:Int)))] a/\w=s.2) ⟨u.sub ⟨rfl,rfl,rfl,rfl,aBP⟩,rfl⟩ e4 (fun i hi a u=>?_) (fun i hi a u=>?_) (fun hk8 hk9=>?_)
 .subst hi;obtain⟨w5,rfl⟩:∃ x,x=i:=⟨i,rfl⟩;dsimp only[Sum.elim_inl,Sum.elim_inr,u1,u2,u3,u4,u5,u6] at h;have u:Has 19 [] a:=u;refine eC<|t_n<|wp_seq<|aA<|qa u rfl fun a u=>aC<|t_n<|wp_ret<|?_;have y:=u;cases h;exact aX Try.results26 y rfl ⟨rfl,rfl⟩
 .subst hi;obtain⟨v6,w7⟩:=i;dsimp only[Sum.elim_inl,Sum.elim_inr,u1,u2,u3,u4,u5,u6] at h;have u:Has 19 [(4,(iV v6))] a:=u;refine b_r<|t_r<|?_;have y:=u;cases h;exact aX Try.results26 y rfl ⟨rfl,rfl⟩
 clear h;rintro⟨x1,w2⟩ a wq o ⟨u,hwq⟩ h hr10;obtain rfl:w2=wq:=hwq.symm;have u:Has 19 [(8,(iV x1)),(0,(Sl.v a0)),(1,(.func (.func 71) #[] #[])),(7,(iV (a0.n:Int)))] a:=u;have h:aR a0 x1 w2=some o:=h;unfold aR at h;refine wp_seq<|aA<|q u (eX u rfl rfl) fun a u=>aC<|t_n<|wp_seq<|?_;refine aF u rfl h (fun b11 h=>?_) (fun b11 h=>?_)
 .refine wp_skip<|t_n<|wp_seq<|wp_block<|wp_seq<|aA<|qm u rfl fun a u=>qa u rfl fun a u=>aC<|t_n<|wp_seq<|aA<|qm u rfl fun a u=>qm u rfl fun a u=>qm u rfl fun a u=>?_;have⟨p12,e13,h⟩:=bs1 h;refine q u (dL u rfl rfl yI yH e13) fun a u=>?_;have⟨c14,e15,h⟩:=bs1 h;refine q u (bE u rfl zC yH e15) fun a u=>?_;have⟨v16,w17,e18,h⟩:=bs2 h;refine q u (fD (xs:=[_]) (vs:=[(.agg (List.toArray c14))]) (cv:=[]) u rfl ⟨rfl,aBP⟩ Try.call71 (mD e18)) fun a u=>aC<|t_n<|?_;refine aF u rfl h (fun b19 h=>?_) (fun b19 h=>?_)
  .refine wp_seq<|aA<|qm u rfl fun a u=>qa u rfl fun a u=>aC<|t_n<|wp_ret<|b_r<|t_r<|?_;have y:=u;cases h;cases hr10 _ rfl;refine gB<|?_;exact hk9 _ rfl _ (y.sb rfl)
  refine wp_skip<|b_n<|t_n<|aA<|q u (dP u rfl rfl) fun a u=>qm u rfl fun a u=>aC<|?_;have y:=u;cases h;exact cP ⟨y.sb rfl,rfl⟩
 refine wp_exit<|t_x<|?_;have y:=u;cases h;cases hr10 _ rfl;refine iE<|?_;exact hk8 _ rfl _ (y.sb rfl)
noncomputable def bL (a0:Sl) (w:World):Option (Bool×World) :=
 aE (cD a0 w) fun v1 w2 =>
 some ((decide (0<=v1)),w2)
theorem fI {a0 w w' r0} (h:bL a0 w=some (r0,w')):Calls Try.prog 70 #[(Sl.v a0),(.func (.func 71) #[] #[])] w fun e w''=>e=.returned (.bool r0)/\w''=w':=by
 refine aG (n:=9) Try.func70 rfl Try.ntmps70 (by simp) fun a u=>?_;unfold bL at h;refine wp_seq<|aA<|qa u rfl fun a u=>aC<|t_n<|wp_seq<|aA<|qm u rfl fun a u=>qm u rfl fun a u=>?_;have⟨v1,w2,e3,h⟩:=bs2 h;refine q u (fP (xs:=[_,_]) (vs:=[(Sl.v a0),(.func (.func 71) #[] #[])]) u ⟨rfl,rfl,aBP⟩ Try.call26 (gE e3)) fun a u=>q u (lU u rfl rfl) fun a u=>qa u rfl fun a u=>aC<|t_n<|wp_ret<|?_;have y:=u;cases h;exact aX Try.results70 y rfl ⟨rfl,rfl⟩
def vJ (ops:List Oper) (cls:List (List Nat)):Bool:=ops.zipIdx.all fun (o,i)=>((cls[i]?).getD []).all fun k=>o.after.toList.any fun e=>Region.binds .any e&&decide (e.on<i)&&(k==e.on||((cls[e.on]?).getD []).contains k)
def vZ (X:List Nat) (m:Nat) (ops:List Oper) (cls:List (List Nat)):Bool:=ops.zipIdx.all fun (o,i)=>decide (i<m)||(List.range m).all fun k=>X.contains k||((cls[i]?).getD []).contains k
def wU (m:Nat) (ops:List Oper):Bool:=(ops.take m).zipIdx.all fun (o,i)=>(o.after.toList.all fun e=>!Region.binds .any e||decide (e.on<i))&&o.guard.all fun g=>decide (g.1<m)
def tN (X:List Nat) (m:Nat) (ops:List Oper):Bool:=vJ ops (nU ops [])&&vZ X m ops (nU ops [])&&wU m ops
section
variable {P : Program} {n : Nat} {L0 L : List (Nat × Value)} {Q Q' : Exit -> Act -> World -> Prop} {a : Act} {w : World}
theorem pN {o:Oper} {K:Act->World->Prop} (hq:∀ e a w,e≠.normal->Q' e a w->Q e a w) (hh:o.wp P a w K Q'):o.wp P a w K Q:=by
 unfold Oper.wp at *;generalize (execOp a.eval o).run P w=r at *
 cases r with
 | ok n w' =>
  cases n<;>simp only[Oper.upon] at hh ⊢ <;>
   first
    | exact hh
    | exact Calls.mono hh (fun e w'' he=>by
      cases e with
      | returned v=>exact he
      | panicked c=>exact hq _ _ _ (by simp) he
      | outgrown=>obtain⟨a',w3,h3⟩:=he;exact⟨a',w3,hq _ _ _ (by simp) h3⟩)
 | halt x w' =>
  cases x<;>simp only[Oper.upon] at hh ⊢<;>first | exact hq _ _ _ (by simp) hh | exact hh
theorem tX {A B:List Oper} {i:Nat} {K K':Act->World->Prop} (hi:i<A.length) (hg:∀ o,A[i]?=some o->∀ j c,o.guard=some (j,c)->j<A.length) (hq:∀ e a w,e≠.normal->Q' e a w->Q e a w) (hK:∀ a w,K' a w->K a w)
  (h:wpOp P A.toArray Q' i K' a w):wpOp P (A++B).toArray Q i K a w:=by
 unfold wpOp at h ⊢;have e:(A++B).toArray[i]?=A.toArray[i]?:=by simp[aAo hi]
 rw[e];obtain⟨o,ho⟩:∃ o,A[i]?=some o:=⟨_,aAk hi⟩;have ho':A.toArray[i]?=some o:=by simpa using ho
 rw[ho'] at h ⊢;simp only at h ⊢;have hw:Region.wanted o (yielded (A++B).toArray a.tmps)=Region.wanted o (yielded A.toArray a.tmps):=by
  unfold Region.wanted
  cases hgd:o.guard with
  | none=>rfl
  | some g =>
   obtain⟨j,c⟩:=g;have hj:=hg o ho j c hgd;have:yielded (A++B).toArray a.tmps j=yielded A.toArray a.tmps j:=by
    unfold yielded;have:(A++B).toArray[j]?=A.toArray[j]?:=by simp[aAo hj]
    rw[this]
   simp only[this]
 rw[hw];split
 .rename_i h1;rw[if_pos h1] at h;rcases h with h | ⟨h,a',w',h'⟩
  .exact .inl (Oper.wp_mono hK (pN hq h))
  exact .inr ⟨h,a',w',hq _ _ _ (by simp) h'⟩
 rename_i h1;rw[if_neg h1] at h;exact hK _ _ h
theorem qI {ops:List Oper} {cls:List (List Nat)} (hok:vJ ops cls=true) {listed:Array Bool} (hc:∀ (i:Nat) (o:Oper),ops[i]?=some o->listed.getD i false=true->∀ e∈o.after.toList,Region.binds .any e=true->listed.getD e.on false=true) :
  ∀ (i:Nat) (o:Oper),ops[i]?=some o->(∀ e∈o.after.toList,Region.binds .any e=true->listed.getD e.on false=true)->∀ k∈(cls[i]?).getD [],listed.getD k false=true:=by
 intro i
 induction i using Nat.strongRecOn with
 | _ i ih =>
  intro o ho he k hk;have:=aAj.1 (aAj.1 hok _ (aAr.2 ho:(o,i)∈ops.zipIdx)) k hk;obtain⟨e,he1,hx⟩:=aAM.1 this;simp only[aAl,decide_eq_true_eq,aAA,beq_iff_eq,aAy] at hx;obtain⟨⟨h1,h2⟩,h3⟩:=hx;rcases h3 with rfl | h3
  .exact he e he1 h1
  have hle:=he e he1 h1
  cases ho':ops[e.on]? with
  | some o'=>exact ih e.on h2 o' ho' (hc e.on o' ho' hle) k h3
  | none =>
   have h5:=(aAi.1 ho).1;have h6:=aAS.1 ho';omega
theorem rT {A B:List Oper} {X:List Nat} (hok:tN X A.length (A++B)=true) (hq:∀ e a w,e≠.normal->Q' e a w->Q e a w)
  (hQ:∀ a w,Q' .normal a w->wpAny P .any (A++B).toArray Q B.length (Array.replicate A.length true++Array.replicate B.length false) a w) :
  ∀ (fuel:Nat) (listed:Array Bool) (a:Act) (w:World),listed.size=A.length->(∀ k∈X,listed.getD k false=true)->(∀ (i:Nat) (o:Oper),A[i]?=some o->listed.getD i false=true->∀ e∈o.after.toList,Region.binds .any e=true->listed.getD e.on false=true) ->
   fuel=((List.range A.length).filter fun i=>!listed.getD i false).length->wpAny P .any A.toArray Q' fuel listed a w->wpAny P .any (A++B).toArray Q (fuel+B.length) (listed++Array.replicate B.length false) a w:=by
 simp only[tN,aAl] at hok;obtain⟨⟨hcls,htl⟩,hhd⟩:=hok;have hA:∀ (i:Nat) (o:Oper),A[i]?=some o->(∀ e∈o.after.toList,Region.binds .any e=true->e.on<i)/\∀ j c,o.guard=some (j,c)->j<A.length:=fun i o ho=>by
  have hi:=(aAi.1 ho).1;have ho':((A++B).take A.length)[i]?=some o:=by rw[List.take_left' rfl];exact ho
  have:=aAj.1 hhd _ (aAr.2 ho':(o,i)∈((A++B).take A.length).zipIdx);simp only[aAl] at this;refine⟨fun e he hb=>?_,fun j c hg=>?_⟩
  .have:=aAj.1 this.1 e he;simpa[hb] using this
  have:=this.2;rw[hg] at this;simpa using this
 intro fuel
 induction fuel with
 | zero =>
  intro listed a w hsz hX hc hf h;have hall:∀ k,k<A.length->listed.getD k false=true:=fun k hk=>by
   cases h:listed.getD k false with
   | true=>rfl
   | false =>
    have:k∈(List.range A.length).filter fun i=>!listed.getD i false:=by simp[hk];simpa using h
    rw[aAv hf.symm] at this;cases this
  have:listed=Array.replicate A.length true:=by
   apply Array.ext
   .simpa using hsz
   intro i h1 h2;have:=hall i (by omega);rw[aAh,aAz h1] at this;simpa using this
  rw[this,aBO];exact hQ a w h.2
 | succ fuel ih =>
  intro listed a w hsz hX hc hf h;have hne:∃ x,x<A.length/\listed.getD x false=false:=by
   have hne:((List.range A.length).filter fun i=>!listed.getD i false)≠[]:=fun h=>by rw[h] at hf;cases hf
   obtain⟨x,hx⟩:=aAC _ hne;exact⟨x,by simpa using hx⟩
  have gl:∀ k d,k<A.length->(listed++Array.replicate B.length false).getD k d=listed.getD k d:=fun k d hk=>by
   rw[aAh,aAh,aAY (by omega)]
  have gr:∀ k,A.length<=k->(listed++Array.replicate B.length false).getD k false=false:=fun k hk=>by
   rw[aAh,aBt (by omega),aAF];split<;>rfl
  have hcl:∀ (i:Nat) (o:Oper),(A++B)[i]?=some o->(listed++Array.replicate B.length false).getD i false=true->∀ e∈o.after.toList,Region.binds .any e=true->(listed++Array.replicate B.length false).getD e.on false=true:=fun i o ho hl e he hb=>by
   by_cases hi:i<A.length
   .rw[aAo hi] at ho;rw[gl _ _ hi] at hl;have h1:=(hA i o ho).1 e he hb;rw[gl _ _ (by omega)];exact hc i o ho hl e he hb
   rw[gr i (by omega)] at hl;cases hl
  -- what is ready lies ahead of the cut
  have hr:∀ i,i∈Region.ready .any (A++B).toArray (listed++Array.replicate B.length false)↔i∈Region.ready .any A.toArray listed:=fun i=>by
   unfold Region.ready;simp only[aAw,aAu,List.size_toArray,aAV,aAl,aAt,aAL];constructor
   .rintro⟨h1,h2,h3⟩;obtain⟨o,ho⟩:∃ o,(A++B)[i]?=some o:=⟨_,aAk (by simpa using h1)⟩;rw[ho] at h3;simp only[aAq,aAx] at h3;have he:∀ e∈o.after.toList,Region.binds .any e=true->(listed++Array.replicate B.length false).getD e.on false=true:=fun e he hb=>by
     have:=aAJ.1 h3 e (by simpa using he);simpa[hb] using this
    by_cases hi:i<A.length
    .refine⟨hi,by rwa[gl _ _ hi] at h2,?_⟩;rw[aAo hi] at ho;rw[ho];simp only[aAq,aAx];refine aAJ.2 fun e hm=>?_;by_cases hb:Region.binds .any e=true
     .have h4:=(hA i o ho).1 e (by simpa using hm) hb;have h5:=he e (by simpa using hm) hb;rw[gl _ _ (by omega)] at h5;simp[h5]
     simp[hb]
    exfalso;obtain⟨x,hx1,hx2⟩:=hne;have ht:=aAj.1 htl _ (aAr.2 ho:(o,i)∈(A++B).zipIdx);simp only[aAA,decide_eq_true_eq] at ht;rcases ht with ht | ht
    .exact hi ht
    have hx:=aAj.1 ht x (aAu.2 hx1);rcases(Bool.or_eq_true_iff).1 hx with hx | hx
    .rw[hX x (by simpa using hx)] at hx2;cases hx2
    have:=qI hcls hcl i o ho he x (by simpa using hx);rw[gl _ _ hx1,hx2] at this;cases this
   rintro⟨h1,h2,h3⟩;obtain⟨o,ho⟩:∃ o,A[i]?=some o:=⟨_,aAk h1⟩;refine⟨by omega,by rwa[gl _ _ h1],?_⟩;rw[aAo h1];rw[ho] at h3 ⊢;simp only[aAq,aAx] at h3 ⊢;refine aAJ.2 fun e hm=>?_;have:=aAJ.1 h3 e hm;by_cases hb:Region.binds .any e=true
   .have h4:=(hA i o ho).1 e (by simpa using hm) hb;rw[gl _ _ (by omega)];exact this
   simp[hb]
  have hsome:Region.ready .any A.toArray listed≠[]:=by
   obtain⟨x,hx1,hx2⟩:=hne;have hmin:∃ m,(m<A.length/\listed.getD m false=false)/\∀ k,k<m->¬ (k<A.length/\listed.getD k false=false):=by
    clear hf
    induction x using Nat.strongRecOn with
    | _ x ihx =>
     by_cases h:∃ k,k<x/\(k<A.length/\listed.getD k false=false)
     .obtain⟨k,hk,hk'⟩:=h;exact ihx k hk hk'.1 hk'.2
     exact⟨x,⟨hx1,hx2⟩,fun k hk hk'=>h ⟨k,hk,hk'⟩⟩
   obtain⟨m,⟨hm1,hm2⟩,hm3⟩:=hmin;have hm:m∈Region.ready .any A.toArray listed:=by
    unfold Region.ready;simp only[aAw,aAu,List.size_toArray,aAl,aAt,aAL];obtain⟨o,ho⟩:∃ o,A[m]?=some o:=⟨_,aAk hm1⟩;refine⟨hm1,?_,?_⟩
    .rw[aAh,aAz (by omega)] at hm2 ⊢;simpa using hm2
    rw[ho];simp only[aAq,aAx];refine aAJ.2 fun e hme=>?_;by_cases hb:Region.binds .any e=true
    .have h4:=(hA m o ho).1 e (by simpa using hme) hb;have h5:listed.getD e.on false=true:=by
      cases h6:listed.getD e.on false with
      | true=>rfl
      | false=>exact(hm3 e.on h4 ⟨by omega,h6⟩).elim
     simp[h5]
    simp[hb]
   intro e;rw[e] at hm;cases hm
  rw[show fuel+1+B.length=(fuel+B.length)+1 by omega];refine⟨fun he=>?_,fun i hi=>?_⟩
  .exfalso;obtain⟨x,hx⟩:=aAC _ hsome;rw[<-hr,he] at hx;cases hx
  have hi':=(hr i).1 hi;have hiA:i<A.length:=by
   unfold Region.ready at hi';simpa using(aAw.1 hi').1
  have hst:=h.2 i hi';have hset:(listed++Array.replicate B.length false).setIfInBounds i true=listed.setIfInBounds i true++Array.replicate B.length false:=by
   apply Array.ext';simp only[aAX,Array.toList_append];rw[aBr _ _ (by simpa[hsz] using hiA)]
  rw[hset];have hil:listed.getD i false=false:=by
   unfold Region.ready at hi';have:=(aAw.1 hi').2;simp only[aAl,aAt] at this;have:=this.1;rw[aAh,aAz (by omega)] at this ⊢;simpa using this
  refine tX hiA (fun o ho=>(hA i o ho).2) hq (fun a w h'=>ih (listed.setIfInBounds i true) a w (by simpa using hsz) (fun k hk=>by rw[eD (by omega)];unfold fA;exact(Decidable.em (k=i)).elim (fun e=>by rw[if_pos e]) (fun e=>by rw[if_neg e];exact hX k hk)) (fun j o ho hl e he hb=>?_) ?_ h') hst
  .rw[eD (by omega)] at hl ⊢;unfold fA at hl ⊢;by_cases hj:j=i
   .subst hj;split
    .rfl
    unfold Region.ready at hi';have h3:=(aAw.1 hi').2;simp only[aAl,aAL,ho,aAq,aAx] at h3;have:=aAJ.1 h3.2 e (by simpa using he);simpa[hb] using this
   rw[if_neg hj] at hl;split
   .rfl
   exact hc j o ho hl e he hb
  have hc2:((List.range A.length).filter fun k=>!listed.getD k false).length=((List.range A.length).filter fun k=>!(listed.setIfInBounds i true).getD k false).length+1:=by
   have key:∀ (l:List Nat),l.Nodup->i∈l->(l.filter fun k=>!listed.getD k false).length=(l.filter fun k=>!(listed.setIfInBounds i true).getD k false).length+1:=by
    intro l
    induction l with
    | nil=>intro _ h;cases h
    | cons x l ihl =>
     intro hnd hin;rw[List.nodup_cons] at hnd;by_cases hx:x=i
     .subst hx;have e1:(!listed.getD x false)=true:=by rw[hil];rfl
      have e2:(!(listed.setIfInBounds x true).getD x false)=false:=by rw[eD (by omega)];simp[fA]
      rw[aAZ,aAZ,e1,e2];simp only[if_true,aBf,if_false,aAE];congr 2;exact aBk fun k hk=>by
       rw[eD (by omega)];have:k≠x:=fun e=>hnd.1 (e ▸ hk);unfold fA;rw[if_neg this]
     have hin':i∈l:=(aBD.1 hin).resolve_left (fun e=>hx e.symm);have e2:(listed.setIfInBounds i true).getD x false=listed.getD x false:=by rw[eD (by omega)];simp[fA,hx]
     rw[aAZ,aAZ,e2];have:=ihl hnd.2 hin';split<;>(try simp only[aAE])<;>omega
   exact key _ List.nodup_range (aAu.2 hiA)
  omega
theorem uU {ops:Array Oper} {listed:Array Bool} {fuel p:Nat} (hr:Region.ready .any ops listed=[p]) (h:wpOp P ops Q p (wpAny P .any ops Q fuel (listed.setIfInBounds p true)) a w):wpAny P .any ops Q (fuel+1) listed a w :=
 ⟨(fun e=>by rw[hr] at e;cases e),(fun i hi=>by rw[hr] at hi;obtain rfl:=List.mem_singleton.1 hi;exact h)⟩
theorem tO {ι:Type} {ops:Array Oper} {p:Nat} {K:Act->World->Prop} {d ty pos af f g} {xs:List Operand} {ts:Array TypeId} {vs:List Value} {pk:ι->Value} {wf:ι->World} {C:ι->Prop} (hi:ops[p]?=some ⟨d,.call { callee:=.value (.func f),args:=xs.toArray,argTypes:=ts },ty,pos,af,g⟩)
  (hg:g=none\/∃ j c t b,g=some (j,c)/\(ops[j]?).bind (·.dst)=some t/\L.lookup t=some (.bool b)/\b=c)
  (ha:Has n L a) (hx:evs L xs vs) (hf:∀ (args:Array Value) (w:World),(callFunc f args).run P w = .ok (.enter f args) w)
  (h:Calls P f vs.toArray w fun e w''=>∃ i,e = .returned (pk i)/\C i/\w''=wf i) (hr:∀ i,C i->∀ a',Has n (upd d (pk i) L) a'->K a' (wf i)) (hd:ltb n d=true:=by rfl) :
  wpOp P ops Q p K a w:=by
 unfold wpOp;rw[hi];simp only;have hw:Region.wanted ⟨d,.call { callee:=.value (.func f),args:=xs.toArray,argTypes:=ts },ty,pos,af,g⟩ (yielded ops a.tmps)=true:=by
  rcases hg with rfl | ⟨j,c,t,b,rfl,h1,h2,rfl⟩
  .simp[Region.wanted]
  simp[Region.wanted,jU h1 ha h2]
 rw[if_pos hw];left;unfold Oper.wp;have hrun:(execOp a.eval ⟨d,.call { callee:=.value (.func f),args:=xs.toArray,argTypes:=ts },ty,pos,af,g⟩).run P w = .ok (.enter f vs.toArray) w:=by
  simp[execOp,resolve,Deferred.ofValue,invoke,Act.eval,hf];have:=lK ha hx;exact this
 rw[hrun];refine h.mono fun e w' ⟨i,he,hC,hw⟩=>?_;subst he;subst hw;exact hr i hC _ (ha.put _ (ltd hd) _)
theorem pX {ds:List OpD} {W:Nat->World} {p q m:Nat} {listed:Array Bool} (hok:mC (List.range p) ds=true) (hls:listed=Array.replicate p true++Array.replicate q false) (hlen:ds.length=p+q) (hedge:(ds.take p).zipIdx.all (fun (d,i)=>d.o.after.toList.all fun e=>!Region.binds .any e||decide (e.on<i))=true)
  (hz:cnt ds 0 (fun k=>decide (k<p))=0) (hO:∀ (i:Nat) (d:OpD),ds[i]?=some d->p<=i->∀ j,d.lo<=j->j<=d.hi->jK P n (ds.map (·.o)).toArray d.o d.li d.v (W j) (W (j+if d.e=true then 1 else 0))) (hR:hD ds L0)
  (hd:(ds.all fun d=>d.o.dst.all fun t=>decide (t<n))=true) (hcm:cnt ds 0 (fun _=>true)=m) (ha:Has n (eQ ds 0 (fun k=>decide (k<p)) L0) a)
  (hQ:∀ a,Has n (eQ ds 0 (fun _=>true) L0) a->Q .normal a (W m)):wpAny P .any (ds.map (·.o)).toArray Q q listed a (W 0):=by
 subst hls;subst hcm;have gd':∀ k,(Array.replicate p true++Array.replicate q false).getD k false=decide (k<p):=by
  intro k;by_cases hk:k<p
  .rw[aAh,aAY (by simpa using hk),aAF,if_pos hk,decide_eq_true hk];rfl
  rw[aAh,aBt (by simpa using hk),aAF,decide_eq_false hk];split<;>rfl
 have gd:(fun k=>(Array.replicate p true++Array.replicate q false).getD k false)=fun k=>decide (k<p):=funext gd';have:=lF (P:=P) (n:=n) (L0:=L0) (Q:=Q) (W:=W) (X:=List.range p) hok (fun i d h hi=>hO i d h (by simpa using hi)) hR (fun i d t h ht=>by
   have:=aAj.1 hd d (aAn h);rw[ht] at this;simpa using this) hQ q (Array.replicate p true++Array.replicate q false) a (by simp[hlen]) (fun k hk=>by
   rw[gd',decide_eq_true (by simpa using hk)]) (fun i d h hl e he hb=>by
   rw[gd'] at hl;rw[gd'];have hip:i<p:=by simpa using hl
   have h':(ds.take p)[i]?=some d:=by rw[List.getElem?_take,if_pos hip];exact h
   have:=aAj.1 (aAj.1 hedge _ (aAr.2 h':(d,i)∈(ds.take p).zipIdx)) e he;simp only[hb,Bool.not_true,aBB,decide_eq_true_eq] at this;exact decide_eq_true (by omega)) (by rw[gd];exact ha) (by
   have hf:∀ i,(!(Array.replicate p true++Array.replicate q false).getD i false)=decide (p<=i):=fun i=>by
    rw[gd'];by_cases h:i<p
    .simp[h]
    simp[h];omega
   simp only[hf,hlen];rw[List.range_add,List.filter_append];have e1:(List.range p).filter (fun i=>decide (p<=i))=[]:=aBi.2 fun i hi=>by have:=aAu.1 hi;simp;omega
   have e2:((List.range q).map (p+·)).filter (fun i=>decide (p<=i))=(List.range q).map (p+·):=aBa.2 fun i hi=>by obtain⟨k,-,rfl⟩:=List.mem_map.1 hi;simp
   rw[e1,e2];simp)
 rw[gd,hz] at this;exact this
theorem sE {ds:List OpD} {W:Nat->World} {ops:Array Oper} {p:Nat} (h:Obl P n ops W (ds.drop p)):∀ (i:Nat) (d:OpD),ds[i]?=some d->p<=i->∀ j,d.lo<=j->j<=d.hi->jK P n ops d.o d.li d.v (W j) (W (j+if d.e=true then 1 else 0)):=fun i d hd hi=>by
 refine h.get (i:=i-p) ?_;rw[List.getElem?_drop,show p+(i-p)=i by omega];exact hd
end
section
variable {P : Program} {n : Nat} {L0 L : List (Nat × Value)} {Q Q' : Exit -> Act -> World -> Prop} {a : Act} {w : World}
def Qn (Q:Exit->Act->World->Prop):Exit->Act->World->Prop:=fun e a w=>match e with | .normal=>Q .normal a w | _=>False
theorem nR:¬ LetsOut (Qn Q):=fun ⟨_,_,h⟩=>h
theorem kZ {d:Nat} {o:Option Tmp} {v x:Value} (h:o≠some d):(a.put (some d) v).put o x=(a.put o x).put (some d) v:=by
 cases o with
 | none=>rfl
 | some e =>
  have:e≠d:=fun h'=>h (by rw[h']);simp only[Act.put,aBA _ _ (Ne.symm this)]
theorem kW {d t:Nat} {v:Value} (h:t≠d):(a.put (some d) v).eval (.tmp t)=a.eval (.tmp t):=by
 simp only[Act.put,Act.eval,aAh,Array.getElem?_setIfInBounds];rw[if_neg (Ne.symm h)]
theorem oE {f:FuncId}:a.eval (.func f) = .func (.func f) #[] #[]:=rfl
theorem nS {v:Value}:a.eval (.const v)=v:=rfl
theorem mJ {s:Nat} {o:Option Tmp} {v:Value} (h:o≠some s):(a.put o v).eval (.tmp s)=a.eval (.tmp s):=by
 cases o with
 | none=>rfl
 | some e=>exact kW fun h'=>h (by rw[h'])
structure Fl (o:Oper) (d s:Nat):Prop where
 g:o.guard=none
 nd:o.dst≠some d
 ns:o.dst≠some s
 e:∀ (a:Act) (v:Value),execOp (a.put (some d) v).eval o=execOp a.eval o
theorem tP {o:Oper} {d s:Nat} {v:Value} (h:Fl o d s) {K K':Act->World->Prop} (hK:∀ a' w',a'.eval (.tmp s)=a.eval (.tmp s)->K' (a'.put (some d) v) w'->K a' w') (hh:o.wp P (a.put (some d) v) w K' (Qn Q)):o.wp P a w K Q:=by
 unfold Oper.wp at *;rw[h.e] at hh;generalize (execOp a.eval o).run P w=r at *
 cases r with
 | ok x w' =>
  cases x<;>simp only[Oper.upon] at hh ⊢
  case value v'=>rw[kZ h.nd] at hh;exact hK _ _ (mJ h.ns) hh
  case skip=>rw[kZ h.nd] at hh;exact hK _ _ (mJ h.ns) hh
  case enter f args =>
   exact Calls.mono hh fun e w'' he=>by
    cases e with
    | returned v'=>simp only at he ⊢;rw[kZ h.nd] at he;exact hK _ _ (mJ h.ns) he
    | panicked c=>exact he.elim
    | outgrown=>exact(nR he).elim
  case defer x =>
   have e1:({ (a.put (some d) v) with defers:=x::(a.put (some d) v).defers }:Act).put o.dst undef=(({ a with defers:=x::a.defers }:Act).put o.dst undef).put (some d) v:=by
    rw[<-kZ h.nd];rfl
   rw[e1] at hh;refine hK _ _ ?_ hh;rw[mJ h.ns];rfl
  case row r' args=>exact Rows.mono hh fun v' w'' he=>by rw[kZ h.nd] at he;exact hK _ _ (mJ h.ns) he
 | halt x w'=>cases x<;>simp only[Oper.upon] at hh ⊢<;>exact hh.elim
theorem pE {ops:Array Oper}:∀ (fuel:Nat) (listed:Array Bool) (a:Act) (w:World),wpAny P .any ops (Qn Q) fuel listed a w->wpAny P .any ops Q fuel listed a w
 | 0,listed,a,w,h=>h
 | fuel+1,listed,a,w,h=>⟨h.1,fun i hi=>by
  have:=h.2 i hi;unfold wpOp at this ⊢;split
  .rename_i h0;rw[h0] at this;exact pE fuel _ _ _ this
  rename_i o h0;rw[h0] at this;simp only at this;split
  .rename_i hw;rw[if_pos hw] at this;rcases this with this | ⟨_,this⟩
   .exact .inl (Oper.wp_mono (pE fuel _) (pN (fun e a w hne hq=>by cases e<;>first | exact(hne rfl).elim | exact hq.elim) this))
   exact(nR this).elim
  rename_i hw;rw[if_neg hw] at this;exact pE fuel _ _ _ this⟩
theorem lP {ops:Array Oper} {listed:Array Bool} {i:Nat}:i∈Region.ready .any ops listed↔i<ops.size/\listed.getD i true=false/\∀ o,ops[i]?=some o->∀ e∈o.after.toList,Region.binds .any e=true->listed.getD e.on false=true:=by
 unfold Region.ready;simp only[aAw,aAu,aAl,aAt];constructor
 .rintro⟨h1,h2,h3⟩;refine⟨h1,h2,fun o ho e he hb=>?_⟩;rw[ho] at h3;simp only[aAq,aAx] at h3;have:=aAJ.1 h3 e (by simpa using he);simpa[hb] using this
 rintro⟨h1,h2,h3⟩;refine⟨h1,h2,?_⟩;obtain⟨o,ho⟩:∃ o,ops[i]?=some o:=⟨_,aAz h1⟩;rw[ho];simp only[aAq,aAx];refine aAJ.2 fun e he=>?_;by_cases hb:Region.binds .any e=true
 .simp[h3 o ho e (by simpa using he) hb]
 simp[hb]
theorem pM {ops:Array Oper} {i d s ty:Nat} {pos:String} (hi:ops[i]?=some ⟨some d,.move (.tmp s),ty,pos,#[],none⟩)
  (ho:∀ j o,ops[j]?=some o->j≠i->Fl o d s\/∃ e∈o.after.toList,Region.binds .any e=true/\e.on=i) :
  ∀ (fuel:Nat) (listed:Array Bool) (a:Act) (w:World),listed.size=ops.size->listed.getD i true=false->wpAny P .any ops (Qn Q) fuel (listed.setIfInBounds i true) (a.put (some d) (a.eval (.tmp s))) w->wpAny P .any ops Q (fuel+1) listed a w:=by
 have hil:i<ops.size:=(aAP.1 hi).1;have hw:∀ {o:Oper},o.guard=none->∀ t,Region.wanted o (yielded ops t)=true:=fun h t=>by unfold Region.wanted;rw[h]
 have move:∀ {K:Act->World->Prop} {a:Act} {w:World},K (a.put (some d) (a.eval (.tmp s))) w->wpOp P ops Q i K a w:=fun {K a w} hk=>by
  unfold wpOp;rw[hi];simp only;rw[if_pos (hw rfl _)];left;unfold Oper.wp;simpa[execOp,Oper.upon] using hk
 intro fuel
 induction fuel with
 | zero =>
  intro listed a w hsz hl h;have hri:i∈Region.ready .any ops listed:=lP.2 ⟨hil,hl,fun o ho' e he=>by rw[hi] at ho';cases ho';simp at he⟩;refine⟨fun h0=>(by rw[h0] at hri;cases hri),fun j hj=>?_⟩;by_cases hji:j=i
  .subst hji;exact move ⟨h.1,h.2⟩
  exfalso;obtain⟨j1,j2,j3⟩:=lP.1 hj;have:j∈Region.ready .any ops (listed.setIfInBounds i true):=lP.2 ⟨j1,by rw[aAh,aAp (Ne.symm hji),<-aAh];exact j2,fun o ho' e he hb=>by
   have:=j3 o ho' e he hb;rw[eD (by omega)];unfold fA;split
   .rfl
   exact this⟩
  rw[h.1] at this;cases this
 | succ fuel ih =>
  intro listed a w hsz hl h;have hri:i∈Region.ready .any ops listed:=lP.2 ⟨hil,hl,fun o ho' e he=>by rw[hi] at ho';cases ho';simp at he⟩;refine⟨fun h0=>(by rw[h0] at hri;cases hri),fun j hj=>?_⟩;by_cases hji:j=i
  .subst hji;exact move (pE _ _ _ _ h)
  obtain⟨j1,j2,j3⟩:=lP.1 hj;have hj':j∈Region.ready .any ops (listed.setIfInBounds i true):=lP.2 ⟨j1,by rw[aAh,aAp (Ne.symm hji),<-aAh];exact j2,fun o ho' e he hb=>by
   have:=j3 o ho' e he hb;rw[eD (by omega)];unfold fA;split
   .rfl
   exact this⟩
  have h1:=h.2 j hj';obtain⟨o,hoj⟩:∃ o,ops[j]?=some o:=⟨_,aAz j1⟩;have hfl:Fl o d s:=by
   rcases ho j o hoj hji with h | ⟨e,he,hb,hon⟩
   .exact h
   have:=j3 o hoj e he hb;rw[hon,aAh,aAz (by omega)] at this;rw[aAh,aAz (by omega)] at hl;simp only[aAx] at this hl;rw[hl] at this;cases this
  unfold wpOp at h1 ⊢;rw[hoj] at h1 ⊢;simp only at h1 ⊢;rw[if_pos (hw hfl.g _)] at h1;rw[if_pos (hw hfl.g _)];rcases h1 with h1 | ⟨_,h1⟩
  .left;refine tP hfl (fun a' w' he hk=>?_) h1;refine ih (listed.setIfInBounds j true) a' w' (by simpa using hsz) (by rw[aAh,aAp hji,<-aAh];exact hl) ?_;rw[he,aBA _ _ hji];exact hk
  exact(nR h1).elim
def tW (d s i:Nat):List Oper->Nat->Prop
 | [],_=>True
 | o::l,j=>(j=i\/Fl o d s\/(o.after.toList.any fun e=>Region.binds .any e&&e.on==i)=true)/\tW d s i l (j+1)
theorem oR {d s i:Nat}:∀ {l:List Oper} {j k:Nat} {o:Oper},tW d s i l j->l[k]?=some o->j+k=i\/Fl o d s\/∃ e∈o.after.toList,Region.binds .any e=true/\e.on=i
 | o::l,j,0,_,h,hk=>by
  cases hk;rcases h.1 with h | h | h
  .exact .inl h
  .exact .inr (.inl h)
  obtain⟨e,he,hb⟩:=aAM.1 h;simp only[aAl,beq_iff_eq] at hb;exact .inr (.inr ⟨e,he,hb.1,hb.2⟩)
 | o::l,j,k+1,_,h,hk=>by
  have:=oR (k:=k) h.2 hk;rwa[show j+1+k=j+(k+1) by omega] at this
 | [],_,_,_,_,hk=>by cases hk
theorem yE {w:World} (h:Q .normal a w):Qn Q .normal a w:=h
theorem pZ {ds:List OpD} {B:List Oper} {W:Nat->World} {m id i d s ty:Nat} {pos:String} {v:Value} (hm:P.follows .mixedOrders=true) (ha:Has n L0 a) (h0:W 0=w.drew) (hi:(ds.map (·.o))[i]?=some ⟨some d,.move (.tmp s),ty,pos,#[],none⟩) (hfl:tW d s i (ds.map (·.o)++B) 0)
  (hs:evO L0 (.tmp s)=some v) (hdn:d<n) (henv:eQ ds 0 (fun k=>decide (k=i)) L0=upd (some d) v L0) (hc0:cnt ds 0 (fun k=>decide (k=i))=0) (hok:mC [i] ds=true) (hcut:tN [i] ds.length (ds.map (·.o)++B)=true)
  (hO:Obl P n (ds.map (·.o)).toArray W ds) (hR:hD ds L0)
  (hd:(ds.all fun d=>d.o.dst.all fun t=>decide (t<n))=true) (hcm:cnt ds 0 (fun _=>true)=m)
  (hQ:∀ a,Has n (eQ ds 0 (fun _=>true) L0) a->wpAny P .any (ds.map (·.o)++B).toArray (Qn Q) B.length (Array.replicate ds.length true++Array.replicate B.length false) a (W m)):(Code.region id (ds.map (·.o)++B).toArray true).wp P Q a w:=by
 subst hcm;refine wp_region_any hm ?_;have hl:(ds.map (·.o)).length=ds.length:=by simp
 have hid:i<ds.length:=by have:=(aAi.1 hi).1;simpa using this
 have hN:(ds.map (·.o)++B).toArray.size=(ds.length-1+B.length)+1:=by simp;omega
 have hrep:Array.replicate (ds.length-1+B.length+1) false=Array.replicate ds.length false++Array.replicate B.length false:=by
  rw[show ds.length-1+B.length+1=ds.length+B.length by omega];simp
 have hsetl:(Array.replicate ds.length false++Array.replicate B.length false).setIfInBounds i true=(Array.replicate ds.length false).setIfInBounds i true++Array.replicate B.length false:=by
  apply Array.ext';simp only[aAX,Array.toList_append];rw[aBr _ _ (by simpa using hid)]
 have hev:a.eval (.tmp s)=v:=ha.ev hs;have gz:∀ k,((Array.replicate ds.length false).setIfInBounds i true).getD k false=decide (k=i):=fun k=>by
  rw[eD (by simpa using hid)];unfold fA;by_cases h:k=i
  .rw[if_pos h,decide_eq_true h]
  rw[if_neg h,decide_eq_false h];exact kA _ _
 rw[hN,hrep];refine pM (i:=i) (d:=d) (s:=s) (ty:=ty) (pos:=pos) (by rw[aAL,aAo (by omega)];exact hi) (fun j o ho hji=>?_) (ds.length-1+B.length) _ a w.drew (by simp) (by
   rw[aAh,aAY (by simpa using hid),aAF,if_pos hid];rfl) ?_
 .rcases oR hfl (by simpa using ho:(ds.map (·.o)++B)[j]?=some o) with h | h
  .exact(hji (by omega)).elim
  exact h
 rw[hev,hsetl];have hf1:ds.length-1=((List.range ds.length).filter fun k=>!((Array.replicate ds.length false).setIfInBounds i true).getD k false).length:=by
  have e:(fun k=>!((Array.replicate ds.length false).setIfInBounds i true).getD k false)=fun k=>decide (k≠i):=funext fun k=>by rw[gz];by_cases h:k=i<;>simp[h]
  rw[e];have key:∀ N,i<N->((List.range N).filter fun k=>decide (k≠i)).length=N-1:=by
   intro N
   induction N with
   | zero=>intro h;omega
   | succ N ih =>
    intro h;rw[List.range_succ,List.filter_append,aAV];by_cases hi:i=N
    .subst hi;have:(List.range i).filter (fun k=>decide (k≠i))=List.range i:=aBa.2 fun k hk=>by have:=aAu.1 hk;simp;omega
     rw[this];simp
    rw[ih (by omega)];have:[N].filter (fun k=>decide (k≠i))=[N]:=by simp;omega
    rw[this];simp;omega
  exact(key _ hid).symm
 have hX:∀ k∈[i],((Array.replicate ds.length false).setIfInBounds i true).getD k false=true:=fun k hk=>by rw[gz];simpa using hk
 have hoi:∀ (k:Nat) (o:Oper),(ds.map (·.o))[k]?=some o->((Array.replicate ds.length false).setIfInBounds i true).getD k false=true->∀ e∈o.after.toList,Region.binds .any e=true->((Array.replicate ds.length false).setIfInBounds i true).getD e.on false=true:=fun k o ho hk e he=>by
  rw[gz] at hk;have:k=i:=by simpa using hk
  subst this;rw[hi] at ho;cases ho;simp at he
 refine rT (P:=P) (Q:=Qn Q) (X:=[i]) (Q':=fun e a w=>match e with | .normal=>wpAny P .any (ds.map (·.o)++B).toArray (Qn Q) B.length (Array.replicate (ds.map (·.o)).length true++Array.replicate B.length false) a w | e=>Qn Q e a w)
  (A:=ds.map (·.o)) (B:=B) (by rw[hl];exact hcut) (fun e a w hne h=>by cases e<;>first | exact h | exact(hne rfl).elim) (fun a w h=>h) (ds.length-1) _ _ _ (by simp) hX hoi (by rw[hl];exact hf1) ?_
 have:=lF (P:=P) (n:=n) (L0:=L0) (W:=W) (X:=[i]) (Q:=fun e a w=>match e with | .normal=>wpAny P .any (ds.map (·.o)++B).toArray (Qn Q) B.length (Array.replicate (ds.map (·.o)).length true++Array.replicate B.length false) a w | e=>Qn Q e a w)
  hok (fun k d h _=>hO.get h) hR (fun k d t h ht=>by
   have:=aAj.1 hd d (aAn h);rw[ht] at this;simpa using this) (fun a ha=>by rw[hl];exact hQ a ha) (ds.length-1) ((Array.replicate ds.length false).setIfInBounds i true) (a.put (some d) v) (by simp) hX (fun k d h hk e he=>hoi k d.o (by rw[aBm,h];rfl) hk e he)
  (by
   rw[show(fun k=>((Array.replicate ds.length false).setIfInBounds i true).getD k false)=fun k=>decide (k=i) from funext gz,henv];exact ha.put _ (fun t ht=>by cases ht;exact hdn) _)
  hf1
 rw[show(fun k=>((Array.replicate ds.length false).setIfInBounds i true).getD k false)=fun k=>decide (k=i) from funext gz,hc0,h0] at this;exact this
end
def hM (a0:Sl) (w:World):Option (Bool×World) :=
 aE (bL a0 w) fun v1 w2 =>
 some (v1,w2)
theorem mT {a0 w w' r0} (h:hM a0 w=some (r0,w')):Calls Try.prog 69 #[(Sl.v a0)] w fun e w''=>e=.returned (.bool r0)/\w''=w':=by
 refine aG (n:=5) Try.func69 rfl Try.ntmps69 (by simp) fun a u=>?_;unfold hM at h;refine wp_seq<|aA<|qa u rfl fun a u=>aC<|t_n<|wp_seq<|aA<|qm u rfl fun a u=>?_;have⟨v1,w2,e3,h⟩:=bs2 h;refine q u (fP (xs:=[_,_]) (vs:=[(Sl.v a0),(.func (.func 71) #[] #[])]) u ⟨rfl,rfl,aBP⟩ Try.call70 (fI e3)) fun a u=>qa u rfl fun a u=>aC<|t_n<|wp_ret<|?_;have y:=u;cases h;exact aX Try.results69 y rfl ⟨rfl,rfl⟩
noncomputable def aP (a0:Sl) (x1:Int) (w2:World):Option ((Int×World)⊕((World)⊕(Int×World))) :=
 if (decide (x1<(a0.n:Int)))=true then
 ((ix a0 x1 1).bind fun p12 =>
 (ldL w2 p12).bind fun v14 =>
 aE (hM v14 w2) fun v16 w17 =>
 if v16=true then
 (some (.inr (.inr (x1,w17))))
 else
 (some (.inl ((IntKind.wrap .i64 (x1+1)),w17))))
 else
 (some (.inr (.inl w2)))
noncomputable def bW (a0:Sl) (w:World):Option (Int×World) :=
 (bB (fun s:Int×World=>aP a0 s.1 s.2) (0,w)).bind fun r3=>Sum.elim (fun (i:World)=>u1 i fun w5 =>
 some ((-1),w5)) (fun (i:Int×World)=>u2 i fun v6 w7 =>
 some (v6,w7)) r3
theorem fX {a0 w w' r0} (h:bW a0 w=some (r0,w')):Calls Try.prog 40 #[(Sl.v a0),(.func (.func 69) #[] #[])] w fun e w''=>e=.returned (.int .i64 r0)/\w''=w':=by
 refine aG (n:=19) Try.func40 rfl Try.ntmps40 (by simp) fun a u=>?_;unfold bW at h;refine wp_seq<|aA<|qa u rfl fun a u=>aC<|t_n<|wp_seq<|wp_seq<|aA<|qm u rfl fun a u=>q u (bZ u rfl yQ) fun a u=>qm u rfl fun a u=>aC<|t_n<|wp_block<|?_;have⟨r3,e4,h⟩:=bs1 h;refine dH (n:=19) (L1:=fun i=>[]) (w1:=fun i=>i) (L2:=fun i=>[(4,(iV i.1))]) (w2:=fun i=>i.2) (e1:=.exit 0) (e2:=.ret) (I:=fun (s:Int×World) a w=>Has 19 [(8,(iV s.1)),(0,(Sl.v a0)),(1,(.func (.func 69) #[] #[])),(7,(iV (a0.n:Int)))] a/\w=s.2) ⟨u.sub ⟨rfl,rfl,rfl,rfl,aBP⟩,rfl⟩ e4 (fun i hi a u=>?_) (fun i hi a u=>?_) (fun hk8 hk9=>?_)
 .subst hi;obtain⟨w5,rfl⟩:∃ x,x=i:=⟨i,rfl⟩;dsimp only[Sum.elim_inl,Sum.elim_inr,u1,u2,u3,u4,u5,u6] at h;have u:Has 19 [] a:=u;refine eC<|t_n<|wp_seq<|aA<|qa u rfl fun a u=>aC<|t_n<|wp_ret<|?_;have y:=u;cases h;exact aX Try.results40 y rfl ⟨rfl,rfl⟩
 .subst hi;obtain⟨v6,w7⟩:=i;dsimp only[Sum.elim_inl,Sum.elim_inr,u1,u2,u3,u4,u5,u6] at h;have u:Has 19 [(4,(iV v6))] a:=u;refine b_r<|t_r<|?_;have y:=u;cases h;exact aX Try.results40 y rfl ⟨rfl,rfl⟩
 clear h;rintro⟨x1,w2⟩ a wq o ⟨u,hwq⟩ h hr10;obtain rfl:w2=wq:=hwq.symm;have u:Has 19 [(8,(iV x1)),(0,(Sl.v a0)),(1,(.func (.func 69) #[] #[])),(7,(iV (a0.n:Int)))] a:=u;have h:aP a0 x1 w2=some o:=h;unfold aP at h;refine wp_seq<|aA<|q u (eX u rfl rfl) fun a u=>aC<|t_n<|wp_seq<|?_;refine aF u rfl h (fun b11 h=>?_) (fun b11 h=>?_)
 .refine wp_skip<|t_n<|wp_seq<|wp_block<|wp_seq<|aA<|qm u rfl fun a u=>qa u rfl fun a u=>aC<|t_n<|wp_seq<|aA<|qm u rfl fun a u=>qm u rfl fun a u=>qm u rfl fun a u=>?_;have⟨p12,e13,h⟩:=bs1 h;refine q u (dL u rfl rfl yQ zJ e13) fun a u=>?_;have⟨v14,e15,h⟩:=bs1 h;refine q u (aH u rfl zQ (bG e15)) fun a u=>?_;have⟨v16,w17,e18,h⟩:=bs2 h;refine q u (fD (xs:=[_]) (vs:=[(Sl.v v14)]) (cv:=[]) u rfl ⟨rfl,aBP⟩ Try.call69 (mT e18)) fun a u=>aC<|t_n<|?_;refine aF u rfl h (fun b19 h=>?_) (fun b19 h=>?_)
  .refine wp_seq<|aA<|qm u rfl fun a u=>qa u rfl fun a u=>aC<|t_n<|wp_ret<|b_r<|t_r<|?_;have y:=u;cases h;cases hr10 _ rfl;refine gB<|?_;exact hk9 _ rfl _ (y.sb rfl)
  refine wp_skip<|b_n<|t_n<|aA<|q u (dP u rfl rfl) fun a u=>qm u rfl fun a u=>aC<|?_;have y:=u;cases h;exact cP ⟨y.sb rfl,rfl⟩
 refine wp_exit<|t_x<|?_;have y:=u;cases h;cases hr10 _ rfl;refine iE<|?_;exact hk8 _ rfl _ (y.sb rfl)
noncomputable def bN (a0:Sl) (w:World):Option (Bool×World) :=
 aE (bW a0 w) fun v1 w2 =>
 some ((decide (0<=v1)),w2)
theorem fL {a0 w w' r0} (h:bN a0 w=some (r0,w')):Calls Try.prog 22 #[(Sl.v a0),(.func (.func 69) #[] #[])] w fun e w''=>e=.returned (.bool r0)/\w''=w':=by
 refine aG (n:=9) Try.func22 rfl Try.ntmps22 (by simp) fun a u=>?_;unfold bN at h;refine wp_seq<|aA<|qa u rfl fun a u=>aC<|t_n<|wp_seq<|aA<|qm u rfl fun a u=>qm u rfl fun a u=>?_;have⟨v1,w2,e3,h⟩:=bs2 h;refine q u (fP (xs:=[_,_]) (vs:=[(Sl.v a0),(.func (.func 69) #[] #[])]) u ⟨rfl,rfl,aBP⟩ Try.call40 (fX e3)) fun a u=>q u (lU u rfl rfl) fun a u=>qa u rfl fun a u=>aC<|t_n<|wp_ret<|?_;have y:=u;cases h;exact aX Try.results22 y rfl ⟨rfl,rfl⟩
noncomputable def iD (a0:Sl) (w:World):Option (Bool×World) :=
 aE (if (decide (16<(a0.n:Int)))=true then
 (some (true,w))
 else
 (aE (bN a0 w) fun v6 w7 =>
 some (v6,w7))) fun v1 w2 =>
 some (v1,w2)
theorem kX {a0 w w' r0} (h:iD a0 w=some (r0,w')):Calls Try.prog 38 #[(Sl.v a0)] w fun e w''=>e=.returned (.bool r0)/\w''=w':=by
 refine aG (n:=10) Try.func38 rfl Try.ntmps38 (by simp) fun a u=>?_;unfold iD at h;refine wp_seq<|aA<|qa u rfl fun a u=>aC<|t_n<|wp_seq<|?_;have⟨v1,w2,e3,h⟩:=bs2 h;refine aW (n:=10) (L:=[(2,(bV v1))]) (w':=w2) (fun a u=>?_) (fun hk4=>?_)
 .refine t_n<|wp_ret<|?_;have y:=u;cases h;exact aX Try.results38 y rfl ⟨rfl,rfl⟩
 clear h;have h:=e3;refine aA<|qm u rfl fun a u=>q u (bZ u rfl yQ) fun a u=>q u (iM u rfl rfl) fun a u=>qm u rfl fun a u=>?_;refine bU h (fun b5 h=>?_) (fun b5 h=>?_)
 .refine qn u 6 (tn b5) fun a u=>qn u 6 (tn b5) fun a u=>q u (aK u rfl b5 rfl) fun a u=>qa u rfl fun a u=>aC<|?_;have y:=u;cases h;exact hk4 _ (y.sb rfl)
 refine qg u 6 (nt b5) (aD u rfl) fun a u=>?_;have⟨v6,w7,e8,h⟩:=bs2 h;refine qg u 6 (nt b5) (fP (xs:=[_,_]) (vs:=[(Sl.v a0),(.func (.func 69) #[] #[])]) u ⟨rfl,rfl,aBP⟩ Try.call22 (fL e8)) fun a u=>q u (aJ u rfl b5 rfl) fun a u=>qa u rfl fun a u=>aC<|?_;have y:=u;cases h;exact hk4 _ (y.sb rfl)
noncomputable def cE (a0:Sl) (w:World):Option (Sl×World) :=
 if (a0.p.isNone)=true then
 (some (Sl.nil,w))
 else
 (aE (bsl w 40 12 []) fun s2 w3 =>
 aE (apS Try.prog 22 s2 a0 w3) fun s5 w6 =>
 some (s5,w6))
theorem hU {a0 w w' r0} (h:cE a0 w=some (r0,w')):Calls Try.prog 72 #[(Sl.v a0)] w fun e w''=>e=.returned (Sl.v r0)/\w''=w':=by
 refine aG (n:=8) Try.func72 rfl Try.ntmps72 (by simp) fun a u=>?_;unfold cE at h;refine wp_seq<|aA<|qa u rfl fun a u=>aC<|t_n<|wp_seq<|wp_seq<|aA<|qm u rfl fun a u=>q u (vP u rfl rfl yI) fun a u=>aC<|t_n<|?_;refine aF u rfl h (fun b1 h=>?_) (fun b1 h=>?_)
 .refine wp_seq<|aA<|qa u rfl fun a u=>aC<|t_n<|wp_ret<|t_r<|?_;have y:=u;cases h;exact aX Try.results72 y rfl ⟨rfl,rfl⟩
 refine wp_skip<|t_n<|wp_seq<|aA<|?_;have⟨s2,w3,e4,h⟩:=bs2 h;refine q u (iJ (vs:=[]) (ps:=[]) u trivial trivial rfl yI yH yZ (by decide) e4) fun a u=>qm u rfl fun a u=>?_;have⟨s5,w6,e7,h⟩:=bs2 h;refine q u (lG u rfl rfl e7) fun a u=>qa u rfl fun a u=>aC<|t_n<|wp_ret<|?_;have y:=u;cases h;exact aX Try.results72 y rfl ⟨rfl,rfl⟩
noncomputable def bK (a0:Sl) (w:World):Option (Sl×World) :=
 if (a0.p.isNone)=true then
 (some (Sl.nil,w))
 else
 (aE (bsl w 43 3 []) fun s2 w3 =>
 aE (apS Try.prog 38 s2 a0 w3) fun s5 w6 =>
 some (s5,w6))
theorem eR {a0 w w' r0} (h:bK a0 w=some (r0,w')):Calls Try.prog 73 #[(Sl.v a0)] w fun e w''=>e=.returned (Sl.v r0)/\w''=w':=by
 refine aG (n:=8) Try.func73 rfl Try.ntmps73 (by simp) fun a u=>?_;unfold bK at h;refine wp_seq<|aA<|qa u rfl fun a u=>aC<|t_n<|wp_seq<|wp_seq<|aA<|qm u rfl fun a u=>q u (vP u rfl rfl yJ) fun a u=>aC<|t_n<|?_;refine aF u rfl h (fun b1 h=>?_) (fun b1 h=>?_)
 .refine wp_seq<|aA<|qa u rfl fun a u=>aC<|t_n<|wp_ret<|t_r<|?_;have y:=u;cases h;exact aX Try.results73 y rfl ⟨rfl,rfl⟩
 refine wp_skip<|t_n<|wp_seq<|aA<|?_;have⟨s2,w3,e4,h⟩:=bs2 h;refine q u (iJ (vs:=[]) (ps:=[]) u trivial trivial rfl yJ yO aAb (by decide) e4) fun a u=>qm u rfl fun a u=>?_;have⟨s5,w6,e7,h⟩:=bs2 h;refine q u (lG u rfl rfl e7) fun a u=>qa u rfl fun a u=>aC<|t_n<|wp_ret<|?_;have y:=u;cases h;exact aX Try.results73 y rfl ⟨rfl,rfl⟩
noncomputable def dS (v25:Sl) (s1:Sl) (x4:Int) (x27:Int) (w28:World):Option ((Int×World)⊕(World)) :=
 if (decide (x27<(v25.n:Int)))=true then
 ((dr w28).bind fun w35 =>
 (ix s1 x4 1).bind fun p37 =>
 (ldL w35 p37).bind fun v39 =>
 (ix s1 x4 1).bind fun p41 =>
 (ldL w35 p41).bind fun v43 =>
 (ix s1 x4 1).bind fun p45 =>
 (ldL w35 p45).bind fun v47 =>
 (ix v47 x27 12).bind fun p49 =>
 (ldL w35 (p49.add 10)).bind fun v51 =>
 aE (bK v51 w35) fun v53 w54 =>
 (ix s1 x4 1).bind fun p56 =>
 (ldL w54 p56).bind fun v58 =>
 (ix v58 x27 12).bind fun p60 =>
 (ldL w54 (p60.add 11)).bind fun v62 =>
 aE (bK v62 w54) fun v64 w65 =>
 (ix v39 x27 12).bind fun p67 =>
 (stV w65 (p67.add 10) (Sl.v v53)).bind fun w69 =>
 (ix v43 x27 12).bind fun p71 =>
 (stV w69 (p71.add 11) (Sl.v v64)).bind fun w73 =>
 chk (ldL w54 p37=some v39) <|
 chk (ldL w65 p37=some v39) <|
 chk (ldL w54 p41=some v43) <|
 chk (ldL w65 p41=some v43) <|
 chk (ldL w35 p56=some v58) <|
 chk (ldL w35 (p60.add 11)=some v62) <|
 some (.inl ((IntKind.wrap .i64 (x27+1)),w73)))
 else
 (some (.inr w28))
noncomputable def eE (a0:Sl) (s1:Sl) (x4:Int) (w5:World):Option ((Int×World)⊕(World)) :=
 if (decide (x4<(a0.n:Int)))=true then
 ((ix a0 x4 1).bind fun p12 =>
 (ldL w5 p12).bind fun v14 =>
 aE (cE v14 w5) fun v16 w17 =>
 (ix s1 x4 1).bind fun p19 =>
 (stV w17 p19 (Sl.v v16)).bind fun w21 =>
 (ix s1 x4 1).bind fun p23 =>
 (ldL w21 p23).bind fun v25 =>
 (bB (fun s:Int×World=>dS v25 s1 x4 s.1 s.2) (0,w21)).bind fun w31 =>
 some (.inl ((IntKind.wrap .i64 (x4+1)),w31)))
 else
 (some (.inr w5))
noncomputable def iH (a0:Sl) (w:World):Option (Sl×World) :=
 aE (mkS Try.prog 47 (a0.n:Int) (a0.n:Int) w) fun s1 w2 =>
 (bB (fun s:Int×World=>eE a0 s1 s.1 s.2) (0,w2)).bind fun w8 =>
 some (s1,w8)
theorem nA {a0 w w' r0} (h:iH a0 w=some (r0,w')):Calls Try.prog 39 #[(Sl.v a0)] w fun e w''=>e=.returned (Sl.v r0)/\w''=w':=by
 refine aG (n:=65) Try.func39 rfl Try.ntmps39 (by simp) fun a u=>?_;unfold iH at h;refine wp_seq<|aA<|qa u rfl fun a u=>aC<|t_n<|wp_seq<|aA<|qm u rfl fun a u=>q u (bZ u rfl yQ) fun a u=>?_;have⟨s1,w2,e3,h⟩:=bs2 h;refine q u (xK u rfl rfl e3) fun a u=>qa u rfl fun a u=>aC<|t_n<|wp_seq<|wp_seq<|aA<|qm u rfl fun a u=>q u (bZ u rfl yQ) fun a u=>qm u rfl fun a u=>aC<|t_n<|wp_block<|?_;have⟨w8,e7,h⟩:=bs1 h;refine lO (n:=65) (L:=[(3,(Sl.v s1))]) (w':=w8) (e:=.exit 0) (I:=fun (s:Int×World) a w=>Has 65 [(12,(iV s.1)),(3,(Sl.v s1)),(10,(Sl.v a0)),(11,(iV (a0.n:Int)))] a/\w=s.2) ⟨u.sub ⟨rfl,rfl,rfl,rfl,aBP⟩,rfl⟩ e7 (fun a u=>?_) (fun hk9=>?_)
 .refine eC<|t_n<|wp_seq<|aA<|qm u rfl fun a u=>qa u rfl fun a u=>aC<|t_n<|wp_ret<|?_;have y:=u;cases h;exact aX Try.results39 y rfl ⟨rfl,rfl⟩
 clear h;rintro⟨x4,w5⟩ a wq o ⟨u,hwq⟩ h hr10;obtain rfl:w5=wq:=hwq.symm;have u:Has 65 [(12,(iV x4)),(3,(Sl.v s1)),(10,(Sl.v a0)),(11,(iV (a0.n:Int)))] a:=u;have h:eE a0 s1 x4 w5=some o:=h;unfold eE at h;refine wp_seq<|aA<|q u (eX u rfl rfl) fun a u=>aC<|t_n<|wp_seq<|?_;refine aF u rfl h (fun b11 h=>?_) (fun b11 h=>?_)
 .refine wp_skip<|t_n<|wp_seq<|wp_block<|wp_seq<|aA<|qm u rfl fun a u=>?_;have⟨p12,e13,h⟩:=bs1 h;refine q u (dL u rfl rfl yQ zJ e13) fun a u=>?_;have⟨v14,e15,h⟩:=bs1 h;refine q u (aH u rfl zQ (bG e15)) fun a u=>qa u rfl fun a u=>qa u rfl fun a u=>aC<|t_n<|wp_seq<|aA<|qm u rfl fun a u=>qm u rfl fun a u=>qm u rfl fun a u=>?_;have⟨v16,w17,e18,h⟩:=bs2 h;refine q u (dc1 u rfl Try.call72 (hU e18)) fun a u=>?_;have⟨p19,e20,h⟩:=bs1 h;refine q u (dL u rfl rfl yQ zJ e20) fun a u=>?_;have⟨w21,e22,h⟩:=bs1 h;refine q u (iI u rfl rfl zJ e22) fun a u=>aC<|t_n<|wp_seq<|aA<|qm u rfl fun a u=>qm u rfl fun a u=>?_;have⟨p23,e24,h⟩:=bs1 h;refine q u (dL u rfl rfl yQ zJ e24) fun a u=>?_;have⟨v25,e26,h⟩:=bs1 h;refine q u (aH u rfl zQ (bG e26)) fun a u=>q u (bZ u rfl yI) fun a u=>qm u rfl fun a u=>aC<|t_n<|wp_block<|?_;have⟨w31,e30,h⟩:=bs1 h;refine lO (n:=65) (L:=[(3,(Sl.v s1)),(10,(Sl.v a0)),(11,(iV (a0.n:Int))),(12,(iV x4))]) (w':=w31) (e:=.exit 2) (I:=fun (s:Int×World) a w=>Has 65 [(27,(iV s.1)),(3,(Sl.v s1)),(4,(iV x4)),(10,(Sl.v a0)),(11,(iV (a0.n:Int))),(12,(iV x4)),(26,(iV (v25.n:Int)))] a/\w=s.2) ⟨u.sub ⟨rfl,rfl,rfl,rfl,rfl,rfl,rfl,aBP⟩,rfl⟩ e30 (fun a u=>?_) (fun hk32=>?_)
  .refine eC<|b_n<|t_n<|aA<|q u (dP u rfl rfl) fun a u=>qm u rfl fun a u=>aC<|?_;have y:=u;cases h;exact cP ⟨y.sb rfl,rfl⟩
  clear h;rintro⟨x27,w28⟩ a wq o ⟨u,hwq⟩ h hr33;obtain rfl:w28=wq:=hwq.symm;have u:Has 65 [(27,(iV x27)),(3,(Sl.v s1)),(4,(iV x4)),(10,(Sl.v a0)),(11,(iV (a0.n:Int))),(12,(iV x4)),(26,(iV (v25.n:Int)))] a:=u;have h:dS v25 s1 x4 x27 w28=some o:=h;unfold dS at h;refine wp_seq<|aA<|q u (eX u rfl rfl) fun a u=>aC<|t_n<|wp_seq<|?_;refine aF u rfl h (fun b34 h=>?_) (fun b34 h=>?_)
  .refine wp_skip<|t_n<|wp_seq<|wp_block<|wp_seq<|aA<|qm u rfl fun a u=>qa u rfl fun a u=>aC<|t_n<|?_;have⟨w35,e36,h⟩:=bs1 h;have⟨p37,e38,h⟩:=bs1 h;have⟨v39,e40,h⟩:=bs1 h;have⟨p41,e42,h⟩:=bs1 h;have⟨v43,e44,h⟩:=bs1 h;have⟨p45,e46,h⟩:=bs1 h;have⟨v47,e48,h⟩:=bs1 h;have⟨p49,e50,h⟩:=bs1 h;have⟨v51,e52,h⟩:=bs1 h;have⟨v53,w54,e55,h⟩:=bs2 h;have⟨p56,e57,h⟩:=bs1 h;have⟨v58,e59,h⟩:=bs1 h;have⟨p60,e61,h⟩:=bs1 h;have⟨v62,e63,h⟩:=bs1 h;have⟨v64,w65,e66,h⟩:=bs2 h;have⟨p67,e68,h⟩:=bs1 h;have⟨w69,e70,h⟩:=bs1 h;have⟨p71,e72,h⟩:=bs1 h;have⟨w73,e74,h⟩:=bs1 h;obtain⟨e75,h⟩:=dO h;obtain⟨e76,h⟩:=dO h;obtain⟨e77,h⟩:=dO h;obtain⟨e78,h⟩:=dO h;obtain⟨e79,h⟩:=dO h;obtain⟨e80,h⟩:=dO h;have u:Has 65 [(3,(Sl.v s1)),(4,(iV x4)),(6,(iV x27)),(10,(Sl.v a0)),(11,(iV (a0.n:Int))),(12,(iV x4)),(26,(iV (v25.n:Int))),(27,(iV x27))] a:=u.sb rfl;refine bC (n:=65) (ds:=(aN (Sl.v s1) false 0 2 [] [(3,(Sl.v s1))]::aN (iV x4) false 0 2 [] [(4,(iV x4))]::aN (pV (some p37)) false 0 2 [0,1] [(30,(Sl.v s1)),(31,(iV x4))]::aN (Sl.v v39) false 0 2 [0,1,2] [(32,(pV (some p37)))]::aN (iV x27) false 0 2 [] [(6,(iV x27))]::aN (Sl.v s1) false 0 2 [] [(3,(Sl.v s1))]::aN (iV x4) false 0 2 [] [(4,(iV x4))]::aN (pV (some p41)) false 0 2 [5,6] [(35,(Sl.v s1)),(36,(iV x4))]::aN (Sl.v v43) false 0 2 [5,6,7] [(37,(pV (some p41)))]::aN (iV x27) false 0 3 [] [(6,(iV x27))]::dD (Sl.v s1) 0 [] 3::dD (iV x4) 0 [] 4::bY (pV (some p45)) 0 [10,11] [(40,(Sl.v s1)),(41,(iV x4))]::aQ (Sl.v v47) 0 [10,11,12] 42 (pV (some p45))::dD (iV x27) 0 [] 6::bY (pV (some p49)) 0 (rn 10 5) [(43,(Sl.v v47)),(44,(iV x27))]::aQ (pV (some (p49.add 10))) 0 (rn 10 6) 45 (pV (some p49))::aQ (Sl.v v51) 0 (rn 10 7) 46 (pV (some (p49.add 10)))::aN (Sl.v v53) true 0 0 (rn 10 8) [(47,(Sl.v v51))]::aN (Sl.v s1) false 0 1 [] [(3,(Sl.v s1))]::aN (iV x4) false 0 1 [] [(4,(iV x4))]::aN (pV (some p56)) false 0 1 [19,20] [(49,(Sl.v s1)),(50,(iV x4))]::aN (Sl.v v58) false 0 1 [19,20,21] [(51,(pV (some p56)))]::aN (iV x27) false 0 1 [] [(6,(iV x27))]::aN (pV (some p60)) false 0 1 (rn 19 5) [(52,(Sl.v v58)),(53,(iV x27))]::aN (pV (some (p60.add 11))) false 0 1 (rn 19 6) [(54,(pV (some p60)))]::aN (Sl.v v62) false 0 1 (rn 19 7) [(55,(pV (some (p60.add 11))))]::aN (Sl.v v64) true 1 1 (rn 10 17) [(56,(Sl.v v62))]::bY (pV (some p67)) 2 (rn 0 9++rn 10 18) [(33,(Sl.v v39)),(34,(iV x27))]::aQ (pV (some (p67.add 10))) 2 (rn 0 9++rn 10 19) 58 (pV (some p67))::aN (undef) true 2 2 (rn 0 9++rn 10 20) [(59,(pV (some (p67.add 10)))),(48,(Sl.v v53))]::bY (pV (some p71)) 3 (rn 0 31) [(38,(Sl.v v43)),(39,(iV x27))]::aQ (pV (some (p71.add 11))) 3 (rn 0 32) 60 (pV (some p71))::aN (undef) true 3 3 (rn 0 33) [(61,(pV (some (p71.add 11)))),(57,(Sl.v v64))]::[])) (W:=(fun j=>match j with | 0=>w35 | 1=>w54 | 2=>w65 | 3=>w69 | 4=>w73 | _=>w73)) (by kernel_rfl) u (gN e36) (by kernel_rfl) ?_ (bA (by kernel_rfl)) (by kernel_rfl) (m:=4) (by kernel_rfl) (fun a u=>?_)
   .refine⟨oa (aD · rfl),oa (aD · rfl),oa (dL · rfl rfl yQ zJ e38),?_,oa (aD · rfl),oa (aD · rfl),oa (aD · rfl),oa (dL · rfl rfl yQ zJ e42),?_,oa (aD · rfl),oa (aD · rfl),oa (aD · rfl),oa (dL · rfl rfl yQ zJ e46),oc 0 (kd (aH · rfl zQ (bG e48))),oa (aD · rfl),oa (dL · rfl rfl yI yH e50),oa (aI · rfl yG rfl rfl yV),oc 0 (kd (aH · rfl yX (bG e52))),oc 0 (kd (dc1 · rfl Try.call73 (eR e55))),oa (aD · rfl),oa (aD · rfl),oa (dL · rfl rfl yQ zJ e57),?_,oa (aD · rfl),oa (dL · rfl rfl yI yH e61),oa (aI · rfl yG rfl rfl yV),?_,oc 1 (kd (dc1 · rfl Try.call73 (eR e66))),oa (dL · rfl rfl yI yH e68),oa (aI · rfl yG rfl rfl yV),oc 2 (kd (iI · rfl rfl yV e70)),oa (dL · rfl rfl yI yH e72),oa (aI · rfl yG rfl rfl yV),
     oc 3 (kd (iI · rfl rfl yV e74)),aBP⟩
    .intro j h1 h2;have h1:0<=j:=h1;have h2:j<=2:=h2;rcases(by omega:j=0\/j=1\/j=2) with rfl | rfl | rfl
     .exact kd (aH · rfl zQ (bG e40))
     .exact kd (aH · rfl zQ (bG e75))
     exact kd (aH · rfl zQ (bG e76))
    .intro j h1 h2;have h1:0<=j:=h1;have h2:j<=2:=h2;rcases(by omega:j=0\/j=1\/j=2) with rfl | rfl | rfl
     .exact kd (aH · rfl zQ (bG e44))
     .exact kd (aH · rfl zQ (bG e77))
     exact kd (aH · rfl zQ (bG e78))
    .intro j h1 h2;have h1:0<=j:=h1;have h2:j<=1:=h2;rcases(by omega:j=0\/j=1) with rfl | rfl
     .exact kd (aH · rfl zQ (bG e79))
     exact kd (aH · rfl zQ (bG e59))
    intro j h1 h2;have h1:0<=j:=h1;have h2:j<=1:=h2;rcases(by omega:j=0\/j=1) with rfl | rfl
    .exact kd (aH · rfl yX (bG e80))
    exact kd (aH · rfl yX (bG e63))
   have u:Has 65 [(3,(Sl.v s1)),(4,(iV x4)),(10,(Sl.v a0)),(11,(iV (a0.n:Int))),(12,(iV x4)),(26,(iV (v25.n:Int))),(27,(iV x27))] a:=u.sb rfl;refine b_n<|t_n<|aA<|q u (dP u rfl rfl) fun a u=>qm u rfl fun a u=>aC<|?_;have y:=u;cases h;exact cP ⟨y.sb rfl,rfl⟩
  refine wp_exit<|t_x<|?_;have y:=u;cases h;cases hr33 _ rfl;refine iE<|?_;exact hk32 _ (y.sb rfl)
 refine wp_exit<|t_x<|?_;have y:=u;cases h;cases hr10 _ rfl;refine iE<|?_;exact hk9 _ (y.sb rfl)
noncomputable def eN (a1:Sl) (s13:Sl) (p1:Addr) (x16:Sl) (x17:Int) (w18:World):ND ((Sl×Int×World)⊕((Sl×World)⊕(Sl×Int×World))) :=
 if (decide (x17<(a1.n:Int)))=true then
 (lb1 (ix a1 x17 9) fun p30 =>
 lb1 (ldA 9 w18 p30 0) fun c32 =>
 lb2 (mk w18 57 ([.int .i64 0,.string ByteArray.empty,.int .i64 0,.int .i64 0,.int .i64 0,.string ByteArray.empty,.bool false,.complex .f64 0 0,.int .i64 0])) fun p34 w35 =>
 lb1 (stA w35 p34 0 c32) fun w37 =>
 cb2 (lb1 (ldI .i64 w37 (p34.add 0)) fun v43 =>
 if (v43==1)=true then
 (lb2 (bsl w37 70 2 [([Sl.v s13,Sl.v Sl.nil])]) fun s46 w47 =>
 lb2 (apS Try.prog 68 x16 s46 w47) fun s49 w50 =>
 cO (s49,w50))
 else
 (if (v43==2)=true then
 (lb2 (bsl w37 70 2 [([Sl.v Sl.nil,Sl.v s13])]) fun s53 w54 =>
 lb2 (apS Try.prog 68 x16 s53 w54) fun s56 w57 =>
 cO (s56,w57))
 else
 (if (v43==3)=true then
 (lb1 (dr w37) fun w60 =>
 lb1 (ldA 9 w60 p34 0) fun c62 =>
 lb1 (ldS w60 (p34.add 1)) fun v64 =>
 lb2 (hG v64 p1 w60) fun v66 w67 =>
 nck (ldA 9 w67 p34 0=some c62) <|
 cb2 (jH c62 v66 w67) fun v69 w70 =>
 lb2 (bsl w70 70 2 [v69]) fun s73 w74 =>
 lb2 (apS Try.prog 68 x16 s73 w74) fun s76 w77 =>
 cO (s76,w77))
 else
 (if (v43==4)=true then
 (lb1 (dr w37) fun w80 =>
 lb1 (ix x16 (IntKind.wrap .i64 ((x16.n:Int)-1)) 2) fun p82 =>
 lb1 (ldL w80 (p82.add 1)) fun v84 =>
 lb1 (ix x16 (IntKind.wrap .i64 ((x16.n:Int)-1)) 2) fun p86 =>
 lb1 (ldL w80 (p86.add 0)) fun v88 =>
 lb1 (ix x16 (IntKind.wrap .i64 ((x16.n:Int)-1)) 2) fun p90 =>
 lb1 (stA w80 p90 0 ([Sl.v v84,Sl.v v88])) fun w92 =>
 cO (x16,w92))
 else
 (if (v43==5)=true then
 nX
 else
 (if (v43==6)=true then
 nX
 else
 (cO (x16,w37)))))))) fun v39 w40 =>
 lb1 (ix v39 (IntKind.wrap .i64 ((v39.n:Int)-1)) 2) fun p96 =>
 lb1 (ldA 2 w40 p96 0) fun c98 =>
 lb2 (mk w40 70 ([.slice none 0 0,.slice none 0 0])) fun p100 w101 =>
 lb1 (stA w101 p100 0 c98) fun w103 =>
 cb2 (lb1 (ldL w103 (p100.add 0)) fun v109 =>
 lb2 (iD v109 w103) fun v111 w112 =>
 if v111=true then
 (cO (true,w112))
 else
 (lb1 (ldL w112 (p100.add 1)) fun v115 =>
 lb2 (iD v115 w112) fun v117 w118 =>
 cO (v117,w118))) fun v105 w106 =>
 if v105=true then
 (cO (.inr (.inr (Sl.nil,6,w106))))
 else
 (cO (.inl (v39,(IntKind.wrap .i64 (x17+1)),w106))))
 else
 (cO (.inr (.inl (x16,w18))))
noncomputable def iC (a0:Sl) (a1:Sl) (w:World):ND (Sl×Int×World) :=
 lb2 (mk w 34 ([(Sl.v a0)])) fun p1 w2 =>
 lb1 (ldL w2 p1) fun v4 =>
 lb2 (jV v4 a1 w2) fun v6 w7 =>
 if (v6 !=0)=true then
 (cO (Sl.nil,v6,w7))
 else
 (lb2 (bsl w7 40 12 []) fun s10 w11 =>
 lb2 (bsl w11 22 1 [[(Sl.v s10)]]) fun s13 w14 =>
 cb1 (mY (fun s:Sl×Int×World=>eN a1 s13 p1 s.1 s.2.1 s.2.2) (Sl.nil,0,w14)) fun r19=>Sum.elim (fun (i:Sl×World)=>u2 i fun v21 w22 =>
 lb1 (ix v21 0 2) fun p121 =>
 lb1 (ldL w22 (p121.add 0)) fun v123 =>
 lb2 (iH v123 w22) fun v125 w126 =>
 cO (v125,0,w126)) (fun (i:Sl×Int×World)=>u3 i fun v23 v24 w25 =>
 cO (v23,v24,w25)) r19)
theorem lD {a0 a1 w Q} (h:(iC a0 a1 w).t Q):Calls Try.prog 21 #[(Sl.v a0),(Sl.v a1)] w fun e w''=>∃ i,e=.returned (.tuple #[(Sl.v i.1),(.int .i64 i.2.1)])/\Q i/\w''=i.2.2:=by
 refine aG (n:=163) Try.func21 rfl Try.ntmps21 (by simp) fun a u=>?_;unfold iC at h;refine wp_seq<|aA<|?_;obtain⟨p1,w2,e3,h⟩:=h;refine q u (dJ u rfl rfl e3) fun a u=>qa u rfl fun a u=>qa u rfl fun a u=>aC<|t_n<|wp_seq<|wp_seq<|aA<|?_;obtain⟨v4,e5,h⟩:=h;refine q u (aH u rfl aAg (bG e5)) fun a u=>qm u rfl fun a u=>?_;obtain⟨v6,w7,e8,h⟩:=h;refine q u (dc2 u rfl rfl Try.call31 (pC e8)) fun a u=>qa u rfl fun a u=>aC<|t_n<|wp_seq<|aA<|qm u rfl fun a u=>q u (kE u rfl rfl) fun a u=>aC<|t_n<|?_;refine cJ u rfl h (fun b9 h=>?_) (fun b9 h=>?_)
 .refine wp_seq<|aA<|qm u rfl fun a u=>qa u rfl fun a u=>qa u rfl fun a u=>aC<|t_n<|wp_ret<|t_r<|?_;exact nD Try.results21 u rfl rfl ⟨(Sl.nil,v6,w7),rfl,h,rfl⟩
 refine wp_skip<|t_n<|wp_seq<|aA<|q u (kY (vs:=[(pV (some p1))]) u ⟨rfl,aBP⟩) fun a u=>qa u rfl fun a u=>aC<|t_n<|wp_seq<|aA<|?_;obtain⟨s10,w11,e12,h⟩:=h;refine q u (iJ (vs:=[]) (ps:=[]) u trivial trivial rfl yI yH yZ (by decide) e12) fun a u=>?_;obtain⟨s13,w14,e15,h⟩:=h;refine q u (iJ (vs:=[(0,(Sl.v s10))]) (ps:=[[(Sl.v s10)]]) u ⟨rfl,rfl,aBP⟩ ⟨rfl,rfl,aBP⟩ rfl yQ zJ zY (by decide) e15) fun a u=>qa u rfl fun a u=>aC<|t_n<|wp_seq<|aA<|qa u rfl fun a u=>aC<|t_n<|wp_seq<|wp_seq<|aA<|qm u rfl fun a u=>q u (bZ u rfl zP) fun a u=>qm u rfl fun a u=>aC<|t_n<|wp_block<|?_;refine qC (n:=163) (L1:=fun i=>[(9,(Sl.v i.1))]) (w1:=fun i=>i.2) (L2:=fun i=>[(4,(Sl.v i.1)),(5,(iV i.2.1))]) (w2:=fun i=>i.2.2) (e1:=.exit 0) (e2:=.ret) (I:=fun (s:Sl×Int×World) a w=>Has 163 [(9,(Sl.v s.1)),(25,(iV s.2.1)),(7,(.func (.func 32) #[] #[(pV (some p1))])),(8,(Sl.v s13)),(23,(Sl.v a1)),(24,(iV (a1.n:Int)))] a/\w=s.2.2) (un1 h) ⟨u.sub ⟨rfl,rfl,rfl,rfl,rfl,rfl,aBP⟩,rfl⟩ (fun i h a u=>?_) (fun i h a u=>?_) (fun hk26 hk27=>?_)
 .obtain⟨v21,w22⟩:=i
  try dsimp only[Sum.elim_inl,Sum.elim_inr,u1,u2,u3,u4,u5,u6] at h
  have u:Has 163 [(9,(Sl.v v21))] a:=u;refine eC<|t_n<|wp_seq<|aA<|qm u rfl fun a u=>?_;obtain⟨p121,e122,h⟩:=h;refine q u (dL u rfl rfl zF zS e122) fun a u=>q u (aI u rfl zN rfl rfl zE) fun a u=>?_;obtain⟨v123,e124,h⟩:=h;refine q u (aH u rfl zK (bG e124)) fun a u=>?_;obtain⟨v125,w126,e127,h⟩:=h;refine q u (dc1 u rfl Try.call39 (nA e127)) fun a u=>qa u rfl fun a u=>qa u rfl fun a u=>aC<|t_n<|wp_ret<|?_;exact nD Try.results21 u rfl rfl ⟨(v125,0,w126),rfl,h,rfl⟩
 .obtain⟨v23,v24,w25⟩:=i
  try dsimp only[Sum.elim_inl,Sum.elim_inr,u1,u2,u3,u4,u5,u6] at h
  have u:Has 163 [(4,(Sl.v v23)),(5,(iV v24))] a:=u;refine b_r<|t_r<|?_;exact nD Try.results21 u rfl rfl ⟨(v23,v24,w25),rfl,h,rfl⟩
 clear h;intro hX128;rintro⟨x16,x17,w18⟩ a wq ⟨u,hwq⟩ h;obtain rfl:w18=wq:=hwq.symm;have u:Has 163 [(9,(Sl.v x16)),(25,(iV x17)),(7,(.func (.func 32) #[] #[(pV (some p1))])),(8,(Sl.v s13)),(23,(Sl.v a1)),(24,(iV (a1.n:Int)))] a:=u;have h:(eN a1 s13 p1 x16 x17 w18).t _:=h;unfold eN at h;refine wp_seq<|aA<|q u (eX u rfl rfl) fun a u=>aC<|t_n<|wp_seq<|?_;refine cJ u rfl h (fun b29 h=>?_) (fun b29 h=>?_)
 .refine wp_skip<|t_n<|wp_seq<|wp_block<|wp_seq<|aA<|?_;obtain⟨p30,e31,h⟩:=h;refine q u (dL u rfl rfl zP zR e31) fun a u=>?_;obtain⟨c32,e33,h⟩:=h;refine q u (bE u rfl aAd zR e33) fun a u=>?_;obtain⟨p34,w35,e36,h⟩:=h;refine q u (dG aAa (by kernel_rfl) e36) fun a u=>?_;obtain⟨w37,e38,h⟩:=h;refine q u (eU u rfl rfl zR ((jI e33).1) e38) fun a u=>aC<|t_n<|wp_seq<|aA<|qm u rfl fun a u=>q u (bZ u rfl zF) fun a u=>q u (jM u rfl rfl) fun a u=>qa u rfl fun a u=>aC<|t_n<|?_;refine mU (n:=163) (ι:=Sl×World) (Lf:=fun i=>[(9,(Sl.v i.1)),(7,(.func (.func 32) #[] #[(pV (some p1))])),(8,(Sl.v s13)),(23,(Sl.v a1)),(24,(iV (a1.n:Int))),(25,(iV x17))]) (wf:=fun i=>i.2) (un2 h) (fun i h a u=>?_) (fun h hk42=>?_)
  .obtain⟨v39,w40⟩:=i;have u:Has 163 [(9,(Sl.v v39)),(7,(.func (.func 32) #[] #[(pV (some p1))])),(8,(Sl.v s13)),(23,(Sl.v a1)),(24,(iV (a1.n:Int))),(25,(iV x17))] a:=u;refine wp_seq<|aA<|qm u rfl fun a u=>qm u rfl fun a u=>q u (bZ u rfl zF) fun a u=>q u (jM u rfl rfl) fun a u=>?_;obtain⟨p96,e97,h⟩:=h;refine q u (dL u rfl rfl zF zS e97) fun a u=>?_;obtain⟨c98,e99,h⟩:=h;refine q u (bE u rfl Try.isAgg70 zS e99) fun a u=>?_;obtain⟨p100,w101,e102,h⟩:=h;refine q u (dG zU (by kernel_rfl) e102) fun a u=>?_;obtain⟨w103,e104,h⟩:=h;refine q u (eU u rfl rfl zS ((jI e99).1) e104) fun a u=>aC<|t_n<|wp_seq<|?_;refine gU (n:=163) (ι:=Bool×World) (Lf:=fun i=>[(156,(bV i.1)),(7,(.func (.func 32) #[] #[(pV (some p1))])),(8,(Sl.v s13)),(9,(Sl.v v39)),(23,(Sl.v a1)),(24,(iV (a1.n:Int))),(25,(iV x17))]) (wf:=fun i=>i.2) (un2 h) (fun i h a u=>?_) (fun h hk108=>?_)
   .obtain⟨v105,w106⟩:=i;have u:Has 163 [(156,(bV v105)),(7,(.func (.func 32) #[] #[(pV (some p1))])),(8,(Sl.v s13)),(9,(Sl.v v39)),(23,(Sl.v a1)),(24,(iV (a1.n:Int))),(25,(iV x17))] a:=u;refine t_n<|?_;refine cJ u rfl h (fun b120 h=>?_) (fun b120 h=>?_)
    .refine wp_seq<|aA<|qa u rfl fun a u=>qa u rfl fun a u=>aC<|t_n<|wp_ret<|b_r<|t_r<|t_r<|?_;exact hk27 (Sl.nil,6,w106) h _ (u.sb rfl)
    refine wp_skip<|b_n<|t_n<|aA<|q u (dP u rfl rfl) fun a u=>qm u rfl fun a u=>aC<|?_;exact⟨(v39,(IntKind.wrap .i64 (x17+1)),w106),⟨u.sb rfl,rfl⟩,h⟩
   refine aA<|q u (aI u rfl zN rfl rfl zE) fun a u=>?_;obtain⟨v109,e110,h⟩:=h;refine q u (aH u rfl zK (bG e110)) fun a u=>?_;obtain⟨v111,w112,e113,h⟩:=h;refine q u (dc1 u rfl Try.call38 (kX e113)) fun a u=>qm u rfl fun a u=>?_;refine oD h (fun b114 h=>?_) (fun b114 h=>?_)
   .refine qn u 152 (tn b114) fun a u=>qn u 152 (tn b114) fun a u=>qn u 152 (tn b114) fun a u=>q u (aK u rfl b114 rfl) fun a u=>aC<|?_;exact hk108 (true,w112) h _ (u.sb rfl)
   refine qg u 152 (nt b114) (aI u rfl zN rfl rfl zE) fun a u=>?_;obtain⟨v115,e116,h⟩:=h;refine qg u 152 (nt b114) (aH u rfl zK (bG e116)) fun a u=>?_;obtain⟨v117,w118,e119,h⟩:=h;refine qg u 152 (nt b114) (dc1 u rfl Try.call38 (kX e119)) fun a u=>q u (aJ u rfl b114 rfl) fun a u=>aC<|?_;exact hk108 (v117,w118) h _ (u.sb rfl)
  refine wp_seq<|aA<|q u (aI u rfl yL rfl rfl Try.sizeOf51) fun a u=>?_;obtain⟨v43,e44,h⟩:=h;refine q u (aH u rfl Try.isAgg51 (aL e44)) fun a u=>aC<|t_n<|wp_block<|wp_seq<|aA<|q u (cA u rfl rfl) fun a u=>qa u rfl fun a u=>aC<|t_n<|?_;refine cJ u rfl h (fun b45 h=>?_) (fun b45 h=>?_)
  .refine aA<|qm u rfl fun a u=>qm u rfl fun a u=>q u (gT (vs:=[(0,(Sl.v s13)),(1,(Sl.v Sl.nil))]) (pl:=#[(0,1),(1,1)]) (cs:=([Sl.v s13,Sl.v Sl.nil])) u ⟨rfl,rfl,rfl,rfl,aBP⟩ zU zN (by intro w;kernel_rfl) (by kernel_rfl)) fun a u=>?_;obtain⟨s46,w47,e48,h⟩:=h;refine q u (iJ (vs:=[(0,(.agg (List.toArray ([Sl.v s13,Sl.v Sl.nil]))))]) (ps:=[([Sl.v s13,Sl.v Sl.nil])]) u ⟨rfl,rfl,aBP⟩ ⟨rfl,rfl,aBP⟩ rfl zF zS zU (by decide) e48) fun a u=>?_;obtain⟨s49,w50,e51,h⟩:=h;refine q u (lG u rfl rfl e51) fun a u=>qa u rfl fun a u=>aC<|b_n<|?_;exact hk42 (s49,w50) h _ (u.sb rfl)
  refine wp_seq<|aA<|q u (cA u rfl rfl) fun a u=>qa u rfl fun a u=>aC<|t_n<|?_;refine cJ u rfl h (fun b52 h=>?_) (fun b52 h=>?_)
  .refine aA<|qm u rfl fun a u=>qm u rfl fun a u=>q u (gT (vs:=[(0,(Sl.v Sl.nil)),(1,(Sl.v s13))]) (pl:=#[(0,1),(1,1)]) (cs:=([Sl.v Sl.nil,Sl.v s13])) u ⟨rfl,rfl,rfl,rfl,aBP⟩ zU zN (by intro w;kernel_rfl) (by kernel_rfl)) fun a u=>?_;obtain⟨s53,w54,e55,h⟩:=h;refine q u (iJ (vs:=[(0,(.agg (List.toArray ([Sl.v Sl.nil,Sl.v s13]))))]) (ps:=[([Sl.v Sl.nil,Sl.v s13])]) u ⟨rfl,rfl,aBP⟩ ⟨rfl,rfl,aBP⟩ rfl zF zS zU (by decide) e55) fun a u=>?_;obtain⟨s56,w57,e58,h⟩:=h;refine q u (lG u rfl rfl e58) fun a u=>qa u rfl fun a u=>aC<|b_n<|?_;exact hk42 (s56,w57) h _ (u.sb rfl)
  refine wp_seq<|aA<|q u (cA u rfl rfl) fun a u=>qa u rfl fun a u=>aC<|t_n<|?_;refine cJ u rfl h (fun b59 h=>?_) (fun b59 h=>?_)
  .obtain⟨w60,e61,h⟩:=h;obtain⟨c62,e63,h⟩:=h;obtain⟨v64,e65,h⟩:=h;obtain⟨v66,w67,e68,h⟩:=h;obtain⟨e72,h⟩:=h;have u:Has 163 [(7,(.func (.func 32) #[] #[(pV (some p1))])),(8,(Sl.v s13)),(9,(Sl.v x16)),(11,(pV (some p34))),(12,(iV (IntKind.wrap .i64 ((x16.n:Int)-1)))),(23,(Sl.v a1)),(24,(iV (a1.n:Int))),(25,(iV x17)),(33,(iV v43)),(48,(bV (v43==3)))] a:=u.sb rfl;refine pZ (n:=163) (i:=0) (d:=50) (s:=9) (v:=(Sl.v x16)) (ds:=(aN (Sl.v x16) false 0 1 [] [(9,(Sl.v x16))]::aN (.agg (List.toArray c62)) false 0 1 [] [(11,(pV (some p34)))]::dD (.func (.func 32) #[] #[(pV (some p1))]) 0 [] 7::aQ (pV (some (p34.add 1))) 0 [] 11 (pV (some p34))::aQ (.string v64) 0 [3] 53 (pV (some (p34.add 1)))::aN (iV v66) true 0 0 [2,3,4] [(52,(.func (.func 32) #[] #[(pV (some p1))])),(54,(.string v64))]::[])) (B:=(_::_::_::_::[])) (W:=(fun j=>match j with | 0=>w60 | 1=>w67 | _=>w67)) (m:=1) (by kernel_rfl) u (gN e61) rfl ?_ rfl (by decide) (by kernel_rfl) (by kernel_rfl) (by kernel_rfl) (by kernel_rfl) ?_ (bA (by kernel_rfl)) (by kernel_rfl) (by kernel_rfl) (fun a u=>?_)
   .exact⟨.inl rfl,.inr (.inl ⟨rfl,by simp,by simp,fun a v=>by simp[execOp,resolve,kW,oE,nS]⟩),.inr (.inl ⟨rfl,by simp,by simp,fun a v=>by simp[execOp,resolve,kW,oE,nS]⟩),.inr (.inl ⟨rfl,by simp,by simp,fun a v=>by simp[execOp,resolve,kW,oE,nS]⟩),.inr (.inl ⟨rfl,by simp,by simp,fun a v=>by simp[execOp,resolve,kW,oE,nS]⟩),.inr (.inl ⟨rfl,by simp,by simp,fun a v=>by simp[execOp,resolve,kW,oE,nS]⟩),.inr (.inl ⟨rfl,by simp,by simp,fun a v=>by simp[execOp,resolve,kW,oE,nS]⟩),.inr (.inl ⟨rfl,by simp,by simp,fun a v=>by simp[execOp,resolve,kW,oE,nS]⟩),.inr (.inr (by kernel_rfl)),.inr (.inr (by kernel_rfl)),aBP⟩
   .refine⟨oa (aD · rfl),?_,oa (aD · rfl),oa (aI · rfl yL rfl rfl yN),oc 0 (kd (aH · rfl yP (cG e65))),oc 0 (kd (fD (xs:=[_]) (vs:=[(.string v64)]) (cv:=[(pV (some p1))]) · rfl ⟨rfl,aBP⟩ Try.call32 (mR e68))),aBP⟩;intro j h1 h2;have h1:0<=j:=h1;have h2:j<=1:=h2;rcases(by omega:j=0\/j=1) with rfl | rfl
    .exact kd (bE · rfl aAd zR e63)
    exact kd (bE · rfl aAd zR e72)
   have u:Has 163 [(55,(iV v66)),(54,(.string v64)),(53,(pV (some (p34.add 1)))),(52,(.func (.func 32) #[] #[(pV (some p1))])),(51,(.agg (List.toArray c62))),(50,(Sl.v x16)),(7,(.func (.func 32) #[] #[(pV (some p1))])),(8,(Sl.v s13)),(9,(Sl.v x16)),(11,(pV (some p34))),(12,(iV (IntKind.wrap .i64 ((x16.n:Int)-1)))),(23,(Sl.v a1)),(24,(iV (a1.n:Int))),(25,(iV x17)),(33,(iV v43)),(48,(bV (v43==3)))] a:=u.sb rfl;refine uU (p:=6) (by kernel_rfl)<|?_;refine tO (ι:=(List Value)×World) (pk:=fun i=>(.agg (List.toArray i.1))) (wf:=fun i=>i.2) (xs:=[_,_]) (vs:=[(.agg (List.toArray c62)),(iV v66)]) rfl (.inl rfl) u ⟨rfl,rfl,aBP⟩ Try.call35 (oG (un2 h)) (fun i h a u=>?_);obtain⟨v69,w70⟩:=i;obtain⟨s73,w74,e75,h⟩:=h;obtain⟨s76,w77,e78,h⟩:=h;refine pX (n:=163) (L0:=[(7,(.func (.func 32) #[] #[(pV (some p1))])),(8,(Sl.v s13)),(9,(Sl.v x16)),(11,(pV (some p34))),(12,(iV (IntKind.wrap .i64 ((x16.n:Int)-1)))),(23,(Sl.v a1)),(24,(iV (a1.n:Int))),(25,(iV x17)),(33,(iV v43)),(48,(bV (v43==3)))]) (ds:=(aN (Sl.v x16) false 0 10 [] [(9,(Sl.v x16))]::aN (.agg (List.toArray c62)) false 0 10 [] [(11,(pV (some p34)))]::aN (.func (.func 32) #[] #[(pV (some p1))]) false 0 10 [] [(7,(.func (.func 32) #[] #[(pV (some p1))]))]::aN (pV (some (p34.add 1))) false 0 10 [] [(11,(pV (some p34)))]::aN (.string v64) false 0 10 [3] [(53,(pV (some (p34.add 1))))]::aN (iV v66) false 0 10 [2,3,4] [(52,(.func (.func 32) #[] #[(pV (some p1))])),(54,(.string v64))]::aN (.agg (List.toArray v69)) false 0 10 (rn 1 5) [(51,(.agg (List.toArray c62))),(55,(iV v66))]::aN (Sl.v s73) true 0 0 (rn 1 6) [(56,(.agg (List.toArray v69)))]::aN (Sl.v s76) true 1 1 (rn 0 8) [(50,(Sl.v x16)),(57,(Sl.v s73))]::dD (Sl.v s76) 2 (rn 0 9) 58::[])) (W:=(fun j=>match j with | 0=>w70 | 1=>w74 | 2=>w77 | _=>w77)) (p:=7) (q:=3) (m:=2) (by kernel_rfl) (by kernel_rfl) (by kernel_rfl) (by kernel_rfl) (by kernel_rfl) ?_ (bA (by kernel_rfl)) (by kernel_rfl) (by kernel_rfl) (u.sub ⟨rfl,rfl,rfl,rfl,rfl,rfl,rfl,rfl,rfl,rfl,rfl,rfl,rfl,rfl,rfl,rfl,rfl,aBP⟩) (fun a u=>?_)
   .refine sE (p:=7)<|?_;exact⟨oc 0 (kd (iJ (vs:=[(0,(.agg (List.toArray v69)))]) (ps:=[v69]) · ⟨rfl,rfl,aBP⟩ ⟨rfl,rfl,aBP⟩ rfl zF zS zU (by decide) e75)),oc 1 (kd (lG · rfl rfl e78)),oa (dZ · rfl),aBP⟩
   refine yE<|?_;have u:Has 163 [(7,(.func (.func 32) #[] #[(pV (some p1))])),(8,(Sl.v s13)),(9,(Sl.v s76)),(23,(Sl.v a1)),(24,(iV (a1.n:Int))),(25,(iV x17))] a:=u.sb rfl;refine b_n<|?_;exact hk42 (s76,w77) h _ (u.sb rfl)
  refine wp_seq<|aA<|q u (cA u rfl rfl) fun a u=>qa u rfl fun a u=>aC<|t_n<|?_;refine cJ u rfl h (fun b79 h=>?_) (fun b79 h=>?_)
  .obtain⟨w80,e81,h⟩:=h;obtain⟨p82,e83,h⟩:=h;obtain⟨v84,e85,h⟩:=h;obtain⟨p86,e87,h⟩:=h;obtain⟨v88,e89,h⟩:=h;obtain⟨p90,e91,h⟩:=h;obtain⟨w92,e93,h⟩:=h;have u:Has 163 [(7,(.func (.func 32) #[] #[(pV (some p1))])),(8,(Sl.v s13)),(9,(Sl.v x16)),(12,(iV (IntKind.wrap .i64 ((x16.n:Int)-1)))),(23,(Sl.v a1)),(24,(iV (a1.n:Int))),(25,(iV x17)),(33,(iV v43)),(59,(bV (v43==4)))] a:=u.sb rfl;refine bC (n:=163) (ds:=(dD (Sl.v x16) 0 [] 9::dD (iV (IntKind.wrap .i64 ((x16.n:Int)-1))) 0 [] 12::dD (Sl.v x16) 0 [] 9::dD (iV (IntKind.wrap .i64 ((x16.n:Int)-1))) 0 [] 12::bY (pV (some p82)) 0 [2,3] [(63,(Sl.v x16)),(64,(iV (IntKind.wrap .i64 ((x16.n:Int)-1))))]::aQ (pV (some (p82.add 1))) 0 [2,3,4] 65 (pV (some p82))::aQ (Sl.v v84) 0 (rn 2 4) 66 (pV (some (p82.add 1)))::dD (Sl.v x16) 0 [] 9::dD (iV (IntKind.wrap .i64 ((x16.n:Int)-1))) 0 [] 12::bY (pV (some p86)) 0 [7,8] [(68,(Sl.v x16)),(69,(iV (IntKind.wrap .i64 ((x16.n:Int)-1))))]::aQ (pV (some (p86.add 0))) 0 [7,8,9] 70 (pV (some p86))::aQ (Sl.v v88) 0 (rn 7 4) 71 (pV (some (p86.add 0)))::bY (.agg (List.toArray ([Sl.v v84,Sl.v v88]))) 0 (rn 2 10) [(67,(Sl.v v84)),(72,(Sl.v v88))]::bY (pV (some p90)) 0 (rn 0 13) [(61,(Sl.v x16)),(62,(iV (IntKind.wrap .i64 ((x16.n:Int)-1))))]::aN (undef) true 0 0 (rn 0 14) [(74,(pV (some p90))),(73,(.agg (List.toArray ([Sl.v v84,Sl.v v88]))))]::[])) (W:=(fun j=>match j with | 0=>w80 | 1=>w92 | _=>w92)) (by kernel_rfl) u (gN e81) (by kernel_rfl) ?_ (bA (by kernel_rfl)) (by kernel_rfl) (m:=1) (by kernel_rfl) (fun a u=>?_)
   .exact⟨oa (aD · rfl),oa (aD · rfl),oa (aD · rfl),oa (aD · rfl),oa (dL · rfl rfl zF zS e83),oa (aI · rfl zN rfl rfl zE),oc 0 (kd (aH · rfl zK (bG e85))),oa (aD · rfl),oa (aD · rfl),oa (dL · rfl rfl zF zS e87),oa (aI · rfl zN rfl rfl zE),oc 0 (kd (aH · rfl zK (bG e89))),oa (gT (vs:=[(0,(Sl.v v84)),(1,(Sl.v v88))]) (pl:=#[(0,1),(1,1)]) (cs:=([Sl.v v84,Sl.v v88])) · ⟨rfl,rfl,rfl,rfl,aBP⟩ zU zN (by intro w;kernel_rfl) (by kernel_rfl)),oa (dL · rfl rfl zF zS e91),oc 0 (kd (eU · rfl rfl zS rfl e93)),aBP⟩
   have u:Has 163 [(7,(.func (.func 32) #[] #[(pV (some p1))])),(8,(Sl.v s13)),(9,(Sl.v x16)),(23,(Sl.v a1)),(24,(iV (a1.n:Int))),(25,(iV x17))] a:=u.sb rfl;refine b_n<|?_;exact hk42 (x16,w92) h _ (u.sb rfl)
  refine wp_seq<|aA<|q u (cA u rfl rfl) fun a u=>qa u rfl fun a u=>aC<|t_n<|?_;refine cJ u rfl h (fun b94 h=>?_) (fun b94 h=>?_)
  .refine wp_seq<|?_;exact(show False from h).elim
  refine wp_seq<|aA<|q u (cA u rfl rfl) fun a u=>qa u rfl fun a u=>aC<|t_n<|?_;refine cJ u rfl h (fun b95 h=>?_) (fun b95 h=>?_)
  .refine wp_seq<|?_;exact(show False from h).elim
  refine wp_skip<|b_n<|?_;exact hk42 (x16,w37) h _ (u.sb rfl)
 refine wp_exit<|t_x<|t_x<|?_;exact hk26 (x16,w18) h _ (u.sb rfl)
noncomputable def iG (a0:Sl) (a1:Addr) (w:World):Option (Bool×World) :=
 (ldL w a1).bind fun v1 =>
 aE (gR v1 a0 w) fun v3 w4 =>
 some (v3,w4)
theorem mI {a0 a1 w w' r0} (h:iG a0 a1 w=some (r0,w')):Calls Try.prog 23 #[(Sl.v a0),(.pointer (some a1))] w fun e w''=>e=.returned (.bool r0)/\w''=w':=by
 refine aG (n:=7) Try.func23 rfl Try.ntmps23 (by simp) fun a u=>?_;unfold iG at h;refine wp_seq<|aA<|qa u rfl fun a u=>aC<|t_n<|wp_seq<|aA<|?_;have⟨v1,e2,h⟩:=bs1 h;refine q u (aH u rfl zQ (bG e2)) fun a u=>qm u rfl fun a u=>?_;have⟨v3,w4,e5,h⟩:=bs2 h;refine q u (dc2 u rfl rfl Try.call19 (kO e5)) fun a u=>qa u rfl fun a u=>aC<|t_n<|wp_ret<|?_;have y:=u;cases h;exact aX Try.results23 y rfl ⟨rfl,rfl⟩
noncomputable def aM (a0:Sl) (a1_0:Addr) (x1:Int) (w2:World):Option ((Int×World)⊕((World)⊕(Int×World))) :=
 if (decide (x1<(a0.n:Int)))=true then
 ((ix a0 x1 1).bind fun p12 =>
 (ldL w2 p12).bind fun v14 =>
 aE (iG v14 a1_0 w2) fun v16 w17 =>
 if v16=true then
 (some (.inr (.inr (x1,w17))))
 else
 (some (.inl ((IntKind.wrap .i64 (x1+1)),w17))))
 else
 (some (.inr (.inl w2)))
noncomputable def bX (a0:Sl) (a1_0:Addr) (w:World):Option (Int×World) :=
 (bB (fun s:Int×World=>aM a0 a1_0 s.1 s.2) (0,w)).bind fun r3=>Sum.elim (fun (i:World)=>u1 i fun w5 =>
 some ((-1),w5)) (fun (i:Int×World)=>u2 i fun v6 w7 =>
 some (v6,w7)) r3
theorem fW {a0 a1_0 w w' r0} (h:bX a0 a1_0 w=some (r0,w')):Calls Try.prog 40 #[(Sl.v a0),(.func (.func 23) #[] #[(.pointer (some a1_0))])] w fun e w''=>e=.returned (.int .i64 r0)/\w''=w':=by
 refine aG (n:=19) Try.func40 rfl Try.ntmps40 (by simp) fun a u=>?_;unfold bX at h;refine wp_seq<|aA<|qa u rfl fun a u=>aC<|t_n<|wp_seq<|wp_seq<|aA<|qm u rfl fun a u=>q u (bZ u rfl yQ) fun a u=>qm u rfl fun a u=>aC<|t_n<|wp_block<|?_;have⟨r3,e4,h⟩:=bs1 h;refine dH (n:=19) (L1:=fun i=>[]) (w1:=fun i=>i) (L2:=fun i=>[(4,(iV i.1))]) (w2:=fun i=>i.2) (e1:=.exit 0) (e2:=.ret) (I:=fun (s:Int×World) a w=>Has 19 [(8,(iV s.1)),(0,(Sl.v a0)),(1,(.func (.func 23) #[] #[(pV (some a1_0))])),(7,(iV (a0.n:Int)))] a/\w=s.2) ⟨u.sub ⟨rfl,rfl,rfl,rfl,aBP⟩,rfl⟩ e4 (fun i hi a u=>?_) (fun i hi a u=>?_) (fun hk8 hk9=>?_)
 .subst hi;obtain⟨w5,rfl⟩:∃ x,x=i:=⟨i,rfl⟩;dsimp only[Sum.elim_inl,Sum.elim_inr,u1,u2,u3,u4,u5,u6] at h;have u:Has 19 [] a:=u;refine eC<|t_n<|wp_seq<|aA<|qa u rfl fun a u=>aC<|t_n<|wp_ret<|?_;have y:=u;cases h;exact aX Try.results40 y rfl ⟨rfl,rfl⟩
 .subst hi;obtain⟨v6,w7⟩:=i;dsimp only[Sum.elim_inl,Sum.elim_inr,u1,u2,u3,u4,u5,u6] at h;have u:Has 19 [(4,(iV v6))] a:=u;refine b_r<|t_r<|?_;have y:=u;cases h;exact aX Try.results40 y rfl ⟨rfl,rfl⟩
 clear h;rintro⟨x1,w2⟩ a wq o ⟨u,hwq⟩ h hr10;obtain rfl:w2=wq:=hwq.symm;have u:Has 19 [(8,(iV x1)),(0,(Sl.v a0)),(1,(.func (.func 23) #[] #[(pV (some a1_0))])),(7,(iV (a0.n:Int)))] a:=u;have h:aM a0 a1_0 x1 w2=some o:=h;unfold aM at h;refine wp_seq<|aA<|q u (eX u rfl rfl) fun a u=>aC<|t_n<|wp_seq<|?_;refine aF u rfl h (fun b11 h=>?_) (fun b11 h=>?_)
 .refine wp_skip<|t_n<|wp_seq<|wp_block<|wp_seq<|aA<|qm u rfl fun a u=>qa u rfl fun a u=>aC<|t_n<|wp_seq<|aA<|qm u rfl fun a u=>qm u rfl fun a u=>qm u rfl fun a u=>?_;have⟨p12,e13,h⟩:=bs1 h;refine q u (dL u rfl rfl yQ zJ e13) fun a u=>?_;have⟨v14,e15,h⟩:=bs1 h;refine q u (aH u rfl zQ (bG e15)) fun a u=>?_;have⟨v16,w17,e18,h⟩:=bs2 h;refine q u (fD (xs:=[_]) (vs:=[(Sl.v v14)]) (cv:=[(pV (some a1_0))]) u rfl ⟨rfl,aBP⟩ Try.call23 (mI e18)) fun a u=>aC<|t_n<|?_;refine aF u rfl h (fun b19 h=>?_) (fun b19 h=>?_)
  .refine wp_seq<|aA<|qm u rfl fun a u=>qa u rfl fun a u=>aC<|t_n<|wp_ret<|b_r<|t_r<|?_;have y:=u;cases h;cases hr10 _ rfl;refine gB<|?_;exact hk9 _ rfl _ (y.sb rfl)
  refine wp_skip<|b_n<|t_n<|aA<|q u (dP u rfl rfl) fun a u=>qm u rfl fun a u=>aC<|?_;have y:=u;cases h;exact cP ⟨y.sb rfl,rfl⟩
 refine wp_exit<|t_x<|?_;have y:=u;cases h;cases hr10 _ rfl;refine iE<|?_;exact hk8 _ rfl _ (y.sb rfl)
noncomputable def aZ (a0:Sl) (a1_0:Addr) (w:World):Option (Bool×World) :=
 aE (bX a0 a1_0 w) fun v1 w2 =>
 some ((decide (0<=v1)),w2)
theorem fK {a0 a1_0 w w' r0} (h:aZ a0 a1_0 w=some (r0,w')):Calls Try.prog 22 #[(Sl.v a0),(.func (.func 23) #[] #[(.pointer (some a1_0))])] w fun e w''=>e=.returned (.bool r0)/\w''=w':=by
 refine aG (n:=9) Try.func22 rfl Try.ntmps22 (by simp) fun a u=>?_;unfold aZ at h;refine wp_seq<|aA<|qa u rfl fun a u=>aC<|t_n<|wp_seq<|aA<|qm u rfl fun a u=>qm u rfl fun a u=>?_;have⟨v1,w2,e3,h⟩:=bs2 h;refine q u (fP (xs:=[_,_]) (vs:=[(Sl.v a0),(.func (.func 23) #[] #[(pV (some a1_0))])]) u ⟨rfl,rfl,aBP⟩ Try.call40 (fW e3)) fun a u=>q u (lU u rfl rfl) fun a u=>qa u rfl fun a u=>aC<|t_n<|wp_ret<|?_;have y:=u;cases h;exact aX Try.results22 y rfl ⟨rfl,rfl⟩
noncomputable def eF (v6:Sl) (v1:Sl) (x11:Int) (w12:World):ND ((Int×World)⊕((World)⊕(Bool×Int×World))) :=
 if (decide (x11<(v6.n:Int)))=true then
 (lb1 (ix v6 x11 1) fun p23 =>
 lb1 (ldL w12 p23) fun v25 =>
 lb2 (mk w12 22 ([.slice none 0 0])) fun p27 w28 =>
 lb1 (stV w28 p27 (Sl.v v25)) fun w30 =>
 lb2 (aZ v1 p27 w30) fun v32 w33 =>
 if (!v32)=true then
 (cO (.inr (.inr (false,0,w33))))
 else
 (cO (.inl ((IntKind.wrap .i64 (x11+1)),w33))))
 else
 (cO (.inr (.inl w12)))
noncomputable def gW (a0:Sl) (a1:Sl) (a2:Sl) (w:World):ND (Bool×Int×World) :=
 cb3 (iC a0 a1 w) fun v1 v2 w3 =>
 if (v2 !=0)=true then
 (cO (false,v2,w3))
 else
 (cb3 (iC a0 a2 w3) fun v6 v7 w8 =>
 if (v7 !=0)=true then
 (cO (false,v7,w8))
 else
 (cb1 (mY (fun s:Int×World=>eF v6 v1 s.1 s.2) (0,w8)) fun r13=>Sum.elim (fun (i:World)=>u1 i fun w15 =>
 cO (true,0,w15)) (fun (i:Bool×Int×World)=>u3 i fun v16 v17 w18 =>
 cO (v16,v17,w18)) r13))
theorem kS {a0 a1 a2 w Q} (h:(gW a0 a1 a2 w).t Q):Calls Try.prog 11 #[(Sl.v a0),(Sl.v a1),(Sl.v a2)] w fun e w''=>∃ i,e=.returned (.tuple #[(.bool i.1),(.int .i64 i.2.1)])/\Q i/\w''=i.2.2:=by
 refine aG (n:=42) Try.func11 rfl Try.ntmps11 (by simp) fun a u=>?_;unfold gW at h;refine wp_seq<|aA<|qa u rfl fun a u=>qa u rfl fun a u=>aC<|t_n<|wp_seq<|aA<|qm u rfl fun a u=>qm u rfl fun a u=>?_;refine eT (ι:=Sl×Int×World) (pk:=fun i=>(.tuple #[(Sl.v i.1),(iV i.2.1)])) (wf:=fun i=>i.2.2) (xs:=[_,_]) (vs:=[(Sl.v a0),(Sl.v a1)]) u ⟨rfl,rfl,aBP⟩ Try.call21 (lD (un3 h)) (fun i h a u=>?_);obtain⟨v1,v2,w3⟩:=i;refine qm u rfl fun a u=>q u (kP u rfl rfl) fun a u=>q u (kP u rfl rfl) fun a u=>qa u rfl fun a u=>qa u rfl fun a u=>aC<|t_n<|wp_seq<|wp_seq<|aA<|qm u rfl fun a u=>q u (kE u rfl rfl) fun a u=>aC<|t_n<|?_;refine cJ u rfl h (fun b5 h=>?_) (fun b5 h=>?_)
 .refine wp_seq<|aA<|qm u rfl fun a u=>qa u rfl fun a u=>qa u rfl fun a u=>aC<|t_n<|wp_ret<|t_r<|?_;exact nD Try.results11 u rfl rfl ⟨(false,v2,w3),rfl,h,rfl⟩
 refine wp_skip<|t_n<|wp_seq<|aA<|qm u rfl fun a u=>qm u rfl fun a u=>?_;refine eT (ι:=Sl×Int×World) (pk:=fun i=>(.tuple #[(Sl.v i.1),(iV i.2.1)])) (wf:=fun i=>i.2.2) (xs:=[_,_]) (vs:=[(Sl.v a0),(Sl.v a2)]) u ⟨rfl,rfl,aBP⟩ Try.call21 (lD (un3 h)) (fun i h a u=>?_);obtain⟨v6,v7,w8⟩:=i;refine qm u rfl fun a u=>q u (kP u rfl rfl) fun a u=>q u (kP u rfl rfl) fun a u=>qa u rfl fun a u=>qa u rfl fun a u=>aC<|t_n<|wp_seq<|wp_seq<|aA<|qm u rfl fun a u=>q u (kE u rfl rfl) fun a u=>aC<|t_n<|?_;refine cJ u rfl h (fun b10 h=>?_) (fun b10 h=>?_)
 .refine wp_seq<|aA<|qm u rfl fun a u=>qa u rfl fun a u=>qa u rfl fun a u=>aC<|t_n<|wp_ret<|t_r<|?_;exact nD Try.results11 u rfl rfl ⟨(false,v7,w8),rfl,h,rfl⟩
 refine wp_skip<|t_n<|wp_seq<|wp_seq<|aA<|qm u rfl fun a u=>q u (bZ u rfl yQ) fun a u=>qm u rfl fun a u=>aC<|t_n<|wp_block<|?_;refine qC (n:=42) (L1:=fun i=>[]) (w1:=fun i=>i) (L2:=fun i=>[(6,(bV i.1)),(7,(iV i.2.1))]) (w2:=fun i=>i.2.2) (e1:=.exit 0) (e2:=.ret) (I:=fun (s:Int×World) a w=>Has 42 [(33,(iV s.1)),(8,(Sl.v v1)),(31,(Sl.v v6)),(32,(iV (v6.n:Int)))] a/\w=s.2) (un1 h) ⟨u.sub ⟨rfl,rfl,rfl,rfl,aBP⟩,rfl⟩ (fun i h a u=>?_) (fun i h a u=>?_) (fun hk19 hk20=>?_)
 .obtain⟨w15,rfl⟩:∃ x,x=i:=⟨i,rfl⟩
  try dsimp only[Sum.elim_inl,Sum.elim_inr,u1,u2,u3,u4,u5,u6] at h
  have u:Has 42 [] a:=u;refine eC<|t_n<|wp_seq<|aA<|qa u rfl fun a u=>qa u rfl fun a u=>aC<|t_n<|wp_ret<|?_;exact nD Try.results11 u rfl rfl ⟨(true,0,w15),rfl,h,rfl⟩
 .obtain⟨v16,v17,w18⟩:=i
  try dsimp only[Sum.elim_inl,Sum.elim_inr,u1,u2,u3,u4,u5,u6] at h
  have u:Has 42 [(6,(bV v16)),(7,(iV v17))] a:=u;refine b_r<|t_r<|?_;exact nD Try.results11 u rfl rfl ⟨(v16,v17,w18),rfl,h,rfl⟩
 clear h;intro hX36;rintro⟨x11,w12⟩ a wq ⟨u,hwq⟩ h;obtain rfl:w12=wq:=hwq.symm;have u:Has 42 [(33,(iV x11)),(8,(Sl.v v1)),(31,(Sl.v v6)),(32,(iV (v6.n:Int)))] a:=u;have h:(eF v6 v1 x11 w12).t _:=h;unfold eF at h;refine wp_seq<|aA<|q u (eX u rfl rfl) fun a u=>aC<|t_n<|wp_seq<|?_;refine cJ u rfl h (fun b22 h=>?_) (fun b22 h=>?_)
 .refine wp_skip<|t_n<|wp_seq<|wp_block<|wp_seq<|aA<|?_;obtain⟨p23,e24,h⟩:=h;refine q u (dL u rfl rfl yQ zJ e24) fun a u=>?_;obtain⟨v25,e26,h⟩:=h;refine q u (aH u rfl zQ (bG e26)) fun a u=>?_;obtain⟨p27,w28,e29,h⟩:=h;refine q u (dG zY (by kernel_rfl) e29) fun a u=>?_;obtain⟨w30,e31,h⟩:=h;refine q u (iI u rfl rfl zJ e31) fun a u=>aC<|t_n<|wp_seq<|aA<|qm u rfl fun a u=>q u (kY (vs:=[(pV (some p27))]) u ⟨rfl,aBP⟩) fun a u=>?_;obtain⟨v32,w33,e34,h⟩:=h;refine q u (fP (xs:=[_,_]) (vs:=[(Sl.v v1),(.func (.func 23) #[] #[(pV (some p27))])]) u ⟨rfl,rfl,aBP⟩ Try.call22 (fK e34)) fun a u=>q u (eP u rfl) fun a u=>aC<|t_n<|?_;refine cJ u rfl h (fun b35 h=>?_) (fun b35 h=>?_)
  .refine wp_seq<|aA<|qa u rfl fun a u=>qa u rfl fun a u=>aC<|t_n<|wp_ret<|b_r<|t_r<|t_r<|?_;exact hk20 (false,0,w33) h _ (u.sb rfl)
  refine wp_skip<|b_n<|t_n<|aA<|q u (dP u rfl rfl) fun a u=>qm u rfl fun a u=>aC<|?_;exact⟨((IntKind.wrap .i64 (x11+1)),w33),⟨u.sb rfl,rfl⟩,h⟩
 refine wp_exit<|t_x<|t_x<|?_;exact hk19 w12 h _ (u.sb rfl)
def aB:ByteArray:=ByteArray.mk #[97]
def flC:List Value:=[.string aB,.int .i64 1]
def vlC (n:Int):List Value:=[.int .i64 1,.int .i64 n,.string ByteArray.empty,.bool false,.complex .f64 0 0]
def tmC (n:Int):List Value:=[.int .i64 3,.string aB,.int .i64 5,.int .i64 1,.int .i64 n,.string ByteArray.empty,.bool false,.complex .f64 0 0,.int .i64 0]
def cR (_:Gh) (_:World) (cs x:List Value):Prop:=cs=x
theorem iR {g g':Gh} {w w':World} {cs x:List Value} (h:cR g w cs x) (m:Mo g w g' w'):cR g' w' cs x:=h
theorem wC:lH aB=true:=by decide +kernel
theorem pI {n:Int}:∀ v∈tmC n,v.oneCell'=true:=by intro v hv;simp[tmC] at hv;rcases hv with rfl | rfl | rfl | rfl | rfl | rfl | rfl | rfl | rfl<;>rfl
theorem Ex.lnext {S R:Type} {step:S->Option (S⊕R)} {s:S} {Φ:R->Prop} (h:Ex (step s) fun o=>∃ s',o = .inl s'/\Ex (bB step s') Φ):Ex (bB step s) Φ:=by
 obtain⟨o,e,s',rfl,r,e',h⟩:=h;exact⟨r,(eO e).trans e',h⟩
theorem Ex.ldone {S R:Type} {step:S->Option (S⊕R)} {s:S} {Φ:R->Prop} (h:Ex (step s) fun o=>∃ r,o = .inr r/\Φ r):Ex (bB step s) Φ:=by
 obtain⟨o,e,r,rfl,h⟩:=h;exact⟨r,cF e,h⟩
section
variable {F0 : Nat -> Prop} {g g0 : Gh} {w w0 : World} {L : List Rs} {s v : Sl} {n : Int} {q : Nat}
theorem sK (w:World):jB ByteArray.empty aB w=some (0,w):=by
 unfold jB;rw[nK,cZ,wC];have:=oO wC;unfold sLe at this;simp[this]
theorem rR (hs:PL cR 2 g w s [flC]) (H:Hp F0 g0 w0 g w L):Ex (eW s w) fun r=>r.1=0/\Hp F0 g0 w0 g r.2 L/\Mo g w g r.2:=by
 have hln:s.n=1:=hs.len;obtain⟨a,cs,ea,la,rfl,-⟩:=hs.el (R:=cR) iR Mo.r (i:=0) rfl;obtain⟨p,w2,e2,H2,m2⟩:=H.box (T:=33) (cs:=[.string ByteArray.empty,.int .i64 0]);obtain⟨w3,e3,H3,m3⟩:=H2.stF (vs:=flC) rfl (by intro v hv;simp[flC] at hv;rcases hv with rfl | rfl<;>rfl);have l0:ldS w3 ((⟨p,0,none⟩:Addr).add 0)=some aB:=by rw[aO];exact H3.ldS rfl
 have l1:ldI .i64 w3 ((⟨p,0,none⟩:Addr).add 1)=some 1:=by rw[aO];exact H3.ldI rfl
 unfold eW;refine Ex.f (by simp[hln]) (Ex.j1 (Ψ:=fun o=>o = .inl w3) (Ex.lnext ?_) ?_)
 .show Ex (cT s ByteArray.empty 0 w) _;unfold cT;refine Ex.t (by simp[hln]) (Ex.b1 ea (Ex.b1 la (Ex.b2 e2 (Ex.b1 e3 (Ex.b1 l0 (Ex.b2 (sK _) (Ex.f (by decide) (Ex.j2 (Ψ:=fun r=>r=(false,w3)) (Ex.b1 l1 (Ex.f (by decide) (Ex.b1 l1 (Ex.ret rfl)))) ?_))))))));rintro _ _ he;cases he;refine Ex.f (by decide) (Ex.b1 l0 (Ex.ret ⟨_,rfl,Ex.ldone ?_⟩));show Ex (cT s aB 1 w3) _;unfold cT;exact Ex.f (by simp[hln]) (Ex.ret ⟨_,rfl,rfl⟩)
 rintro _ rfl;exact Ex.ret ⟨rfl,H3.tl,m2.t m3⟩
theorem rK (H:Hp F0 g0 w0 g w L):Ex (iP (vlC n) w) fun r=>r.1=0/\Hp F0 g0 w0 g r.2 L/\Mo g w g r.2:=by
 obtain⟨p,w2,e2,H2,m2⟩:=H.box (T:=55) (cs:=vlC n);have l0:ldI .i64 w2 ((⟨p,0,none⟩:Addr).add 0)=some 1:=by rw[aO];exact H2.ldI rfl
 unfold iP;refine Ex.b2 e2 (Ex.xX (Ψ:=fun o=>o = .inr w2) (Ex.b1 l0 (Ex.j2 (Ψ:=fun r=>r=(true,w2)) (Ex.t (by decide) (Ex.ret rfl)) ?_)) (fun r hr=>by cases hr) (fun r hr=>?_))
 .rintro _ _ he;cases he;exact Ex.t rfl (Ex.ret rfl)
 cases hr;exact Ex.ret ⟨rfl,H2.tl,m2⟩
theorem sO (H:Hp F0 g0 w0 g w L):Ex (jY (tmC n) w) fun r=>r.1=0/\Hp F0 g0 w0 g r.2 L/\Mo g w g r.2:=by
 obtain⟨p,w2,e2,H2,m2⟩:=H.box (T:=57) (cs:=tmC n);have l1:ldS w2 ((⟨p,0,none⟩:Addr).add 1)=some aB:=by rw[aO];exact H2.ldS rfl
 have l2:∀ {w'},Hp F0 g0 w0 g w' (bxR p (tmC n) 57::L)->ldI .i64 w' ((⟨p,0,none⟩:Addr).add 2)=some 5:=fun H=>by rw[aO];exact H.ldI rfl
 have l3:ldA 5 w2 ((⟨p,0,none⟩:Addr).add 3) 0=some (vlC n):=by rw[aO];exact sJ H2.bx (by simp[tmC])
 obtain⟨⟨x,w3⟩,e3,rfl,H3,m3⟩:=rK (n:=n) H2;have l30:ldI .i64 w3 (((⟨p,0,none⟩:Addr).add 3).add 0)=some 1:=by rw[aO,aO];exact H3.ldI rfl
 unfold jY;refine Ex.b2 e2 (Ex.b1 l1 (Ex.b2 (nK _ _) (Ex.f (by rw[wC];decide) (Ex.j2 (Ψ:=fun r=>r=(false,w2)) (Ex.b1 (l2 H2) (Ex.f (by decide) (Ex.b1 (l2 H2) (Ex.ret rfl)))) ?_))));rintro _ _ he;cases he;have hb:iY 5 w2=some (false,w2):=rfl;have hk:lL 5 1 w3=some (true,w3):=rfl;refine Ex.f (by decide) (Ex.b1 (l2 H2) (Ex.b2 hb (Ex.f (by decide) (Ex.b1 l3 (Ex.b2 e3 (Ex.f (by decide) (Ex.b1 (l2 H3) (Ex.b1 l30 (Ex.b2 hk (Ex.f (by decide) (Ex.j2 (Ψ:=fun r=>r=(false,w3)) (Ex.b1 (l2 H3) (Ex.f (by decide) (Ex.ret rfl))) ?_)))))))))));rintro _ _ he;cases he;exact Ex.f (by decide) (Ex.ret ⟨rfl,H3.tl,m2.t m3⟩)
theorem rN (hs:PL cR 9 g w v [tmC n]) (H:Hp F0 g0 w0 g w L):Ex (jF v w) fun r=>r.1=0/\Hp F0 g0 w0 g r.2 L/\Mo g w g r.2:=by
 have hln:v.n=1:=hs.len;obtain⟨a,cs,ea,la,rfl,-⟩:=hs.el (R:=cR) iR Mo.r (i:=0) rfl;obtain⟨p,w2,e2,H2,m2⟩:=H.box (T:=57) (cs:=[.int .i64 0,.string ByteArray.empty,.int .i64 0,.int .i64 0,.int .i64 0,.string ByteArray.empty,.bool false,.complex .f64 0 0,.int .i64 0]);obtain⟨w3,e3,H3,m3⟩:=H2.stF (vs:=tmC n) rfl pI;have l0:ldI .i64 w3 ((⟨p,0,none⟩:Addr).add 0)=some 3:=by rw[aO];exact H3.ldI rfl
 obtain⟨⟨x,w4⟩,e4,rfl,H4,m4⟩:=sO (n:=n) H3;unfold jF;refine Ex.f (by simp[hln]) (Ex.j1 (Ψ:=fun o=>o = .inl (1,w4)) (Ex.lnext ?_) ?_)
 .show Ex (eY v 0 0 w) _;unfold eY;refine Ex.t (by simp[hln]) (Ex.b1 ea (Ex.b1 la (Ex.b2 e2 (Ex.b1 e3 (Ex.xX (Ψ:=fun o=>o = .inr (0,w4)) (Ex.b1 l0 (Ex.j2 (Ψ:=fun r=>r=(false,w3)) (Ex.f (by decide) (Ex.ret rfl)) ?_)) (fun r hr=>by cases hr) (fun r hr=>?_))))))
  .rintro _ _ he;cases he;exact Ex.f (by decide) (Ex.t (by decide) (Ex.b1 (H3.ldF rfl) (Ex.b2 e4 (Ex.f (by decide) (Ex.ret rfl)))))
  cases hr;simp only[u2];refine Ex.f (by show ¬ (decide ((0:Int)<0)=true);decide) (Ex.f (by show ¬ (decide ((16:Int)<IntKind.i64.wrap (0+IntKind.i64.wrap (1-0)))=true);decide) (Ex.ret ⟨_,rfl,Ex.ldone ?_⟩));show Ex (eY v 1 1 w4) _;unfold eY;exact Ex.f (by simp[hln]) (Ex.ret ⟨_,rfl,rfl⟩)
 rintro _ rfl;simp only[Sum.elim_inl,u2];exact Ex.f (by decide) (Ex.ret ⟨rfl,H4.tl,m2.t (m3.t m4)⟩)
theorem uO (hs:PL cR 2 g w s [flC]) (hv:PL cR 9 g w v [tmC n]) (H:Hp F0 g0 w0 g w L):Ex (jV s v w) fun r=>r.1=0/\Hp F0 g0 w0 g r.2 L/\Mo g w g r.2:=by
 have hl1:s.n=1:=hs.len;have hl2:v.n=1:=hv.len;obtain⟨⟨x,w2⟩,e2,rfl,H2,m2⟩:=rR hs H;obtain⟨⟨x,w3⟩,e3,rfl,H3,m3⟩:=rN (PL.mo (R:=cR) iR hv m2) H2;simp only at H2 m2 H3 m3 e3;obtain⟨r,w4,e4,H4,m4⟩:=H3.mkm (P:=Try.prog) (t:=79);have mA:=m2.t (m3.t m4);obtain⟨a,cs,ea,la,rfl,-⟩:=hs.el (R:=cR) iR mA (i:=0) rfl;obtain⟨p,w5,e5,H5,m5⟩:=H4.box (T:=33) (cs:=[.string ByteArray.empty,.int .i64 0]);obtain⟨w6,e6,H6,m6⟩:=H5.stF (vs:=flC) rfl (by intro v hv;simp[flC] at hv;rcases hv with rfl | rfl<;>rfl);have f0:ldS w6 ((⟨p,0,none⟩:Addr).add 0)=some aB:=by rw[aO];exact H6.ldS rfl
 have f1:ldI .i64 w6 ((⟨p,0,none⟩:Addr).add 1)=some 1:=by rw[aO];exact H6.ldI rfl
 obtain⟨w7,e7,H7,m7⟩:=H6.tl.upm (k:=aB) (v:=.int .i64 1) aAf yY;have mB:=mA.t (m5.t (m6.t m7));obtain⟨b,cs,eb,lb,rfl,-⟩:=hv.el (R:=cR) iR mB (i:=0) rfl;obtain⟨u,w8,e8,H8,m8⟩:=H7.box (T:=57) (cs:=[.int .i64 0,.string ByteArray.empty,.int .i64 0,.int .i64 0,.int .i64 0,.string ByteArray.empty,.bool false,.complex .f64 0 0,.int .i64 0]);obtain⟨w9,e9,H9,m9⟩:=H8.stF (vs:=tmC n) rfl pI;have t0:ldI .i64 w9 ((⟨u,0,none⟩:Addr).add 0)=some 3:=by rw[aO];exact H9.ldI rfl
 have t1:ldS w9 ((⟨u,0,none⟩:Addr).add 1)=some aB:=by rw[aO];exact H9.ldS rfl
 have t2:ldI .i64 w9 ((⟨u,0,none⟩:Addr).add 2)=some 5:=by rw[aO];exact H9.ldI rfl
 have t3:ldI .i64 w9 (((⟨u,0,none⟩:Addr).add 3).add 0)=some 1:=by rw[aO,aO];exact H9.ldI rfl
 have lu:=H9.tl.lum (P:=Try.prog) aAf yY;have lu':luI .i64 Try.prog 79 (some r) (.string aB) w9=some (1,w9):=H9.sw.lum (P:=Try.prog) aAf yY;unfold jV;refine Ex.b2 e2 (Ex.f (by decide) (Ex.b2 e3 (Ex.f (by decide) (Ex.b2 e4 (Ex.j1 (Ψ:=fun o=>o=w7) (Ex.lnext ?_) ?_)))))
 .show Ex (fR s (some r) 0 w4) _;unfold fR;refine Ex.t (by simp[hl1]) (Ex.b1 ea (Ex.b1 la (Ex.b2 e5 (Ex.b1 e6 (Ex.b1 f0 (Ex.b1 f1 (Ex.b1 e7 (Ex.ret ⟨_,rfl,Ex.ldone ?_⟩))))))));show Ex (fR s (some r) 1 w7) _;unfold fR;exact Ex.f (by simp[hl1]) (Ex.ret ⟨_,rfl,rfl⟩)
 rintro _ rfl;refine Ex.j1 (Ψ:=fun o=>o = .inl w9) (Ex.lnext ?_) ?_
 .show Ex (fT v (some r) 0 _) _;unfold fT;refine Ex.t (by simp[hl2]) (Ex.xX (Ψ:=fun o=>o = .inr w9) (Ex.b1 eb (Ex.b1 lb (Ex.b2 e8 (Ex.b1 e9 (Ex.b1 t0 (Ex.f (by decide) (Ex.b1 t1 (Ex.b2 lu' (Ex.f (by decide) (Ex.j2 (Ψ:=fun r=>r=(false,w9)) (Ex.j2 (Ψ:=fun r=>r=(false,w9)) (Ex.b1 t2 (Ex.f (by decide) (Ex.ret rfl))) ?_) ?_)))))))))) (fun r hr=>by cases hr) (fun r hr=>?_))
  .rintro _ _ he;cases he;have hb:iY 5 w9=some (false,w9):=rfl;refine Ex.f (by decide) (Ex.j2 (Ψ:=fun r=>r=(false,w9)) (Ex.b1 t2 (Ex.b2 hb (Ex.t (by decide) (Ex.b1 t3 (Ex.ret rfl))))) (fun x y h=>Ex.ret h))
  .rintro _ _ he;cases he;exact Ex.f (by decide) (Ex.ret rfl)
  cases hr;simp only[u1];refine Ex.ret ⟨_,rfl,Ex.ldone ?_⟩;show Ex (fT v (some r) 1 _) _;unfold fT;exact Ex.f (by simp[hl2]) (Ex.ret ⟨_,rfl,rfl⟩)
 rintro _ rfl;exact Ex.ret ⟨rfl,H9.tl.tl,mB.t (m8.t m9)⟩
end
def sdF (lo hi:Int) (ab:Bool):Sd:=⟨aB,1,ab,lo,hi,ByteArray.empty,ByteArray.empty,false,0,[],[],false⟩
abbrev jJ (s:Sd):List Value:=sdC s Sl.nil Sl.nil
def mkC (z:Sl):List Value:=[.string aB,.int .i64 1,z.v]
def loV:Int:=-9223372036854775808
def hiV:Int:=9223372036854775807
def nlR (_:Gh) (_:World) (cs:List Value) (s:Sd):Prop:=cs=jJ s/\s.ins=[]/\s.outs=[]/\0<=s.tr/\s.tr<256
theorem qO {g g':Gh} {w w':World} {cs:List Value} {s:Sd} (h:nlR g w cs s) (m:Mo g w g' w'):nlR g' w' cs s:=h
theorem PL.sd {g:Gh} {w:World} {z:Sl} {b:List Sd} (h:PL nlR 12 g w z b):PL sdR 12 g w z b:=⟨h.len,fun i x hx=>by
 obtain⟨a,cs,e,hg,hl,⟨rfl,h1,h2,h3,h4⟩,hc⟩:=h.at_ i x hx;exact⟨a,_,e,hg,hl,⟨Sl.nil,Sl.nil,rfl,by rw[h1];exact PL.nil rfl,by rw[h2];exact PL.nil rfl,h3,h4⟩,hc⟩⟩
def bbR (g:Gh) (w:World) (cs:List Value) (b:List Sd):Prop:=∃ z:Sl,cs=[z.v]/\PL nlR 12 g w z b
theorem iN {g g':Gh} {w w':World} {cs:List Value} {b:List Sd} (h:bbR g w cs b) (m:Mo g w g' w'):bbR g' w' cs b:=by
 obtain⟨z,e,h⟩:=h;exact⟨z,e,PL.mo (R:=nlR) qO h m⟩
theorem yB:ST Try.prog 22 40 12 136 nW:=⟨Try.underlying22,⟨Try.t40,.agg nW.toArray,by kernel_rfl,by kernel_rfl,rfl,rfl,rfl⟩,rfl,by decide,by decide⟩
theorem xR:ST Try.prog 47 22 1 24 [.slice none 0 0]:=⟨Try.underlying47,⟨Try.t22,.slice none 0 0,by kernel_rfl,by kernel_rfl,rfl,rfl,rfl⟩,rfl,by decide,by decide⟩
def uH (cl:Option Addr->World->Option World) (a0:Option Addr) (a1:Bool) (w:World):ND (World) :=
 cb2 (lb1 (dr w) fun w5 =>
 lb1 (a0) fun p7 =>
 lb1 (ldS w5 (p7.add 0)) fun v9 =>
 lb1 (ldI .i64 w5 (p7.add 1)) fun v11 =>
 qH (lb2 (dQ v9 v11 w5) fun v13 w14 =>
 lb2 (mk w14 40 ([.string ByteArray.empty,.int .i64 0,.bool false,.int .i64 0,.int .i64 0,.string ByteArray.empty,.string ByteArray.empty,.bool false,.int .u8 0,.bool false,.slice none 0 0,.slice none 0 0])) fun p16 w17 =>
 lb1 (stA w17 p16 0 v13) fun w20 =>
 nck ((v13).length=12) <|
 cO (p16,w20)) (lb2 (mk w5 40 ([.string ByteArray.empty,.int .i64 0,.bool false,.int .i64 0,.int .i64 0,.string ByteArray.empty,.string ByteArray.empty,.bool false,.int .u8 0,.bool false,.slice none 0 0,.slice none 0 0])) fun p22 w23 =>
 lb2 (dQ v9 v11 w23) fun v25 w26 =>
 lb1 (stA w26 p22 0 v25) fun w29 =>
 nck ((v25).length=12) <|
 nck (ldS w23 (p7.add 0)=some v9) <|
 nck (ldI .i64 w23 (p7.add 1)=some v11) <|
 cO (p22,w29))) fun v1 w2 =>
 lb1 (stV w2 (v1.add 2) (.bool a1)) fun w33 =>
 lb1 (cl (some v1) w33) fun w35 =>
 cbX (lb1 (ldA 12 w35 v1 0) fun c43 =>
 lb2 (dM c43 w35) fun v45 w46 =>
 if v45=true then
 (lb1 (ldA 12 w46 v1 0) fun c49 =>
 lb2 (gJ c49 w46) fun v51 w52 =>
 lb1 (stA w52 v1 0 v51) fun w55 =>
 nck ((v51).length=12) <|
 if (!a1)=true then
 (cb1 (cO w55) fun g42=>cO (.inl g42))
 else
 (cO (.inr w55)))
 else
 (cO (.inr w46))) fun (i:World)=>u1 i fun w37 =>
 lb1 (dr w37) fun w59 =>
 lb1 (a0) fun p61 =>
 lb1 (ldL w59 (p61.add 2)) fun v63 =>
 lb1 (ldA 12 w59 v1 0) fun c65 =>
 lb2 (bsl w59 40 12 [c65]) fun s67 w68 =>
 lb2 (bsl w68 22 1 [[(Sl.v s67)]]) fun s70 w71 =>
 lb2 (apS Try.prog 47 v63 s70 w71) fun s73 w74 =>
 lb1 (stV w74 (p61.add 2) (Sl.v s73)) fun w76 =>
 nck (ldL w68 (p61.add 2)=some v63) <|
 nck (ldL w71 (p61.add 2)=some v63) <|
 cO w76
theorem rO (a0:Option Addr) (a1:Bool) (x y:Addr) (w:World):cV a0 a1 x y w=uH (fun p w=>fZ p x y w) a0 a1 w:=rfl
theorem rP (a0:Option Addr) (a1:Bool) (x y:Addr) (w:World):cU a0 a1 x y w=uH (fun p w=>fY p x y w) a0 a1 w:=rfl
section
variable {F0 : Nat -> Prop} {g g0 : Gh} {w w0 : World} {L : List Rs} {s v : Sl} {n : Int} {q o : Nat}
theorem rW {z:Sl} {cs:List Value} {sz:Nat} (h:PR g w z sz cs) (hz:z.n=1):∃ a,D.ix z (((0:Nat):Int)) sz=some a/\g a.block/\cs.length=sz/\∀ j v,cs[j]?=some v->w.cell? (a.add j)=some v:=by
 obtain⟨a,e,hc⟩:=h.rd.at_ (by omega);have hl:=h.rd.len;rw[hz,Nat.one_mul] at hl;refine⟨a,?_,h.per a e (by omega),hl,hc⟩;unfold D.ix;rw[e,aBN,if_pos ⟨by omega,by omega⟩];simp[Addr.add]
theorem nI {α:Type} {R:Gh->World->List Value->α->Prop} {z:Sl} {cs:List Value} {sz:Nat} {x:α} (h:PR g w z sz cs) (hz:z.n=1) (hR:R g w cs x):PL R sz g w z [x] :=
 ⟨hz,fun i y hy=>by
  cases i with
  | zero =>
   cases hy;obtain⟨a,e,hg,hl,hc⟩:=rW h hz;exact⟨a,cs,e,hg,hl,hR,hc⟩
  | succ i=>simp at hy⟩
theorem qT (H:Hp F0 g0 w0 g w L):Ex (dQ aB 1 w) fun r=>r.1=jJ (sdF loV hiV false)/\Hp F0 g0 w0 g r.2 L/\Mo g w g r.2:=by
 obtain⟨p,w2,e2,H2,m2⟩:=H.box (T:=40) (cs:=nW);obtain⟨w3,e3,H3,m3⟩:=H2.stF (vs:=jJ (sdF loV hiV false)) rfl lN;unfold dQ;exact Ex.b2 e2 (Ex.b2 (a:=1) (b:=w2) rfl (Ex.b2 (a:=1) (b:=w2) rfl (Ex.b2 (a:=0) (b:=w2) rfl (Ex.b1 e3 (Ex.b1 (H3.ldF rfl) (Ex.ret ⟨rfl,H3.tl,m2.t m3⟩))))))
theorem tZ {c:Bool} {p1 p4:Nat} (hn:0<n/\n<100) (H:Hp F0 g0 w0 g w (bxR q (jJ (sdF loV hiV c)) 40::bxR p4 [.int .i64 0] 2::bxR p1 (vlC n) 55::L)) :
  Ex (fZ (some ⟨q,0,none⟩) ⟨p1,0,none⟩ ⟨p4,0,none⟩ w) fun w'=>Hp F0 g0 w0 g w' (bxR q (jJ (sdF loV (n-1) c)) 40::bxR p4 [.int .i64 0] 2::bxR p1 (vlC n) 55::L)/\Mo g w g w':=by
 obtain⟨w1,e1,H1,m1⟩:=H.stV (o:=7) (x:=.bool false) (by show 7<12;decide) rfl;obtain⟨w2,e2,H2,m2⟩:=H1.stV (o:=6) (x:=.string ByteArray.empty) (by show 6<12;decide) rfl;obtain⟨w3,e3,H3,m3⟩:=H2.stV (o:=6) (x:=.string (ByteArray.mk #[])) (by show 6<12;decide) rfl;obtain⟨w4,e4,H4,m4⟩:=H3.stV (o:=4) (x:=.int .i64 n) (by show 4<12;decide) rfl;obtain⟨w5,e5,H5,m5⟩:=H4.stV (o:=4) (x:=.int .i64 (IntKind.wrap .i64 (n-1))) (by show 4<12;decide) rfl;have hw:IntKind.wrap .i64 (n-1)=n-1:=wri (by omega) (by omega);have a2:ldS w1 ((⟨p1,0,none⟩:Addr).add 2)=some ByteArray.empty:=by rw[aO];exact H1.m2.ldS rfl
 have b0:ldI .i64 w2 ⟨p4,0,none⟩=some 0:=H2.sw.ldI rfl;have q1:ldI .i64 w2 ((⟨q,0,none⟩:Addr).add 1)=some 1:=by rw[aO];exact H2.ldI rfl
 have a1:ldI .i64 w3 ((⟨p1,0,none⟩:Addr).add 1)=some n:=by rw[aO];exact H3.m2.ldI rfl
 have b4:ldI .i64 w4 ⟨p4,0,none⟩=some 0:=H4.sw.ldI rfl;have q4:ldI .i64 w4 ((⟨q,0,none⟩:Addr).add 4)=some n:=by rw[aO];exact H4.ldI rfl
 have a5:ldI .i64 w5 ((⟨p1,0,none⟩:Addr).add 1)=some n:=by rw[aO];exact H5.m2.ldI rfl
 unfold fZ;refine Ex.s1 (Ex.b1 (by rw[aO];exact e1) (Ex.b1 a2 (Ex.b1 (by rw[aO];exact e2) (Ex.j1 (Ψ:=fun o=>o=w2) (Ex.b1 b0 (Ex.f (by decide) (Ex.ret rfl))) ?_))));rintro _ rfl;refine Ex.b1 q1 (Ex.f (by decide) (Ex.b1 (by rw[aO];exact e3) (Ex.b1 a1 (Ex.b1 (by rw[aO];exact e4) (Ex.b1 b4 (Ex.t (by decide) (Ex.b1 q4 (Ex.b1 (by rw[aO];exact e5) (Ex.b1 a5 (Ex.f (by simp;omega) (Ex.ret ⟨?_,m1.t (m2.t (m3.t (m4.t m5)))⟩)))))))))));rw[hw] at H5;exact H5
theorem rQ {c:Bool} {p1 p4:Nat} (hn:0<n/\n<100) (H:Hp F0 g0 w0 g w (bxR q (jJ (sdF loV hiV c)) 40::bxR p4 [.int .i64 1] 2::bxR p1 (vlC n) 55::L)) :
  Ex (fY (some ⟨q,0,none⟩) ⟨p1,0,none⟩ ⟨p4,0,none⟩ w) fun w'=>Hp F0 g0 w0 g w' (bxR q (jJ (sdF n hiV c)) 40::bxR p4 [.int .i64 1] 2::bxR p1 (vlC n) 55::L)/\Mo g w g w':=by
 obtain⟨w1,e1,H1,m1⟩:=H.stV (o:=3) (x:=.int .i64 n) (by show 3<12;decide) rfl;have q1:ldI .i64 w ((⟨q,0,none⟩:Addr).add 1)=some 1:=by rw[aO];exact H.ldI rfl
 have a1:ldI .i64 w ((⟨p1,0,none⟩:Addr).add 1)=some n:=by rw[aO];exact H.m2.ldI rfl
 have b1:ldI .i64 w1 ⟨p4,0,none⟩=some 1:=H1.sw.ldI rfl;unfold fY;exact Ex.s1 (Ex.b1 q1 (Ex.t (by decide) (Ex.b1 a1 (Ex.b1 (by rw[aO];exact e1) (Ex.b1 b1 (Ex.f (by decide) (Ex.ret ⟨H1,m1⟩)))))))
theorem sL {cl:Option Addr->World->Option World} {c:Bool} {lo hi:Int} (hlo:lo<=hi) (H:Hp F0 g0 w0 g w (bxR o (mkC Sl.nil) 83::L))
  (hcl:∀ {q:Nat} {w1:World},Hp F0 g0 w0 g w1 (bxR q (jJ (sdF loV hiV c)) 40::bxR o (mkC Sl.nil) 83::L)->Ex (cl (some ⟨q,0,none⟩) w1) fun w'=>Hp F0 g0 w0 g w' (bxR q (jJ (sdF lo hi c)) 40::bxR o (mkC Sl.nil) 83::L)/\Mo g w1 g w')
  {Φ:World->Prop} (hΦ:∀ g' w' z,Hp F0 g0 w0 g' w' (bxR o (mkC z) 83::L)->PL bbR 1 g' w' z [[sdF lo hi c]]->Mo g w g' w'->Φ w'):(uH cl (some ⟨o,0,none⟩) c w).t Φ:=by
 obtain⟨w1,e1,H1,m1⟩:=H.dr;have o0:∀ {w'},Hp F0 g0 w0 g w' (bxR o (mkC Sl.nil) 83::L)->ldS w' ((⟨o,0,none⟩:Addr).add 0)=some aB:=fun H=>by rw[aO];exact H.ldS rfl
 have o1:∀ {w'},Hp F0 g0 w0 g w' (bxR o (mkC Sl.nil) 83::L)->ldI .i64 w' ((⟨o,0,none⟩:Addr).add 1)=some 1:=fun H=>by rw[aO];exact H.ldI rfl
 unfold uH;refine Nd.j2 (Ψ:=fun r=>∃ q,r.1=⟨q,0,none⟩/\Hp F0 g0 w0 g r.2 (bxR q (jJ (sdF loV hiV false)) 40::bxR o (mkC Sl.nil) 83::L)/\Mo g w g r.2) (Nd.b1 e1 (Nd.s1 (Nd.b1 (o0 H1) (Nd.b1 (o1 H1) (Nd.both ?_ ?_))))) ?_
 .obtain⟨⟨x,w2⟩,e2,rfl,H2,m2⟩:=qT H1;simp only at H2 m2;obtain⟨p,w3,e3,H3,m3⟩:=H2.box (T:=40) (cs:=nW);obtain⟨w4,e4,H4,m4⟩:=H3.stF (vs:=jJ (sdF loV hiV false)) rfl lN;exact Nd.b2 e2 (Nd.b2 e3 (Nd.b1 e4 (Nd.ck rfl (Nd.ret ⟨p,rfl,H4,m1.t (m2.t (m3.t m4))⟩))))
 .obtain⟨p,w3,e3,H3,m3⟩:=H1.box (T:=40) (cs:=nW);obtain⟨⟨x,w2⟩,e2,rfl,H2,m2⟩:=qT H3;simp only at H2 m2;obtain⟨w4,e4,H4,m4⟩:=H2.stF (vs:=jJ (sdF loV hiV false)) rfl lN;exact Nd.b2 e3 (Nd.b2 e2 (Nd.b1 e4 (Nd.ck rfl (Nd.ck (o0 H3.tl) (Nd.ck (o1 H3.tl) (Nd.ret ⟨p,rfl,H4,m1.t (m3.t (m2.t m4))⟩))))))
 rintro _ w2 ⟨q,rfl,H2,m2⟩;simp only at H2 m2;obtain⟨w3,e3,H3,m3⟩:=H2.stV (o:=2) (x:=.bool c) (by show 2<12;decide) rfl;obtain⟨w4,e4,H4,m4⟩:=hcl (q:=q) H3;have hno:mH (sdF lo hi c)=false:=by unfold mH sdF;simp;omega
 obtain⟨⟨x,w5⟩,e5,hx,H5,m5⟩:=pR (s:=sdF lo hi c) (za:=Sl.nil) (ya:=Sl.nil) (by show(0:Int)<=0;decide) (by show(0:Int)<256;decide) H4;simp only at hx H5 m5;rw[hno] at hx;subst hx;refine Nd.b1 (by rw[aO];exact e3) (Nd.b1 e4 (Nd.jX (Ψ:=fun w'=>w'=w5) (Nd.b1 (H4.ldF rfl) (Nd.b2 e5 (Nd.f (by decide) (Nd.ret rfl)))) ?_));rintro _ rfl;obtain⟨w6,e6,H6,m6⟩:=H5.dr;have l2:∀ {w'},Hp F0 g0 w0 g w' (bxR o (mkC Sl.nil) 83::L)->ldL w' ((⟨o,0,none⟩:Addr).add 2)=some Sl.nil:=fun H=>by rw[aO];exact H.ldL rfl
 obtain⟨s7,w7,e7,n7,-,H7,m7⟩:=H6.bsl (T:=40) (sz:=12) (ps:=[jJ (sdF lo hi c)]) (by intro p hp;simp at hp;subst hp;rfl) (by simp);obtain⟨s8,w8,e8,n8,-,H8,m8⟩:=H7.bsl (T:=22) (sz:=1) (ps:=[[s7.v]]) (by intro p hp;simp at hp;subst hp;rfl) (by simp);obtain⟨s9,w9,e9,n9,H9,m9⟩:=H8.onil.apS xR H8.ow.rd (by intro v hv;simp at hv;subst hv;rfl) (by rw[n8];simp[Sl.nil]);have H9:Hp F0 g0 w0 g w9 (owR 22 1 s9 [s7.v]::owR 22 1 s8 [s7.v]::owR 40 12 s7 (jJ (sdF lo hi c))::bxR q (jJ (sdF lo hi c)) 40::bxR o (mkC Sl.nil) 83::L):=by simpa using H9
 have HA:=H9.sw.tl.m2.tl.m2;obtain⟨wa,ea,HB,mb⟩:=HA.stV (o:=2) (x:=s9.v) (by show 2<3;decide) rfl;obtain⟨ga,pa,HC,mc⟩:=HB.m2.keepO;obtain⟨gb,pb,HD,md⟩:=HC.sw.keepO;have h7:PL nlR 12 gb wa s7 [sdF lo hi c]:=nI (pa.mo md) n7 ⟨rfl,rfl,rfl,by show(0:Int)<=0;decide,by show(0:Int)<256;decide⟩;have h9:PL bbR 1 gb wa s9 [[sdF lo hi c]]:=nI pb (by rw[n9,n8];rfl) ⟨s7,rfl,h7⟩;refine Nd.b1 e6 (Nd.s1 (Nd.b1 (by rw[aO];exact H6.sw.ldL rfl) (Nd.b1 (H6.ldF rfl) (Nd.b2 e7 (Nd.b2 e8 (Nd.b2 e9 (Nd.b1 (by rw[aO];exact ea) (Nd.ck (by rw[aO];exact H7.m2.ldL rfl) (Nd.ck (by rw[aO];exact H8.m3.ldL rfl) (Nd.ret ?_))))))))));exact hΦ gb wa s9 HD h9 (m2.t (m3.t (m4.t (m5.t (m6.t (m7.t (m8.t (m9.t (mb.t (mc.t md))))))))))
end
abbrev lsC (z y:Sl):List Value:=[z.v,y.v]
theorem yC:ST Try.prog 68 70 2 48 [.slice none 0 0,.slice none 0 0]:=⟨Try.underlying68,⟨Try.t70,.agg #[.slice none 0 0,.slice none 0 0],by kernel_rfl,by kernel_rfl,rfl,rfl,rfl⟩,rfl,by decide,by decide⟩
section
variable {F0 : Nat -> Prop} {g g0 : Gh} {w w0 : World} {L : List Rs} {s v z : Sl} {n : Int} {q o : Nat} {e1 e2 e3 e4 : Rs} {S : Sd}
theorem Hp.r3 (H:Hp F0 g0 w0 g w (e1::e2::e3::e4::L)):Hp F0 g0 w0 g w (e1::e3::e4::e2::L):=⟨H.sp,H.sep.cons fun _ h=>h.sw.cons fun _ h=>h.sw⟩
theorem Hp.r3' (H:Hp F0 g0 w0 g w (e1::e3::e4::e2::L)):Hp F0 g0 w0 g w (e1::e2::e3::e4::L):=⟨H.sp,H.sep.cons fun _ h=>(h.cons fun _ h=>h.sw).sw⟩
theorem uV (hn:0<n/\n<100) (H:Hp F0 g0 w0 g w L) {Φ:List Value×World->Prop}
  (hΦ:∀ g' w' z y,Hp F0 g0 w0 g' w' L->PL bbR 1 g' w' z [[sdF loV (n-1) false]]->PL bbR 1 g' w' y [[sdF n hiV true]]->Mo g w g' w'->Φ (lsC z y,w')):(jH (tmC n) 1 w).t Φ:=by
 obtain⟨p1,w1,e1,H1,m1⟩:=H.box (T:=57) (cs:=tmC n);obtain⟨p4,w2,e2,H2,m2⟩:=H1.box (T:=70) (cs:=[.slice none 0 0,.slice none 0 0]);obtain⟨w3,e3,H3,m3⟩:=H2.dr;have t1:ldS w3 ((⟨p1,0,none⟩:Addr).add 1)=some aB:=by rw[aO];exact H3.sw.ldS rfl
 unfold jH;refine Nd.b2 e1 (Nd.b2 e2 (Nd.j3 (Ψ:=fun r=>∃ a b,r.1=⟨a,0,none⟩/\r.2.1=⟨b,0,none⟩/\Hp F0 g0 w0 g r.2.2 (bxR a (mkC Sl.nil) 83::bxR b (mkC Sl.nil) 83::bxR p4 [.slice none 0 0,.slice none 0 0] 70::bxR p1 (tmC n) 57::L)/\Mo g w g r.2.2) (Nd.b1 e3 (Nd.b1 t1 (Nd.b1 t1 (Nd.both ?_ ?_)))) ?_))
 .obtain⟨a,w4,e4,H4,m4⟩:=H3.box (T:=83) (cs:=mkC Sl.nil);obtain⟨b,w5,e5,H5,m5⟩:=H4.box (T:=83) (cs:=mkC Sl.nil);exact Nd.b2 e4 (Nd.b2 e5 (Nd.ck (by rw[aO];exact H4.m2.ldS rfl) (Nd.ret ⟨a,b,rfl,rfl,H5.sw,m1.t (m2.t (m3.t (m4.t m5)))⟩)))
 .obtain⟨b,w4,e4,H4,m4⟩:=H3.box (T:=83) (cs:=mkC Sl.nil);obtain⟨a,w5,e5,H5,m5⟩:=H4.box (T:=83) (cs:=mkC Sl.nil);exact Nd.b2 e4 (Nd.b2 e5 (Nd.ck (by rw[aO];exact H4.m2.ldS rfl) (Nd.ret ⟨a,b,rfl,rfl,H5,m1.t (m2.t (m3.t (m4.t m5)))⟩)))
 rintro _ _ w4 ⟨a,b,rfl,rfl,H4,m4⟩;simp only at H4 m4;obtain⟨p5,w5,e5,H5,m5⟩:=H4.box (T:=55) (cs:=[.int .i64 0,.int .i64 0,.string ByteArray.empty,.bool false,.complex .f64 0 0]);obtain⟨w6,e6,H6,m6⟩:=H5.stF (vs:=vlC n) rfl (by intro v hv;simp[vlC] at hv;rcases hv with rfl | rfl | rfl | rfl | rfl<;>rfl)
 -- H6: value,own,other,lists,term
 have t3:ldA 5 w4 ((⟨p1,0,none⟩:Addr).add 3) 0=some (vlC n):=by rw[aO];exact sJ H4.m3.bx (by simp[tmC])
 have t2:ldI .i64 w6 ((⟨p1,0,none⟩:Addr).add 2)=some 5:=by rw[aO];exact H6.m4.ldI rfl
 obtain⟨x1,w7,e7,H7,m7⟩:=H6.box (T:=55) (cs:=vlC n);obtain⟨x2,w8,e8,H8,m8⟩:=H7.box (T:=2) (cs:=[.int .i64 0]);have eb:eS (vlC n) 0 w6=some (⟨x1,0,none⟩,⟨x2,0,none⟩,w8):=by unfold eS;rw[e7,cZ,e8,cZ]
 -- H8: x2,x1,value,own,other,lists,term
 refine Nd.b1 t3 (Nd.b2 e5 (Nd.b1 e6 (Nd.j1 (Ψ:=fun w'=>∃ g' z y,Hp F0 g0 w0 g' w' (bxR b (mkC y) 83::bxR a (mkC z) 83::bxR p4 [.slice none 0 0,.slice none 0 0] 70::L)/\PL bbR 1 g' w' z [[sdF loV (n-1) false]]/\PL bbR 1 g' w' y [[sdF n hiV true]]/\Mo g w g' w') (Nd.b1 t2 (Nd.f (by decide) (Nd.f (by decide) (Nd.f (by decide) (Nd.b1 t2 (Nd.f (by decide) (Nd.b1 t2 (Nd.f (by decide) (Nd.b1 t2 (Nd.t (by decide) (Nd.b1 (H6.ldF rfl) (Nd.b3 eb ?_)))))))))))) ?_)))
 .refine Nd.j1 (Ψ:=fun w'=>∃ g' z,Hp F0 g0 w0 g' w' (bxR a (mkC z) 83::bxR x2 [.int .i64 0] 2::bxR x1 (vlC n) 55::bxR p5 (vlC n) 55::bxR b (mkC Sl.nil) 83::bxR p4 [.slice none 0 0,.slice none 0 0] 70::bxR p1 (tmC n) 57::L)/\PL bbR 1 g' w' z [[sdF loV (n-1) false]]/\Mo g w g' w') ?_ ?_
  .rw[rO];refine sL (c:=false) (lo:=loV) (hi:=n-1) (by unfold loV;omega) H8.m3 (fun {q w1} H=>?_) (fun g' w' z H hz m=>⟨g',z,H,hz,m4.t (m5.t (m6.t (m7.t (m8.t m))))⟩);obtain⟨w2,e,H',m⟩:=tZ hn H.r3;exact⟨w2,e,H'.r3',m⟩
  rintro w9 ⟨g9,z,H9,hz,m9⟩;obtain⟨y1,wa,ea,HA,ma⟩:=H9.box (T:=55) (cs:=vlC n);obtain⟨y2,wb,eb,HB,mb⟩:=HA.box (T:=2) (cs:=[.int .i64 1]);have ec:eV (vlC n) 1 w9=some (⟨y1,0,none⟩,⟨y2,0,none⟩,wb):=by unfold eV;rw[ea,cZ,eb,cZ]
  -- HB: y2,y1,own,x2,x1,value,other,lists,term
  have HC:Hp F0 g0 w0 g9 wb (bxR b (mkC Sl.nil) 83::bxR y2 [.int .i64 1] 2::bxR y1 (vlC n) 55::bxR a (mkC z) 83::bxR x2 [.int .i64 0] 2::bxR x1 (vlC n) 55::bxR p5 (vlC n) 55::bxR p4 [.slice none 0 0,.slice none 0 0] 70::bxR p1 (tmC n) 57::L) :=
   Hp.app_cons (L:=[bxR y2 [.int .i64 1] 2,bxR y1 (vlC n) 55,bxR a (mkC z) 83,bxR x2 [.int .i64 0] 2,bxR x1 (vlC n) 55,bxR p5 (vlC n) 55]) HB
  refine Nd.b1 (H9.m3.ldF rfl) (Nd.b3 ec (Nd.j1 (Ψ:=fun w'=>∃ g' z y,Hp F0 g0 w0 g' w' (bxR b (mkC y) 83::bxR a (mkC z) 83::bxR p4 [.slice none 0 0,.slice none 0 0] 70::L)/\PL bbR 1 g' w' z [[sdF loV (n-1) false]]/\PL bbR 1 g' w' y [[sdF n hiV true]]/\Mo g w g' w') ?_ (fun w' h=>Nd.ret h)));rw[rP];refine sL (c:=true) (lo:=n) (hi:=hiV) (by unfold hiV;omega) HC (fun {q w1} H=>?_) (fun g' w' y H hy m=>⟨g',z,y,?_,PL.mo (R:=bbR) iN hz (ma.t (mb.t m)),hy,m9.t (ma.t (mb.t m))⟩)
  .obtain⟨w2,e,H',m⟩:=rQ hn H.r3;exact⟨w2,e,H'.r3',m⟩
  -- H: other,y2,y1,own,x2,x1,value,lists,term
  have h1:=H.sw.tl.sw.tl
  -- other,own,x2,x1,value,lists,term
  have h2:=h1.m2.tl.m2.tl.m2.tl
  -- other,own,lists,term? order kept by m2: third to front
  exact h2.m3.tl
 rintro w7 ⟨g7,z,y,H7,hz,hy,m7⟩;obtain⟨w8,e8,H8,m8⟩:=H7.dr;obtain⟨w9,e9,H9,m9⟩:=H8.m2.stF (vs:=lsC z y) rfl (by intro v hv;simp at hv;rcases hv with rfl | rfl<;>rfl);refine Nd.b1 e8 (Nd.b1 (by rw[aO];exact H8.sw.ldL rfl) (Nd.b1 (by rw[aO];exact H8.ldL rfl) (Nd.b1 e9 (Nd.b1 (H9.ldF rfl) (Nd.ret ?_)))));exact hΦ g7 w9 z y H9.tl.tl.tl (PL.mo (R:=bbR) iN hz (m8.t m9)) (PL.mo (R:=bbR) iN hy (m8.t m9)) (m7.t (m8.t m9))
end
def cQ (a0:Int) (w:World):Option (Sl×World) :=
 aE (bsl w 57 9 [([.int .i64 3,.string (ByteArray.mk #[97]),.int .i64 5,.int .i64 1,.int .i64 a0,.string ByteArray.empty,.bool false,.complex .f64 0 0,.int .i64 0])]) fun s1 w2 =>
 some (s1,w2)
theorem eL {a0 w w' r0} (h:cQ a0 w=some (r0,w')):Calls Try.prog 12 #[(.int .i64 a0)] w fun e w''=>e=.returned (Sl.v r0)/\w''=w':=by
 refine aG (n:=7) Try.func12 rfl Try.ntmps12 (by simp) fun a u=>?_;unfold cQ at h;refine wp_seq<|aA<|qa u rfl fun a u=>aC<|t_n<|wp_seq<|aA<|qm u rfl fun a u=>q u (gT (vs:=[(0,(iV 1)),(1,(iV a0))]) (pl:=#[(0,1),(1,1),(2,1),(3,1),(4,1)]) (cs:=([.int .i64 1,.int .i64 a0,.string ByteArray.empty,.bool false,.complex .f64 0 0])) u ⟨rfl,rfl,rfl,rfl,aBP⟩ Try.zeroValue55 zD (by intro w;kernel_rfl) (by kernel_rfl)) fun a u=>q u (gT (vs:=[(0,(iV 3)),(1,(.string (ByteArray.mk #[97]))),(2,(iV 5)),(3,(.agg (List.toArray ([.int .i64 1,.int .i64 a0,.string ByteArray.empty,.bool false,.complex .f64 0 0]))))]) (pl:=#[(0,1),(1,1),(2,1),(3,5),(8,1)]) (cs:=([.int .i64 3,.string (ByteArray.mk #[97]),.int .i64 5,.int .i64 1,.int .i64 a0,.string ByteArray.empty,.bool false,.complex .f64 0 0,.int .i64 0])) u ⟨rfl,rfl,rfl,rfl,rfl,rfl,rfl,rfl,aBP⟩ aAa yL (by intro w;kernel_rfl) (by kernel_rfl)) fun a u=>?_;have⟨s1,w2,e3,h⟩:=bs2 h;refine q u (iJ (vs:=[(0,(.agg (List.toArray ([.int .i64 3,.string (ByteArray.mk #[97]),.int .i64 5,.int .i64 1,.int .i64 a0,.string ByteArray.empty,.bool false,.complex .f64 0 0,.int .i64 0]))))]) (ps:=[([.int .i64 3,.string (ByteArray.mk #[97]),.int .i64 5,.int .i64 1,.int .i64 a0,.string ByteArray.empty,.bool false,.complex .f64 0 0,.int .i64 0])]) u ⟨rfl,rfl,aBP⟩ ⟨rfl,rfl,aBP⟩ rfl zP zR aAa (by decide) e3) fun a u=>qa u rfl fun a u=>aC<|t_n<|wp_ret<|?_;have y:=u;cases h;exact aX Try.results12 y rfl ⟨rfl,rfl⟩
noncomputable def eI (w:World):ND (Bool×World) :=
 lb2 (bsl w 33 2 [([.string (ByteArray.mk #[97]),.int .i64 1])]) fun s1 w2 =>
 lb2 (cQ 5 w2) fun v4 w5 =>
 lb2 (cQ 4 w5) fun v7 w8 =>
 cb3 (gW s1 v4 v7 w8) fun v10 v11 w12 =>
 lb2 (cQ 4 w12) fun v14 w15 =>
 lb2 (cQ 5 w15) fun v17 w18 =>
 cb3 (gW s1 v14 v17 w18) fun v20 v21 w22 =>
 cb2 (if (v11==0)=true then
 (if (v21==0)=true then
 (if v10=true then
 (cO ((!v20),w22))
 else
 (cO (false,w22)))
 else
 (cO (false,w22)))
 else
 (cO (false,w22))) fun v24 w25 =>
 cO (v24,w25)
theorem kC {w Q} (h:(eI w).t Q):Calls Try.prog 6 #[] w fun e w''=>∃ i,e=.returned (.bool i.1)/\Q i/\w''=i.2:=by
 refine aG (n:=35) Try.func6 rfl Try.ntmps6 (by simp) fun a u=>?_;unfold eI at h;refine wp_seq<|aA<|qa u rfl fun a u=>aC<|t_n<|wp_seq<|aA<|q u (gT (vs:=[(0,(.string (ByteArray.mk #[97]))),(1,(iV 1))]) (pl:=#[(0,1),(1,1)]) (cs:=([.string (ByteArray.mk #[97]),.int .i64 1])) u ⟨rfl,rfl,rfl,rfl,aBP⟩ aAc zM (by intro w;kernel_rfl) (by kernel_rfl)) fun a u=>?_;obtain⟨s1,w2,e3,h⟩:=h;refine q u (iJ (vs:=[(0,(.agg (List.toArray ([.string (ByteArray.mk #[97]),.int .i64 1]))))]) (ps:=[([.string (ByteArray.mk #[97]),.int .i64 1])]) u ⟨rfl,rfl,aBP⟩ ⟨rfl,rfl,aBP⟩ rfl zL zW aAc (by decide) e3) fun a u=>qa u rfl fun a u=>aC<|t_n<|wp_seq<|aA<|qm u rfl fun a u=>?_;obtain⟨v4,w5,e6,h⟩:=h;refine q u (dc1 u rfl Try.call12 (eL e6)) fun a u=>?_;obtain⟨v7,w8,e9,h⟩:=h;refine q u (dc1 u rfl Try.call12 (eL e9)) fun a u=>?_;refine eT (ι:=Bool×Int×World) (pk:=fun i=>(.tuple #[(bV i.1),(iV i.2.1)])) (wf:=fun i=>i.2.2) (xs:=[_,_,_]) (vs:=[(Sl.v s1),(Sl.v v4),(Sl.v v7)]) u ⟨rfl,rfl,rfl,aBP⟩ Try.call11 (kS (un3 h)) (fun i h a u=>?_);obtain⟨v10,v11,w12⟩:=i;refine qm u rfl fun a u=>q u (kP u rfl rfl) fun a u=>q u (kP u rfl rfl) fun a u=>qa u rfl fun a u=>qa u rfl fun a u=>aC<|t_n<|wp_seq<|aA<|qm u rfl fun a u=>?_;obtain⟨v14,w15,e16,h⟩:=h;refine q u (dc1 u rfl Try.call12 (eL e16)) fun a u=>?_;obtain⟨v17,w18,e19,h⟩:=h;refine q u (dc1 u rfl Try.call12 (eL e19)) fun a u=>?_;refine eT (ι:=Bool×Int×World) (pk:=fun i=>(.tuple #[(bV i.1),(iV i.2.1)])) (wf:=fun i=>i.2.2) (xs:=[_,_,_]) (vs:=[(Sl.v s1),(Sl.v v14),(Sl.v v17)]) u ⟨rfl,rfl,rfl,aBP⟩ Try.call11 (kS (un3 h)) (fun i h a u=>?_);obtain⟨v20,v21,w22⟩:=i;refine qm u rfl fun a u=>q u (kP u rfl rfl) fun a u=>q u (kP u rfl rfl) fun a u=>qa u rfl fun a u=>qa u rfl fun a u=>aC<|t_n<|wp_seq<|?_;refine gU (n:=35) (ι:=Bool×World) (Lf:=fun i=>[(0,(bV i.1))]) (wf:=fun i=>i.2) (un2 h) (fun i h a u=>?_) (fun h hk27=>?_)
 .obtain⟨v24,w25⟩:=i;have u:Has 35 [(0,(bV v24))] a:=u;refine t_n<|wp_ret<|?_;exact aX Try.results6 u rfl ⟨(v24,w25),rfl,h,rfl⟩
 refine aA<|qm u rfl fun a u=>q u (cA u rfl rfl) fun a u=>qm u rfl fun a u=>?_;refine oD h (fun b28 h=>?_) (fun b28 h=>?_)
 .refine qg u 24 b28 (aD u rfl) fun a u=>qg u 24 b28 (cA u rfl rfl) fun a u=>q u (aK u rfl b28 rfl) fun a u=>qm u rfl fun a u=>?_;refine oD h (fun b29 h=>?_) (fun b29 h=>?_)
  .refine qg u 28 b29 (aD u rfl) fun a u=>q u (aK u rfl b29 rfl) fun a u=>qm u rfl fun a u=>?_;refine oD h (fun b30 h=>?_) (fun b30 h=>?_)
   .refine qg u 31 b30 (aD u rfl) fun a u=>qg u 31 b30 (eP u rfl) fun a u=>q u (aK u rfl b30 rfl) fun a u=>qa u rfl fun a u=>aC<|?_;exact hk27 ((!v20),w22) h _ (u.sb rfl)
   refine qn u 31 (nm b30) fun a u=>qn u 31 (nm b30) fun a u=>q u (aJ u rfl b30 rfl) fun a u=>qa u rfl fun a u=>aC<|?_;exact hk27 (false,w22) h _ (u.sb rfl)
  refine qn u 28 (nm b29) fun a u=>q u (aJ u rfl b29 rfl) fun a u=>qm u rfl fun a u=>qn u 31 (nm aAm) fun a u=>qn u 31 (nm aAm) fun a u=>q u (aJ u rfl aAm rfl) fun a u=>qa u rfl fun a u=>aC<|?_;exact hk27 (false,w22) h _ (u.sb rfl)
 refine qn u 24 (nm b28) fun a u=>qn u 24 (nm b28) fun a u=>q u (aJ u rfl b28 rfl) fun a u=>qm u rfl fun a u=>qn u 28 (nm aAm) fun a u=>q u (aJ u rfl aAm rfl) fun a u=>qm u rfl fun a u=>qn u 31 (nm aAm) fun a u=>qn u 31 (nm aAm) fun a u=>q u (aJ u rfl aAm rfl) fun a u=>qa u rfl fun a u=>aC<|?_;exact hk27 (false,w22) h _ (u.sb rfl)
section
variable {F0 : Nat -> Prop} {g g0 : Gh} {w w0 : World} {L : List Rs} {s v z y : Sl} {n : Int} {q o : Nat} {S T : Sd} {us : List Sd}
theorem xB (H:Hp F0 g0 w0 g w (bxR q [.string aB] 9::L)):Ex (fV flC ⟨q,0,none⟩ w) fun r=>r.1=true/\Hp F0 g0 w0 g r.2 (bxR q [.string aB] 9::L)/\Mo g w g r.2:=by
 obtain⟨p,w2,e1,H1,m1⟩:=H.box (T:=33) (cs:=flC);unfold fV;refine Ex.b2 e1 (Ex.b1 (by rw[aO];exact H1.ldS rfl) (Ex.b1 (H1.sw.ldS rfl) (Ex.ret ⟨?_,H1.tl,m1⟩)));show sEq aB aB=true;simp[sEq]
theorem vA (hs:PL cR 2 g w s [flC]) (H:Hp F0 g0 w0 g w (bxR q [s.v] 34::L)):Ex (hG aB ⟨q,0,none⟩ w) fun r=>r.1=1/\Hp F0 g0 w0 g r.2 (bxR q [s.v] 34::L)/\Mo g w g r.2:=by
 have hln:s.n=1:=hs.len;obtain⟨p,w2,e2,H2,m2⟩:=H.box (T:=9) (cs:=[.string aB]);obtain⟨w3,e3,H3,m3⟩:=H2.dr;obtain⟨⟨x,w4⟩,e4,hx,H4,m4⟩:=xB H3;simp only at hx H4 m4;subst hx;have m23:=m2.t m3;obtain⟨a,cs,ea,la,rfl,hc⟩:=hs.el (R:=cR) iR (m23.t m4) (i:=0) rfl;obtain⟨a',cs,ea',la',rfl,-⟩:=hs.el (R:=cR) iR m23 (i:=0) rfl;have hidx:bD s ⟨p,0,none⟩ w3=some (0,w4):=by
  have h1:bB (fun r:Int×World=>aU s ⟨p,0,none⟩ r.1 r.2) (0,w3)=some (.inr (0,w4)):=by
   refine cF ?_;show aU s ⟨p,0,none⟩ 0 w3=_;unfold aU;have ea0:D.ix s 0 2=some a':=ea';rw[if_pos (by simp[hln]),ea0,aBN,la',aBN,e4,cZ,if_pos rfl]
  unfold bD;rw[h1];rfl
 unfold hG;exact Ex.b2 e2 (Ex.b1 e3 (Ex.b1 (H3.sw.ldL rfl) (Ex.b1 (H3.sw.ldL rfl) (Ex.b2 hidx (Ex.b1 ea (Ex.b1 (jZ (hc 1 _ rfl)) (Ex.ck (H4.sw.ldL rfl) (Ex.ret ⟨rfl,H4.tl,m23.t m4⟩))))))))
theorem uR (h1:S.ins=[]) (h2:S.outs=[]) (H:Hp F0 g0 w0 g w L):Ex (fU (jJ S) w) fun r=>r.1=false/\Hp F0 g0 w0 g r.2 L/\Mo g w g r.2:=by
 obtain⟨p,w2,e1,H1,m1⟩:=H.box (T:=40) (cs:=jJ S);have k:=H1.sb;unfold fU;refine Ex.b2 e1 (Ex.j2 (Ψ:=fun r=>r=(false,w2)) (Ex.b1 k.l10 (Ex.f (by decide) (Ex.b1 k.l11 (Ex.ret rfl)))) ?_);rintro _ _ he;cases he;exact Ex.ret ⟨rfl,H1.tl,m1⟩
theorem wZ (hs:PL nlR 12 g w z us) (hn:us.length<=100) (H:Hp F0 g0 w0 g w L):Ex (hM z w) fun r=>r.1=false/\Hp F0 g0 w0 g r.2 L/\Mo g w g r.2:=by
 have hln:=hs.len;obtain⟨o,e,w2,rfl,H2,m2⟩:=iZ (xs:=us) (Pd:=fun _=>false) (step:=aR z) (by omega) (fun i x w1 hx H1 m1=>by
  obtain⟨a,cs,ea,la,⟨rfl,h1,h2,-⟩,-⟩:=hs.el (R:=nlR) qO m1 hx;have hi:=(aAi.1 hx).1;obtain⟨⟨v,w3⟩,e3,hv,H3,m3⟩:=uR h1 h2 H1;simp only at hv H3 m3;unfold aR;refine Ex.t (by simp;omega) (Ex.b1 ea (Ex.b1 la (Ex.b2 e3 ?_)));subst hv;rw[fB (by omega)];exact Ex.f (by decide) (Ex.ret ⟨w3,rfl,H3,m3⟩)) (fun w1=>by
  unfold aR;rw[if_neg (by simp;omega)]) us.length 0 w (by omega) H Mo.r
 have e':bB (fun s:Int×World=>aR z s.1 s.2) (0,w)=_:=e;have hf:∀ l:List Sd,l.findIdx? (fun _=>false)=none:=fun l=>by induction l with
  | nil=>rfl
  | cons a l ih=>rw[aBe,ih];rfl
 unfold hM bL cD;rw[e',aBN,aAs,hf];exact⟨(false,w2),rfl,rfl,H2,m2⟩
theorem pL {bs:List (List Sd)} (hs:PL bbR 1 g w z bs) (hn:bs.length<=16) (hb:∀ b∈bs,b.length<=100) (H:Hp F0 g0 w0 g w L):Ex (iD z w) fun r=>r.1=false/\Hp F0 g0 w0 g r.2 L/\Mo g w g r.2:=by
 have hln:=hs.len;obtain⟨o,e,w2,rfl,H2,m2⟩:=iZ (xs:=bs) (Pd:=fun _=>false) (step:=aP z) (by omega) (fun i x w1 hx H1 m1=>by
  obtain⟨a,cs,ea,la,⟨b,rfl,pb⟩,hc⟩:=hs.el (R:=bbR) iN m1 hx;have hi:=(aAi.1 hx).1;obtain⟨⟨v,w3⟩,e3,hv,H3,m3⟩:=wZ pb (hb x (aAn hx)) H1;simp only at hv H3 m3;have l0:ldL w1 a=some b:=by have:=hc 0 _ rfl;simp[Addr.add] at this;exact gP this
  unfold aP;refine Ex.t (by simp;omega) (Ex.b1 ea (Ex.b1 l0 (Ex.b2 e3 ?_)));subst hv;rw[fB (by omega)];exact Ex.f (by decide) (Ex.ret ⟨w3,rfl,H3,m3⟩)) (fun w1=>by
  unfold aP;rw[if_neg (by simp;omega)]) bs.length 0 w (by omega) H Mo.r
 have e':bB (fun s:Int×World=>aP z s.1 s.2) (0,w)=_:=e;have hf:∀ l:List (List Sd),l.findIdx? (fun _=>false)=none:=fun l=>by induction l with
  | nil=>rfl
  | cons a l ih=>rw[aBe,ih];rfl
 unfold iD;refine Ex.j2 (Ψ:=fun r=>r=(false,w2)) (Ex.f (by simp;omega) (Ex.b2 (a:=false) (b:=w2) ?_ (Ex.ret rfl))) (fun x y h=>by cases h;exact Ex.ret ⟨rfl,H2,m2⟩);unfold bN bW;rw[e',aBN,aAs,hf];rfl
theorem PL.rd1 {α:Type} {R:Gh->World->List Value->α->Prop} {sz:Nat} {x:α} (h:PL R sz g w z [x]):∃ cs,R g w cs x/\Rd w z sz cs/\cs.length=sz:=by
 have hn:z.n=1:=h.len;obtain⟨a,cs,e,hg,hl,hR,hc⟩:=h.at_ 0 x rfl;unfold D.ix at e
 cases hp:z.p with
 | none=>rw[hp] at e;cases e
 | some A =>
  rw[hp,aBN,if_pos ⟨by omega,by omega⟩] at e;cases e;refine⟨cs,hR,⟨by rw[hl,hn,Nat.one_mul],fun _=>⟨A,hp,fun j v hv=>?_⟩⟩,hl⟩;have:=hc j v hv;simpa[lI] using this
theorem rD (hs:PL bbR 1 g w z [[S]]) (H:Hp F0 g0 w0 g w L):Ex (iH z w) fun r=>∃ g',PL bbR 1 g' r.2 r.1 [[S]]/\Hp F0 g0 w0 g' r.2 L/\Mo g w g' r.2:=by
 have hln:z.n=1:=hs.len;obtain⟨s1,w1,e1,n1,-,H1,m1⟩:=H.mkS xR (m:=(z.n:Int)) (by omega) (by omega);have hn1:s1.n=1:=by rw[n1,hln];rfl
 have H1:Hp F0 g0 w0 g w1 (owR 22 1 s1 [.slice none 0 0]::L):=by rw[hln] at H1;exact H1
 obtain⟨a,cs,ea,la,⟨b,rfl,pb⟩,hc⟩:=hs.el (R:=bbR) iN m1 (i:=0) rfl;have lb:ldL w1 a=some b:=by have:=hc 0 _ rfl;simp[Addr.add] at this;exact gP this
 have hbn:b.n=1:=pb.len;obtain⟨cs,⟨rfl,hi,ho,t0,t1⟩,rb,-⟩:=pb.rd1;have hbp:b.p.isNone=false:=by obtain⟨A,e,-⟩:=rb.at_ (by omega);rw[e];rfl
 obtain⟨s2,w2,e2,n2,-,H2,m2⟩:=H1.bsl (T:=40) (sz:=12) (ps:=[]) (by intro p hp;cases hp) (by simp);have rb2:Rd w2 b 12 (jJ S):=by
  obtain⟨cs,⟨rfl,-⟩,r,-⟩:=(PL.mo (R:=nlR) qO pb m2).rd1;exact r
 obtain⟨s3,w3,e3,n3,H3,m3⟩:=H2.apS yB rb2 lN (by rw[n2,hbn];simp);have hn3:s3.n=1:=by rw[n3,n2,hbn];rfl
 have H3:Hp F0 g0 w0 g w3 (owR 40 12 s3 (jJ S)::owR 22 1 s1 [.slice none 0 0]::L):=by simpa using H3
 obtain⟨b1,rest1,hp1,-,-⟩:=H3.sw.ow.at_ (by omega);obtain⟨b3,rest3,hp3,hB3,-⟩:=H3.ow.at_ (by omega);have x1:D.ix s1 0 1=some ⟨b1,0,none⟩:=by unfold D.ix;rw[hp1,aBN,if_pos ⟨by omega,by omega⟩];simp[Addr.add]
 have x3:D.ix s3 0 12=some ⟨b3,0,none⟩:=by unfold D.ix;rw[hp3,aBN,if_pos ⟨by omega,by omega⟩];simp[Addr.add]
 obtain⟨w4,e4,H4,m4⟩:=H3.sw.oset (o:=0) (x:=s3.v) hp1 (by omega) (by simp) rfl;have H4:Hp F0 g0 w0 g w4 (owR 22 1 s1 [s3.v]::owR 40 12 s3 (jJ S)::L):=H4;obtain⟨w5,e5,H5,m5⟩:=H4.dr;have ldo:∀ {w'},Hp F0 g0 w0 g w' (owR 22 1 s1 [s3.v]::owR 40 12 s3 (jJ S)::L)->ldL w' ⟨b1,0,none⟩=some s3/\ldL w' ((⟨b3,0,none⟩:Addr).add 10)=some Sl.nil/\ldL w' ((⟨b3,0,none⟩:Addr).add 11)=some Sl.nil:=fun H=>by
  obtain⟨c1,r1,q1,B1,-⟩:=H.ow.at_ (by omega);obtain⟨c3,r3,q3,B3,-⟩:=H.sw.ow.at_ (by omega);rw[hp1] at q1;cases q1;rw[hp3] at q3;cases q3;rw[aO,aO];exact⟨gP (by rw[jE B1];rfl),gP (by rw[jE B3];rfl),gP (by rw[jE B3];rfl)⟩
 obtain⟨w6,e6,H6,m6⟩:=H5.sw.oset (o:=10) (x:=Sl.nil.v) hp3 (by omega) (by simp[sdC]) rfl;have H6:Hp F0 g0 w0 g w6 (owR 40 12 s3 (jJ S)::owR 22 1 s1 [s3.v]::L):=H6;obtain⟨w7,e7,H7,m7⟩:=H6.oset (o:=11) (x:=Sl.nil.v) hp3 (by omega) (by simp[sdC]) rfl;have H7:Hp F0 g0 w0 g w7 (owR 40 12 s3 (jJ S)::owR 22 1 s1 [s3.v]::L):=H7;obtain⟨ga,pa,H8,m8⟩:=H7.keepO;obtain⟨gb,pc,H9,m9⟩:=H8.keepO;have k5:=ldo H5;have k4:=ldo H4;have fin:PL bbR 1 gb w7 s1 [[S]]:=nI pc hn1 ⟨s3,rfl,nI (pa.mo m9) hn3 ⟨rfl,hi,ho,t0,t1⟩⟩;have hcl:cE b w1=some (s3,w3):=by
  unfold cE;rw[hbp,if_neg (by decide),e2,cZ,e3,cZ]
 have hcn:∀ w',bK Sl.nil w'=some (Sl.nil,w'):=fun w'=>by unfold bK;exact if_pos rfl
 have in1:Ex (bB (fun r:Int×World=>dS s3 s1 0 r.1 r.2) (0,w4)) fun o=>o=w7:=by
  refine Ex.lnext ?_;show Ex (dS s3 s1 0 0 w4) _;unfold dS;refine Ex.t (by simp[hn3]) (Ex.b1 e5 (Ex.b1 x1 (Ex.b1 k5.1 (Ex.b1 x1 (Ex.b1 k5.1 (Ex.b1 x1 (Ex.b1 k5.1 (Ex.b1 x3 (Ex.b1 k5.2.1 (Ex.b2 (hcn _) (Ex.b1 x1 (Ex.b1 k5.1 (Ex.b1 x3 (Ex.b1 k5.2.2 (Ex.b2 (hcn _) (Ex.b1 x3 (Ex.b1 (by rw[aO];exact e6) (Ex.b1 x3 (Ex.b1 (by rw[aO];exact e7) (Ex.ck k5.1 (Ex.ck k5.1 (Ex.ck k5.1 (Ex.ck k5.1 (Ex.ck k5.1 (Ex.ck k5.2.2 (Ex.ret ⟨_,rfl,Ex.ldone ?_⟩))))))))))))))))))))))))));show Ex (dS s3 s1 0 1 w7) _;unfold dS;exact Ex.f (by simp[hn3]) (Ex.ret ⟨_,rfl,rfl⟩)
 unfold iH;refine Ex.b2 e1 (Ex.j1 (Ψ:=fun o=>o=w7) (Ex.lnext ?_) ?_)
 .show Ex (eE z s1 0 w1) _;unfold eE;refine Ex.t (by simp[hln]) (Ex.b1 ea (Ex.b1 lb (Ex.b2 hcl (Ex.b1 x1 (Ex.b1 e4 (Ex.b1 x1 (Ex.b1 k4.1 (Ex.j1 in1 ?_))))))));rintro _ rfl;refine Ex.ret ⟨_,rfl,Ex.ldone ?_⟩;show Ex (eE z s1 1 _) _;unfold eE;exact Ex.f (by simp[hln]) (Ex.ret ⟨_,rfl,rfl⟩)
 rintro _ rfl;exact Ex.ret ⟨gb,fin,H9,m1.t (m2.t (m3.t (m4.t (m5.t (m6.t (m7.t (m8.t m9)))))))⟩
end
section
variable {F0 : Nat -> Prop} {g g0 : Gh} {w w0 : World} {L : List Rs} {s v z y : Sl} {n m : Int} {q o : Nat} {S T : Sd} {us : List Sd}
theorem pO (hs:PL cR 2 g w s [flC]) (hv:PL cR 9 g w v [tmC n]) (hn:0<n/\n<100) (H:Hp F0 g0 w0 g w L) {Φ:Sl×Int×World->Prop}
  (hΦ:∀ g' w' z,Hp F0 g0 w0 g' w' L->PL bbR 1 g' w' z [[sdF loV (n-1) false]]->Mo g w g' w'->Φ (z,0,w')):(iC s v w).t Φ:=by
 have hvn:v.n=1:=hv.len;obtain⟨p1,w1,e1,H1,m1⟩:=H.box (T:=34) (cs:=[s.v]);obtain⟨⟨x,w2⟩,e2,hx,H2,m2⟩:=uO (PL.mo (R:=cR) iR hs m1) (PL.mo (R:=cR) iR hv m1) H1;simp only at hx H2 m2;subst hx;obtain⟨s3,w3,e3,-,-,H3,m3⟩:=H2.bsl (T:=40) (sz:=12) (ps:=[]) (by intro p hp;cases hp) (by simp);obtain⟨s4,w4,e4,-,-,H4,m4⟩:=H3.bsl (T:=22) (sz:=1) (ps:=[[s3.v]]) (by intro p hp;simp at hp;subst hp;rfl) (by simp);have H4:=H4.tl.tl;have mA:=m1.t (m2.t (m3.t m4));unfold iC;refine Nd.b2 e1 (Nd.b1 (H1.ldL rfl) (Nd.b2 e2 (Nd.f (by decide) (Nd.b2 e3 (Nd.b2 e4 (Nd.j1 (Ψ:=fun o=>∃ st w' g' z,o = .inl (st,w')/\Hp F0 g0 w0 g' w' (bxR p1 [s.v] 34::L)/\PL bbR 1 g' w' z [[sdF loV (n-1) false]]/\(∃ a,D.ix st 0 2=some a/\ldL w' (a.add 0)=some z)/\Mo g w g' w') (Nd.next ?_) ?_))))))
 .show(eN v s4 ⟨p1,0,none⟩ Sl.nil 0 w4).t _;obtain⟨a,cs,ea,la,rfl,-⟩:=hv.el (R:=cR) iR mA (i:=0) rfl;obtain⟨p5,w5,e5,H5,m5⟩:=H4.box (T:=57) (cs:=[.int .i64 0,.string ByteArray.empty,.int .i64 0,.int .i64 0,.int .i64 0,.string ByteArray.empty,.bool false,.complex .f64 0 0,.int .i64 0]);obtain⟨w6,e6,H6,m6⟩:=H5.stF (vs:=tmC n) rfl pI;obtain⟨w7,e7,H7,m7⟩:=H6.dr;have mB:=mA.t (m5.t (m6.t m7));obtain⟨⟨x,w8⟩,e8,hx,H8,m8⟩:=vA (PL.mo (R:=cR) iR hs mB) H7.sw;simp only at hx H8 m8;subst hx;unfold eN;refine Nd.t (by simp[hvn]) (Nd.b1 ea (Nd.b1 la (Nd.b2 e5 (Nd.b1 e6 (Nd.j2 (Ψ:=fun r=>∃ g' z y,Hp F0 g0 w0 g' r.2 (bxR p1 [s.v] 34::L)/\PR g' r.2 r.1 2 (lsC z y)/\r.1.n=1/\PL bbR 1 g' r.2 z [[sdF loV (n-1) false]]/\PL bbR 1 g' r.2 y [[sdF n hiV true]]/\Mo g w g' r.2) (Nd.b1 (by rw[aO];exact H6.ldI rfl) (Nd.f (by decide) (Nd.f (by decide) (Nd.t (by decide) (Nd.b1 e7 (Nd.b1 (H7.ldF rfl) (Nd.b1 (by rw[aO];exact H7.ldS rfl) (Nd.b2 e8 (Nd.ck (H8.sw.ldF rfl) (Nd.j2 (Ψ:=fun r=>∃ g' z y,r.1=lsC z y/\Hp F0 g0 w0 g' r.2 (bxR p1 [s.v] 34::L)/\PL bbR 1 g' r.2 z [[sdF loV (n-1) false]]/\PL bbR 1 g' r.2 y [[sdF n hiV true]]/\Mo g w g' r.2) (uV hn H8 fun g' w' z y H' hz hy m'=>⟨g',z,y,rfl,H'.sw.tl,hz,hy,mB.t (m8.t m')⟩) ?_)))))))))) ?_)))))
  .rintro _ w9 ⟨g9,z,y,rfl,H9,hz,hy,m9⟩;simp only at H9 hz hy m9;obtain⟨sa,wa,ea,na,-,HA,ma⟩:=H9.bsl (T:=70) (sz:=2) (ps:=[lsC z y]) (by intro p hp;simp at hp;subst hp;rfl) (by simp);obtain⟨sb,wb,eb,nb,HB,mb⟩:=HA.onil.apS yC HA.ow.rd (by intro v hv;simp at hv;rcases hv with rfl | rfl<;>rfl) (by rw[na];simp[Sl.nil]);have HB:Hp F0 g0 w0 g9 wb (owR 70 2 sb (lsC z y)::owR 70 2 sa (lsC z y)::bxR p1 [s.v] 34::L):=by simpa using HB
   obtain⟨gc,pc,HC,mc⟩:=HB.keepO;have mm:=ma.t (mb.t mc);exact Nd.b2 ea (Nd.b2 eb (Nd.ret ⟨gc,z,y,HC.tl,pc,by show sb.n=1;rw[nb,na];rfl,PL.mo (R:=bbR) iN hz mm,PL.mo (R:=bbR) iN hy mm,m9.t mm⟩))
  rintro st w9 ⟨g9,z,y,H9,ps,hsn,hz,hy,m9⟩;simp only at H9 ps hsn hz hy m9;obtain⟨a,ea,-,-,hc⟩:=rW ps hsn;have la2:ldA 2 w9 a 0=some (lsC z y):=lM 2 w9 a 0 _ rfl fun j v hv=>by rw[aBO];exact hc j v hv
  have hwr:IntKind.wrap .i64 ((st.n:Int)-1)=((0:Nat):Int):=by rw[hsn];rfl
  obtain⟨pa,wa,e10,HA,ma⟩:=H9.box (T:=70) (cs:=[.slice none 0 0,.slice none 0 0]);obtain⟨wb,e11,HB,mb⟩:=HA.stF (vs:=lsC z y) rfl (by intro v hv;simp at hv;rcases hv with rfl | rfl<;>rfl);have mm:=ma.t mb;obtain⟨⟨x,wc⟩,e12,hx,HC,mc⟩:=pL (PL.mo (R:=bbR) iN hz mm) (by simp) (by simp) HB;simp only at hx HC mc;subst hx;obtain⟨⟨x,wd⟩,e13,hx,HD,md⟩:=pL (PL.mo (R:=bbR) iN hy (mm.t mc)) (by simp) (by simp) HC;simp only at hx HD md;subst hx;have mz:=mm.t (mc.t md);refine Nd.b1 (by rw[hwr];exact ea) (Nd.b1 la2 (Nd.b2 e10 (Nd.b1 e11 (Nd.j2 (Ψ:=fun r=>r=(false,wd)) (Nd.b1 (by rw[aO];exact HB.ldL rfl) (Nd.b2 e12 (Nd.f (by decide) (Nd.b1 (by rw[aO];exact HC.ldL rfl) (Nd.b2 e13 (Nd.ret rfl)))))) ?_))));rintro _ _ he;cases he;refine Nd.f (by decide) (Nd.ret ?_);show(mY _ (st,1,wd)).t _;refine Nd.next ?_
  show(eN v s4 ⟨p1,0,none⟩ st 1 wd).t _;unfold eN;refine Nd.f (by simp[hvn]) (Nd.ret ⟨st,wd,g9,z,rfl,HD.tl,PL.mo (R:=bbR) iN hz mz,?_,m9.t mz⟩);obtain⟨a',ea',-,-,hc'⟩:=rW (ps.mo mz) hsn;exact⟨a',ea',gP (hc' 0 _ rfl)⟩
 rintro _ ⟨st,w5,g5,z,rfl,H5,hz,⟨a,ea,la⟩,m5⟩;obtain⟨⟨r,w6⟩,e6,g6,hr,H6,m6⟩:=rD hz H5;simp only at hr H6 m6;simp only[Sum.elim_inl,u2];exact Nd.b1 ea (Nd.b1 la (Nd.b2 e6 (Nd.ret (hΦ g6 w6 r H6.tl hr (m5.t m6)))))
theorem okF {lo hi:Int} {c:Bool}:∀ s∈[sdF lo hi c],okS s:=fun s hs=>by simp at hs;subst hs;exact fun h=>(h rfl).elim
theorem oU (hs:PL cR 2 g w s [flC]) (hv:PL cR 9 g w v [tmC n]) (hy:PL cR 9 g w y [tmC m]) (hn:0<n/\n<100) (hm:0<m/\m<100) (H:Hp F0 g0 w0 g w L) {Φ:Bool×Int×World->Prop}
  (hΦ:∀ g' w',Hp F0 g0 w0 g' w' L->Mo g w g' w'->Φ (jO [sdF loV (m-1) false] [sdF loV (n-1) false],0,w')):(gW s v y w).t Φ:=by
 unfold gW;refine Nd.j3 (Ψ:=fun r=>∃ g' ,r.2.1=0/\Hp F0 g0 w0 g' r.2.2 L/\PL bbR 1 g' r.2.2 r.1 [[sdF loV (n-1) false]]/\Mo g w g' r.2.2) (pO hs hv hn H fun g' w' z H' hz m'=>⟨g',rfl,H',hz,m'⟩) ?_;rintro x _ w1 ⟨g1,rfl,H1,hx,m1⟩;simp only at H1 hx m1;refine Nd.f (by decide) (Nd.j3 (Ψ:=fun r=>∃ g' ,r.2.1=0/\Hp F0 g0 w0 g' r.2.2 L/\PL bbR 1 g' r.2.2 r.1 [[sdF loV (m-1) false]]/\Mo g1 w1 g' r.2.2) (pO (PL.mo (R:=cR) iR hs m1) (PL.mo (R:=cR) iR hy m1) hm H1 fun g' w' z H' hz m'=>⟨g',rfl,H',hz,m'⟩) ?_);rintro u _ w2 ⟨g2,rfl,H2,hu,m2⟩;simp only at H2 hu m2;have hx:=PL.mo (R:=bbR) iN hx m2;have hxn:x.n=1:=hx.len;have hun:u.n=1:=hu.len;obtain⟨a,cs,ea,la,⟨b,rfl,pb⟩,hc⟩:=hu.el (R:=bbR) iN Mo.r (i:=0) rfl;have lb:ldL w2 a=some b:=by have:=hc 0 _ rfl;simp[Addr.add] at this;exact gP this
 obtain⟨p,w3,e3,H3,m3⟩:=H2.box (T:=22) (cs:=[.slice none 0 0]);obtain⟨w4,e4,H4,m4⟩:=H3.stV (o:=0) (x:=b.v) (by show 0<1;decide) rfl;have H4:Hp F0 g0 w0 g2 w4 (bxR p [b.v] 22::L):=H4;have m34:=m3.t m4;obtain⟨a',cs,ea',la',⟨c,rfl,pc⟩,hc'⟩:=hx.el (R:=bbR) iN m34 (i:=0) rfl;have lc:ldL w4 a'=some c:=by have:=hc' 0 _ rfl;simp[Addr.add] at this;exact gP this
 obtain⟨⟨r,w5⟩,e5,hr,H5,m5⟩:=sI (PL.mo (R:=sdR) fE pb.sd m34) pc.sd (by simp) (by simp) okF okF H4;simp only at hr H5 m5;have hcont:aZ x ⟨p,0,none⟩ w4=some (r,w5):=by
  have hstep:aM x ⟨p,0,none⟩ 0 w4=some (if r=true then .inr (.inr (0,w5)) else .inl (1,w5)):=by
   unfold aM iG;have ea0:D.ix x 0 1=some a':=ea';rw[if_pos (by simp[hxn]),ea0,aBN,lc,aBN,H4.ldL rfl,aBN,e5,cZ,cZ];cases r<;>rfl
  have hend:aM x ⟨p,0,none⟩ 1 w5=some (.inr (.inl w5)):=by
   unfold aM;rw[if_neg (by simp[hxn])]
  unfold aZ bX
  cases r with
  | true =>
   have:bB (fun s:Int×World=>aM x ⟨p,0,none⟩ s.1 s.2) (0,w4)=some (.inr (0,w5)):=cF hstep;rw[this];rfl
  | false =>
   have:bB (fun s:Int×World=>aM x ⟨p,0,none⟩ s.1 s.2) (0,w4)=some (.inl w5):=(eO (s':=(1,w5)) hstep).trans (cF hend);rw[this];rfl
 refine Nd.f (by decide) (Nd.j1 (Ψ:=fun o=>o=(if r=true then .inl w5 else .inr (false,0,w5))) (Nd.next ?_) ?_)
 .show(eF u x 0 w2).t _;unfold eF;refine Nd.t (by simp[hun]) (Nd.b1 ea (Nd.b1 lb (Nd.b2 e3 (Nd.b1 e4 (Nd.b2 hcont ?_)))))
  cases r with
  | false=>exact Nd.t rfl (Nd.ret rfl)
  | true =>
   refine Nd.f (by decide) (Nd.ret ?_);show(mY _ (1,w5)).t _;refine Nd.next ?_
   show(eF u x 1 w5).t _;unfold eF;exact Nd.f (by simp[hun]) (Nd.ret rfl)
 rintro _ rfl;have fin:=hΦ g2 w5 H5.tl (m1.t (m2.t (m34.t m5)));rw[<-hr] at fin
 cases r with
 | true=>exact Nd.ret fin
 | false=>exact Nd.ret fin
theorem tG (H:Hp F0 g0 w0 g w L) {Φ:Bool×World->Prop} (hΦ:∀ g' w',Hp F0 g0 w0 g' w' L->Mo g w g' w'->Φ (true,w')):(eI w).t Φ:=by
 have lit:∀ {g:Gh} {w:World} {T:TypeId} {sz:Nat} {cs:List Value},Hp F0 g0 w0 g w L->cs.length=sz->∃ z w' g',bsl w T sz [cs]=some (z,w')/\Hp F0 g0 w0 g' w' L/\PL cR sz g' w' z [cs]/\Mo g w g' w':=fun {g w T sz cs} H hl=>by
  obtain⟨z,w',e,n,-,H1,m1⟩:=H.bsl (T:=T) (sz:=sz) (ps:=[cs]) (by intro p hp;simp at hp;subst hp;exact hl) (by simp);obtain⟨g',p,H2,m2⟩:=H1.keepO;exact⟨z,w',g',e,H2,nI (by simpa using p) n rfl,m1.t m2⟩
 have less:∀ {g:Gh} {w:World} (n:Int),Hp F0 g0 w0 g w L->∃ z w' g',cQ n w=some (z,w')/\Hp F0 g0 w0 g' w' L/\PL cR 9 g' w' z [tmC n]/\Mo g w g' w':=fun {g w} n H=>by
  obtain⟨z,w',g',e,H1,p,m⟩:=lit (T:=57) (sz:=9) (cs:=tmC n) H rfl;exact⟨z,w',g',by unfold cQ;exact(congrArg (fun o=>aE o fun s1 w2=>some (s1,w2)) e),H1,p,m⟩
 obtain⟨s,w1,g1,e1,H1,p1,m1⟩:=lit (T:=33) (sz:=2) (cs:=flC) H rfl;obtain⟨a,w2,g2,e2,H2,p2,m2⟩:=less 5 H1;obtain⟨b,w3,g3,e3,H3,p3,m3⟩:=less 4 H2;unfold eI;refine Nd.b2 e1 (Nd.b2 e2 (Nd.b2 e3 (Nd.j3 (Ψ:=fun r=>r.1=true/\r.2.1=0/\∃ g',Hp F0 g0 w0 g' r.2.2 L/\Mo g3 w3 g' r.2.2) (oU (PL.mo (R:=cR) iR p1 (m2.t m3)) (PL.mo (R:=cR) iR p2 m3) p3 (by decide) (by decide) H3 fun g' w' H' m'=>⟨(by show jO [sdF loV (4-1) false] [sdF loV (5-1) false]=true;decide +kernel),rfl,g',H',m'⟩) ?_)));rintro _ _ w4 ⟨rfl,rfl,g4,H4,m4⟩;simp only at H4 m4;obtain⟨c,w5,g5,e5,H5,p5,m5⟩:=less 4 H4;obtain⟨d,w6,g6,e6,H6,p6,m6⟩:=less 5 H5;refine Nd.b2 e5 (Nd.b2 e6 (Nd.j3 (Ψ:=fun r=>r.1=false/\r.2.1=0/\∃ g',Hp F0 g0 w0 g' r.2.2 L/\Mo g6 w6 g' r.2.2) (oU (PL.mo (R:=cR) iR p1 (m2.t (m3.t (m4.t (m5.t m6))))) (PL.mo (R:=cR) iR p5 m6) p6 (by decide) (by decide) H6 fun g' w' H' m'=>⟨(by show jO [sdF loV (5-1) false] [sdF loV (4-1) false]=false;decide +kernel),rfl,g',H',m'⟩) ?_));rintro _ _ w7 ⟨rfl,rfl,g7,H7,m7⟩;simp only at H7 m7;refine Nd.j2 (Ψ:=fun r=>r=(true,w7)) (Nd.t (by decide) (Nd.t (by decide) (Nd.t rfl (Nd.ret rfl)))) ?_;rintro _ _ he;cases he;exact Nd.ret (hΦ g7 w7 H7 (m1.t (m2.t (m3.t (m4.t (m5.t (m6.t m7)))))))
end
def dN (a0:Sl) (a1:Sl) (w:World):ND (Bool×World) :=
 lb3 (iF a0 a1 w) fun v1 v2 w3 =>
 lb3 (dT a0 a1 w3) fun v5 v6 w7 =>
 cb2 (cb2 (eI w7) fun v13 w14 =>
 if v13=true then
 (if (v1==v5)=true then
 (cO ((v2==v6),w14))
 else
 (cO (false,w14)))
 else
 (cO (false,w14))) fun v9 w10 =>
 cO (v9,w10)
theorem grapevinelaw06_CoverInside_ok {a0 a1 w Q} (h:(dN a0 a1 w).t Q):Calls Try.prog 4 #[(Sl.v a0),(Sl.v a1)] w fun e w''=>∃ i,e=.returned (.bool i.1)/\Q i/\w''=i.2:=by
 refine aG (n:=32) Try.func4 rfl Try.ntmps4 (by simp) fun a u=>?_;unfold dN at h;refine wp_seq<|aA<|qa u rfl fun a u=>aC<|t_n<|wp_seq<|aA<|qm u rfl fun a u=>qm u rfl fun a u=>?_;obtain⟨v1,v2,w3,e4,h⟩:=h;refine q u (dc2 u rfl rfl Try.call9 (mZ e4)) fun a u=>qm u rfl fun a u=>q u (kP u rfl rfl) fun a u=>q u (kP u rfl rfl) fun a u=>qa u rfl fun a u=>qa u rfl fun a u=>aC<|t_n<|wp_seq<|aA<|qm u rfl fun a u=>qm u rfl fun a u=>?_;obtain⟨v5,v6,w7,e8,h⟩:=h;refine q u (dc2 u rfl rfl Try.call10 (jP e8)) fun a u=>qm u rfl fun a u=>q u (kP u rfl rfl) fun a u=>q u (kP u rfl rfl) fun a u=>qa u rfl fun a u=>qa u rfl fun a u=>aC<|t_n<|wp_seq<|?_;refine gU (n:=32) (ι:=Bool×World) (Lf:=fun i=>[(4,(bV i.1))]) (wf:=fun i=>i.2) (un2 h) (fun i h a u=>?_) (fun h hk12=>?_)
 .obtain⟨v9,w10⟩:=i;have u:Has 32 [(4,(bV v9))] a:=u;refine t_n<|wp_ret<|?_;exact aX Try.results4 u rfl ⟨(v9,w10),rfl,h,rfl⟩
 refine aA<|?_;refine eT (ι:=Bool×World) (pk:=fun i=>(bV i.1)) (wf:=fun i=>i.2) (xs:=[]) (vs:=[]) u trivial Try.call6 (kC (un2 h)) (fun i h a u=>?_);obtain⟨v13,w14⟩:=i;refine qm u rfl fun a u=>?_;refine oD h (fun b16 h=>?_) (fun b16 h=>?_)
 .refine qg u 22 b16 (aD u rfl) fun a u=>qg u 22 b16 (aD u rfl) fun a u=>qg u 22 b16 (vH u rfl rfl Try.runUnderlying4) fun a u=>q u (aK u rfl b16 rfl) fun a u=>qm u rfl fun a u=>?_;refine oD h (fun b17 h=>?_) (fun b17 h=>?_)
  .refine qg u 27 b17 (aD u rfl) fun a u=>qg u 27 b17 (aD u rfl) fun a u=>qg u 27 b17 (cA u rfl rfl) fun a u=>q u (aK u rfl b17 rfl) fun a u=>qa u rfl fun a u=>aC<|?_;exact hk12 ((v2==v6),w14) h _ (u.sb rfl)
  refine qn u 27 (nm b17) fun a u=>qn u 27 (nm b17) fun a u=>qn u 27 (nm b17) fun a u=>q u (aJ u rfl b17 rfl) fun a u=>qa u rfl fun a u=>aC<|?_;exact hk12 (false,w14) h _ (u.sb rfl)
 refine qn u 22 (nm b16) fun a u=>qn u 22 (nm b16) fun a u=>qn u 22 (nm b16) fun a u=>q u (aJ u rfl b16 rfl) fun a u=>qm u rfl fun a u=>qn u 27 (nm aAm) fun a u=>qn u 27 (nm aAm) fun a u=>qn u 27 (nm aAm) fun a u=>q u (aJ u rfl aAm rfl) fun a u=>qa u rfl fun a u=>aC<|?_;exact hk12 (false,w14) h _ (u.sb rfl)
theorem CoverInside_law {w:World} (s1:Sl) (b1:List Sd) (hs1:PL sdR 12 (old w) w s1 b1) (s2:Sl) (b2:List Sd) (hs2:PL sdR 12 (old w) w s2 b2):(dN s1 s2 w).t fun r=>r.1=true/\Fr (fun k=>w.heap.size<=k) w r.2:=by
 have H:Hp (fun _=>False) (old w) w (old w) w []:=Hp.beg (wJ w);unfold dN;obtain⟨⟨v,ve,w2⟩,e2,hv,H2,m2⟩:=qN hs1 hs2 H;simp only at hv H2 m2;obtain⟨⟨u,ue,w3⟩,e3,hu,H3,m3⟩:=qK (PL.mo (R:=sdR) fE hs1 m2) (PL.mo (R:=sdR) fE hs2 m2) H2;simp only at hu H3 m3;have hvu:=hv.trans hu.symm;simp only[Prod.mk.injEq] at hvu;obtain⟨rfl,rfl⟩:=hvu;refine Nd.b3 e2 (Nd.b3 e3 (Nd.j2 (Ψ:=fun r=>r.1=true/\Fr (fun k=>w.heap.size<=k) w r.2) (Nd.j2 (Ψ:=fun r=>r.1=true/\∃ g,Hp (fun _=>False) (old w) w g r.2 []) (tG H3 fun g' w' H' m'=>⟨rfl,g',H'⟩) ?_) fun a b h=>Nd.ret h));rintro _ w1 ⟨rfl,g1,H1⟩;simp only at H1;exact Nd.t rfl (Nd.t (by simp) (Nd.ret ⟨by simp,H1.fin⟩))
end
end Go.Proofs.Ytggheaclnklhaaa.D
