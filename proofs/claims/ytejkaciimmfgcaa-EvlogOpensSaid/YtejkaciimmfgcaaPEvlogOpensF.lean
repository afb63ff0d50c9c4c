/- Texts of this project that the claim of EvlogOpens uses, put together by pack.py: RReadB, RReadC, RFree, ROpen, Args, FnVO0, Opens11. -/
import Derived.ChangeArms
import GoSem.ClaimJoined
import Derived.Test.YtejkaciimmfgcaaPEvlogOpensA
import Derived.Test.YtejkaciimmfgcaaPEvlogOpensB
import Derived.Test.YtejkaciimmfgcaaPEvlogOpensC
import Derived.Test.YtejkaciimmfgcaaPEvlogOpensD
import Derived.Test.YtejkaciimmfgcaaPEvlogOpensE
namespace Go.Proofs.Ytejkaciimmfgcaa.D
open Go
set_option linter.unusedVariables false
set_option linter.unusedSimpArgs false
theorem insS_eq {l : List Sg} {x : Sg} : insS l x = (insR x l.reverse).reverse:=rfl
theorem heads_fold {D : Dk} {base : Int} {n : Nat} : (D.heads base (n + 1)).foldl insS [] = (match headL (n : Int) (D.look base n 0) with | some s=>insS ((D.heads base n).foldl insS []) s | none=>(D.heads base n).foldl insS []):=by
 rw [heads_succ,List.foldl_append]
 cases headL (n : Int) (D.look base n 0) <;> rfl
section
variable {F0 : Nat → Prop} {g0 : Gh} {w0 : World} {L : List Rs} {su sr : Sl} {y p q b j : Nat} {D : Dk} {base pos segs age rel high : Int} {cs : List Value}
theorem rread1_ok {g : Gh} {w : World} (hc : RLC cs y base segs) (hs0 : 0≤segs) (hs1 : segs≤16) (hbt : D.Bt) (hbd : D.W.length < 900000) {Φ : World→Prop}
  (H : Hp F0 g0 w0 g w (tdR p (tdC high rel Sl.nil sr) :: rlbR q cs :: rdR y D :: L))
  (hΦ : ∀ g' w' s',Hp F0 g0 w0 g' w' (tdR p (tdC high rel s' sr) :: rsR s' ((D.heads base segs.toNat).foldl insS []) :: rlbR q cs :: rdR y D :: L)→Mo g w g' w'→Φ w') :
  (nloop (fun s : Int×World=>grapevineref11_Log_Read_l1 (some ⟨q,0,none⟩) ⟨p,0,none⟩ s.1 s.2) (0,w)).t Φ:=by
 refine Nd.loop (fun m st=>∃ (j : Nat) (g' : Gh) (w' : World) (s' : Sl),st = ((j : Int),w')∧m + j = segs.toNat∧Hp F0 g0 w0 g' w' (tdR p (tdC high rel s' sr) :: rsR s' ((D.heads base j).foldl insS []) :: rlbR q cs :: rdR y D :: L)∧Mo g w g' w') (fun m st hI=>?_) segs.toNat (0,w) ⟨0,g,w,Sl.nil,rfl,by omega,H.onil.sw,Mo.r⟩
 obtain ⟨j,g1,w1,s1,rfl,hm,H1,m1⟩:=hI
 have l1 : ldI .i64 w1 ⟨q,2,none⟩ = some segs:=H1.m2.ldI hc.s
 unfold grapevineref11_Log_Read_l1
 refine Nd.s1 (Nd.b1 (by rw [add_mk]; exact l1) ?_)
 by_cases hlt : (j : Int) < segs
 ·obtain ⟨n,t,g2,w2,e2,H2,m2,hh⟩:=rheader_ok (pos:=(j : Int)) hc ⟨by omega,by omega⟩ (H1.m3.m3) hbt hbd
  obtain ⟨o,ho⟩ : ∃ o,headL (j : Int) (D.look base j 0) = o:=⟨_,rfl⟩
  have hfold:=heads_fold (D:=D) (base:=base) (n:=j)
  rw [ho] at e2 hh hfold
  have mm:=m1.t m2
  have hlen : ((D.heads base j).foldl insS []).length≤j:=by rw [sorted_len]; have:=heads_len (D:=D) (base:=base) (n:=j); simpa using this
  -- log,disk,told,segments
  refine Nd.t (by simpa using hlt) (Nd.j1 (Ψ:=fun w'=>∃ g' s',Hp F0 g0 w0 g' w' (tdR p (tdC high rel s' sr) :: rsR s' ((D.heads base (j + 1)).foldl insS []) :: rlbR q cs :: rdR y D :: L)∧Mo g w g' w') (Nd.b4 e2 ?_) ?_)
  ·cases o with
   | none =>
    refine Nd.t (by simp) (Nd.ret ⟨g2,s1,?_,mm⟩)
    rw [hfold]
    exact H2.m3.m3
   | some u =>
    obtain rfl:=hh u rfl
    obtain ⟨pre,hpre⟩ : ∃ pre,(D.heads base j).foldl insS [] = pre:=⟨_,rfl⟩
    have hfold : (D.heads base (j + 1)).foldl insS [] = insS pre ⟨(j : Int),n,1,t,[]⟩:=by rw [hfold,hpre]
    rw [hpre] at H2 hlen
    have l2 : ldL w2 ⟨p,2,none⟩ = some s1:=H2.m2.ldL rfl
    obtain ⟨z3,w3,e3,n3,_,H3,m3⟩:=H2.bsl (T:=136) (sz:=4) (ps:=[rsC (⟨(j : Int),n,1,t,[]⟩ : Sg)]) (by intro v hv; simp at hv; subst hv; rfl) (by simp)
    have hsn : pre.length = s1.n:=by have:=H3.tl.m3.ow.len; rw [fl_len rsC_len] at this; omega
    obtain ⟨z4,w4,e4,n4,H4,m4⟩:=H3.tl.m3.apS stRSeg H3.ow.rd (by intro v hv; simp at hv; exact rsC_one v hv) (by rw [n3]; simp; omega)
    rw [show pre.flatMap rsC ++ [rsC (⟨(j : Int),n,1,t,[]⟩ : Sg)].flatten = (pre.reverse.reverse ++ (⟨(j : Int),n,1,t,[]⟩ : Sg) :: []).flatMap rsC by simp] at H4
    -- segments,log,disk,told
    obtain ⟨w5,e5,H5,m5⟩:=H4.m3.stV (o:=2) (x:=z4.v) (by simp [tdC]) rfl
    have H5 : Hp F0 g0 w0 g2 w5 (tdR p (tdC high rel z4 sr) :: rsR z4 (pre.reverse.reverse ++ (⟨(j : Int),n,1,t,[]⟩ : Sg) :: []) :: rlbR q cs :: rdR y D :: L):=H5
    have l5 : ldL w5 ⟨p,2,none⟩ = some z4:=H5.ldL rfl
    have hz4 : z4.n = pre.length + 1:=by rw [n4,n3,hsn]; simp
    have hk : IntKind.wrap .i64 ((z4.n : Int) - 1) = (pre.reverse.length : Int):=by rw [wr64 (by omega) (by omega),List.length_reverse]; omega
    refine Nd.f (by simp) (Nd.b1 (by rw [add_mk]; exact l2) (Nd.b2 (by exact e3) (Nd.b2 e4 (Nd.b1 (by rw [add_mk]; exact e5) (Nd.b1 (by rw [add_mk]; exact l5) (Nd.j1 (Ψ:=fun w'=>∃ g' s',Hp F0 g0 w0 g' w' (tdR p (tdC high rel s' sr) :: rsR s' ((D.heads base (j + 1)).foldl insS []) :: rlbR q cs :: rdR y D :: L)∧Mo g w g' w') ?_ (fun w' h=>Nd.ret h)))))))
    rw [hk]
    refine rins_ok (by omega) pre.reverse [] w5 H5 fun w' H' m'=>⟨g2,z4,?_,mm.t (m3.t (m4.t (m5.t m')))⟩
    rw [hfold,insS_eq]
    rw [List.append_nil] at H'
    exact H'
  ·rintro w' ⟨g',s',H',m'⟩
   exact Nd.ret ⟨m - 1,by omega,j + 1,g',w',s',by rw [wrap_nat (by omega)],by omega,H',m'⟩
 ·have hj : j = segs.toNat:=by omega
  subst hj
  exact Nd.f (by simpa using hlt) (Nd.ret (hΦ g1 w1 s1 H1 m1))
theorem rread4_ok (hc : RLC cs y base segs) (hpos : 0≤pos∧pos≤16) (hbt : D.Bt) (hbd : D.W.length < 900000) (hsp : su.p = some ⟨b,0,none⟩) {Φ : Sl×World→Prop} :
  ∀ (m : Nat) (us : List Sg) (u : Sg) (sa : Sl) (rz : List (Int×Sl)) (pre : List (Int×List Int)) (rs : List (Int×List Int)) (h : Int) (g : Gh) (w : World),(16 : Int)≤m + u.fin→1≤u.fin→u.fin≤16→0≤h→us[j]? = some u→u.pos = pos→RZ g w rz (pre ++ rs)→rz.length + m≤100000 →
  Hp F0 g0 w0 g w (rlbR q cs :: rdR y D :: tdR p (tdC h rel su sr) :: rsR su us :: rcR sa rz :: L) →
  (∀ g' w' sa' rz',Hp F0 g0 w0 g' w' (rlbR q cs :: rdR y D :: tdR p (tdC (D.seg base pos m u.fin h rs).2.1 rel su sr) :: rsR su (us.set j ⟨u.pos,u.seq,(D.seg base pos m u.fin h rs).1,u.high,u.recs⟩) :: rcR sa' rz' :: L) →
   Mo g w g' w'→RZ g' w' rz' (pre ++ (D.seg base pos m u.fin h rs).2.2)→Φ (sa',w')) →
  (nloop (fun s : Sl×Bool×World=>grapevineref11_Log_Read_l4 ⟨p,0,none⟩ (j : Int) (some ⟨q,0,none⟩) s.1 s.2.1 s.2.2) (sa,true,w)).t Φ:=by
 intro m
 induction m with
 | zero =>
  intro us u sa rz pre rs h g w hm h1 h16 hh hj hq hz hzl H hΦ
  have hset : us.set j ⟨u.pos,u.seq,u.fin,u.high,u.recs⟩ = us:=by
   obtain ⟨hjl,hj'⟩:=List.getElem?_eq_some_iff.1 hj
   have : us.set j us[j] = us:=List.set_getElem_self hjl
   rw [hj'] at this; exact this
  have he : u.fin = 16:=by omega
  have rd : ∀ {g1 : Gh} {w1 : World} {L' : List Rs},Hp F0 g0 w0 g1 w1 (rsR su us :: L')→El w1 su 4 b j (rsC u):=fun Hs=>by
   obtain ⟨b',e⟩:=Hs.el rsC_len (by decide) hj
   have hbb:=hsp.symm.trans e.p
   simp only [Option.some.injEq,Addr.mk.injEq,and_true] at hbb
   subst hbb
   exact e
  obtain ⟨w1,e1,H1,m1⟩:=H.dr
  have l1 : ldL w1 ⟨p,2,none⟩ = some su:=H1.m2.ldL rfl
  have el1:=rd H1.m3
  have r1 : ldI .i64 w1 ⟨b,j * 4 + 0,none⟩ = some pos:=el1.i (by rw [← hq]; rfl)
  have r2 : ldI .i64 w1 ⟨b,j * 4 + 2,none⟩ = some u.fin:=el1.i rfl
  have hrc : ∀ {vs : List Value} {nx : Int} {ok : Bool} {g1 : Gh} {w1 : World},RcOk g1 w1 tickR (D.rcd base pos (16 - u.fin).toNat u.fin 2 []) vs nx ok→ok = false:=fun hr=>by
   rw [he] at hr; exact hr.2
  refine Nd.next ?_
  unfold grapevineref11_Log_Read_l4
  refine Nd.t rfl (Nd.j4 (Ψ:=fun r=>r.2.2.1 = false∧∃ g',Hp F0 g0 w0 g' r.2.2.2 (rlbR q cs :: rdR y D :: tdR p (tdC h rel su sr) :: rsR su us :: rcR sa rz :: L)∧Mo g w g' r.2.2.2) (Nd.b1 e1 (Nd.b1 (by rw [add_mk]; exact l1) (Nd.b1 el1.ix (Nd.b1 (by rw [add_mk]; exact r1) (Nd.b1 (by rw [add_mk]; exact l1) (Nd.b1 el1.ix (Nd.b1 (by rw [add_mk]; exact r2) (Nd.both ?_ ?_)))))))) ?_)
  ·obtain ⟨vs,nx,ok,g2,w2,e2,H2,m2,hr⟩:=rrecord_ok hc hpos H1 hbt hbd ⟨by omega,h16⟩
   obtain ⟨t,z,rfl⟩:=hr.1
   obtain ⟨pb,w3,e3,H3,m3⟩:=H2.box (T:=87) (cs:=rcC 0 Sl.nil)
   obtain ⟨w4,e4,H4,m4,l4⟩:=H3.stA' (vs:=rcC t z) rfl rcC_one
   exact Nd.b4 e2 (Nd.b2 e3 (Nd.b1 e4 (Nd.ck rfl (Nd.ret ⟨hrc hr,g2,H4.tl,m1.t (m2.t (m3.t m4))⟩))))
  ·obtain ⟨pb,w3,e3,H3,m3⟩:=H1.box (T:=87) (cs:=rcC 0 Sl.nil)
   have l3 : ldL w3 ⟨p,2,none⟩ = some su:=H3.m3.ldL rfl
   have el3:=rd H3.m4
   obtain ⟨vs,nx,ok,g2,w2,e2,H2,m2,hr⟩:=rrecord_ok hc hpos H3.b2 hbt hbd ⟨by omega,h16⟩
   obtain ⟨t,z,rfl⟩:=hr.1
   obtain ⟨w4,e4,H4,m4,l4⟩:=H2.m2.stA' (vs:=rcC t z) rfl rcC_one
   exact Nd.b2 e3 (Nd.b4 e2 (Nd.b1 e4 (Nd.ck rfl (Nd.ck (by rw [add_mk]; exact l3) (Nd.ck (by rw [add_mk]; exact el3.i (by rw [← hq]; rfl)) (Nd.ck (by rw [add_mk]; exact l3) (Nd.ck (by rw [add_mk]; exact el3.i rfl) (Nd.ret ⟨hrc hr,g2,H4.tl,m1.t (m3.t (m2.t m4))⟩))))))))
  ·rintro pv nx ok w5 ⟨hok,g5,H5,m5⟩
   simp only at hok H5 m5
   refine Nd.j2 (Ψ:=fun r=>r = (false,w5)) (Nd.f (by rw [hok]; simp) (Nd.ret rfl)) ?_
   rintro _ _ he2
   cases he2
   refine Nd.f (by simp) (Nd.ret ?_)
   refine Nd.next ?_
   refine Nd.f (by simp) (Nd.ret (hΦ g5 w5 sa rz ?_ m5 (hz.mo m5)))
   simp only [Dk.seg]
   rw [hset]
   exact H5
 | succ m ih =>
  intro us u sa rz pre rs h g w hm h1 h16 hh hj hq hz hzl H hΦ
  have hset : us.set j ⟨u.pos,u.seq,u.fin,u.high,u.recs⟩ = us:=by
   obtain ⟨hjl,hj'⟩:=List.getElem?_eq_some_iff.1 hj
   have : us.set j us[j] = us:=List.set_getElem_self hjl
   rw [hj'] at this; exact this
  have rd : ∀ {g1 : Gh} {w1 : World} {L' : List Rs},Hp F0 g0 w0 g1 w1 (rsR su us :: L')→El w1 su 4 b j (rsC u):=fun Hs=>by
   obtain ⟨b',e⟩:=Hs.el rsC_len (by decide) hj
   have hbb:=hsp.symm.trans e.p
   simp only [Option.some.injEq,Addr.mk.injEq,and_true] at hbb
   subst hbb
   exact e
  obtain ⟨w1,e1,H1,m1⟩:=H.dr
  have l1 : ldL w1 ⟨p,2,none⟩ = some su:=H1.m2.ldL rfl
  have el1:=rd H1.m3
  have r1 : ldI .i64 w1 ⟨b,j * 4 + 0,none⟩ = some pos:=el1.i (by rw [← hq]; rfl)
  have r2 : ldI .i64 w1 ⟨b,j * 4 + 2,none⟩ = some u.fin:=el1.i rfl
  obtain ⟨o,ho⟩ : ∃ o,D.rcd base pos (16 - u.fin).toNat u.fin 2 [] = o:=⟨_,rfl⟩
  refine Nd.next ?_
  unfold grapevineref11_Log_Read_l4
  refine Nd.t rfl (Nd.j4 (Ψ:=fun r=>∃ pb vs g',r.1 = ⟨pb,0,none⟩∧RcOk g' r.2.2.2 tickR o vs r.2.1 r.2.2.1∧Hp F0 g0 w0 g' r.2.2.2 (bxR pb vs 87 :: rlbR q cs :: rdR y D :: tdR p (tdC h rel su sr) :: rsR su us :: rcR sa rz :: L)∧Mo g w g' r.2.2.2) (Nd.b1 e1 (Nd.b1 (by rw [add_mk]; exact l1) (Nd.b1 el1.ix (Nd.b1 (by rw [add_mk]; exact r1) (Nd.b1 (by rw [add_mk]; exact l1) (Nd.b1 el1.ix (Nd.b1 (by rw [add_mk]; exact r2) (Nd.both ?_ ?_)))))))) ?_)
  ·obtain ⟨vs,nx,ok,g2,w2,e2,H2,m2,hr⟩:=rrecord_ok hc hpos H1 hbt hbd ⟨by omega,h16⟩
   rw [ho] at hr
   obtain ⟨t,z,hv⟩:=hr.1
   obtain ⟨pb,w3,e3,H3,m3⟩:=H2.box (T:=87) (cs:=rcC 0 Sl.nil)
   obtain ⟨w4,e4,H4,m4,l4⟩:=H3.stA' (vs:=vs) (by rw [hv]; rfl) (by rw [hv]; exact rcC_one)
   exact Nd.b4 e2 (Nd.b2 e3 (Nd.b1 e4 (Nd.ck (by rw [hv]; rfl) (Nd.ret ⟨pb,vs,g2,rfl,hr.mo (m3.t m4),H4,m1.t (m2.t (m3.t m4))⟩))))
  ·obtain ⟨pb,w3,e3,H3,m3⟩:=H1.box (T:=87) (cs:=rcC 0 Sl.nil)
   have l3 : ldL w3 ⟨p,2,none⟩ = some su:=H3.m3.ldL rfl
   have el3:=rd H3.m4
   obtain ⟨vs,nx,ok,g2,w2,e2,H2,m2,hr⟩:=rrecord_ok hc hpos H3.b2 hbt hbd ⟨by omega,h16⟩
   rw [ho] at hr
   obtain ⟨t,z,hv⟩:=hr.1
   obtain ⟨w4,e4,H4,m4,l4⟩:=H2.m2.stA' (vs:=vs) (by rw [hv]; rfl) (by rw [hv]; exact rcC_one)
   exact Nd.b2 e3 (Nd.b4 e2 (Nd.b1 e4 (Nd.ck (by rw [hv]; rfl) (Nd.ck (by rw [add_mk]; exact l3) (Nd.ck (by rw [add_mk]; exact el3.i (by rw [← hq]; rfl)) (Nd.ck (by rw [add_mk]; exact l3) (Nd.ck (by rw [add_mk]; exact el3.i rfl) (Nd.ret ⟨pb,vs,g2,rfl,hr.mo m4,H4,m1.t (m3.t (m2.t m4))⟩))))))))
  ·rintro pv nx ok w5 ⟨pb,vs,g5,hpv,hr,H5,m5⟩
   simp only at hpv hr H5 m5
   subst hpv
   have stop : D.seg base pos (m + 1) u.fin h rs = (u.fin,h,rs)→(nloop (fun s : Sl×Bool×World=>grapevineref11_Log_Read_l4 ⟨p,0,none⟩ (j : Int) (some ⟨q,0,none⟩) s.1 s.2.1 s.2.2) (sa,false,w5)).t Φ:=fun hs=>by
    refine Nd.next ?_
    unfold grapevineref11_Log_Read_l4
    refine Nd.f (by simp) (Nd.ret (hΦ g5 w5 sa rz ?_ m5 (by rw [hs]; exact hz.mo m5)))
    rw [hs]
    simp only
    rw [hset]
    exact H5.tl
   cases o with
   | none =>
    have hok : ok = false:=hr.2
    refine Nd.j2 (Ψ:=fun r=>r = (false,w5)) (Nd.f (by rw [hok]; simp) (Nd.ret rfl)) ?_
    rintro _ _ he2
    cases he2
    exact Nd.f (by simp) (Nd.ret (stop (by unfold Dk.seg; rw [ho])))
   | some r =>
    obtain ⟨t,bd,n⟩:=r
    obtain ⟨hok,hr2⟩:=hr.2
    simp only at hok hr2
    by_cases hgo : h < t∧t≤1099511627776
    ·have hok1 : ok = true:=by rw [hok]; simp [tickR]; omega
     obtain ⟨hnx,z,rfl,rz6,-⟩:=hr2 hok1
     have hnx:=hnx.symm
     subst hnx
     obtain ⟨hn1,hn2⟩:=rcd_next ho
     simp only at hn1 hn2
     have l5 : ldI .i64 w5 ⟨pb,0,none⟩ = some t:=H5.ldI rfl
     have l5h : ldI .i64 w5 ⟨p,0,none⟩ = some h:=H5.m3.ldI rfl
     refine Nd.j2 (Ψ:=fun r=>r = (true,w5)) (Nd.t hok1 (Nd.b1 (by rw [add_mk]; exact l5) (Nd.b1 (by rw [add_mk]; exact l5h) (Nd.ret (by rw [decide_eq_true (by omega)]))))) ?_
     rintro _ _ he2
     cases he2
     have l5a : ldA 2 w5 ⟨pb,0,none⟩ 0 = some (rcC t z):=by rw [ldA_B H5.bx (by exact Nat.le_refl _)]; rfl
     obtain ⟨z8,w8,e8,n8,_,H8,m8⟩:=H5.bsl (T:=87) (sz:=2) (ps:=[rcC t z]) (by intro v hv; simp at hv; subst hv; rfl) (by simp)
     -- new,box,log,disk,told,segments,records
     have H8b:=H8.tl.perm (L':=rcR sa rz :: bxR pb (rcC t z) 87 :: rlbR q cs :: rdR y D :: tdR p (tdC h rel su sr) :: rsR su us :: L) (by exact (List.perm_middle (a:=rcR sa rz) (l₁:=[bxR pb (rcC t z) 87,rlbR q cs,rdR y D,tdR p (tdC h rel su sr),rsR su us]) (l₂:=L)))
     have hrl : rz.length = sa.n:=by have:=H8b.ow.len; rw [fl_len rcF_len] at this; omega
     obtain ⟨z9,w9,e9,n9,H9,m9⟩:=H8b.apS stRec H8.ow.rd (by intro v hv; simp at hv; exact rcC_one v hv) (by rw [n8]; simp; omega)
     rw [show rz.flatMap rcF ++ [rcC t z].flatten = (rz ++ [(t,z)]).flatMap rcF by simp [rcF]] at H9
     have H9 : Hp F0 g0 w0 g5 w9 (rcR z9 (rz ++ [(t,z)]) :: bxR pb (rcC t z) 87 :: rlbR q cs :: rdR y D :: tdR p (tdC h rel su sr) :: rsR su us :: L):=H9
     have l9 : ldI .i64 w9 ⟨pb,0,none⟩ = some t:=H9.sw.ldI rfl
     obtain ⟨w10,e10,H10,m10⟩:=H9.m4.stV (o:=0) (x:=.int .i64 t) (by simp [tdC]) rfl
     have H10 : Hp F0 g0 w0 g5 w10 (tdR p (tdC t rel su sr) :: rcR z9 (rz ++ [(t,z)]) :: bxR pb (rcC t z) 87 :: rlbR q cs :: rdR y D :: rsR su us :: L):=H10
     have l10 : ldL w10 ⟨p,2,none⟩ = some su:=H10.ldL rfl
     have H10b:=H10.perm (L':=rsR su us :: tdR p (tdC t rel su sr) :: rcR z9 (rz ++ [(t,z)]) :: bxR pb (rcC t z) 87 :: rlbR q cs :: rdR y D :: L) (by exact (List.perm_middle (a:=rsR su us) (l₁:=[tdR p (tdC t rel su sr),rcR z9 (rz ++ [(t,z)]),bxR pb (rcC t z) 87,rlbR q cs,rdR y D]) (l₂:=L)))
     obtain ⟨w11,e11,H11,m11⟩:=H10b.elset (q':=⟨u.pos,u.seq,n,u.high,u.recs⟩) rsC_len (rd H10b) hj (k:=2) (by decide) (v:=.int .i64 n) rfl rfl
     have H11 : Hp F0 g0 w0 g5 w11 (rsR su (us.set j ⟨u.pos,u.seq,n,u.high,u.recs⟩) :: tdR p (tdC t rel su sr) :: rcR z9 (rz ++ [(t,z)]) :: bxR pb (rcC t z) 87 :: rlbR q cs :: rdR y D :: L):=H11
     have mm:=m8.t (m9.t (m10.t m11))
     refine Nd.t rfl (Nd.b1 l5a (Nd.b2 e8 (Nd.b2 e9 (Nd.b1 (by rw [add_mk]; exact l9) (Nd.b1 (by rw [add_mk]; exact e10) (Nd.b1 (by rw [add_mk]; exact l10) (Nd.b1 (rd H10b).ix (Nd.b1 (by rw [add_mk]; exact e11) (Nd.ret ?_)))))))))
     have hj2 : (us.set j ⟨u.pos,u.seq,n,u.high,u.recs⟩)[j]? = some ⟨u.pos,u.seq,n,u.high,u.recs⟩:=by rw [List.getElem?_set_self (List.getElem?_eq_some_iff.1 hj).1]
     have hseg : D.seg base pos (m + 1) u.fin h rs = D.seg base pos m n t (rs ++ [(t,bd)]):=by rw [Dk.seg,ho]; simp only; rw [if_pos hgo]
     have hzz : RZ g5 w11 (rz ++ [(t,z)]) (pre ++ (rs ++ [(t,bd)])):=by rw [← List.append_assoc]; exact (hz.mo (m5.t mm)).snoc (rz6.mo mm)
     have H11b:=H11.m3.tl.perm (L':=rlbR q cs :: rdR y D :: tdR p (tdC t rel su sr) :: rsR su (us.set j ⟨u.pos,u.seq,n,u.high,u.recs⟩) :: rcR z9 (rz ++ [(t,z)]) :: L) (by
      refine (List.perm_append_comm (l₁:=[rsR su (us.set j ⟨u.pos,u.seq,n,u.high,u.recs⟩),tdR p (tdC t rel su sr),rcR z9 (rz ++ [(t,z)])]) (l₂:=[rlbR q cs,rdR y D])).append_right L |>.trans ?_
      exact List.Perm.cons _ (List.Perm.cons _ (List.Perm.swap _ _ _)))
     refine ih _ ⟨u.pos,u.seq,n,u.high,u.recs⟩ z9 (rz ++ [(t,z)]) pre (rs ++ [(t,bd)]) t g5 w11 (by simp only; omega) (by simp only; omega) (by simp only; omega) (by omega) hj2 hq hzz (by simp; omega) H11b fun g' w' sa' rz' H' m' hz'=>?_
     simp only at H' hz'
     rw [List.set_set] at H'
     exact hΦ g' w' sa' rz' (by rw [hseg]; exact H') (m5.t (mm.t m')) (by rw [hseg]; exact hz')
    ·have hs : D.seg base pos (m + 1) u.fin h rs = (u.fin,h,rs):=by unfold Dk.seg; rw [ho]; simp only; rw [if_neg hgo]
     refine Nd.j2 (Ψ:=fun r=>r = (false,w5)) ?_ ?_
     ·cases hk : ok with
      | false=>exact Nd.f (by simp) (Nd.ret rfl)
      | true =>
       obtain ⟨-,z,rfl,-,-⟩:=hr2 hk
       have l5 : ldI .i64 w5 ⟨pb,0,none⟩ = some t:=H5.ldI rfl
       have l5h : ldI .i64 w5 ⟨p,0,none⟩ = some h:=H5.m3.ldI rfl
       have ht : t≤1099511627776:=by rw [hk] at hok; have:=hok.symm; simpa [tickR] using this
       exact Nd.t rfl (Nd.b1 (by rw [add_mk]; exact l5) (Nd.b1 (by rw [add_mk]; exact l5h) (Nd.ret (by rw [decide_eq_false (by omega)]))))
     ·rintro _ _ he2
      cases he2
      exact Nd.f (by simp) (Nd.ret (stop hs))
end
theorem RZ.tl {g : Gh} {w : World} {r : Int×Sl} {q : Int×List Int} {rz : List (Int×Sl)} {rs : List (Int×List Int)} (h : RZ g w (r :: rz) (q :: rs)) : (r.1 = q.1∧PR g w r.2 1 (nums .u8 q.2))∧RZ g w rz rs :=
 ⟨h.2 0 r q rfl rfl,by have:=h.1; simpa using this,fun j r' q' hr hq=>h.2 (j + 1) r' q' (by simpa using hr) (by simpa using hq)⟩
theorem RZ.cons {g : Gh} {w : World} {r : Int×Sl} {q : Int×List Int} {rz : List (Int×Sl)} {rs : List (Int×List Int)} (h1 : r.1 = q.1∧PR g w r.2 1 (nums .u8 q.2)) (h : RZ g w rz rs) : RZ g w (r :: rz) (q :: rs) :=
 ⟨by simp [h.1],fun j r' q' hr hq=>by
  cases j with
  | zero=>simp at hr hq; subst hr; subst hq; exact h1
  | succ j=>exact h.2 j r' q' (by simpa using hr) (by simpa using hq)⟩
theorem RZ.filter {g : Gh} {w : World} {P : Int→Bool} : ∀ {rz : List (Int×Sl)} {rs : List (Int×List Int)},RZ g w rz rs→RZ g w (rz.filter fun r=>P r.1) (rs.filter fun r=>P r.1)
 | [],[],h=>h
 | [],_ :: _,h=>by have:=h.1; simp at this
 | _ :: _,[],h=>by have:=h.1; simp at this
 | r :: rz,q :: rs,h=>by
  obtain ⟨h1,h2⟩:=h.tl
  have:=h2.filter (P:=P)
  simp only [List.filter_cons]
  rw [h1.1]
  split
  ·exact RZ.cons h1 this
  ·exact this
theorem seg_recs {D : Dk} {base pos : Int} : ∀ (m : Nat) (e h : Int) (rs : List (Int×List Int)),(D.seg base pos m e h rs).2.2.length≤rs.length + m
 | 0,e,h,rs=>by simp [Dk.seg]
 | m + 1,e,h,rs=>by
  unfold Dk.seg
  split
  ·split
   ·rename_i t b nx _ _
    have:=seg_recs (D:=D) (base:=base) (pos:=pos) m nx t (rs ++ [(t,b)])
    rw [List.length_append] at this
    simp at this
    omega
   ·simp only; omega
  ·simp only; omega
theorem seg_high {D : Dk} {base pos : Int} : ∀ (m : Nat) (e h : Int) (rs : List (Int×List Int)),h≤(D.seg base pos m e h rs).2.1∧((D.seg base pos m e h rs).2.1≤1099511627776∨(D.seg base pos m e h rs).2.1 = h)
 | 0,e,h,rs=>⟨Int.le_refl _,.inr rfl⟩
 | m + 1,e,h,rs=>by
  unfold Dk.seg
  split
  ·split
   ·rename_i t b nx _ hc
    have:=seg_high (D:=D) (base:=base) (pos:=pos) m nx t (rs ++ [(t,b)])
    exact ⟨by omega,by omega⟩
   ·exact ⟨Int.le_refl _,.inr rfl⟩
  ·exact ⟨Int.le_refl _,.inr rfl⟩
section
variable {F0 : Nat → Prop} {g0 : Gh} {w0 : World} {L : List Rs} {su sr : Sl} {y p q b j : Nat} {D : Dk} {base pos segs age rel high : Int} {cs : List Value}
theorem rread3_ok (hc : RLC cs y base segs) (hbt : D.Bt) (hbd : D.W.length < 900000) {Φ : Sl×World→Prop} : ∀ (us ds : List Sg) (sa : Sl) (rz : List (Int×Sl)) (h : Int) (g : Gh) (w : World),
  (∀ u∈us,0≤u.pos∧u.pos≤16∧u.fin = 1∧u.recs = [])→0≤h→su.n≤16→RZ g w rz (ds.flatMap fun s=>s.recs)→rz.length≤16 * ds.length →
  Hp F0 g0 w0 g w (rlbR q cs :: rdR y D :: tdR p (tdC h rel su sr) :: rsR su (ds ++ us) :: rcR sa rz :: L) →
  (∀ g' w' sa' rz',Hp F0 g0 w0 g' w' (rlbR q cs :: rdR y D :: tdR p (tdC (D.segs base us h ds).1 rel su sr) :: rsR su (D.segs base us h ds).2 :: rcR sa' rz' :: L)→Mo g w g' w'→RZ g' w' rz' ((D.segs base us h ds).2.flatMap fun s=>s.recs)→rz'.length≤16 * (ds.length + us.length)→Φ (sa',w')) →
  (nloop (fun s : Sl×Int×World=>grapevineref11_Log_Read_l3 ⟨p,0,none⟩ (some ⟨q,0,none⟩) s.1 s.2.1 s.2.2) (sa,(ds.length : Int),w)).t Φ
 | [],ds,sa,rz,h,g,w,hu,hh,hsn,hz,hzl,H,hΦ=>by
  have hl : ds.length = su.n:=by have:=H.m3.ow.len; rw [fl_len rsC_len] at this; simp at this; omega
  have l0 : ldL w ⟨p,2,none⟩ = some su:=H.m2.ldL rfl
  refine Nd.next ?_
  unfold grapevineref11_Log_Read_l3
  exact Nd.b1 (by rw [add_mk]; exact l0) (Nd.f (by simp; omega) (Nd.ret (hΦ g w sa rz (by simpa [Dk.segs] using H) Mo.r (by simpa [Dk.segs] using hz) (by simpa using hzl))))
 | u :: us,ds,sa,rz,h,g,w,hu,hh,hsn,hz,hzl,H,hΦ=>by
  obtain ⟨hu1,hu2,hu3,hu4⟩:=hu u (by simp)
  have hl : ds.length + us.length + 1 = su.n:=by have:=H.m3.ow.len; rw [fl_len rsC_len] at this; simp at this; omega
  have hj : (ds ++ u :: us)[ds.length]? = some u:=by rw [List.getElem?_append_right (Nat.le_refl _),Nat.sub_self]; rfl
  have l0 : ldL w ⟨p,2,none⟩ = some su:=H.m2.ldL rfl
  obtain ⟨w1,e1,H1,m1⟩:=H.dr
  obtain ⟨b,el1⟩:=H1.m3.el rsC_len (by decide) hj
  have l1 : ldL w1 ⟨p,2,none⟩ = some su:=H1.m2.ldL rfl
  have l1h : ldI .i64 w1 ⟨p,0,none⟩ = some h:=H1.m2.ldI rfl
  have l1u : ldI .i64 w1 ⟨b,ds.length * 4 + 3,none⟩ = some u.high:=el1.i rfl
  refine Nd.next ?_
  unfold grapevineref11_Log_Read_l3
  refine Nd.b1 (by rw [add_mk]; exact l0) (Nd.t (by simp; omega) (Nd.j1 (Ψ:=fun w'=>Hp F0 g0 w0 g w' (rlbR q cs :: rdR y D :: tdR p (tdC (max h u.high) rel su sr) :: rsR su (ds ++ u :: us) :: rcR sa rz :: L)∧Mo g w g w') (Nd.b1 e1 (Nd.b1 (by rw [add_mk]; exact l1) (Nd.b1 el1.ix (Nd.b1 (by rw [add_mk]; exact l1u) (Nd.b1 (by rw [add_mk]; exact l1h) ?_))))) ?_))
  ·by_cases hlt : h < u.high
   ·obtain ⟨w2,e2,H2,m2⟩:=H1.m2.stV (o:=0) (x:=.int .i64 u.high) (by simp [tdC]) rfl
    have H2 : Hp F0 g0 w0 g w2 (tdR p (tdC u.high rel su sr) :: rlbR q cs :: rdR y D :: rsR su (ds ++ u :: us) :: rcR sa rz :: L):=H2
    refine Nd.t (by simpa using hlt) (Nd.b1 (by rw [add_mk]; exact l1) (Nd.b1 el1.ix (Nd.b1 (by rw [add_mk]; exact l1u) (Nd.b1 (by rw [add_mk]; exact e2) (Nd.ret ⟨?_,m1.t m2⟩)))))
    rw [show max h u.high = u.high by omega]
    exact H2.b2
   ·refine Nd.f (by simpa using hlt) (Nd.ret ⟨?_,m1⟩)
    rw [show max h u.high = h by omega]
    exact H1
  rintro w2 ⟨H2,m2⟩
  obtain ⟨r,hr⟩ : ∃ r,D.seg base u.pos 16 u.fin (max h u.high) [] = r:=⟨_,rfl⟩
  have hrl:=seg_recs (D:=D) (base:=base) (pos:=u.pos) 16 u.fin (max h u.high) []
  have hrh:=seg_high (D:=D) (base:=base) (pos:=u.pos) 16 u.fin (max h u.high) []
  rw [hr] at hrl hrh
  refine Nd.j2 (Ψ:=fun s=>∃ g' rz',Hp F0 g0 w0 g' s.2 (rlbR q cs :: rdR y D :: tdR p (tdC r.2.1 rel su sr) :: rsR su ((ds ++ u :: us).set ds.length ⟨u.pos,u.seq,r.1,u.high,u.recs⟩) :: rcR s.1 rz' :: L)∧Mo g w g' s.2∧RZ g' s.2 rz' ((ds.flatMap fun s=>s.recs) ++ r.2.2)) ?_ ?_
  ·refine rread4_ok hc ⟨hu1,hu2⟩ hbt hbd el1.p 16 _ u sa rz (ds.flatMap fun s=>s.recs) [] (max h u.high) g w2 (by omega) (by omega) (by omega) (by omega) hj rfl (by rw [List.append_nil]; exact hz.mo m2) (by omega) H2 fun g' w' sa' rz' H' m' hz'=>?_
   rw [hr] at H' hz'
   exact ⟨g',rz',H',m2.t m',hz'⟩
  ·rintro sa3 w3 ⟨g3,rz3,H3,m3,hz3⟩
   simp only at H3 m3 hz3
   have hj3 : ((ds ++ u :: us).set ds.length ⟨u.pos,u.seq,r.1,u.high,u.recs⟩)[ds.length]? = some ⟨u.pos,u.seq,r.1,u.high,u.recs⟩:=by rw [List.getElem?_set_self (List.getElem?_eq_some_iff.1 hj).1]
   have l3 : ldL w3 ⟨p,2,none⟩ = some su:=H3.m2.ldL rfl
   have l3h : ldI .i64 w3 ⟨p,0,none⟩ = some r.2.1:=H3.m2.ldI rfl
   obtain ⟨b',el3⟩:=H3.m3.el rsC_len (by decide) hj3
   obtain rfl:=el_b el1 el3
   obtain ⟨w4,e4,H4,m4⟩:=H3.m3.elset (q':=⟨u.pos,u.seq,r.1,r.2.1,r.2.2⟩) rsC_len el3 hj3 (k:=3) (by decide) (v:=.int .i64 r.2.1) rfl rfl
   rw [List.set_set] at H4
   have hset : (ds ++ u :: us).set ds.length ⟨u.pos,u.seq,r.1,r.2.1,r.2.2⟩ = (ds ++ [⟨u.pos,u.seq,r.1,r.2.1,r.2.2⟩]) ++ us:=by
    rw [List.set_append_right _ _ (Nat.le_refl _),Nat.sub_self]; simp
   rw [hset] at H4
   have hseg : D.segs base (u :: us) h ds = D.segs base us r.2.1 (ds ++ [⟨u.pos,u.seq,r.1,r.2.1,r.2.2⟩]):=by rw [Dk.segs,hr]
   have hz4 : RZ g3 w4 rz3 ((ds ++ [(⟨u.pos,u.seq,r.1,r.2.1,r.2.2⟩ : Sg)]).flatMap fun s=>s.recs):=by rw [List.flatMap_append]; simpa using hz3.mo m4
   have hl3 : rz3.length≤16 * (ds ++ [(⟨u.pos,u.seq,r.1,r.2.1,r.2.2⟩ : Sg)]).length:=by
    have h1:=hz3.1
    have h2:=hz.1
    rw [List.length_append] at h1
    simp only [List.length_append,List.length_cons,List.length_nil] at hrl ⊢
    omega
   have:=rread3_ok hc hbt hbd (Φ:=Φ) us (ds ++ [⟨u.pos,u.seq,r.1,r.2.1,r.2.2⟩]) sa3 rz3 r.2.1 g3 w4 (fun v hv=>hu v (by simp [hv])) (by omega) hsn hz4 hl3 (H4.b3) fun g' w' sa' rz' H' m' h1 h2=>hΦ g' w' sa' rz' (by rw [hseg]; exact H') (m3.t (m4.t m')) (by rw [hseg]; exact h1) (by simp at h2 ⊢; omega)
   have hlen : ((ds ++ [(⟨u.pos,u.seq,r.1,r.2.1,r.2.2⟩ : Sg)]).length : Int) = IntKind.wrap .i64 ((ds.length : Int) + 1):=by rw [wrap_nat (by omega)]; simp
   rw [hlen] at this
   exact Nd.b1 (by rw [add_mk]; exact l3) (Nd.b1 (by rw [add_mk]; exact l3h) (Nd.b1 el3.ix (Nd.b1 (by rw [add_mk]; exact e4) (Nd.ret this))))
theorem rread5_ok {g : Gh} {w : World} {sa : Sl} {rz : List (Int×Sl)} (hzl : rz.length≤10000) {Φ : World→Prop}
  (H : Hp F0 g0 w0 g w (tdR p (tdC high rel su Sl.nil) :: rcR sa rz :: L))
  (hΦ : ∀ w' sr',Hp F0 g0 w0 g w' (tdR p (tdC high rel su sr') :: rcR sa rz :: rcR sr' (rz.filter fun r=>decide (rel < r.1)) :: L)→Mo g w g w'→Φ w') :
  (nloop (fun s : Int×World=>grapevineref11_Log_Read_l5 sa ⟨p,0,none⟩ s.1 s.2) (0,w)).t Φ:=by
 have hsl : rz.length = sa.n:=by have:=H.sw.ow.len; rw [fl_len rcF_len] at this; omega
 refine Nd.loop (fun m st=>∃ (j : Nat) (w' : World) (s' : Sl),st = ((j : Int),w')∧m + j = rz.length∧Hp F0 g0 w0 g w' (tdR p (tdC high rel su s') :: rcR sa rz :: rcR s' ((rz.take j).filter fun r=>decide (rel < r.1)) :: L)∧Mo g w g w') (fun m st hI=>?_) rz.length (0,w) ⟨0,w,Sl.nil,rfl,by omega,H.onil.b2,Mo.r⟩
 obtain ⟨j,w1,s1,rfl,hm,H1,m1⟩:=hI
 unfold grapevineref11_Log_Read_l5
 by_cases hlt : j < rz.length
 ·obtain ⟨r,hr⟩ : ∃ r,rz[j]? = some r:=⟨_,List.getElem?_eq_getElem hlt⟩
  have htk : (rz.take (j + 1)).filter (fun r=>decide (rel < r.1)) = (rz.take j).filter (fun r=>decide (rel < r.1)) ++ (if rel < r.1 then [r] else []):=by
   rw [List.take_add_one,hr,List.filter_append]
   simp [List.filter_cons]
  obtain ⟨w2,e2,H2,m2⟩:=H1.dr
  obtain ⟨b,el2⟩:=H2.sw.el rcF_len (by decide) hr
  have l2 : ldI .i64 w2 ⟨b,j * 2 + 0,none⟩ = some r.1:=el2.i rfl
  have l2r : ldI .i64 w2 ⟨p,1,none⟩ = some rel:=H2.ldI rfl
  refine Nd.t (by simp; omega) (Nd.j1 (Ψ:=fun w'=>∃ s',Hp F0 g0 w0 g w' (tdR p (tdC high rel su s') :: rcR sa rz :: rcR s' ((rz.take (j + 1)).filter fun r=>decide (rel < r.1)) :: L)∧Mo g w g w') (Nd.b1 e2 (Nd.b1 el2.ix (Nd.b1 (by rw [add_mk]; exact l2) (Nd.b1 (by rw [add_mk]; exact l2r) ?_)))) ?_)
  ·by_cases hc : rel < r.1
   ·obtain ⟨w3,e3,H3,m3⟩:=H2.dr
    obtain ⟨b',el3⟩:=H3.sw.el rcF_len (by decide) hr
    have l3 : ldL w3 ⟨p,3,none⟩ = some s1:=H3.ldL rfl
    obtain ⟨z4,w4,e4,n4,_,H4,m4⟩:=H3.bsl (T:=87) (sz:=2) (ps:=[rcF r]) (by intro v hv; simp at hv; subst hv; rfl) (by simp)
    have l4 : ldL w4 ⟨p,3,none⟩ = some s1:=H4.sw.ldL rfl
    have hfl : ((rz.take j).filter fun r=>decide (rel < r.1)).length≤(rz.take j).length:=List.length_filter_le _ _
    have hfl2 : (rz.take j).length≤rz.length:=List.length_take_le' _ _
    have hs1 : ((rz.take j).filter fun r=>decide (rel < r.1)).length = s1.n:=by have:=H4.tl.m2.ow.len; rw [fl_len rcF_len] at this; omega
    obtain ⟨z5,w5,e5,n5,H5,m5⟩:=H4.tl.m2.apS stRec H4.ow.rd (by intro v hv; simp at hv; exact rcC_one v hv) (by rw [n4]; simp; omega)
    rw [show ((rz.take j).filter fun r=>decide (rel < r.1)).flatMap rcF ++ [rcF r].flatten = ((rz.take (j + 1)).filter fun r=>decide (rel < r.1)).flatMap rcF by rw [htk,if_pos hc]; simp] at H5
    obtain ⟨w6,e6,H6,m6⟩:=H5.sw.stV (o:=3) (x:=z5.v) (by simp [tdC]) rfl
    have H6 : Hp F0 g0 w0 g w6 (tdR p (tdC high rel su z5) :: rcR z5 ((rz.take (j + 1)).filter fun r=>decide (rel < r.1)) :: rcR sa rz :: L):=H6
    exact Nd.t (by simpa using hc) (Nd.b1 e3 (Nd.b1 (by rw [add_mk]; exact l3) (Nd.b1 el3.ix (Nd.b1 el3.ldA (Nd.b2 e4 (Nd.b2 e5 (Nd.b1 (by rw [add_mk]; exact e6) (Nd.ck (by rw [add_mk]; exact l4) (Nd.ret ⟨z5,H6.m2.sw,m1.t (m2.t (m3.t (m4.t (m5.t m6))))⟩)))))))))
   ·refine Nd.f (by simpa using hc) (Nd.ret ⟨s1,?_,m1.t m2⟩)
    rw [htk,if_neg hc,List.append_nil]; exact H2
  ·rintro w' ⟨s',H',m'⟩
   exact Nd.ret ⟨m - 1,by omega,j + 1,w',s',by rw [wrap_nat (by omega)],by omega,H',m'⟩
 ·refine Nd.f (by simp; omega) (Nd.ret (hΦ w1 s1 ?_ m1))
  rwa [List.take_of_length_le (by omega)] at H1
theorem RLC_of {h : Int} (h0 : 0≤base) (h1 : base≤512) : RLC (rlC y base segs age h rel su sr) y base segs:=⟨rfl,rfl,rfl,h0,h1⟩
def Lg.vis (l : Lg) : List (Int×List Int):=l.all.filter fun r=>decide (l.rel < r.1)
theorem rRead_ok {g : Gh} {w : World} (hc : RLC cs y base segs) (hs0 : 0≤segs) (hs1 : segs≤16) (hbt : D.Bt) (hbd : D.W.length < 900000) (hn : D.S.length≤512) (hsz : base + 2≤D.S.length) {Φ : List Value×World→Prop}
  (H : Hp F0 g0 w0 g w (rlbR q cs :: rdR y D :: L))
  (hΦ : ∀ g' w' su sr rz,Hp F0 g0 w0 g' w' (rlbR q cs :: rdR y D :: rsR su (D.readL base segs).used :: rcR sr rz :: L)→Mo g w g' w'→RZ g' w' rz (D.readL base segs).vis→Φ (tdC (D.readL base segs).high (D.readL base segs).rel su sr,w')) :
  (grapevineref11_Log_Read (some ⟨q,0,none⟩) w).t Φ:=by
 obtain ⟨p1,w1,e1,H1,m1⟩:=H.box (T:=130) (cs:=tdC 0 0 Sl.nil Sl.nil)
 obtain ⟨p4,w2,e2,H2,m2⟩:=H1.box (T:=130) (cs:=tdC 0 0 Sl.nil Sl.nil)
 obtain ⟨w3,e3,H3,m3,-⟩:=H2.stA' (vs:=tdC 0 0 Sl.nil Sl.nil) rfl (by intro v hv; simp [tdC] at hv; rcases hv with rfl | rfl | rfl | rfl <;> rfl)
 have mm3:=m1.t (m2.t m3)
 unfold grapevineref11_Log_Read
 refine Nd.b2 e1 (Nd.b2 e2 (Nd.b1 e3 (Nd.j1 (Ψ:=fun w'=>∃ g' s',Hp F0 g0 w0 g' w' (tdR p4 (tdC 0 0 s' Sl.nil) :: rsR s' ((D.heads base segs.toNat).foldl insS []) :: rlbR q cs :: rdR y D :: tdR p1 (tdC 0 0 Sl.nil Sl.nil) :: L)∧Mo g w g' w') (rread1_ok hc hs0 hs1 hbt hbd H3.sw.b3 fun g' w' s' H' m'=>⟨g',s',H',mm3.t m'⟩) ?_)))
 rintro w4 ⟨g4,su,H4,m4⟩
 obtain ⟨us,hus⟩ : ∃ us,(D.heads base segs.toNat).foldl insS [] = us:=⟨_,rfl⟩
 have hhl:=heads_len (D:=D) (base:=base) (n:=segs.toNat)
 have husl : us.length≤16:=by rw [← hus,sorted_len]; simp; omega
 have husw : ∀ u∈us,0≤u.pos∧u.pos≤16∧u.fin = 1∧u.recs = []:=fun u hu=>by
  rw [← hus] at hu
  rcases sorted_mem hu with h | h
  ·have:=heads_wf h; exact ⟨this.1,by omega,this.2.2.2.2.1,this.2.2.2.2.2.2.2⟩
  ·cases h
 rw [hus] at H4
 have hrl : D.readL base segs = ⟨base,segs,D.age,max (D.segs base us 0 []).1 (D.get base 1 0).1,(D.get base 1 0).1,(D.segs base us 0 []).2⟩:=by unfold Dk.readL; rw [hus]
 have hsn : su.n≤16:=by have:=H4.sw.ow.len; rw [fl_len rsC_len] at this; omega
 obtain ⟨sa,w5,e5,n5,_,H5,m5⟩:=H4.bsl (T:=87) (sz:=2) (ps:=[]) (by intro p hp; cases hp) (by simp)
 have H5b : Hp F0 g0 w0 g4 w5 (rlbR q cs :: rdR y D :: tdR p4 (tdC 0 0 su Sl.nil) :: rsR su ([] ++ us) :: rcR sa [] :: tdR p1 (tdC 0 0 Sl.nil Sl.nil) :: L) :=
  H5.m4.m4.perm (List.Perm.cons _ (List.Perm.cons _ ((List.Perm.swap _ _ _).trans (List.Perm.cons _ (List.Perm.swap _ _ _)))))
 refine Nd.b2 e5 (Nd.j2 (Ψ:=fun r=>∃ g' rz',Hp F0 g0 w0 g' r.2 (rlbR q cs :: rdR y D :: tdR p4 (tdC (D.segs base us 0 []).1 0 su Sl.nil) :: rsR su (D.segs base us 0 []).2 :: rcR r.1 rz' :: tdR p1 (tdC 0 0 Sl.nil Sl.nil) :: L)∧Mo g w g' r.2∧RZ g' r.2 rz' ((D.segs base us 0 []).2.flatMap fun s=>s.recs)∧rz'.length≤256) (rread3_ok hc hbt hbd us [] sa [] 0 g4 w5 husw (Int.le_refl _) hsn RZ.nil (by simp) H5b fun g' w' sa' rz' H' m' h1 h2=>⟨g',rz',H',m4.t (m5.t m'),h1,by simp at h2; omega⟩) ?_)
 rintro sa6 w6 ⟨g6,rz,H6,m6,hz6,hzl⟩
 simp only at H6 m6 hz6
 obtain ⟨w7,e7,H7,m7⟩:=H6.dr
 have l7 : ldP w7 ⟨q,0,none⟩ = some (some ⟨y,0,none⟩):=H7.ldP hc.d
 have l7b : ldI .i64 w7 ⟨q,1,none⟩ = some base:=H7.ldI hc.b
 have hb0:=hc.b0
 obtain ⟨c,g8,w8,e8,H8,m8,hc8⟩:=H7.sw.ropen (base:=base) (count:=1) hn (by decide) (by simp [mayOpen]; omega)
 obtain ⟨w9,e9,H9,m9⟩:=H8.rget hc8 hbt hbd 0
 obtain ⟨rl,hrel⟩ : ∃ rl,(D.get base 1 0).1 = rl:=⟨_,rfl⟩
 rw [hrel] at e9 hrl
 obtain ⟨w10,e10,H10,m10⟩:=H9.m2.stV (o:=1) (x:=.int .i64 rl) (by simp [tdC]) rfl
 obtain ⟨sg,hsg⟩ : ∃ sg,D.segs base us 0 [] = sg:=⟨_,rfl⟩
 rw [hsg] at H10 hz6 hrl
 have H10 : Hp F0 g0 w0 g8 w10 (tdR p4 (tdC sg.1 rl su Sl.nil) :: rdR y D :: rlbR q cs :: rsR su sg.2 :: rcR sa6 rz :: tdR p1 (tdC 0 0 Sl.nil Sl.nil) :: L):=H10
 have l10r : ldI .i64 w10 ⟨p4,1,none⟩ = some rl:=H10.ldI rfl
 have l10h : ldI .i64 w10 ⟨p4,0,none⟩ = some sg.1:=H10.ldI rfl
 have mm10:=m6.t (m7.t (m8.t (m9.t m10)))
 refine Nd.b1 e7 (Nd.s1 (Nd.b1 (by rw [add_mk]; exact l7) (Nd.b1 (by rw [add_mk]; exact l7b) (Nd.b3 e8 (Nd.b3 e9 (Nd.b1 (by rw [add_mk]; exact e10) (Nd.j1 (Ψ:=fun w'=>Hp F0 g0 w0 g8 w' (tdR p4 (tdC (max sg.1 rl) rl su Sl.nil) :: rdR y D :: rlbR q cs :: rsR su sg.2 :: rcR sa6 rz :: tdR p1 (tdC 0 0 Sl.nil Sl.nil) :: L)∧Mo g8 w10 g8 w') (Nd.b1 (by rw [add_mk]; exact l10r) (Nd.b1 (by rw [add_mk]; exact l10h) ?_)) ?_)))))))
 ·by_cases hlt : sg.1 < rl
  ·obtain ⟨w11,e11,H11,m11⟩:=H10.stV (o:=0) (x:=.int .i64 rl) (by simp [tdC]) rfl
   refine Nd.t (by simpa using hlt) (Nd.b1 (by rw [add_mk]; exact l10r) (Nd.b1 (by rw [add_mk]; exact e11) (Nd.ret ⟨?_,m11⟩)))
   rw [show max sg.1 rl = rl by omega]; exact H11
  ·refine Nd.f (by simpa using hlt) (Nd.ret ⟨?_,Mo.r⟩)
   rw [show max sg.1 rl = sg.1 by omega]; exact H10
 rintro w11 ⟨H11,m11⟩
 refine Nd.j1 (Ψ:=fun w'=>∃ sr',Hp F0 g0 w0 g8 w' (tdR p4 (tdC (max sg.1 rl) rl su sr') :: rcR sa6 rz :: rcR sr' (rz.filter fun r=>decide (rl < r.1)) :: rdR y D :: rlbR q cs :: rsR su sg.2 :: tdR p1 (tdC 0 0 Sl.nil Sl.nil) :: L)∧Mo g8 w11 g8 w') (rread5_ok (by omega) H11.m4.sw fun w' sr' H' m'=>⟨sr',H',m'⟩) ?_
 rintro w12 ⟨sr,H12,m12⟩
 have l12 : ldA 4 w12 ⟨p4,0,none⟩ 0 = some (tdC (max sg.1 rl) rl su sr):=by rw [ldA_B H12.bx (by exact Nat.le_refl _)]; rfl
 have H12b : Hp F0 g0 w0 g8 w12 (tdR p1 (tdC 0 0 Sl.nil Sl.nil) :: rlbR q cs :: rdR y D :: rsR su sg.2 :: rcR sr (rz.filter fun r=>decide (rl < r.1)) :: L):=by
  have h1:=H12.tl.tl
  -- records,disk,log,segments,variable
  exact h1.m4.perm (List.Perm.cons _ (((List.Perm.cons _ (List.Perm.swap _ _ _)).trans (List.Perm.swap _ _ _)).trans (List.Perm.cons _ ((List.Perm.swap _ _ _).trans (List.Perm.cons _ (List.Perm.swap _ _ _))))))
 obtain ⟨w13,e13,H13,m13,l13⟩:=H12b.stA' (vs:=tdC (max sg.1 rl) rl su sr) rfl (by intro v hv; simp [tdC] at hv; rcases hv with rfl | rfl | rfl | rfl <;> rfl)
 have hz : RZ g8 w13 (rz.filter fun r=>decide (rl < r.1)) (D.readL base segs).vis:=by
  have:=(hz6.mo (m7.t (m8.t (m9.t (m10.t (m11.t (m12.t m13))))))).filter (P:=fun t=>decide (rl < t))
  rw [hrl]
  exact this
 refine Nd.b1 l12 (Nd.b1 e13 (Nd.b1 l13 (Nd.ret ?_)))
 have hf:=hΦ g8 w13 su sr (rz.filter fun r=>decide (rl < r.1)) (by rw [hrl]; exact H13.tl) (mm10.t (m11.t (m12.t m13))) hz
 rw [hrl] at hf
 exact hf
end
def keepS (rel : Int) : List Sg→List Sg
 | []=>[]
 | s :: l=>if l = []∨rel < s.high then s :: keepS rel l else keepS rel l
theorem free_keep {base rel : Int} : ∀ {us : List Sg} {D : Dk},(D.free base rel us).1 = 0→(D.free base rel us).2.2 = keepS rel us
 | [],D,_=>rfl
 | s :: l,D,h=>by
  rw [free_cons] at h ⊢
  unfold keepS
  by_cases hk : l = []∨rel < s.high
  ·rw [if_pos hk] at h ⊢; rw [if_pos hk]; simp only; rw [free_keep h]
  ·rw [if_neg hk] at h ⊢; rw [if_neg hk]
   by_cases he : (D.write (base + 2 + s.pos * 16 + 0) []).1 = 0
   ·rw [if_pos he] at h ⊢; exact free_keep h
   ·rw [if_neg he] at h; exact (he h).elim
theorem write_up {D : Dk} {i : Int} {b : List Int} (hd : D.down = false) (h : (D.write i b).1 = 0) : (D.write i b).2.down = false:=by
 unfold Dk.write at h ⊢
 rw [if_neg (by simp [hd])] at h ⊢
 split at h
 ·simp at h
 ·split at h
  ·simp at h
  ·split at h
   ·simp at h
   ·rename_i h1 h2 h3
    rw [if_neg h1,if_neg h2,if_neg h3]
    simp only
    unfold Dk.trips at h3 ⊢
    split
    ·exact hd
    ·rename_i h0
     rw [if_neg h0] at h3
     simpa using h3
theorem write_Sl (D : Dk) (i : Int) (b : List Int) : (D.write i b).2.S.length = D.S.length:=by
 unfold Dk.write
 split; · rfl
 split; · rfl
 split; · rfl
 split <;> simp only <;> rw [trips_S]
theorem look_full {D : Dk} {base pos i : Int} (hw : D.Wf) (hd : D.down = false) (h0 : 0≤base + 2 + pos * 16 + i) (h1 : base + 2 + pos * 16 + i < D.S.length) : (D.look base pos i).length = 64:=by
 have hb : D.bad (base + 2 + pos * 16 + i) = false:=by simp [Dk.bad]; omega
 unfold Dk.look Dk.read
 rw [if_neg (by simp [hd]),hb,if_neg (by simp)]
 exact cur_len hw hb _ _ hw.w64 (getS_len hw hb)
theorem zero_eq {b : List Int} (h : b.length = 64) : zeroL b = decide (b = List.replicate 64 0):=by
 rw [Bool.eq_iff_iff,decide_eq_true_eq]
 unfold zeroL
 rw [List.all_eq_true]
 constructor
 ·intro hz
  rw [← h]
  exact List.eq_replicate_of_mem fun x hx=>by simpa using hz x hx
 ·rintro rfl x hx
  simpa using (List.mem_replicate.1 hx).2
section
variable {F0 : Nat → Prop} {g0 : Gh} {w0 : World} {L : List Rs} {su sr : Sl} {y q : Nat} {D : Dk} {base pos segs age rel high t : Int} {cs : List Value} {us : List Sg}
theorem rfree_ok {g : Gh} {w : World} (hc : RLC cs y base segs) (hsn : us.length≤1000) (hp : ∀ s∈us,0≤s.pos∧s.pos≤16) (hbd : D.W.length + us.length < 900000)
  (H : Hp F0 g0 w0 g w (rlbR q cs :: rdR y D :: rsR su us :: L)) :
  ∃ n g' w',grapevineref11_Log_free (some ⟨q,0,none⟩) su t w = some (n,(D.free base t us).1,w')∧Hp F0 g0 w0 g' w' (rlbR q cs :: rdR y (D.free base t us).2.1 :: rsR su us :: L)∧Mo g w g' w'∧((D.free base t us).1 = 0→n = (us.length : Int) - ((D.free base t us).2.2.length : Int)):=by
 have hsl : us.length = su.n:=by have:=H.m2.ow.len; rw [fl_len rsC_len] at this; omega
 have lp:=Ex.loop (step:=fun r : Int×Int×World=>grapevineref11_Log_free_l1 su t (some ⟨q,0,none⟩) r.1 r.2.1 r.2.2)
  (Φ:=fun o=>match o with
   | .inl (n,w')=>∃ g',(D.free base t us).1 = 0∧n = (us.length : Int) - ((D.free base t us).2.2.length : Int)∧Hp F0 g0 w0 g' w' (rlbR q cs :: rdR y (D.free base t us).2.1 :: rsR su us :: L)∧Mo g w g' w'
   | .inr (n,e,w')=>∃ g',e = (D.free base t us).1∧e≠0∧Hp F0 g0 w0 g' w' (rlbR q cs :: rdR y (D.free base t us).2.1 :: rsR su us :: L)∧Mo g w g' w')
  (fun m r=>∃ (j : Nat) (D1 : Dk) (n : Int) (g1 : Gh) (w1 : World),r = (n,(j : Int),w1)∧m + j = us.length∧D1.W.length + m < 900000∧Hp F0 g0 w0 g1 w1 (rlbR q cs :: rdR y D1 :: rsR su us :: L)∧Mo g w g1 w1∧0≤n∧n≤j ∧
   (D.free base t us).1 = (D1.free base t (us.drop j)).1∧(D.free base t us).2.1 = (D1.free base t (us.drop j)).2.1∧((D.free base t us).2.2.length : Int) = j - n + ((D1.free base t (us.drop j)).2.2.length : Int))
  (fun m r hI=>by
   obtain ⟨j,D1,n,g1,w1,rfl,hm,hW,H1,m1,hn0,hnj,r1,r2,r3⟩:=hI
   unfold grapevineref11_Log_free_l1
   by_cases hlt : j + 1 < us.length
   ·obtain ⟨u,hu⟩ : ∃ u,us[j]? = some u:=⟨_,List.getElem?_eq_getElem (by omega)⟩
    have hup:=hp u (List.mem_of_getElem? hu)
    have hd : us.drop j = u :: us.drop (j + 1):=by obtain ⟨hj,hj'⟩:=List.getElem?_eq_some_iff.1 hu; rw [List.drop_eq_getElem_cons hj,hj']
    have hne : ¬ us.drop (j + 1) = []:=by rw [List.drop_eq_nil_iff]; omega
    rw [hd,free_cons] at r1 r2 r3
    obtain ⟨b,el⟩:=H1.m2.el rsC_len (by decide) hu
    have lh : ldI .i64 w1 ⟨b,j * 4 + 3,none⟩ = some u.high:=el.i rfl
    refine Ex.t (by rw [wrap_nat (by omega)]; simp; omega) ?_
    refine Ex.jX (Ψ:=fun r=>∃ (D2 : Dk) (g2 : Gh),D2.W.length + (m - 1) < 900000∧Hp F0 g0 w0 g2 r.2 (rlbR q cs :: rdR y D2 :: rsR su us :: L)∧Mo g w g2 r.2∧0≤r.1∧r.1≤j + 1 ∧
     (D.free base t us).1 = (D2.free base t (us.drop (j + 1))).1∧(D.free base t us).2.1 = (D2.free base t (us.drop (j + 1))).2.1∧((D.free base t us).2.2.length : Int) = j + 1 - r.1 + ((D2.free base t (us.drop (j + 1))).2.2.length : Int)) (Ex.b1 el.ix (Ex.b1 (by rw [add_mk]; exact lh) ?_)) ?_
    ·by_cases hk : t < u.high
     ·rw [if_pos (.inr hk)] at r1 r2 r3
      refine Ex.f (by simp; omega) (Ex.ret ⟨D1,g1,by omega,H1,m1,hn0,by simp only; omega,r1,r2,?_⟩)
      simp only [List.length_cons] at r3 ⊢
      omega
     ·rw [if_neg (by rintro (h | h); exact hne h; exact hk h)] at r1 r2 r3
      obtain ⟨w2,e2,H2,m2⟩:=H1.dr
      have l2 : ldP w2 ⟨q,0,none⟩ = some (some ⟨y,0,none⟩):=H2.ldP hc.d
      obtain ⟨b',el2⟩:=H2.m2.el rsC_len (by decide) hu
      have lp2 : ldI .i64 w2 ⟨b',j * 4 + 0,none⟩ = some u.pos:=el2.i rfl
      have a2:=rplace_ok (i:=0) hc hup ⟨by omega,by omega⟩ H2.bx
      obtain ⟨g3,w3,e3,H3,m3⟩:=H2.sw.rwrite (i:=base + 2 + u.pos * 16 + 0) rdnil (by omega)
      have hww:=write_W D1 (base + 2 + u.pos * 16 + 0) []
      refine Ex.t (by simp; omega) (Ex.b1 e2 (Ex.s1 (Ex.b1 (by rw [add_mk]; exact l2) (Ex.b1 el2.ix (Ex.b1 (by rw [add_mk]; exact lp2) (Ex.b2 a2 (Ex.b2 e3 (Ex.ck (by rw [add_mk]; exact l2) ?_))))))))
      by_cases he : (D1.write (base + 2 + u.pos * 16 + 0) []).1 = 0
      ·rw [if_pos he] at r1 r2 r3
       refine Ex.f (by rw [he]; decide) (Ex.ret ⟨_,g3,by omega,H3.sw,m1.t (m2.t m3),?_,?_,r1,r2,?_⟩)
       ·simp only; rw [wr64 (by omega) (by omega)]; omega
       ·simp only; rw [wr64 (by omega) (by omega)]; omega
       ·simp only; rw [wr64 (by omega) (by omega)]; omega
      ·rw [if_neg he] at r1 r2 r3
       refine Ex.t (by simpa using he) (Ex.s1 (Ex.ret ⟨g3,r1.symm,he,?_,m1.t (m2.t m3)⟩))
       rw [r2]; exact H3.sw
    ·rintro ⟨n6,w6⟩ ⟨D2,g2,h1,h2,h3,h4,h5,h6,h7,h8⟩
     exact Ex.ret ⟨m - 1,by omega,j + 1,D2,n6,g2,w6,by rw [wrap_nat (by omega)],by omega,h1,h2,h3,h4,by simp only at h5; omega,h6,h7,by simp only at h8; omega⟩
   ·refine Ex.f (by rw [wrap_nat (by omega)]; simp; omega) (Ex.ret ?_)
    by_cases hj : j < us.length
    ·obtain ⟨u,hu⟩ : ∃ u,us[j]? = some u:=⟨_,List.getElem?_eq_getElem hj⟩
     have hd : us.drop j = [u]:=by obtain ⟨hj,hj'⟩:=List.getElem?_eq_some_iff.1 hu; rw [List.drop_eq_getElem_cons hj,hj',List.drop_of_length_le (by omega)]
     rw [hd,free_cons,if_pos (.inl rfl)] at r1 r2 r3
     refine ⟨g1,r1,?_,by rw [r2]; exact H1,m1⟩
     simp [Dk.free] at r3
     omega
    ·have hd : us.drop j = []:=by rw [List.drop_eq_nil_iff]; omega
     rw [hd] at r1 r2 r3
     refine ⟨g1,r1,?_,by rw [r2]; exact H1,m1⟩
     simp [Dk.free] at r3
     omega) us.length (0,((0 : Nat) : Int),w) ⟨0,D,0,g,w,rfl,by omega,by omega,H,Mo.r,Int.le_refl _,by simp,rfl,rfl,by simp⟩
 obtain ⟨o,e2,ho⟩:=lp
 have e2' : loopF (fun r : Int×Int×World=>grapevineref11_Log_free_l1 su t (some ⟨q,0,none⟩) r.1 r.2.1 r.2.2) (0,0,w) = some o:=e2
 unfold grapevineref11_Log_free
 rw [e2',Option.bind_some]
 cases o with
 | inl r =>
  obtain ⟨n,w'⟩:=r
  obtain ⟨g',h0,h1,h2,h3⟩:=ho
  exact ⟨n,g',w',by simp only [Sum.elim_inl,u2]; rw [h0],h2,h3,fun _=>h1⟩
 | inr r =>
  obtain ⟨n,e,w'⟩:=r
  obtain ⟨g',rfl,h0,h1,h2⟩:=ho
  exact ⟨n,g',w',by simp only [Sum.elim_inr,u3],h1,h2,fun h=>(h0 h).elim⟩
theorem rwipe_ok (hc : RLC cs y base segs) (hp : 0≤pos∧pos < segs∧segs≤16) {Φ : Int×Int×World→Prop} : ∀ (m : Nat) (D : Dk) (i n : Int) (g : Gh) (w : World),(m : Int) + i = 16→0≤i→D.W.length + m < 900000→0≤n→n + m≤1000→D.down = false→base + 2 + segs * 16≤D.S.length→D.Bt→Hp F0 g0 w0 g w (rlbR q cs :: rdR y D :: L) →
  (∀ g' w',Hp F0 g0 w0 g' w' (rlbR q cs :: rdR y (D.wipe base pos m i n).2.2 :: L)→Mo g w g' w'→Φ ((D.wipe base pos m i n).1,(D.wipe base pos m i n).2.1,w')) →
  (cb1 (nloop (fun r : Int×Int×World=>grapevineref11_Log_wipe_l1 (some ⟨q,0,none⟩) pos r.1 r.2.1 r.2.2) (n,i,w)) fun r4=>Sum.elim (fun (i : Int×World)=>u2 i fun v6 w7=>nret (v6,0,w7)) (fun (i : Int×Int×World)=>u3 i fun v8 v9 w10=>nret (v8,v9,w10)) r4).t Φ:=by
 intro m
 induction m with
 | zero =>
  intro D i n g w hm hi hbd hn0 hn hd hsz hbt H hΦ
  refine Nd.j1 (Ψ:=fun o=>o = .inl (n,w)) ?_ ?_
  ·refine Nd.next ?_
   unfold grapevineref11_Log_wipe_l1
   exact Nd.f (by simp; omega) (Nd.ret rfl)
  ·rintro _ rfl
   exact Nd.ret (hΦ g w H Mo.r)
 | succ m ih =>
  intro D i n g w hm hi hbd hn0 hn hd hsz hbt H hΦ
  obtain ⟨w1,e1,H1,m1⟩:=H.dr
  have hlen:=look_full (D:=D) (base:=base) (pos:=pos) (i:=i) H.sw.rwf hd (by have:=hc.b0; omega) (by omega)
  have hz:=zero_eq hlen
  have hlb : Bytes (D.look base pos i):=look_by hbt
  have hzb : Bytes (List.replicate 64 (0 : Int)):=fun b hb=>by rw [(List.mem_replicate.1 hb).2]; decide
  have hst:=str_eq hlb hzb
  have hst2:=str_eq hzb hlb
  rw [← hz] at hst
  have hst2 : sEq (strOfNums (List.replicate 64 0)) (strOfNums (D.look base pos i)) = zeroL (D.look base pos i):=by rw [hst2,hz,Bool.eq_iff_iff]; simp [eq_comm]
  -- what the rest does
  have rest : ∀ (g2 : Gh) (w2 : World),Hp F0 g0 w0 g2 w2 (rlbR q cs :: rdR y D :: L)→Mo g w g2 w2→zeroL (D.look base pos i) = true →
    (cb1 (nloop (fun r : Int×Int×World=>grapevineref11_Log_wipe_l1 (some ⟨q,0,none⟩) pos r.1 r.2.1 r.2.2) (n,i + 1,w2)) fun r4=>Sum.elim (fun (i : Int×World)=>u2 i fun v6 w7=>nret (v6,0,w7)) (fun (i : Int×Int×World)=>u3 i fun v8 v9 w10=>nret (v8,v9,w10)) r4).t Φ:=fun g2 w2 H2 m2 hz=>by
   refine ih D (i + 1) n g2 w2 (by omega) (by omega) (by omega) hn0 (by omega) hd hsz hbt H2 fun g' w' H' m'=>?_
   have:=hΦ g' w' (by rw [Dk.wipe,if_pos hz]; exact H') (m2.t m')
   rwa [Dk.wipe,if_pos hz] at this
  have tst : ((nand (lb2 (grapevineref11_Log_sector (some ⟨q,0,none⟩) pos i w1) fun v28 w29=>lb1 (b2s v28 w29) fun s31=>lb2 (mkS Try.prog 72 64 64 w29) fun s33 w34=>lb1 (b2s s33 w34) fun s36=>nck (b2s v28 w34 = some s31)<|nret ((!sEq s31 s36),w34))
    (lb2 (mkS Try.prog 72 64 64 w1) fun s39 w40=>lb1 (b2s s39 w40) fun s42=>lb2 (grapevineref11_Log_sector (some ⟨q,0,none⟩) pos i w40) fun v44 w45=>lb1 (b2s v44 w45) fun s47=>nck (b2s s39 w45 = some s42)<|nret ((!sEq s47 s42),w45))).t (fun r=>r.1 = !zeroL (D.look base pos i)∧∃ g',Hp F0 g0 w0 g' r.2 (rlbR q cs :: rdR y D :: L)∧Mo g w g' r.2)):=by
   have hz64 : (List.replicate 64 [Value.int .u8 0]).flatten = nums .u8 (List.replicate 64 0):=by rw [zeros_u8]
   refine Nd.both ?_ ?_
   ·obtain ⟨z2,g2,w2,e2,H2,m2,r2,c2,n2⟩:=rsector_ok (pos:=pos) (i:=i) hc (by omega) (by omega) H1 (by omega)
    obtain ⟨z3,w3,e3,n3,c3,H3,m3⟩:=H2.mkS st29 (m:=64) (by decide) (by decide)
    rw [show (64 : Int).toNat = 64 from rfl,hz64] at H3
    exact Nd.b2 e2 (Nd.b1 (b2s_Rd r2.rd) (Nd.b2 e3 (Nd.b1 (b2s_Rd H3.ow.rd) (Nd.ck (b2s_Rd (r2.mo m3).rd) (Nd.ret ⟨by rw [hst],g2,H3.tl,m1.t (m2.t m3)⟩)))))
   ·obtain ⟨z3,w3,e3,n3,c3,H3,m3⟩:=H1.mkS st29 (m:=64) (by decide) (by decide)
    rw [show (64 : Int).toNat = 64 from rfl,hz64] at H3
    obtain ⟨g4,r4,H4,m4⟩:=H3.keepO
    obtain ⟨z2,g2,w2,e2,H2,m2,r2,c2,n2⟩:=rsector_ok (pos:=pos) (i:=i) hc (by omega) (by omega) H4 (by omega)
    exact Nd.b2 e3 (Nd.b1 (b2s_Rd r4.rd) (Nd.b2 e2 (Nd.b1 (b2s_Rd r2.rd) (Nd.ck (b2s_Rd (r4.mo m2).rd) (Nd.ret ⟨by rw [hst],g2,H2,m1.t (m3.t (m4.t m2))⟩)))))
  have hwr1 : IntKind.wrap .i64 (i + 1) = i + 1:=wr64 (by omega) (by omega)
  have hwr2 : IntKind.wrap .i64 (n + 1) = n + 1:=wr64 (by omega) (by omega)
  -- one round
  have round : ∀ {Ψ : (Int×World)⊕(Int×Int×World)→Prop},(∀ g2 w2,zeroL (D.look base pos i) = true→Hp F0 g0 w0 g2 w2 (rlbR q cs :: rdR y D :: L)→Mo g w g2 w2→(nloop (fun r : Int×Int×World=>grapevineref11_Log_wipe_l1 (some ⟨q,0,none⟩) pos r.1 r.2.1 r.2.2) (n,i + 1,w2)).t Ψ) →
    (∀ g2 w2,¬ zeroL (D.look base pos i) = true→(D.write (base + 2 + pos * 16 + i) []).1 = 0→Hp F0 g0 w0 g2 w2 (rlbR q cs :: rdR y (D.write (base + 2 + pos * 16 + i) []).2 :: L)→Mo g w g2 w2→(nloop (fun r : Int×Int×World=>grapevineref11_Log_wipe_l1 (some ⟨q,0,none⟩) pos r.1 r.2.1 r.2.2) (n + 1,i + 1,w2)).t Ψ) →
    (∀ g2 w2,¬ zeroL (D.look base pos i) = true→(D.write (base + 2 + pos * 16 + i) []).1≠0→Hp F0 g0 w0 g2 w2 (rlbR q cs :: rdR y (D.write (base + 2 + pos * 16 + i) []).2 :: L)→Mo g w g2 w2→Ψ (.inr (n,(D.write (base + 2 + pos * 16 + i) []).1,w2))) →
    (nloop (fun r : Int×Int×World=>grapevineref11_Log_wipe_l1 (some ⟨q,0,none⟩) pos r.1 r.2.1 r.2.2) (n,i,w)).t Ψ:=fun {Ψ} k1 k2 k3=>by
   refine Nd.next ?_
   have hun : grapevineref11_Log_wipe_l1 (some ⟨q,0,none⟩) pos n i w = grapevineref11_Log_wipe_l1 (some ⟨q,0,none⟩) pos n i w:=rfl
   show (grapevineref11_Log_wipe_l1 (some ⟨q,0,none⟩) pos n i w).t _
   conv=>arg 1; unfold grapevineref11_Log_wipe_l1
   refine Nd.t (by simp; omega) (Nd.jX (Ψ:=fun r=>(zeroL (D.look base pos i) = true∧r.1 = n∧∃ g',Hp F0 g0 w0 g' r.2 (rlbR q cs :: rdR y D :: L)∧Mo g w g' r.2)∨(¬ zeroL (D.look base pos i) = true∧(D.write (base + 2 + pos * 16 + i) []).1 = 0∧r.1 = n + 1∧∃ g',Hp F0 g0 w0 g' r.2 (rlbR q cs :: rdR y (D.write (base + 2 + pos * 16 + i) []).2 :: L)∧Mo g w g' r.2)) (Nd.j2 (Nd.b1 e1 tst) ?_) ?_)
   ·rintro _ w2 ⟨rfl,g2,H2,m2⟩
    cases hzz : zeroL (D.look base pos i) with
    | true=>exact Nd.f (by simp) (Nd.ret (.inl ⟨rfl,rfl,g2,H2,m2⟩))
    | false =>
     have hzz' : ¬ zeroL (D.look base pos i) = true:=by rw [hzz]; simp
     obtain ⟨w3,e3,H3,m3⟩:=H2.dr
     have l3 : ldP w3 ⟨q,0,none⟩ = some (some ⟨y,0,none⟩):=H3.ldP hc.d
     have a3:=rplace_ok (pos:=pos) (i:=i) hc (by omega) (by omega) H3.bx
     obtain ⟨g4,w4,e4,H4,m4⟩:=H3.sw.rwrite (i:=base + 2 + pos * 16 + i) rdnil (by omega)
     refine Nd.t (by simp) (Nd.b1 e3 (Nd.s1 (Nd.b1 (by rw [add_mk]; exact l3) (Nd.b2 a3 (Nd.b2 e4 (Nd.ck (by rw [add_mk]; exact l3) ?_))))))
     by_cases he : (D.write (base + 2 + pos * 16 + i) []).1 = 0
     ·refine Nd.f (by simp [he]) (Nd.ret (.inr ⟨by simp,he,by rw [hwr2],g4,H4.sw,m2.t (m3.t m4)⟩))
     ·exact Nd.t (by simpa using he) (Nd.j1 (Ψ:=fun r=>r = .inr (.inr (n,(D.write (base + 2 + pos * 16 + i) []).1,w4))) (Nd.ret rfl) (fun r hr=>Nd.ret (by subst hr; exact k3 g4 w4 hzz' he H4.sw (m2.t (m3.t m4)))))
   ·rintro ⟨n5,w5⟩ (⟨hz5,rfl,g5,H5,m5⟩ | ⟨hz5,he,rfl,g5,H5,m5⟩)
    ·refine Nd.ret ?_
     simp only [Sum.elim_inl]
     rw [hwr1]
     exact k1 g5 w5 hz5 H5 m5
    ·refine Nd.ret ?_
     simp only [Sum.elim_inl]
     rw [hwr1]
     exact k2 g5 w5 hz5 he H5 m5
  refine round (fun g2 w2 hz2 H2 m2=>rest g2 w2 H2 m2 hz2) (fun g2 w2 hz2 he H2 m2=>?_) (fun g2 w2 hz2 he H2 m2=>?_)
  ·have hww:=write_W D (base + 2 + pos * 16 + i) []
   refine ih _ (i + 1) (n + 1) g2 w2 (by omega) (by omega) (by omega) (by omega) (by omega) (write_up hd he) (by rw [write_Sl]; exact hsz) ?_ H2 fun g' w' H' m'=>?_
   ·exact hbt.write (fun b hb=>by cases hb)
   ·have:=hΦ g' w' (by rw [Dk.wipe,if_neg hz2,if_pos he]; exact H') (m2.t m')
    rwa [Dk.wipe,if_neg hz2,if_pos he] at this
  ·have:=hΦ g2 w2 (by rw [Dk.wipe,if_neg hz2,if_neg he]; exact H2) m2
   rw [Dk.wipe,if_neg hz2,if_neg he] at this
   exact Nd.ret this
end
theorem keepS_cons {rel : Int} {s : Sg} {l : List Sg} : keepS rel (s :: l) = if l = []∨rel < s.high then s :: keepS rel l else keepS rel l:=rfl
def rlR (q y : Nat) (l : Lg) : Rs where
 h g w F:=∃ (su sr : Sl) (rz : List (Int×Sl)),RZ g w rz l.vis∧SepX g w F [rlbR q (rlC y l.base l.segs l.age l.high l.rel su sr),rsR su l.used,rcR sr rz]
 st:=fun ⟨su,sr,rz,h1,h2⟩ m hk=>⟨su,sr,rz,h1.mo m,h2.st m hk⟩
 lt:=fun ⟨su,sr,rz,h1,h2⟩ hk=>h2.lt hk
section
variable {F0 : Nat → Prop} {g g0 : Gh} {w w0 : World} {L : List Rs} {su sr : Sl} {y q : Nat} {D : Dk} {base segs age rel high t : Int} {us : List Sg} {rz : List (Int × Sl)} {l : Lg}
theorem Hp.rli (h1 : RZ g w rz l.vis) (H : Hp F0 g0 w0 g w (rlbR q (rlC y l.base l.segs l.age l.high l.rel su sr) :: rsR su l.used :: rcR sr rz :: L)) : Hp F0 g0 w0 g w (rlR q y l :: L):=by
 obtain ⟨F,k1,k2,k3⟩:=Sep.sepx (l:=[rlbR q (rlC y l.base l.segs l.age l.high l.rel su sr),rsR su l.used,rcR sr rz]) H.sep
 exact ⟨H.sp,F,⟨su,sr,rz,h1,k1⟩,k2,k3⟩
theorem rkeep_ok (hul : us.length≤1000) (hzl : rz.length≤10000) (H : Hp F0 g0 w0 g w (rlbR q (rlC y base segs age high rel su sr) :: rsR su us :: rcR sr rz :: L)) :
  ∃ su' sr' w',grapevineref11_Log_keep (some ⟨q,0,none⟩) t w = some w'∧Hp F0 g0 w0 g w' (rlbR q (rlC y base segs age high t su' sr') :: rsR su' (keepS t us) :: rcR sr' (rz.filter fun r=>decide (t < r.1)) :: L)∧Mo g w g w':=by
 have hsu : us.length = su.n:=by have:=H.sw.ow.len; rw [fl_len rsC_len] at this; omega
 have hsr : rz.length = sr.n:=by have:=H.m2.ow.len; rw [fl_len rcF_len] at this; omega
 obtain ⟨s1,w1,e1,n1,_,H1,m1⟩:=H.bsl (T:=136) (sz:=4) (ps:=[]) (by intro p hp; cases hp) (by simp)
 have lp:=Ex.loop (step:=fun r : Sl×Int×World=>grapevineref11_Log_keep_l1 (some ⟨q,0,none⟩) t r.1 r.2.1 r.2.2)
  (Φ:=fun o=>Hp F0 g0 w0 g o.2 (rsR o.1 (keepS t us) :: rlbR q (rlC y base segs age high rel su sr) :: rsR su us :: rcR sr rz :: L)∧Mo g w g o.2)
  (fun m r=>∃ (j : Nat) (acc : List Sg) (z : Sl) (w2 : World),r = (z,(j : Int),w2)∧m + j = us.length∧acc.length≤j∧keepS t us = acc ++ keepS t (us.drop j)∧Hp F0 g0 w0 g w2 (rsR z acc :: rlbR q (rlC y base segs age high rel su sr) :: rsR su us :: rcR sr rz :: L)∧Mo g w g w2)
  (fun m r hI=>by
   obtain ⟨j,acc,z,w2,rfl,hm,hal,hk,H2,m2⟩:=hI
   have l2 : ldL w2 ⟨q,6,none⟩ = some su:=H2.sw.ldL rfl
   unfold grapevineref11_Log_keep_l1
   refine Ex.s1 (Ex.b1 (by rw [add_mk,add_mk]; exact l2) ?_)
   by_cases hj : j < us.length
   ·obtain ⟨u,hu⟩ : ∃ u,us[j]? = some u:=⟨_,List.getElem?_eq_getElem hj⟩
    have hd : us.drop j = u :: us.drop (j + 1):=by obtain ⟨hj,hj'⟩:=List.getElem?_eq_some_iff.1 hu; rw [List.drop_eq_getElem_cons hj,hj']
    have hdn : us.drop (j + 1) = [] ↔ j + 1 = us.length:=by rw [List.drop_eq_nil_iff]; omega
    obtain ⟨b,el⟩:=H2.m2.el rsC_len (by decide) hu
    have lh : ldI .i64 w2 ⟨b,j * 4 + 3,none⟩ = some u.high:=el.i rfl
    have hw1 : IntKind.wrap .i64 ((su.n : Int) - 1) = (su.n : Int) - 1:=wr64 (by omega) (by omega)
    have test : ((ldL w2 (((⟨q,0,none⟩ : Addr).add 4).add 2)).bind fun v26=>if ((j : Int) == (IntKind.wrap .i64 ((v26.n : Int) - 1))) = true then (some (true,w2)) else ((ldL w2 (((⟨q,0,none⟩ : Addr).add 4).add 2)).bind fun v29=>(ix v29 (j : Int) 4).bind fun p31=>(ldI .i64 w2 (p31.add 3)).bind fun v33=>some ((decide (t < v33)),w2))) = some (decide (us.drop (j + 1) = []∨t < u.high),w2):=by
     rw [add_mk,add_mk,l2,Option.bind_some,Option.bind_some,el.ix,Option.bind_some,add_mk,lh,Option.bind_some,ifO,hw1]
     congr 2
     rw [Bool.eq_iff_iff]
     simp only [Bool.or_eq_true,beq_iff_eq,decide_eq_true_eq,hdn]
     omega
    rw [hd] at hk
    refine Ex.t (by simp; omega) (Ex.j2 (Ψ:=fun r=>∃ acc2,acc2.length≤j + 1∧keepS t us = acc2 ++ keepS t (us.drop (j + 1))∧Hp F0 g0 w0 g r.2 (rsR r.1 acc2 :: rlbR q (rlC y base segs age high rel su sr) :: rsR su us :: rcR sr rz :: L)∧Mo g w g r.2) (Ex.b2 test ?_) ?_)
    ·rw [keepS_cons] at hk
     by_cases hc : us.drop (j + 1) = []∨t < u.high
     ·rw [if_pos hc] at hk
      obtain ⟨z3,w3,e3,n3,_,H3,m3⟩:=H2.bsl (T:=136) (sz:=4) (ps:=[rsC u]) (by intro v hv; simp at hv; subst hv; rfl) (by simp)
      have hzn : acc.length = z.n:=by have:=H3.tl.ow.len; rw [fl_len rsC_len] at this; omega
      obtain ⟨z4,w4,e4,n4,H4,m4⟩:=H3.tl.apS stRSeg H3.ow.rd (by intro v hv; simp at hv; exact rsC_one v hv) (by rw [n3]; simp; omega)
      rw [show acc.flatMap rsC ++ [rsC u].flatten = (acc ++ [u]).flatMap rsC by simp] at H4
      refine Ex.t (by simpa using hc) (Ex.b1 (by rw [add_mk,add_mk]; exact l2) (Ex.b1 el.ix (Ex.b1 el.ldA (Ex.b2 e3 (Ex.b2 e4 (Ex.ret ⟨acc ++ [u],by simp; omega,?_,H4,m2.t (m3.t m4)⟩))))))
      rw [hk,List.append_assoc]; rfl
     ·rw [if_neg hc] at hk
      exact Ex.f (by simpa using hc) (Ex.ret ⟨acc,by omega,hk,H2,m2⟩)
    ·rintro z5 w5 ⟨acc2,h1,h2,h3,h4⟩
     exact Ex.ret ⟨m - 1,by omega,j + 1,acc2,z5,w5,by rw [wrap_nat (by omega)],by omega,h1,h2,h3,h4⟩
   ·rw [List.drop_of_length_le (by omega)] at hk
    refine Ex.f (by simp; omega) (Ex.ret ⟨?_,m2⟩)
    rw [hk]; simpa [keepS] using H2) us.length (s1,((0 : Nat) : Int),w1) ⟨0,[],s1,w1,rfl,by omega,by simp,rfl,H1,m1⟩
 obtain ⟨⟨su',w2⟩,e2,H2,m2⟩:=lp
 have e2' : loopF (fun r : Sl×Int×World=>grapevineref11_Log_keep_l1 (some ⟨q,0,none⟩) t r.1 r.2.1 r.2.2) (s1,0,w1) = some (su',w2):=e2
 obtain ⟨s3,w3,e3,n3,_,H3,m3⟩:=H2.bsl (T:=87) (sz:=2) (ps:=[]) (by intro p hp; cases hp) (by simp)
 have lp2:=Ex.loop (step:=fun r : Sl×Int×World=>grapevineref11_Log_keep_l2 (some ⟨q,0,none⟩) t r.1 r.2.1 r.2.2)
  (Φ:=fun o=>Hp F0 g0 w0 g o.2 (rcR o.1 (rz.filter fun r=>decide (t < r.1)) :: rsR su' (keepS t us) :: rlbR q (rlC y base segs age high rel su sr) :: rsR su us :: rcR sr rz :: L)∧Mo g w2 g o.2)
  (fun m r=>∃ (j : Nat) (z : Sl) (w4 : World),r = (z,(j : Int),w4)∧m + j = rz.length∧Hp F0 g0 w0 g w4 (rcR z ((rz.take j).filter fun r=>decide (t < r.1)) :: rsR su' (keepS t us) :: rlbR q (rlC y base segs age high rel su sr) :: rsR su us :: rcR sr rz :: L)∧Mo g w2 g w4)
  (fun m r hI=>by
   obtain ⟨j,z,w4,rfl,hm,H4,m4⟩:=hI
   have l4 : ldL w4 ⟨q,7,none⟩ = some sr:=H4.m2.ldL rfl
   unfold grapevineref11_Log_keep_l2
   refine Ex.s1 (Ex.b1 (by rw [add_mk,add_mk]; exact l4) ?_)
   by_cases hj : j < rz.length
   ·obtain ⟨r,hr⟩ : ∃ r,rz[j]? = some r:=⟨_,List.getElem?_eq_getElem hj⟩
    have htk : (rz.take (j + 1)).filter (fun r=>decide (t < r.1)) = (rz.take j).filter (fun r=>decide (t < r.1)) ++ (if t < r.1 then [r] else []):=by
     rw [List.take_add_one,hr,List.filter_append]
     simp [List.filter_cons]
    obtain ⟨b,el⟩:=H4.m4.el rcF_len (by decide) hr
    have lh : ldI .i64 w4 ⟨b,j * 2 + 0,none⟩ = some r.1:=el.i rfl
    refine Ex.t (by simp; omega) (Ex.j2 (Ψ:=fun o=>Hp F0 g0 w0 g o.2 (rcR o.1 ((rz.take (j + 1)).filter fun r=>decide (t < r.1)) :: rsR su' (keepS t us) :: rlbR q (rlC y base segs age high rel su sr) :: rsR su us :: rcR sr rz :: L)∧Mo g w2 g o.2) (Ex.b1 (by rw [add_mk,add_mk]; exact l4) (Ex.b1 el.ix (Ex.b1 (by rw [add_mk]; exact lh) ?_))) ?_)
    ·by_cases hc : t < r.1
     ·obtain ⟨z5,w5,e5,n5,_,H5,m5⟩:=H4.bsl (T:=87) (sz:=2) (ps:=[rcF r]) (by intro v hv; simp at hv; subst hv; rfl) (by simp)
      have hfl : ((rz.take j).filter fun r=>decide (t < r.1)).length≤(rz.take j).length:=List.length_filter_le _ _
      have hfl2 : (rz.take j).length≤rz.length:=List.length_take_le' _ _
      have hzn : ((rz.take j).filter fun r=>decide (t < r.1)).length = z.n:=by have:=H5.tl.ow.len; rw [fl_len rcF_len] at this; omega
      obtain ⟨z6,w6,e6,n6,H6,m6⟩:=H5.tl.apS stRec H5.ow.rd (by intro v hv; simp at hv; exact rcC_one v hv) (by rw [n5]; simp; omega)
      rw [show ((rz.take j).filter fun r=>decide (t < r.1)).flatMap rcF ++ [rcF r].flatten = ((rz.take (j + 1)).filter fun r=>decide (t < r.1)).flatMap rcF by rw [htk,if_pos hc]; simp] at H6
      exact Ex.t (by simpa using hc) (Ex.b1 (by rw [add_mk,add_mk]; exact l4) (Ex.b1 el.ix (Ex.b1 el.ldA (Ex.b2 e5 (Ex.b2 e6 (Ex.ret ⟨H6,m4.t (m5.t m6)⟩))))))
     ·refine Ex.f (by simpa using hc) (Ex.ret ⟨?_,m4⟩)
      simp only
      rw [htk,if_neg hc,List.append_nil]; exact H4
    ·rintro z7 w7 ⟨H7,m7⟩
     exact Ex.ret ⟨m - 1,by omega,j + 1,z7,w7,by rw [wrap_nat (by omega)],by omega,H7,m7⟩
   ·refine Ex.f (by simp; omega) (Ex.ret ⟨?_,m4⟩)
    rwa [List.take_of_length_le (by omega)] at H4) rz.length (s3,((0 : Nat) : Int),w3) ⟨0,s3,w3,rfl,by omega,H3,m3⟩
 obtain ⟨⟨sr',w4⟩,e4,H4,m4⟩:=lp2
 have e4' : loopF (fun r : Sl×Int×World=>grapevineref11_Log_keep_l2 (some ⟨q,0,none⟩) t r.1 r.2.1 r.2.2) (s3,0,w3) = some (sr',w4):=e4
 have l4 : ldI .i64 w4 ⟨q,4,none⟩ = some high:=H4.m2.ldI rfl
 obtain ⟨w5,e5,H5,m5⟩:=H4.m2.stA (o:=4) (vs:=[.int .i64 high,.int .i64 t,su'.v,sr'.v]) (by simp [rlC]) (by intro v hv; simp at hv; rcases hv with rfl | rfl | rfl | rfl <;> rfl)
 have H5 : Hp F0 g0 w0 g w5 (rlbR q (rlC y base segs age high t su' sr') :: rcR sr' (rz.filter fun r=>decide (t < r.1)) :: rsR su' (keepS t us) :: rsR su us :: rcR sr rz :: L):=H5
 refine ⟨su',sr',w5,?_,(H5.m4.tl).m3.tl.m2.sw,m2.t (m4.t m5)⟩
 unfold grapevineref11_Log_keep
 rw [e1,bind2_some,e2',bind2_some,e3,bind2_some,e4',bind2_some,Option.bind_some,add_mk,Nat.zero_add,add_mk,l4,Option.bind_some,e5,Option.bind_some]
theorem gl_cons {α : Type} {a : α} {l : List α} (h : l≠[]) : (a :: l).getLast? = l.getLast?:=by
 cases l with
 | nil=>exact (h rfl).elim
 | cons b l=>exact List.getLast?_cons_cons
theorem seg_ticks {D : Dk} {base pos : Int} : ∀ (m : Nat) (e h : Int) (rs : List (Int×List Int)),(∀ r∈rs,r.1≤h)→∀ r∈(D.seg base pos m e h rs).2.2,r.1≤(D.seg base pos m e h rs).2.1
 | 0,e,h,rs,hr=>hr
 | m + 1,e,h,rs,hr=>by
  unfold Dk.seg
  split
  ·split
   ·rename_i t b nx _ hc
    refine seg_ticks m nx t _ fun r hr'=>?_
    rcases List.mem_append.1 hr' with h' | h'
    ·have:=hr r h'; omega
    ·simp at h'; subst h'; exact Int.le_refl _
   ·exact hr
  ·exact hr
theorem segs_ticks {D : Dk} {base : Int} : ∀ {us : List Sg} {h : Int} {ds : List Sg},(∀ s∈ds,∀ r∈s.recs,r.1≤s.high)→∀ s∈(D.segs base us h ds).2,∀ r∈s.recs,r.1≤s.high
 | [],h,ds,hd=>hd
 | u :: us,h,ds,hd=>by
  rw [Dk.segs]
  refine segs_ticks fun s hs=>?_
  rcases List.mem_append.1 hs with h' | h'
  ·exact hd s h'
  ·simp at h'; subst h'
   exact seg_ticks _ _ _ _ (fun r hr=>by cases hr)
theorem keepS_vis {rel : Int} : ∀ {us : List Sg},(∀ s∈us,∀ r∈s.recs,r.1≤s.high)→((keepS rel us).flatMap fun s=>s.recs).filter (fun r=>decide (rel < r.1)) = (us.flatMap fun s=>s.recs).filter fun r=>decide (rel < r.1)
 | [],_=>rfl
 | s :: l,h=>by
  have ih:=keepS_vis (rel:=rel) (us:=l) fun s hs=>h s (by simp [hs])
  rw [keepS_cons,List.flatMap_cons,List.filter_append,← ih]
  split
  ·rw [List.flatMap_cons,List.filter_append]
  ·rename_i hk
   have : s.recs.filter (fun r=>decide (rel < r.1)) = []:=by
    rw [List.filter_eq_nil_iff]
    intro r hr
    have:=h s (by simp) r hr
    simp only [decide_eq_true_eq]
    intro hlt
    exact hk (.inr (by omega))
   rw [this,List.nil_append]
theorem ropenL_ok (H : Hp F0 g0 w0 g w (rdR y D :: L)) (hbt : D.Bt) (hbd : D.W.length < 800000) (hsr : -9223372036854775808≤segs∧segs≤9223372036854775807) {Φ : Option Addr×Int×World→Prop}
  (hΦ : ∀ g' w' (o : Option Nat),(match (D.openL base segs).2.2 with | none=>o = none∧Hp F0 g0 w0 g' w' (rdR y (D.openL base segs).2.1 :: L) | some l=>∃ q,o = some q∧Hp F0 g0 w0 g' w' (rlR q y l :: rdR y (D.openL base segs).2.1 :: L))→Mo g w g' w' →
   Φ (o.map fun q=>⟨q,0,none⟩,(D.openL base segs).1,w')) : (grapevineref11_Open (some ⟨y,0,none⟩) base segs w).t Φ:=by
 have hwf:=H.rwf
 have hn:=hwf.n
 have l3:=H.rd3
 obtain ⟨s0,l0,ls0⟩:=H.rd0
 have l4:=H.rd4
 unfold grapevineref11_Open
 refine Nd.f (by simp) (Nd.s1 (Nd.b1 (by rw [add_mk]; exact l3) ?_))
 by_cases hd : D.down = true
 ·have ho : D.openL base segs = (10,D,none):=by unfold Dk.openL; rw [if_pos hd]
  rw [ho] at hΦ
  exact Nd.t hd (Nd.ret (hΦ g w none ⟨rfl,H⟩ Mo.r))
 refine Nd.f hd ?_
 have htest : ∀ {Ψ : Bool×World→Prop},Ψ (!logC D.S.length base segs,w)→(if (decide (segs < 2)) = true then nret (true,w) else if (decide (16 < segs)) = true then nret (true,w) else if (decide (base < 0)) = true then nret (true,w) else
   lb1 (ldL w ((⟨y,0,none⟩ : Addr).add 0)) fun v14=>nret ((decide ((IntKind.wrap .i64 ((IntKind.wrap .i64 ((v14.n : Int) - 2)) - (IntKind.wrap .i64 (16 * segs)))) < base)),w)).t Ψ:=fun h=>by
  by_cases h1 : segs < 2
  ·refine Nd.t (by simpa using h1) (Nd.ret ?_)
   have : logC D.S.length base segs = false:=by simp [logC]; omega
   rwa [this] at h
  by_cases h2 : 16 < segs
  ·refine Nd.f (by simpa using h1) (Nd.t (by simpa using h2) (Nd.ret ?_))
   have : logC D.S.length base segs = false:=by simp [logC]; omega
   rwa [this] at h
  by_cases h3 : base < 0
  ·refine Nd.f (by simpa using h1) (Nd.f (by simpa using h2) (Nd.t (by simpa using h3) (Nd.ret ?_)))
   have : logC D.S.length base segs = false:=by simp [logC]; omega
   rwa [this] at h
  refine Nd.f (by simpa using h1) (Nd.f (by simpa using h2) (Nd.f (by simpa using h3) (Nd.b1 (by rw [add_mk]; exact l0) (Nd.ret ?_))))
  have e1 : decide (IntKind.wrap .i64 (IntKind.wrap .i64 ((s0.n : Int) - 2) - IntKind.wrap .i64 (16 * segs)) < base) = !logC D.S.length base segs:=by
   rw [wr64 (x:=(s0.n : Int) - 2) (by omega) (by omega),wr64 (x:=16 * segs) (by omega) (by omega),wr64 (by omega) (by omega)]
   by_cases h4 : base≤D.S.length - 2 - segs * 16
   ·rw [show logC D.S.length base segs = true by simp [logC]; omega]; simp; omega
   ·rw [show logC D.S.length base segs = false by simp [logC]; omega]; simp; omega
  rw [e1]; exact h
 cases hl : logC D.S.length base segs with
 | false =>
  have ho : D.openL base segs = (2,D,none):=by unfold Dk.openL; rw [if_neg hd,hl,if_neg (by simp)]
  rw [ho] at hΦ
  refine Nd.j2 (Ψ:=fun r=>r = (true,w)) (htest (by rw [hl]; rfl)) ?_
  rintro _ _ he; cases he
  exact Nd.t rfl (Nd.ret (hΦ g w none ⟨rfl,H⟩ Mo.r))
 | true =>
  obtain ⟨s2,s16,b0,bn⟩:=logC_s hl
  have ho : D.openL base segs = D.tidy (D.readL base segs):=by unfold Dk.openL; rw [if_neg hd,hl,if_pos rfl]
  refine Nd.j2 (Ψ:=fun r=>r = (false,w)) (htest (by rw [hl]; rfl)) ?_
  rintro _ _ he; cases he
  obtain ⟨q,w1,e1,H1,m1⟩:=H.box (T:=132) (cs:=rlC y base segs D.age 0 0 Sl.nil Sl.nil)
  have hRL:=RLC_of (y:=y) (segs:=segs) (age:=D.age) (rel:=0) (su:=Sl.nil) (sr:=Sl.nil) (h:=0) b0 (show base≤512 by omega)
  refine Nd.f (by simp) (Nd.b1 (by rw [add_mk]; exact l4) (Nd.b2 e1 (Nd.j2 (Ψ:=fun r=>∃ g' su sr rz,r.1 = tdC (D.readL base segs).high (D.readL base segs).rel su sr∧Hp F0 g0 w0 g' r.2 (rlbR q (rlC y base segs D.age 0 0 Sl.nil Sl.nil) :: rdR y D :: rsR su (D.readL base segs).used :: rcR sr rz :: L)∧Mo g w g' r.2∧RZ g' r.2 rz (D.readL base segs).vis)
   (rRead_ok hRL (by omega) s16 hbt (by omega) hn.2 (by omega) H1 fun g' w' su sr rz H' m' hz=>⟨g',su,sr,rz,rfl,H',m1.t m',hz⟩) ?_)))
  rintro _ w4 ⟨g4,su,sr,rz,rfl,H4,m4,hz4⟩
  simp only at H4 m4 hz4
  obtain ⟨R,hR⟩ : ∃ R,D.readL base segs = R:=⟨_,rfl⟩
  have hRb : R.base = base:=by rw [← hR]; rfl
  have hRs : R.segs = segs:=by rw [← hR]; rfl
  have hRa : R.age = D.age:=by rw [← hR]; rfl
  have hRm : ∀ s∈R.used,0≤s.pos∧s.pos < segs∧1≤s.fin∧s.fin≤16:=fun s hs=>by rw [← hR] at hs; have:=readL_mem hs; omega
  have hRl : R.used.length≤16:=by rw [← hR]; have:=read_len2 (D:=D) (base:=base) (segs:=segs); omega
  have hRt : ∀ s∈R.used,∀ r∈s.recs,r.1≤s.high:=by rw [← hR]; exact segs_ticks (fun s hs=>by cases hs)
  have hRn : ∀ s∈R.used,s.recs.length≤16:=by
   rw [← hR]
   have key : ∀ (us : List Sg) (h : Int) (ds : List Sg),(∀ s∈ds,s.recs.length≤16)→∀ s∈(D.segs base us h ds).2,s.recs.length≤16:=by
    intro us
    induction us with
    | nil=>intro h ds hd; exact hd
    | cons u us ih =>
     intro h ds hd
     rw [Dk.segs]
     refine ih _ _ fun s hs=>?_
     rcases List.mem_append.1 hs with h' | h'
     ·exact hd s h'
     ·simp at h'; subst h'
      have:=seg_recs (D:=D) (base:=base) (pos:=u.pos) 16 u.fin (max h u.high) []
      simpa using this
   exact key _ _ _ (fun s hs=>by cases hs)
  rw [hR] at H4 hz4 ⊢
  rw [ho,hR] at hΦ
  unfold Dk.tidy at hΦ
  rw [hRb] at hΦ
  obtain ⟨pt,w5,e5,H5,m5⟩:=H4.box (T:=130) (cs:=tdC 0 0 Sl.nil Sl.nil)
  have td1 : ∀ {a b : Int} {s z : Sl},∀ v∈tdC a b s z,v.oneCell' = true:=by intro a b s z v hv; simp [tdC] at hv; rcases hv with rfl | rfl | rfl | rfl <;> rfl
  obtain ⟨w6,e6,H6,m6,-⟩:=H5.stA' (vs:=tdC R.high R.rel su sr) rfl td1
  have l6 : ldL w6 ⟨pt,2,none⟩ = some su:=H6.ldL rfl
  have l6r : ldI .i64 w6 ⟨pt,1,none⟩ = some R.rel:=H6.ldI rfl
  obtain ⟨n7,g7,w7,e7,H7,m7,hn7⟩:=rfree_ok (t:=R.rel) hRL (by omega) (fun s hs=>by have:=hRm s hs; omega) (by omega) (H6.b3)
  have hfW:=free_W (base:=base) (rel:=R.rel) R.used D
  have hfs : ∀ s∈(D.free base R.rel R.used).2.2,s∈R.used:=fun s hs=>free_sub hs
  have hfl:=free_len (D:=D) (base:=base) (rel:=R.rel) (us:=R.used)
  have hfk:=free_keep (D:=D) (base:=base) (rel:=R.rel) (us:=R.used)
  have hfd : D.down = false:=by simpa using hd
  have hfu : (D.free base R.rel R.used).1 = 0→(D.free base R.rel R.used).2.1.down = false∧(D.free base R.rel R.used).2.1.S.length = D.S.length∧(D.free base R.rel R.used).2.1.Bt:=by
   have key : ∀ (us : List Sg) (D : Dk),D.down = false→D.Bt→(D.free base R.rel us).1 = 0→(D.free base R.rel us).2.1.down = false∧(D.free base R.rel us).2.1.S.length = D.S.length∧(D.free base R.rel us).2.1.Bt:=by
    intro us
    induction us with
    | nil=>intro D h1 h2 _; exact ⟨h1,rfl,h2⟩
    | cons u us ih =>
     intro D h1 h2 h3
     rw [free_cons] at h3 ⊢
     split
     ·rename_i hc; rw [if_pos hc] at h3; exact ih D h1 h2 h3
     ·rename_i hc
      rw [if_neg hc] at h3
      split
      ·rename_i he
       rw [if_pos he] at h3
       obtain ⟨a1,a2,a3⟩:=ih _ (write_up h1 he) (h2.write (fun b hb=>by cases hb)) h3
       exact ⟨a1,by rw [a2,write_Sl],a3⟩
      ·rename_i he
       rw [if_neg he] at h3
       exact (he h3).elim
   exact key R.used D hfd hbt
  obtain ⟨f,hf⟩ : ∃ f,D.free base R.rel R.used = f:=⟨_,rfl⟩
  rw [hf] at e7 H7 hn7 hΦ hfs hfW hfl hfk hfu
  -- H7: log,disk,segments,told,records
  have mm7:=m4.t (m5.t (m6.t m7))
  refine Nd.b2 e5 (Nd.b1 e6 (Nd.ck rfl (Nd.b1 (by rw [add_mk]; exact l6) (Nd.b1 (by rw [add_mk]; exact l6r) (Nd.b3 e7 ?_)))))
  by_cases hf0 : f.1 = 0
  rotate_left
  ·rw [if_pos (by simpa using hf0)] at hΦ
   exact Nd.t (by simpa using hf0) (Nd.ret (hΦ g7 w7 none ⟨rfl,H7.tl.sw.tl.sw.tl.sw.tl⟩ mm7))
  have hn7:=hn7 hf0
  have hfk:=hfk hf0
  obtain ⟨hfd2,hfS2,hfB2⟩:=hfu hf0
  refine Nd.f (by simp [hf0]) ?_
  rw [if_neg (by simp [hf0])] at hΦ
  have hrs : R.used.length = su.n:=by have:=H7.m2.ow.len; rw [fl_len rsC_len] at this; omega
  have hwl:=wipeLast_W (D:=f.2.1) (base:=base) (us:=f.2.2) (fun s hs=>(hRm s (hfs s hs)).2.2.1)
  obtain ⟨k,hk⟩ : ∃ k,wipeLast f.2.1 base f.2.2 = k:=⟨_,rfl⟩
  rw [hk] at hΦ hwl
  have hflast : f.2.2.getLast? = R.used.getLast?:=by
   rw [hfk]
   have key : ∀ us : List Sg,(keepS R.rel us).getLast? = us.getLast?:=by
    intro us
    induction us with
    | nil=>rfl
    | cons u us ih =>
     rw [keepS_cons]
     cases us with
     | nil=>rfl
     | cons v us =>
      have hne : ∀ us : List Sg,us≠[]→keepS R.rel us≠[]:=by
       intro us
       induction us with
       | nil=>intro h; exact (h rfl).elim
       | cons a us ih2 =>
        intro _
        rw [keepS_cons]
        split
        ·simp
        ·rename_i hc; exact ih2 (fun e=>hc (.inl e))
      have hk2:=hne (v :: us) (by simp)
      split
      ·rw [gl_cons hk2,ih,gl_cons (a:=u) (l:=v :: us) (by simp)]
      ·rw [ih,gl_cons (a:=u) (l:=v :: us) (by simp)]
   exact key _
  refine Nd.jX (Ψ:=fun r=>k.2.1 = 0∧r.1 = (R.used.length : Int) - (f.2.2.length : Int) + k.1∧∃ g',Hp F0 g0 w0 g' r.2 (rlbR q (rlC y base segs D.age 0 0 Sl.nil Sl.nil) :: rdR y k.2.2 :: rsR su R.used :: tdR pt (tdC R.high R.rel su sr) :: rcR sr rz :: L)∧Mo g7 w7 g' r.2) ?_ ?_
  ·have l7 : ldL w7 ⟨pt,2,none⟩ = some su:=H7.m3.ldL rfl
   refine Nd.b1 (by rw [add_mk]; exact l7) ?_
   by_cases h0 : 0 < su.n
   ·obtain ⟨u,hu⟩ : ∃ u,R.used[R.used.length - 1]? = some u:=⟨_,List.getElem?_eq_getElem (by omega)⟩
    have hlast : f.2.2.getLast? = some u:=by rw [hflast,List.getLast?_eq_getElem?,hu]
    have hup:=hRm u (List.mem_of_getElem? hu)
    obtain ⟨b,el⟩:=H7.m2.el rsC_len (by decide) hu
    have hix : ix su (IntKind.wrap .i64 ((su.n : Int) - 1)) 4 = some ⟨b,(R.used.length - 1) * 4,none⟩:=by
     rw [show IntKind.wrap .i64 ((su.n : Int) - 1) = ((R.used.length - 1 : Nat) : Int) by rw [wr64 (by omega) (by omega)]; omega]; exact el.ix
    obtain ⟨pb,w8,e8,H8,m8⟩:=H7.box (T:=136) (cs:=List.replicate 4 (.int .i64 0))
    obtain ⟨w9,e9,H9,m9,-⟩:=H8.stA' (vs:=rsC u) rfl rsC_one
    have l9p : ldI .i64 w9 ⟨pb,0,none⟩ = some u.pos:=H9.ldI rfl
    have l9f : ldI .i64 w9 ⟨pb,2,none⟩ = some u.fin:=H9.ldI rfl
    have hkk : f.2.1.wipe base u.pos (16 - u.fin).toNat u.fin 0 = k:=by rw [← hk]; unfold wipeLast; rw [hlast]
    refine Nd.t (by simpa using h0) (Nd.b1 (by rw [add_mk]; exact l7) (Nd.b1 (by rw [add_mk]; exact l7) (Nd.b1 hix (Nd.b1 el.ldA (Nd.b2 e8 (Nd.b1 e9 (Nd.b1 (by rw [add_mk]; exact l9p) (Nd.b1 (by rw [add_mk]; exact l9f) (Nd.j3 (Ψ:=fun r=>r.1 = k.1∧r.2.1 = k.2.1∧∃ g',Hp F0 g0 w0 g' r.2.2 (rlbR q (rlC y base segs D.age 0 0 Sl.nil Sl.nil) :: rdR y k.2.2 :: bxR pb (rsC u) 136 :: rsR su R.used :: tdR pt (tdC R.high R.rel su sr) :: rcR sr rz :: L)∧Mo g7 w7 g' r.2.2) ?_ ?_)))))))))
    ·unfold grapevineref11_Log_wipe
     refine rwipe_ok hRL (pos:=u.pos) ⟨hup.1,hup.2.1,s16⟩ (16 - u.fin).toNat f.2.1 u.fin 0 g7 w9 (by omega) (by omega) (by omega) (Int.le_refl _) (by omega) hfd2 (by omega) hfB2 (H9.b2) fun g' w' H' m'=>?_
     rw [hkk] at H' ⊢
     exact ⟨rfl,rfl,g',H',m8.t (m9.t m')⟩
    ·rintro _ _ w10 ⟨h1,h2,g10,H10,m10⟩
     simp only at h1 h2 H10 m10
     subst h1; subst h2
     by_cases hk0 : k.2.1 = 0
     ·refine Nd.f (by simp [hk0]) (Nd.ret ⟨hk0,?_,g10,H10.m2.tl,m10⟩)
      simp only
      have hkn : 0≤k.1∧k.1≤16:=by
       have key : ∀ (m : Nat) (D : Dk) (i n : Int),0≤n→n≤(D.wipe base u.pos m i n).1∧(D.wipe base u.pos m i n).1≤n + m:=by
        intro m
        induction m with
        | zero=>intro D i n hn; simp [Dk.wipe]
        | succ m ih =>
         intro D i n hn
         unfold Dk.wipe
         split
         ·have:=ih D (i + 1) n hn; omega
         ·split
          ·have:=ih (D.write (base + 2 + u.pos * 16 + i) []).2 (i + 1) (n + 1) (by omega); omega
          ·simp only; omega
       have:=key (16 - u.fin).toNat f.2.1 u.fin 0 (Int.le_refl _)
       rw [hkk] at this; omega
      rw [hn7,wr64 (by omega) (by omega)]
     ·rw [if_pos (by simpa using hk0)] at hΦ
      exact Nd.t (by simpa using hk0) (Nd.j1 (Ψ:=fun r=>Φ r) (Nd.ret (hΦ g10 w10 none ⟨rfl,H10.m2.tl.tl.sw.tl.sw.tl.sw.tl⟩ (mm7.t m10))) (fun r hr=>Nd.ret hr))
   ·have hnil : f.2.2 = []:=by
     apply List.eq_nil_of_length_eq_zero; omega
    have hkk : k = (0,0,f.2.1):=by rw [← hk]; unfold wipeLast; rw [hnil]; rfl
    refine Nd.f (by simpa using h0) (Nd.ret ⟨by rw [hkk],?_,g7,by rw [hkk]; exact H7,Mo.r⟩)
    simp only
    rw [hkk,hn7]; simp
  ·rintro ⟨n8,w8⟩ ⟨hk0,hn8,g8,H8,m8⟩
   simp only at hn8 H8 m8
   rw [if_neg (by simp [hk0]),← hn8] at hΦ
   have mm8:=mm7.t m8
   have m48 : Mo g4 w4 g8 w8:=m5.t (m6.t (m7.t m8))
   have hzl : rz.length≤10000:=by
    have h1:=hz4.1
    have h2 : R.vis.length≤R.all.length:=List.length_filter_le _ _
    have h3 : ∀ us : List Sg,(∀ s∈us,s.recs.length≤16)→(us.flatMap fun s=>s.recs).length≤16 * us.length:=by
     intro us
     induction us with
     | nil=>intro _; simp
     | cons u us ih =>
      intro h
      have h4:=ih fun s hs=>h s (by simp [hs])
      have h5:=h u (by simp)
      rw [List.flatMap_cons,List.length_append,List.length_cons]; omega
    have h4 : R.all.length≤16 * R.used.length:=h3 R.used hRn
    omega
   have hvis : (⟨base,R.segs,R.age,R.high,R.rel,f.2.2⟩ : Lg).vis = R.vis:=by
    show ((f.2.2.flatMap fun s=>s.recs).filter fun r=>decide (R.rel < r.1)) = ((R.used.flatMap fun s=>s.recs).filter fun r=>decide (R.rel < r.1))
    rw [hfk]; exact keepS_vis hRt
   have hff : ∀ rz' : List (Int×List Int),rz' = R.vis→rz'.filter (fun r=>decide (R.rel < r.1)) = R.vis:=fun rz' e=>by
    rw [e]
    unfold Lg.vis
    rw [List.filter_filter]; simp
   -- the end
   have fin : ∀ (D9 : Dk) (g9 : Gh) (w9 : World),Hp F0 g0 w0 g9 w9 (rlbR q (rlC y base segs D.age 0 0 Sl.nil Sl.nil) :: rdR y D9 :: rsR su R.used :: tdR pt (tdC R.high R.rel su sr) :: rcR sr rz :: L)→Mo g8 w8 g9 w9 →
     (∀ w',Hp F0 g0 w0 g9 w' (rlR q y ⟨base,R.segs,R.age,R.high,R.rel,f.2.2⟩ :: rdR y D9 :: L)→Mo g w g9 w'→Φ (some ⟨q,0,none⟩,0,w')) →
     (lb1 (ldA 4 w9 ⟨pt,0,none⟩ 0) fun c85=>lb1 (stA w9 ((⟨q,0,none⟩ : Addr).add 4) 0 c85) fun w87=>lb1 (ldI .i64 w87 ((⟨pt,0,none⟩ : Addr).add 1)) fun v89=>lb1 (grapevineref11_Log_keep (some ⟨q,0,none⟩) v89 w87) fun w91=>nret ((some (⟨q,0,none⟩ : Addr)),(0 : Int),w91)).t Φ:=fun D9 g9 w9 H9 m9 hfin=>by
    have l9 : ldA 4 w9 ⟨pt,0,none⟩ 0 = some (tdC R.high R.rel su sr):=by rw [ldA_B H9.m3.bx (by exact Nat.le_refl _)]; rfl
    obtain ⟨w10,e10,H10,m10⟩:=H9.stA (o:=4) (vs:=tdC R.high R.rel su sr) (by simp [rlC,tdC]) td1
    have H10 : Hp F0 g0 w0 g9 w10 (rlbR q (rlC y base segs D.age R.high R.rel su sr) :: rdR y D9 :: rsR su R.used :: tdR pt (tdC R.high R.rel su sr) :: rcR sr rz :: L):=H10
    have l10 : ldI .i64 w10 ⟨pt,1,none⟩ = some R.rel:=H10.m3.ldI rfl
    have H10b : Hp F0 g0 w0 g9 w10 (rlbR q (rlC y base segs D.age R.high R.rel su sr) :: rsR su R.used :: rcR sr rz :: rdR y D9 :: L):=(H10.m3.tl).perm (List.Perm.cons _ ((List.Perm.swap _ _ _).trans (List.Perm.cons _ (List.Perm.swap _ _ _))))
    obtain ⟨su',sr',w11,e11,H11,m11⟩:=rkeep_ok (t:=R.rel) (by omega) hzl H10b
    refine Nd.b1 l9 (Nd.b1 (by rw [add_mk]; exact e10) (Nd.b1 (by rw [add_mk]; exact l10) (Nd.b1 e11 (Nd.ret (hfin w11 ?_ (mm8.t (m9.t (m10.t m11))))))))
    refine Hp.rli (su:=su') (sr:=sr') (rz:=rz.filter fun r=>decide (R.rel < r.1)) ?_ ?_
    ·have:=(hz4.mo (m48.t (m9.t (m10.t m11)))).filter (P:=fun t=>decide (R.rel < t))
     rw [hff _ rfl] at this
     rw [hvis]; exact this
    ·simp only
     rw [hRs,hRa,hfk]; exact H11
   refine Nd.jX (Ψ:=fun w'=>∃ g' D9,Hp F0 g0 w0 g' w' (rlbR q (rlC y base segs D.age 0 0 Sl.nil Sl.nil) :: rdR y D9 :: rsR su R.used :: tdR pt (tdC R.high R.rel su sr) :: rcR sr rz :: L)∧Mo g8 w8 g' w'∧∀ w'',Hp F0 g0 w0 g' w'' (rlR q y ⟨base,R.segs,R.age,R.high,R.rel,f.2.2⟩ :: rdR y D9 :: L)→Mo g w g' w''→Φ (some ⟨q,0,none⟩,0,w'')) ?_ ?_
   ·by_cases h8 : 0 < n8
    ·rw [if_pos h8] at hΦ
     obtain ⟨g9,w9,e9,H9,m9⟩:=H8.sw.rsync (by omega)
     refine Nd.t (by simpa using h8) (Nd.b2 e9 ?_)
     by_cases hs0 : k.2.2.sync.1 = 0
     ·rw [if_neg (by simp [hs0])] at hΦ
      exact Nd.f (by simp [hs0]) (Nd.ret ⟨g9,_,H9.sw,m9,fun w'' H'' m''=>hΦ g9 w'' (some q) ⟨q,rfl,H''⟩ m''⟩)
     ·rw [if_pos (by simpa using hs0)] at hΦ
      exact Nd.t (by simpa using hs0) (Nd.j1 (Ψ:=fun r=>Φ r) (Nd.ret (hΦ g9 w9 none ⟨rfl,H9.sw.tl.sw.tl.sw.tl.sw.tl⟩ (mm8.t m9))) (fun r hr=>Nd.ret hr))
    ·rw [if_neg h8] at hΦ
     exact Nd.f (by simpa using h8) (Nd.ret ⟨g8,_,H8,Mo.r,fun w'' H'' m''=>hΦ g8 w'' (some q) ⟨q,rfl,H''⟩ m''⟩)
   ·rintro w9 ⟨g9,D9,H9,m9,hfin⟩
    exact fin D9 g9 w9 H9 m9 hfin
end
theorem Hp.fin {g g0 : Gh} {w w0 : World} {L : List Rs} (H : Hp (fun _=>False) g0 w0 g w L) {S : Nat→Prop} : Fr S w0 w:=H.sp.fr.mono fun _ h=>h.elim
section
variable {H : Type} {enc : TypeId × Value → H} {P : Program} {w : World} {base fuel : Nat} {spare : Nat → Bool} {held : Bool} {t e : TypeId} {cs : List Value} {x : DataW H × List MemPlace} {Bd : Nat}
theorem i64_range {n : Int} (h : (Lit.int .i64 n).wf = true) : -9223372036854775808≤n∧n≤9223372036854775807:=by
 simp [Lit.wf,IntKind.min,IntKind.max,IntKind.signed,IntKind.bits] at h; omega
end
noncomputable def grapevinelaw11_EvlogOpens (a0 : Int) (a1 : Int) (a2 : Int) (w : World) : ND (Bool×World) :=
 lb1 (rmI (IntKind.wrap .u64 a0) 300) fun v1 =>
 lb3 (sector_New (IntKind.wrap .i64 (1 + (IntKind.wrap .i64 v1))) w) fun v3 v4 w5 =>
 lb1 (rmI (IntKind.wrap .u64 a0) 300) fun v7 =>
 lb3 (grapevineref09_New (IntKind.wrap .i64 (1 + (IntKind.wrap .i64 v7))) w5) fun v9 v10 w11 =>
 cb2 (if (v4 != 0) = true then
 (nret (true,w11))
 else
 (if (v10 != 0) = true then
 (nret (true,w11))
 else
 (nret ((v3.isNone),w11)))) fun v13 w14 =>
 if v13 = true then
 (nret (false,w14))
 else
 (cb3 (evlog_Open v3 a1 a2 w14) fun v20 v21 w22 =>
 cb3 (grapevineref11_Open v9 a1 a2 w22) fun v24 v25 w26 =>
 cb2 (if (v21 != v25) = true then
 (nret (true,w26))
 else
 (if ((v20.isNone) != (v24.isNone)) = true then
 (nret (true,w26))
 else
 (lb2 (sector_Disk_Waits v3 w26) fun v34 w35 =>
 nret ((v34 != 0),w35)))) fun v28 w29 =>
 if v28 = true then
 (nret (false,w29))
 else
 (lb2 (sector_Disk_Trip v3 1 w29) fun v38 w39 =>
 lb2 (sector_Disk_Sync v3 w39) fun v41 w42 =>
 cb3 (evlog_Open v3 a1 a2 w42) fun v44 v45 w46 =>
 cb2 (cb2 (grapevinelaw11_live w46) fun v52 w53 =>
 if v52 = true then
 (if (v44.isNone) = true then
 (if (v45 == 10) = true then
 (if (v20.isNone) = true then
 (nret (true,w53))
 else
 (lb2 (evlog_Log_High v20 w53) fun v59 w60 =>
 if (v59 == 0) = true then
 (lb2 (evlog_Log_Rel v20 w60) fun v63 w64 =>
 if (v63 == 0) = true then
 (lb2 (evlog_Log_Used v20 w64) fun v67 w68 =>
 if (v67 == 0) = true then
 (lb2 (evlog_Log_Sync v20 w68) fun v71 w72 =>
 nret ((v71 == 10),w72))
 else
 (nret (false,w68)))
 else
 (nret (false,w64)))
 else
 (nret (false,w60))))
 else
 (nret (false,w53)))
 else
 (nret (false,w53)))
 else
 (nret (false,w53))) fun v48 w49 =>
 nret (v48,w49)))
set_option maxHeartbeats 1000000 in
set_option maxRecDepth 100000 in
theorem grapevinelaw11_EvlogOpens_ok {a0 : Int} {a1 : Int} {a2 : Int} {w : World} {Q : Bool×World→Prop} (h : (grapevinelaw11_EvlogOpens a0 a1 a2 w).t Q) : Calls Try.prog 9 #[(.int .i64 a0),(.int .i64 a1),(.int .i64 a2)] w fun e w''=>∃ i,e = .returned (.bool i.1)∧Q i∧w'' = i.2:=by
 refine calls_dec (n:=118) Try.func9 rfl Try.ntmps9 (by simp) fun a ha=>?_
 unfold grapevinelaw11_EvlogOpens at h
 refine wp_seq<|region_lit<|qa ha rfl fun a ha=>s_nil<|t_n<|wp_seq<|region_lit<|qm ha rfl fun a ha=>q ha (d_conv ha rfl Try.runUnderlying3 Try.runUnderlying60) fun a ha=>?_
 obtain ⟨v1,e2,h⟩:=h
 refine q ha (d_rem ha rfl rfl e2) fun a ha=>q ha (d_conv ha rfl Try.runUnderlying60 Try.runUnderlying3) fun a ha=>q ha (d_add ha rfl rfl) fun a ha=>?_
 obtain ⟨v3,v4,w5,e6,h⟩:=h
 refine q ha (d_call (xs:=[_]) (vs:=[(.int .i64 (IntKind.wrap .i64 (1 + (IntKind.wrap .i64 v1))))]) ha ⟨rfl,trivial⟩ Try.call30 (sector_New_ok e6)) fun a ha=>qm ha rfl fun a ha=>q ha (d_ext ha rfl rfl) fun a ha=>q ha (d_ext ha rfl rfl) fun a ha=>qa ha rfl fun a ha=>qa ha rfl fun a ha=>s_nil<|t_n<|wp_seq<|region_lit<|qm ha rfl fun a ha=>q ha (d_conv ha rfl Try.runUnderlying3 Try.runUnderlying60) fun a ha=>?_
 obtain ⟨v7,e8,h⟩:=h
 refine q ha (d_rem ha rfl rfl e8) fun a ha=>q ha (d_conv ha rfl Try.runUnderlying60 Try.runUnderlying3) fun a ha=>q ha (d_add ha rfl rfl) fun a ha=>?_
 obtain ⟨v9,v10,w11,e12,h⟩:=h
 refine q ha (d_call (xs:=[_]) (vs:=[(.int .i64 (IntKind.wrap .i64 (1 + (IntKind.wrap .i64 v7))))]) ha ⟨rfl,trivial⟩ Try.call31 (grapevineref09_New_ok e12)) fun a ha=>qm ha rfl fun a ha=>q ha (d_ext ha rfl rfl) fun a ha=>q ha (d_ext ha rfl rfl) fun a ha=>qa ha rfl fun a ha=>qa ha rfl fun a ha=>s_nil<|t_n<|wp_seq<|wp_seq<|?_
 refine reg_joinN (n:=118) (ι:=Bool×World) (Lf:=fun i=>[(44,(.bool i.1)),(1,(.int .i64 a1)),(2,(.int .i64 a2)),(7,(.pointer v3)),(9,(.pointer v9))]) (wf:=fun i=>i.2) (un2 h) (fun i h a ha=>?_) (fun h hk16=>?_)
 ·obtain ⟨v13,w14⟩:=i
  have ha : Has 118 [(44,(.bool v13)),(1,(.int .i64 a1)),(2,(.int .i64 a2)),(7,(.pointer v3)),(9,(.pointer v9))] a:=ha
  refine t_n<|?_
  refine s_condN ha rfl h (fun b19 h=>?_) (fun b19 h=>?_)
  ·refine wp_seq<|region_lit<|qa ha rfl fun a ha=>s_nil<|t_n<|wp_ret<|t_r<|?_
   have hS:=ha
   exact ret1 Try.results9 hS rfl ⟨(false,w14),rfl,h,rfl⟩
  ·refine wp_skip<|t_n<|wp_seq<|region_lit<|qm ha rfl fun a ha=>qm ha rfl fun a ha=>qm ha rfl fun a ha=>?_
   refine s_callN (ι:=(Option Addr)×Int×World) (pk:=fun i=>(.tuple #[(.pointer i.1),(.int .i64 i.2.1)])) (wf:=fun i=>i.2.2) (xs:=[_,_,_]) (vs:=[(.pointer v3),(.int .i64 a1),(.int .i64 a2)]) ha ⟨rfl,rfl,rfl,trivial⟩ Try.call32 (evlog_Open_ok (un3 h)) (fun i h a ha=>?_)
   obtain ⟨v20,v21,w22⟩:=i
   refine qm ha rfl fun a ha=>q ha (d_ext ha rfl rfl) fun a ha=>q ha (d_ext ha rfl rfl) fun a ha=>qa ha rfl fun a ha=>qa ha rfl fun a ha=>s_nil<|t_n<|wp_seq<|region_lit<|qm ha rfl fun a ha=>qm ha rfl fun a ha=>qm ha rfl fun a ha=>?_
   refine s_callN (ι:=(Option Addr)×Int×World) (pk:=fun i=>(.tuple #[(.pointer i.1),(.int .i64 i.2.1)])) (wf:=fun i=>i.2.2) (xs:=[_,_,_]) (vs:=[(.pointer v9),(.int .i64 a1),(.int .i64 a2)]) ha ⟨rfl,rfl,rfl,trivial⟩ Try.call33 (grapevineref11_Open_ok (un3 h)) (fun i h a ha=>?_)
   obtain ⟨v24,v25,w26⟩:=i
   refine qm ha rfl fun a ha=>q ha (d_ext ha rfl rfl) fun a ha=>q ha (d_ext ha rfl rfl) fun a ha=>qa ha rfl fun a ha=>qa ha rfl fun a ha=>s_nil<|t_n<|wp_seq<|wp_seq<|?_
   refine reg_joinN (n:=118) (ι:=Bool×World) (Lf:=fun i=>[(73,(.bool i.1)),(1,(.int .i64 a1)),(2,(.int .i64 a2)),(7,(.pointer v3)),(11,(.pointer v20))]) (wf:=fun i=>i.2) (un2 h) (fun i h a ha=>?_) (fun h hk31=>?_)
   ·obtain ⟨v28,w29⟩:=i
    have ha : Has 118 [(73,(.bool v28)),(1,(.int .i64 a1)),(2,(.int .i64 a2)),(7,(.pointer v3)),(11,(.pointer v20))] a:=ha
    refine t_n<|?_
    refine s_condN ha rfl h (fun b37 h=>?_) (fun b37 h=>?_)
    ·refine wp_seq<|region_lit<|qa ha rfl fun a ha=>s_nil<|t_n<|wp_ret<|t_r<|?_
     have hS:=ha
     exact ret1 Try.results9 hS rfl ⟨(false,w29),rfl,h,rfl⟩
    ·refine wp_skip<|t_n<|wp_seq<|region_lit<|qm ha rfl fun a ha=>?_
     obtain ⟨v38,w39,e40,h⟩:=h
     refine q ha (d_call (xs:=[_,_]) (vs:=[(.pointer v3),(.int .i64 1)]) ha ⟨rfl,rfl,trivial⟩ Try.call35 (sector_Disk_Trip_ok e40)) fun a ha=>s_nil<|t_n<|wp_seq<|region_lit<|qm ha rfl fun a ha=>?_
     obtain ⟨v41,w42,e43,h⟩:=h
     refine q ha (d_call (xs:=[_]) (vs:=[(.pointer v3)]) ha ⟨rfl,trivial⟩ Try.call36 (sector_Disk_Sync_ok e43)) fun a ha=>s_nil<|t_n<|wp_seq<|region_lit<|qm ha rfl fun a ha=>qm ha rfl fun a ha=>qm ha rfl fun a ha=>?_
     refine s_callN (ι:=(Option Addr)×Int×World) (pk:=fun i=>(.tuple #[(.pointer i.1),(.int .i64 i.2.1)])) (wf:=fun i=>i.2.2) (xs:=[_,_,_]) (vs:=[(.pointer v3),(.int .i64 a1),(.int .i64 a2)]) ha ⟨rfl,rfl,rfl,trivial⟩ Try.call32 (evlog_Open_ok (un3 h)) (fun i h a ha=>?_)
     obtain ⟨v44,v45,w46⟩:=i
     refine qm ha rfl fun a ha=>q ha (d_ext ha rfl rfl) fun a ha=>q ha (d_ext ha rfl rfl) fun a ha=>qa ha rfl fun a ha=>qa ha rfl fun a ha=>s_nil<|t_n<|wp_seq<|?_
     refine reg_joinN (n:=118) (ι:=Bool×World) (Lf:=fun i=>[(6,(.bool i.1))]) (wf:=fun i=>i.2) (un2 h) (fun i h a ha=>?_) (fun h hk51=>?_)
     ·obtain ⟨v48,w49⟩:=i
      have ha : Has 118 [(6,(.bool v48))] a:=ha
      refine t_n<|wp_ret<|?_
      have hS:=ha
      exact ret1 Try.results9 hS rfl ⟨(v48,w49),rfl,h,rfl⟩
     ·refine region_lit<|?_
      refine s_callN (ι:=Bool×World) (pk:=fun i=>(.bool i.1)) (wf:=fun i=>i.2) (xs:=[]) (vs:=[]) ha trivial Try.call37 (grapevinelaw11_live_ok (un2 h)) (fun i h a ha=>?_)
      obtain ⟨v52,w53⟩:=i
      refine qm ha rfl fun a ha=>?_
      refine ite_n h (fun b55 h=>?_) (fun b55 h=>?_)
      ·refine qg ha 86 b55 (d_move ha rfl) fun a ha=>qg ha 86 b55 (d_eqN ha rfl rfl Try.runUnderlying64) fun a ha=>q ha (d_pick_t ha rfl b55 rfl) fun a ha=>qm ha rfl fun a ha=>?_
       refine ite_n h (fun b56 h=>?_) (fun b56 h=>?_)
       ·refine qg ha 90 b56 (d_move ha rfl) fun a ha=>qg ha 90 b56 (d_eq ha rfl rfl) fun a ha=>q ha (d_pick_t ha rfl b56 rfl) fun a ha=>qm ha rfl fun a ha=>?_
        refine ite_n h (fun b57 h=>?_) (fun b57 h=>?_)
        ·refine qg ha 94 b57 (d_move ha rfl) fun a ha=>qg ha 94 b57 (d_eqN ha rfl rfl Try.runUnderlying64) fun a ha=>qg ha 94 b57 (d_move ha rfl) fun a ha=>?_
         refine ite_n h (fun b58 h=>?_) (fun b58 h=>?_)
         ·refine qn ha 97 (tn b58) fun a ha=>qn ha 97 (tn b58) fun a ha=>qn ha 97 (tn b58) fun a ha=>qn ha 97 (tn b58) fun a ha=>qu ha 101 fun a ha=>qu ha 101 fun a ha=>qu ha 101 fun a ha=>qn ha 97 (tn b58) fun a ha=>qn ha 97 (tn b58) fun a ha=>qu ha 106 fun a ha=>qu ha 106 fun a ha=>qu ha 106 fun a ha=>qn ha 97 (tn b58) fun a ha=>qn ha 97 (tn b58) fun a ha=>qu ha 111 fun a ha=>qu ha 111 fun a ha=>qu ha 111 fun a ha=>qn ha 97 (tn b58) fun a ha=>qg ha 94 b57 (d_pick_t ha rfl b58 rfl) fun a ha=>q ha (d_pick_t ha rfl b57 rfl) fun a ha=>qa ha rfl fun a ha=>s_nil<|?_
          have hS : Has 118 [(6,(.bool true))] _:=ha.sub ⟨rfl,trivial⟩
          exact hk51 (true,w53) h _ hS
         ·refine qg ha 97 (nt b58) (d_move ha rfl) fun a ha=>?_
          obtain ⟨v59,w60,e61,h⟩:=h
          refine qg ha 97 (nt b58) (d_call (xs:=[_]) (vs:=[(.pointer v20)]) ha ⟨rfl,trivial⟩ Try.call38 (evlog_Log_High_ok e61)) fun a ha=>qg ha 97 (nt b58) (d_eq ha rfl rfl) fun a ha=>qg ha 97 (nt b58) (d_move ha rfl) fun a ha=>?_
          refine ite_n h (fun b62 h=>?_) (fun b62 h=>?_)
          ·refine qg ha 101 b62 (d_move ha rfl) fun a ha=>?_
           obtain ⟨v63,w64,e65,h⟩:=h
           refine qg ha 101 b62 (d_call (xs:=[_]) (vs:=[(.pointer v20)]) ha ⟨rfl,trivial⟩ Try.call39 (evlog_Log_Rel_ok e65)) fun a ha=>qg ha 101 b62 (d_eq ha rfl rfl) fun a ha=>qg ha 97 (nt b58) (d_pick_t ha rfl b62 rfl) fun a ha=>qg ha 97 (nt b58) (d_move ha rfl) fun a ha=>?_
           refine ite_n h (fun b66 h=>?_) (fun b66 h=>?_)
           ·refine qg ha 106 b66 (d_move ha rfl) fun a ha=>?_
            obtain ⟨v67,w68,e69,h⟩:=h
            refine qg ha 106 b66 (d_call (xs:=[_]) (vs:=[(.pointer v20)]) ha ⟨rfl,trivial⟩ Try.call40 (evlog_Log_Used_ok e69)) fun a ha=>qg ha 106 b66 (d_eq ha rfl rfl) fun a ha=>qg ha 97 (nt b58) (d_pick_t ha rfl b66 rfl) fun a ha=>qg ha 97 (nt b58) (d_move ha rfl) fun a ha=>?_
            refine ite_n h (fun b70 h=>?_) (fun b70 h=>?_)
            ·refine qg ha 111 b70 (d_move ha rfl) fun a ha=>?_
             obtain ⟨v71,w72,e73,h⟩:=h
             refine qg ha 111 b70 (d_call (xs:=[_]) (vs:=[(.pointer v20)]) ha ⟨rfl,trivial⟩ Try.call41 (evlog_Log_Sync_ok e73)) fun a ha=>qg ha 111 b70 (d_eq ha rfl rfl) fun a ha=>qg ha 97 (nt b58) (d_pick_t ha rfl b70 rfl) fun a ha=>qg ha 94 b57 (d_pick_f ha rfl b58 rfl) fun a ha=>q ha (d_pick_t ha rfl b57 rfl) fun a ha=>qa ha rfl fun a ha=>s_nil<|?_
             have hS : Has 118 [(6,(.bool (v71 == 10)))] _:=ha.sub ⟨rfl,trivial⟩
             exact hk51 ((v71 == 10),w72) h _ hS
            ·refine qn ha 111 (nn b70 _ rfl) fun a ha=>qn ha 111 (nn b70 _ rfl) fun a ha=>qn ha 111 (nn b70 _ rfl) fun a ha=>qg ha 97 (nt b58) (d_pick_f ha rfl b70 rfl) fun a ha=>qg ha 94 b57 (d_pick_f ha rfl b58 rfl) fun a ha=>q ha (d_pick_t ha rfl b57 rfl) fun a ha=>qa ha rfl fun a ha=>s_nil<|?_
             have hS : Has 118 [(6,(.bool false))] _:=ha.sub ⟨rfl,trivial⟩
             exact hk51 (false,w68) h _ hS
           ·refine qn ha 106 (nn b66 _ rfl) fun a ha=>qn ha 106 (nn b66 _ rfl) fun a ha=>qn ha 106 (nn b66 _ rfl) fun a ha=>qg ha 97 (nt b58) (d_pick_f ha rfl b66 rfl) fun a ha=>qg ha 97 (nt b58) (d_move ha rfl) fun a ha=>qn ha 111 (nn Bool.false_ne_true _ rfl) fun a ha=>qn ha 111 (nn Bool.false_ne_true _ rfl) fun a ha=>qn ha 111 (nn Bool.false_ne_true _ rfl) fun a ha=>qg ha 97 (nt b58) (d_pick_f ha rfl Bool.false_ne_true rfl) fun a ha=>qg ha 94 b57 (d_pick_f ha rfl b58 rfl) fun a ha=>q ha (d_pick_t ha rfl b57 rfl) fun a ha=>qa ha rfl fun a ha=>s_nil<|?_
            have hS : Has 118 [(6,(.bool false))] _:=ha.sub ⟨rfl,trivial⟩
            exact hk51 (false,w64) h _ hS
          ·refine qn ha 101 (nn b62 _ rfl) fun a ha=>qn ha 101 (nn b62 _ rfl) fun a ha=>qn ha 101 (nn b62 _ rfl) fun a ha=>qg ha 97 (nt b58) (d_pick_f ha rfl b62 rfl) fun a ha=>qg ha 97 (nt b58) (d_move ha rfl) fun a ha=>qn ha 106 (nn Bool.false_ne_true _ rfl) fun a ha=>qn ha 106 (nn Bool.false_ne_true _ rfl) fun a ha=>qn ha 106 (nn Bool.false_ne_true _ rfl) fun a ha=>qg ha 97 (nt b58) (d_pick_f ha rfl Bool.false_ne_true rfl) fun a ha=>qg ha 97 (nt b58) (d_move ha rfl) fun a ha=>qn ha 111 (nn Bool.false_ne_true _ rfl) fun a ha=>qn ha 111 (nn Bool.false_ne_true _ rfl) fun a ha=>qn ha 111 (nn Bool.false_ne_true _ rfl) fun a ha=>qg ha 97 (nt b58) (d_pick_f ha rfl Bool.false_ne_true rfl) fun a ha=>qg ha 94 b57 (d_pick_f ha rfl b58 rfl) fun a ha=>q ha (d_pick_t ha rfl b57 rfl) fun a ha=>qa ha rfl fun a ha=>s_nil<|?_
           have hS : Has 118 [(6,(.bool false))] _:=ha.sub ⟨rfl,trivial⟩
           exact hk51 (false,w60) h _ hS
        ·refine qn ha 94 (nn b57 _ rfl) fun a ha=>qn ha 94 (nn b57 _ rfl) fun a ha=>qn ha 94 (nn b57 _ rfl) fun a ha=>qu ha 97 fun a ha=>qu ha 97 fun a ha=>qu ha 97 fun a ha=>qu ha 97 fun a ha=>qu ha 101 fun a ha=>qu ha 101 fun a ha=>qu ha 101 fun a ha=>qu ha 97 fun a ha=>qu ha 97 fun a ha=>qu ha 106 fun a ha=>qu ha 106 fun a ha=>qu ha 106 fun a ha=>qu ha 97 fun a ha=>qu ha 97 fun a ha=>qu ha 111 fun a ha=>qu ha 111 fun a ha=>qu ha 111 fun a ha=>qu ha 97 fun a ha=>qn ha 94 (nn b57 _ rfl) fun a ha=>q ha (d_pick_f ha rfl b57 rfl) fun a ha=>qa ha rfl fun a ha=>s_nil<|?_
         have hS : Has 118 [(6,(.bool false))] _:=ha.sub ⟨rfl,trivial⟩
         exact hk51 (false,w53) h _ hS
       ·refine qn ha 90 (nn b56 _ rfl) fun a ha=>qn ha 90 (nn b56 _ rfl) fun a ha=>q ha (d_pick_f ha rfl b56 rfl) fun a ha=>qm ha rfl fun a ha=>qn ha 94 (nn Bool.false_ne_true _ rfl) fun a ha=>qn ha 94 (nn Bool.false_ne_true _ rfl) fun a ha=>qn ha 94 (nn Bool.false_ne_true _ rfl) fun a ha=>qu ha 97 fun a ha=>qu ha 97 fun a ha=>qu ha 97 fun a ha=>qu ha 97 fun a ha=>qu ha 101 fun a ha=>qu ha 101 fun a ha=>qu ha 101 fun a ha=>qu ha 97 fun a ha=>qu ha 97 fun a ha=>qu ha 106 fun a ha=>qu ha 106 fun a ha=>qu ha 106 fun a ha=>qu ha 97 fun a ha=>qu ha 97 fun a ha=>qu ha 111 fun a ha=>qu ha 111 fun a ha=>qu ha 111 fun a ha=>qu ha 97 fun a ha=>qn ha 94 (nn Bool.false_ne_true _ rfl) fun a ha=>q ha (d_pick_f ha rfl Bool.false_ne_true rfl) fun a ha=>qa ha rfl fun a ha=>s_nil<|?_
        have hS : Has 118 [(6,(.bool false))] _:=ha.sub ⟨rfl,trivial⟩
        exact hk51 (false,w53) h _ hS
      ·refine qn ha 86 (nn b55 _ rfl) fun a ha=>qn ha 86 (nn b55 _ rfl) fun a ha=>q ha (d_pick_f ha rfl b55 rfl) fun a ha=>qm ha rfl fun a ha=>qn ha 90 (nn Bool.false_ne_true _ rfl) fun a ha=>qn ha 90 (nn Bool.false_ne_true _ rfl) fun a ha=>q ha (d_pick_f ha rfl Bool.false_ne_true rfl) fun a ha=>qm ha rfl fun a ha=>qn ha 94 (nn Bool.false_ne_true _ rfl) fun a ha=>qn ha 94 (nn Bool.false_ne_true _ rfl) fun a ha=>qn ha 94 (nn Bool.false_ne_true _ rfl) fun a ha=>qu ha 97 fun a ha=>qu ha 97 fun a ha=>qu ha 97 fun a ha=>qu ha 97 fun a ha=>qu ha 101 fun a ha=>qu ha 101 fun a ha=>qu ha 101 fun a ha=>qu ha 97 fun a ha=>qu ha 97 fun a ha=>qu ha 106 fun a ha=>qu ha 106 fun a ha=>qu ha 106 fun a ha=>qu ha 97 fun a ha=>qu ha 97 fun a ha=>qu ha 111 fun a ha=>qu ha 111 fun a ha=>qu ha 111 fun a ha=>qu ha 97 fun a ha=>qn ha 94 (nn Bool.false_ne_true _ rfl) fun a ha=>q ha (d_pick_f ha rfl Bool.false_ne_true rfl) fun a ha=>qa ha rfl fun a ha=>s_nil<|?_
       have hS : Has 118 [(6,(.bool false))] _:=ha.sub ⟨rfl,trivial⟩
       exact hk51 (false,w53) h _ hS
   ·refine region_lit<|qm ha rfl fun a ha=>qm ha rfl fun a ha=>q ha (d_ne ha rfl rfl) fun a ha=>qm ha rfl fun a ha=>?_
    refine ite_n h (fun b32 h=>?_) (fun b32 h=>?_)
    ·refine qn ha 62 (tn b32) fun a ha=>qn ha 62 (tn b32) fun a ha=>qn ha 62 (tn b32) fun a ha=>qn ha 62 (tn b32) fun a ha=>qn ha 62 (tn b32) fun a ha=>q ha (d_pick_t ha rfl b32 rfl) fun a ha=>qm ha rfl fun a ha=>qn ha 69 (tn rfl) fun a ha=>qn ha 69 (tn rfl) fun a ha=>qn ha 69 (tn rfl) fun a ha=>q ha (d_pick_t ha rfl rfl rfl) fun a ha=>s_nil<|?_
     have hS : Has 118 [(73,(.bool true)),(1,(.int .i64 a1)),(2,(.int .i64 a2)),(7,(.pointer v3)),(11,(.pointer v20))] _:=ha.sub ⟨rfl,rfl,rfl,rfl,rfl,trivial⟩
     exact hk31 (true,w26) h _ hS
    ·refine qg ha 62 (nt b32) (d_move ha rfl) fun a ha=>qg ha 62 (nt b32) (d_eqN ha rfl rfl Try.runUnderlying64) fun a ha=>qg ha 62 (nt b32) (d_move ha rfl) fun a ha=>qg ha 62 (nt b32) (d_eqN ha rfl rfl Try.runUnderlying67) fun a ha=>qg ha 62 (nt b32) (d_neB ha rfl rfl Try.runUnderlying4) fun a ha=>q ha (d_pick_f ha rfl b32 rfl) fun a ha=>qm ha rfl fun a ha=>?_
     refine ite_n h (fun b33 h=>?_) (fun b33 h=>?_)
     ·refine qn ha 69 (tn b33) fun a ha=>qn ha 69 (tn b33) fun a ha=>qn ha 69 (tn b33) fun a ha=>q ha (d_pick_t ha rfl b33 rfl) fun a ha=>s_nil<|?_
      have hS : Has 118 [(73,(.bool true)),(1,(.int .i64 a1)),(2,(.int .i64 a2)),(7,(.pointer v3)),(11,(.pointer v20))] _:=ha.sub ⟨rfl,rfl,rfl,rfl,rfl,trivial⟩
      exact hk31 (true,w26) h _ hS
     ·refine qg ha 69 (nt b33) (d_move ha rfl) fun a ha=>?_
      obtain ⟨v34,w35,e36,h⟩:=h
      refine qg ha 69 (nt b33) (d_call (xs:=[_]) (vs:=[(.pointer v3)]) ha ⟨rfl,trivial⟩ Try.call34 (sector_Disk_Waits_ok e36)) fun a ha=>qg ha 69 (nt b33) (d_ne ha rfl rfl) fun a ha=>q ha (d_pick_f ha rfl b33 rfl) fun a ha=>s_nil<|?_
      have hS : Has 118 [(73,(.bool (v34 != 0))),(1,(.int .i64 a1)),(2,(.int .i64 a2)),(7,(.pointer v3)),(11,(.pointer v20))] _:=ha.sub ⟨rfl,rfl,rfl,rfl,rfl,trivial⟩
      exact hk31 ((v34 != 0),w35) h _ hS
 ·refine region_lit<|qm ha rfl fun a ha=>q ha (d_ne ha rfl rfl) fun a ha=>qm ha rfl fun a ha=>?_
  refine ite_n h (fun b17 h=>?_) (fun b17 h=>?_)
  ·refine qn ha 37 (tn b17) fun a ha=>qn ha 37 (tn b17) fun a ha=>q ha (d_pick_t ha rfl b17 rfl) fun a ha=>qm ha rfl fun a ha=>qn ha 41 (tn rfl) fun a ha=>qn ha 41 (tn rfl) fun a ha=>q ha (d_pick_t ha rfl rfl rfl) fun a ha=>s_nil<|?_
   have hS : Has 118 [(44,(.bool true)),(1,(.int .i64 a1)),(2,(.int .i64 a2)),(7,(.pointer v3)),(9,(.pointer v9))] _:=ha.sub ⟨rfl,rfl,rfl,rfl,rfl,trivial⟩
   exact hk16 (true,w11) h _ hS
  ·refine qg ha 37 (nt b17) (d_move ha rfl) fun a ha=>qg ha 37 (nt b17) (d_ne ha rfl rfl) fun a ha=>q ha (d_pick_f ha rfl b17 rfl) fun a ha=>qm ha rfl fun a ha=>?_
   refine ite_n h (fun b18 h=>?_) (fun b18 h=>?_)
   ·refine qn ha 41 (tn b18) fun a ha=>qn ha 41 (tn b18) fun a ha=>q ha (d_pick_t ha rfl b18 rfl) fun a ha=>s_nil<|?_
    have hS : Has 118 [(44,(.bool true)),(1,(.int .i64 a1)),(2,(.int .i64 a2)),(7,(.pointer v3)),(9,(.pointer v9))] _:=ha.sub ⟨rfl,rfl,rfl,rfl,rfl,trivial⟩
    exact hk16 (true,w11) h _ hS
   ·refine qg ha 41 (nt b18) (d_move ha rfl) fun a ha=>qg ha 41 (nt b18) (d_eqN ha rfl rfl Try.runUnderlying57) fun a ha=>q ha (d_pick_f ha rfl b18 rfl) fun a ha=>s_nil<|?_
    have hS : Has 118 [(44,(.bool (v3.isNone))),(1,(.int .i64 a1)),(2,(.int .i64 a2)),(7,(.pointer v3)),(9,(.pointer v9))] _:=ha.sub ⟨rfl,rfl,rfl,rfl,rfl,trivial⟩
    exact hk16 ((v3.isNone),w11) h _ hS
theorem new_read (m : Nat) (i : Int) : ((Dk.new m).read i).1 = List.replicate 64 0∨((Dk.new m).read i).1 = []:=by
 unfold Dk.read
 rw [if_neg (by simp [Dk.new])]
 split
 ·exact .inr rfl
 ·left
  rename_i hb
  simp only [Dk.bad,Dk.new,List.length_replicate,Bool.or_eq_true,decide_eq_true_eq,not_or,Int.not_lt,Int.not_le] at hb
  simp only [Dk.cur,Dk.new,List.foldl_nil]
  rw [List.getD_eq_getElem?_getD,List.getElem?_replicate,if_pos (by omega)]
  rfl
theorem new_head (m : Nat) (base pos i : Int) (p : Int) : headL p ((Dk.new m).look base pos i) = none:=by
 unfold Dk.look
 rcases new_read m (base + 2 + pos * 16 + i) with h | h <;> rw [h] <;> unfold headL <;> rw [if_neg (by decide)]
theorem new_get (m : Nat) (base : Int) : ((Dk.new m).get base 1 0).1 = 0:=by
 have h0 : ∀ i : Int,whole ((Dk.new m).read i).1 = (0,0,false):=fun i=>by
  rcases new_read m i with h | h <;> rw [h] <;> kernel_rfl
 unfold Dk.get Dk.found
 rw [if_neg (by omega),h0,h0]
 rfl
theorem new_open (m : Nat) (base segs : Int) : (Dk.new m).openL base segs = if logC m base segs = true then (0,Dk.new m,some ⟨base,segs,0,0,0,[]⟩) else (2,Dk.new m,none):=by
 have hh : (Dk.new m).heads base segs.toNat = []:=by
  unfold Dk.heads
  rw [List.filterMap_eq_nil_iff]
  intro k hk
  exact new_head m base k 0 k
 have hr : (Dk.new m).readL base segs = ⟨base,segs,0,0,0,[]⟩:=by
  unfold Dk.readL
  rw [hh,new_get]
  rfl
 have hl : (Dk.new m).S.length = m:=by simp [Dk.new]
 unfold Dk.openL
 rw [if_neg (by simp [Dk.new]),hl]
 split
 ·rw [hr]; rfl
 ·rfl
theorem EvlogOpens_law {w : World} (n : Int) (_ : (Lit.int .i64 n).wf = true) (at_ : Int) (_ : (Lit.int .i64 at_).wf = true) (many : Int) (hm : (Lit.int .i64 many).wf = true) :
  (grapevinelaw11_EvlogOpens n at_ many w).t fun r=>r.1 = true∧Fr (fun k=>w.heap.size≤k) w r.2:=by
 have H : Hp (fun _=>False) (fun _=>False) w (fun _=>False) w []:=Hp.beg (fun k hk=>hk.elim)
 have hmr:=i64_range hm
 obtain ⟨v,hv,hv0,hv1⟩ : ∃ v,rmI (IntKind.wrap .u64 n) 300 = some v∧0≤v∧v < 300:=by
  have hu : 0≤IntKind.wrap .u64 n:=by rw [wrap_u64]; omega
  exact ⟨(IntKind.wrap .u64 n) % 300,by unfold rmI; rw [if_neg (by decide),Int.tmod_eq_emod_of_nonneg hu],Int.emod_nonneg _ (by decide),Int.emod_lt_of_pos _ (by decide)⟩
 have hw : IntKind.wrap .i64 (1 + IntKind.wrap .i64 v) = 1 + v:=by rw [wr64 (x:=v) (by omega) (by omega),wr64 (by omega) (by omega)]
 obtain ⟨x,w1,e1,H1,m1⟩:=H.dnew (m:=1 + v) (by omega) (by omega)
 obtain ⟨y,g2,w2,e2,H2,m2⟩:=H1.rnew (m:=1 + v) (by omega) (by omega)
 obtain ⟨k,hk⟩ : ∃ k,(1 + v).toNat = k:=⟨_,rfl⟩
 rw [hk] at H1 H2
 have hop:=new_open k at_ many
 have hbt:=new_bt k
 have hW0 : (Dk.new k).W.length = 0:=rfl
 unfold grapevinelaw11_EvlogOpens
 refine Nd.b1 hv (Nd.b3 (by rw [hw]; exact e1) (Nd.b1 hv (Nd.b3 (by rw [hw]; exact e2) (Nd.j2 (Ψ:=fun r=>r = (false,w2)) (Nd.f (by decide) (Nd.f (by decide) (Nd.ret rfl))) ?_))))
 rintro _ _ he; cases he
 -- both are opened
 refine Nd.f (by simp) (Nd.j3 (Ψ:=fun r=>∃ g' o,r.1 = o.map (fun p=>⟨p,0,none⟩)∧r.2.1 = (if logC k at_ many = true then 0 else 2)∧(if logC k at_ many = true then ∃ p,o = some p∧Hp (fun _=>False) (fun _=>False) w g' r.2.2 [lgR p x ⟨at_,many,0,0,0,[]⟩,dkR x (Dk.new k),rdR y (Dk.new k)] else o = none∧Hp (fun _=>False) (fun _=>False) w g' r.2.2 [dkR x (Dk.new k),rdR y (Dk.new k)]))
  (eopen_ok (H2.sw) hbt (by omega) hmr fun g' w' o ho m'=>?_) ?_)
 ·rw [hop] at ho ⊢
  refine ⟨g',o,rfl,?_,?_⟩
  ·split <;> rfl
  ·split
   ·rename_i hc
    rw [if_pos hc] at ho
    exact ho
   ·rename_i hc
    rw [if_neg hc] at ho
    exact ho
 rintro o3 e3 w3 ⟨g3,o,rfl,rfl,h3⟩
 simp only at h3
 -- the document's
 have hopen2 : ∀ {L : List Rs} {g3 : Gh},Hp (fun _=>False) (fun _=>False) w g3 w3 (rdR y (Dk.new k) :: L)→(grapevineref11_Open (some ⟨y,0,none⟩) at_ many w3).t fun r=>∃ (g' : Gh) (o : Option Nat),r.1 = o.map (fun p=>(⟨p,0,none⟩ : Addr))∧o.isNone = (!logC k at_ many)∧r.2.1 = (if logC k at_ many = true then 0 else 2)∧Hp (fun _=>False) (fun _=>False) w g' r.2.2 L:=fun Hx=>by
  refine ropenL_ok Hx hbt (by omega) hmr fun g' w' o ho m'=>?_
  rw [hop] at ho ⊢
  by_cases hc : logC k at_ many = true
  ·rw [if_pos hc] at ho ⊢
   obtain ⟨q,rfl,H'⟩:=ho
   exact ⟨g',some q,rfl,by rw [hc]; rfl,by rw [if_pos hc],H'.tl.tl⟩
  ·rw [if_neg hc] at ho ⊢
   obtain ⟨rfl,H'⟩:=ho
   exact ⟨g',none,rfl,by rw [show logC k at_ many = false by simpa using hc]; rfl,by rw [if_neg hc],H'.tl⟩
 -- what follows
 have tail : ∀ (o : Option Nat) (g4 : Gh) (w4 : World),o.isNone = (!logC k at_ many)→(match o with | some p=>Hp (fun _=>False) (fun _=>False) w g4 w4 [dkR x (Dk.new k),lgR p x ⟨at_,many,0,0,0,[]⟩] | none=>Hp (fun _=>False) (fun _=>False) w g4 w4 [dkR x (Dk.new k)])→∀ (o' : Option Nat),o'.isNone = (!logC k at_ many) →
   (cb2 (if ((if logC k at_ many = true then (0 : Int) else 2) != (if logC k at_ many = true then 0 else 2)) = true then (nret (true,w4)) else (if (((o.map fun p=>(⟨p,0,none⟩ : Addr)).isNone) != ((o'.map fun p=>(⟨p,0,none⟩ : Addr)).isNone)) = true then (nret (true,w4)) else (lb2 (sector_Disk_Waits (some ⟨x,0,none⟩) w4) fun v34 w35=>nret ((v34 != 0),w35)))) fun v28 w29 =>
    if v28 = true then (nret (false,w29)) else
    (lb2 (sector_Disk_Trip (some ⟨x,0,none⟩) 1 w29) fun v38 w39=>lb2 (sector_Disk_Sync (some ⟨x,0,none⟩) w39) fun v41 w42=>cb3 (evlog_Open (some ⟨x,0,none⟩) at_ many w42) fun v44 v45 w46 =>
    cb2 (cb2 (grapevinelaw11_live w46) fun v52 w53=>if v52 = true then (if (v44.isNone) = true then (if (v45 == 10) = true then (if ((o.map fun p=>(⟨p,0,none⟩ : Addr)).isNone) = true then (nret (true,w53)) else
    (lb2 (evlog_Log_High (o.map fun p=>(⟨p,0,none⟩ : Addr)) w53) fun v59 w60=>if (v59 == 0) = true then (lb2 (evlog_Log_Rel (o.map fun p=>(⟨p,0,none⟩ : Addr)) w60) fun v63 w64=>if (v63 == 0) = true then (lb2 (evlog_Log_Used (o.map fun p=>(⟨p,0,none⟩ : Addr)) w64) fun v67 w68=>if (v67 == 0) = true then (lb2 (evlog_Log_Sync (o.map fun p=>(⟨p,0,none⟩ : Addr)) w68) fun v71 w72=>nret ((v71 == 10),w72)) else (nret (false,w68))) else (nret (false,w64))) else (nret (false,w60)))) else (nret (false,w53))) else (nret (false,w53))) else (nret (false,w53))) fun v48 w49=>nret (v48,w49))).t fun r=>r.1 = true∧Fr (fun k=>w.heap.size≤k) w r.2:=fun o g4 w4 hon Ho o' hon'=>by
  obtain ⟨Lx,H4⟩ : ∃ Lx,Hp (fun _=>False) (fun _=>False) w g4 w4 (dkR x (Dk.new k) :: Lx)∧Lx = (match o with | some p=>[lgR p x ⟨at_,many,0,0,0,[]⟩] | none=>[]):=by cases o with
   | none=>exact ⟨_,Ho,rfl⟩
   | some p=>exact ⟨_,Ho,rfl⟩
  obtain ⟨H4,hLx⟩:=H4
  have hin : ((o.map fun p=>(⟨p,0,none⟩ : Addr)).isNone) = ((o'.map fun p=>(⟨p,0,none⟩ : Addr)).isNone):=by rw [Option.isNone_map,Option.isNone_map,hon,hon']
  refine Nd.j2 (Ψ:=fun r=>r = (false,w4)) (Nd.f (by simp) (Nd.f (by rw [hin]; simp) (Nd.b2 H4.dwaits (Nd.ret rfl)))) ?_
  rintro _ _ he; cases he
  obtain ⟨w5,e5,H5,m5⟩:=H4.dtrip (m:=1) (by decide)
  obtain ⟨w6,e6,H6,m6⟩:=H5.dsync (by have:=(trip_S (Dk.new k) 1).2; rw [this]; simp [Dk.new])
  obtain ⟨E,hE⟩ : ∃ E,((Dk.new k).trip 1).2.sync.2 = E:=⟨_,rfl⟩
  have hEd : E.down = true∧E.age = 0∧E.W = []∧E.S = (Dk.new k).S:=by rw [← hE]; exact ⟨rfl,rfl,rfl,rfl⟩
  rw [hE] at H6
  have hEb : E.Bt:=⟨by rw [hEd.2.2.2]; exact hbt.s,by rw [hEd.2.2.1]; intro x hx; cases hx⟩
  have hEo : E.openL at_ many = (10,E,none):=by unfold Dk.openL; rw [if_pos hEd.1]
  refine Nd.f (by simp) (Nd.b2 e5 (Nd.b2 e6 (Nd.j3 (Ψ:=fun r=>r.1 = none∧r.2.1 = 10∧∃ g',Hp (fun _=>False) (fun _=>False) w g' r.2.2 (dkR x E :: Lx)) (eopen_ok H6 hEb (by rw [hEd.2.2.1]; decide) hmr fun g' w' o ho m'=>?_) ?_)))
  ·rw [hEo] at ho ⊢
   obtain ⟨rfl,H'⟩:=ho
   exact ⟨rfl,rfl,g',H'⟩
  rintro _ _ w7 ⟨rfl,rfl,g7,H7⟩
  refine Nd.j2 (Ψ:=fun r=>r.1 = true∧Fr (fun k=>w.heap.size≤k) w r.2) ?_ (fun a b h=>Nd.ret h)
  refine Nd.j2 (Ψ:=fun r=>r.1 = true∧∃ g',Hp (fun _=>False) (fun _=>False) w g' r.2 (dkR x E :: Lx)) (live11_ok H7 fun g' w' H' m'=>⟨rfl,g',H'⟩) ?_
  rintro _ w8 ⟨rfl,g8,H8⟩
  refine Nd.t rfl (Nd.t rfl (Nd.t (by decide) ?_))
  cases o with
  | none=>exact Nd.t rfl (Nd.ret ⟨rfl,H8.fin⟩)
  | some p =>
   simp only at hLx
   subst hLx
   have hbad : E.badL ⟨at_,many,0,0,0,[]⟩ = 10:=by unfold Dk.badL; rw [if_neg (by rw [hEd.2.1]; simp),if_pos hEd.1]
   obtain ⟨w9,e9,H9,m9⟩:=esync_ok H8.sw (by rw [hEd.2.2.1]; decide)
   have hs : (E.syncL ⟨at_,many,0,0,0,[]⟩).1 = 10:=by unfold Dk.syncL; rw [if_pos (by rw [hbad]; decide),hbad]
   rw [hs] at e9
   exact Nd.f (by simp) (Nd.b2 (high_ok H8.sw) (Nd.t rfl (Nd.b2 (rel_ok H8.sw) (Nd.t rfl (Nd.b2 (used_ok H8.sw) (Nd.t rfl (Nd.b2 e9 (Nd.ret ⟨rfl,H9.fin⟩))))))))
 by_cases hc : logC k at_ many = true
 ·rw [if_pos hc] at h3
  obtain ⟨p,rfl,H3⟩:=h3
  refine Nd.j3 (hopen2 H3.m2) ?_
  rintro _ _ w4 ⟨g4,o',rfl,ho',rfl,H4⟩
  exact tail (some p) g4 w4 (by rw [hc]; rfl) H4.sw o' ho'
 ·rw [if_neg hc] at h3
  obtain ⟨rfl,H3⟩:=h3
  refine Nd.j3 (hopen2 H3.sw) ?_
  rintro _ _ w4 ⟨g4,o',rfl,ho',rfl,H4⟩
  exact tail none g4 w4 (by rw [show logC k at_ many = false by simpa using hc]; rfl) H4 o' ho'
end Go.Proofs.Ytejkaciimmfgcaa.D
