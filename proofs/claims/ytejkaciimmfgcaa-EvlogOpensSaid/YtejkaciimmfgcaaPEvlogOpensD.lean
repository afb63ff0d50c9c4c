/- Texts of this project that the claim of EvlogOpens uses, put together by pack.py: Ev, Fresh, App, Bt, Chop, Events, Cut, FnL0, Live11, FnG0, FnN0. -/
import Derived.Test.YtejkaciimmfgcaaPEvlogOpensA
import Derived.Test.YtejkaciimmfgcaaPEvlogOpensB
import Derived.Test.YtejkaciimmfgcaaPEvlogOpensC
namespace Go.Proofs.Ytejkaciimmfgcaa.D
open Go
set_option linter.unusedVariables false
set_option linter.unusedSimpArgs false
def RRd (w : World) (z : Sl) (es : List (Int×List Int)) : Prop:=∃ oz : List (Int×Sl),Rd w z 2 (oz.flatMap rcF)∧oz.length = es.length∧∀ (j : Nat) (r : Int×Sl) (q : Int×List Int),oz[j]? = some r→es[j]? = some q→r.1 = q.1∧Rd w r.2 1 (nums .u8 q.2)
def rcoR (z : Sl) (es : List (Int×List Int)) : Rs:=packR (fun oz : List (Int×Sl)=>owR 87 2 z (oz.flatMap rcF) :: List.zipWith (fun r q=>owR 5 1 r.2 (nums .u8 q.2)) oz es) fun oz=>oz.length = es.length∧∀ (j : Nat) (r : Int×Sl) (q : Int×List Int),oz[j]? = some r→es[j]? = some q→r.1 = q.1
section
variable {F0 : Nat → Prop} {g g0 : Gh} {w w' w0 : World} {L : List Rs} {s z y : Sl} {x c p : Nat} {D : Dk} {base segs t : Int} {dz : List (Sg × Sl)} {l : Lg} {rs es : List (Int × List Int)} {b : List Int}
theorem RcL.n (h : RcL g w z rs) : rs.length = z.n:=by
 obtain ⟨rz,h1,h2⟩:=h
 have:=h1.rd.len
 rw [fl_len rcF_len,h2.1] at this
 omega
theorem RRd.n (h : RRd w z rs) : rs.length = z.n:=by
 obtain ⟨rz,h1,h2,_⟩:=h
 have:=h1.len
 rw [fl_len rcF_len,h2] at this
 omega
theorem RRd.at_ (h : RRd w z rs) {j : Nat} {q : Int×List Int} (hq : rs[j]? = some q) : ∃ a zb,ix z (j : Int) 2 = some a∧ldA 2 w a 0 = some (rcC q.1 zb)∧ldI .i64 w (a.add 0) = some q.1∧ldL w (a.add 1) = some zb∧Rd w zb 1 (nums .u8 q.2):=by
 have hn:=h.n
 obtain ⟨rz,h1,h2,h3⟩:=h
 have hj : j < rs.length:=(List.getElem?_eq_some_iff.1 hq).1
 obtain ⟨a,ea,la,ca,_⟩:=rd_at (i:=j) h1 (by omega)
 have hr : rz[j]? = some rz[j]:=List.getElem?_eq_getElem (by omega)
 obtain ⟨e1,e2⟩:=h3 j _ q hr hq
 have hch:=chunk (f:=rcF) (sz:=2) rz j rcF_len (by omega)
 rw [hch] at la
 have hg : ∀ k v,k < 2→(rcF rz[j])[k]? = some v→w.cell? (a.add k) = some v:=fun k v hk hv=>ca k v hk (by rw [fl_get rcF_len hr hk]; exact hv)
 refine ⟨a,rz[j].2,ea,by rw [la]; unfold rcF; rw [e1],ldI_cell (hg 0 _ (by decide) ?_),ldL_cell (hg 1 _ (by decide) rfl),e2⟩
 rw [← e1]; rfl
theorem RRd.fr (h : RRd w z rs) (f : ∀ a,w'.cell? a = w.cell? a) : RRd w' z rs:=by
 have hr : ∀ {s : Sl} {sz : Nat} {cs : List Value},Rd w s sz cs→Rd w' s sz cs:=fun h=>⟨h.len,fun hn=>by obtain ⟨a,e,hc⟩:=h.at_ hn; exact ⟨a,e,fun j v hv=>by rw [f]; exact hc j v hv⟩⟩
 obtain ⟨rz,h1,h2,h3⟩:=h
 exact ⟨rz,hr h1,h2,fun j r q hr' hq=>⟨(h3 j r q hr' hq).1,hr (h3 j r q hr' hq).2⟩⟩
theorem same_ok (h1 : RRd w z es) (h2 : RRd w y es) (hn : es.length≤100000) : ∃ w',grapevineref11_Same z y w = some (true,w')∧(∀ a,w'.cell? a = w.cell? a)∧∀ S,Fr S w w':=by
 have n1:=h1.n
 have n2:=h2.n
 have lp:=Ex.loop (step:=fun r : Int×World=>grapevineref11_Same_l1 z y r.1 r.2) (Φ:=fun o=>∃ w',o = .inl w'∧(∀ a,w'.cell? a = w.cell? a)∧∀ S,Fr S w w')
  (fun m r=>∃ (j : Nat) (w1 : World),r = ((j : Int),w1)∧m + j = es.length∧(∀ a,w1.cell? a = w.cell? a)∧∀ S,Fr S w w1) (fun m r hI=>by
   obtain ⟨j,w1,rfl,hm,hc,hf⟩:=hI
   unfold grapevineref11_Same_l1
   by_cases hj : j < es.length
   ·obtain ⟨w2,e2,_,g2,_,c2⟩:=dr_s (w:=w1)
    have hc2 : ∀ a,w2.cell? a = w.cell? a:=fun a=>(c2 a).trans (hc a)
    have hq : es[j]? = some es[j]:=List.getElem?_eq_getElem hj
    obtain ⟨a,za,a1,-,a3,a4,a5⟩:=(h1.fr hc2).at_ hq
    obtain ⟨b,zb,b1,-,b3,b4,b5⟩:=(h2.fr hc2).at_ hq
    refine Ex.t (by simp; omega) (Ex.b2 (a:=false) (b:=w2) ?_ (Ex.f (by simp) (Ex.ret ⟨m - 1,by omega,j + 1,w2,by rw [wrap_nat (by omega)],by omega,hc2,fun S=>(hf S).trans ((g2 w1.heap.size S).fr)⟩)))
    rw [e2,Option.bind_some,a1,Option.bind_some,a3,Option.bind_some,b1,Option.bind_some,b3,Option.bind_some,if_neg (by simp),Option.bind_some,a4,Option.bind_some,b2s_Rd a5,Option.bind_some,Option.bind_some,b4,Option.bind_some,b2s_Rd b5,Option.bind_some,sEq_self]; rfl
   ·exact Ex.f (by simp; omega) (Ex.ret ⟨w1,rfl,hc,hf⟩)) es.length (((0 : Nat) : Int),w) ⟨0,w,rfl,by omega,fun _=>rfl,fun _=>Fr.refl⟩
 obtain ⟨o,e,w',rfl,hc,hf⟩:=lp
 have e' : loopF (fun r : Int×World=>grapevineref11_Same_l1 z y r.1 r.2) (0,w) = some (.inl w'):=e
 refine ⟨w',?_,hc,hf⟩
 unfold grapevineref11_Same
 rw [if_neg (by simp; omega),e',Option.bind_some]
 rfl
theorem ebad_ok (H : Hp F0 g0 w0 g w (lgR p x l :: dkR x D :: L)) : ∃ w',evlog_Log_bad (some ⟨p,0,none⟩) w = some (D.badL l,w')∧Hp F0 g0 w0 g w' (lgR p x l :: dkR x D :: L)∧Mo g w g w':=by
 obtain ⟨w1,e1,H1,m1⟩:=H.dr
 obtain ⟨c,s,dz,-,-,-,H1'⟩:=H1.lgo
 have l0 : ldP w1 ⟨p,0,none⟩ = some (some ⟨x,0,none⟩):=H1'.ldP rfl
 have l4 : ldI .i64 w1 ⟨p,4,none⟩ = some l.age:=H1'.ldI rfl
 refine ⟨w1,?_,H1,m1⟩
 unfold evlog_Log_bad Dk.badL
 rw [if_neg (by simp),e1,Option.bind_some,Option.bind_some,add_mk,Nat.zero_add,l0,Option.bind_some,H1.sw.dage,bind2_some,add_mk,Nat.zero_add,l4,Option.bind_some,chk_pos rfl]
 by_cases ha : D.age = l.age
 ·rw [if_neg (by simpa using ha),if_neg (by simpa using ha),l0,Option.bind_some,H1.sw.ddown,bind2_some]
  by_cases hd : D.down = true
  ·rw [if_pos hd,if_pos hd]
  ·rw [if_neg hd,if_neg hd]
 ·rw [if_pos (by simpa using ha),if_pos (by simpa using ha)]
theorem high_ok (H : Hp F0 g0 w0 g w (lgR p x l :: L)) : evlog_Log_High (some ⟨p,0,none⟩) w = some (l.high,w):=by
 obtain ⟨c,s,dz,-,-,-,H1⟩:=H.lgo
 have l0 : ldI .i64 w ⟨p,5,none⟩ = some l.high:=H1.ldI rfl
 unfold evlog_Log_High
 rw [if_neg (by simp),Option.bind_some,add_mk,Nat.zero_add,l0,Option.bind_some]
theorem rel_ok (H : Hp F0 g0 w0 g w (lgR p x l :: L)) : evlog_Log_Rel (some ⟨p,0,none⟩) w = some (l.rel,w):=by
 obtain ⟨c,s,dz,-,-,-,H1⟩:=H.lgo
 have l0 : ldI .i64 w ⟨p,6,none⟩ = some l.rel:=H1.ldI rfl
 unfold evlog_Log_Rel
 rw [if_neg (by simp),Option.bind_some,add_mk,Nat.zero_add,l0,Option.bind_some]
theorem used_ok (H : Hp F0 g0 w0 g w (lgR p x l :: L)) : evlog_Log_Used (some ⟨p,0,none⟩) w = some ((l.used.length : Int),w):=by
 obtain ⟨c,s,dz,h1,-,-,H1⟩:=H.lgo
 have l0 : ldL w ⟨p,7,none⟩ = some s:=H1.ldL rfl
 have hs : dz.length = s.n:=by have:=H1.sw.ow.len; rw [fl_len sgF_len] at this; omega
 have hl : l.used.length = s.n:=by rw [← h1]; simpa using hs
 unfold evlog_Log_Used
 rw [if_neg (by simp),Option.bind_some,add_mk,Nat.zero_add,l0,Option.bind_some,hl]
theorem esync_ok (H : Hp F0 g0 w0 g w (lgR p x l :: dkR x D :: L)) (hbd : D.W.length < 900000) : ∃ w',evlog_Log_Sync (some ⟨p,0,none⟩) w = some ((D.syncL l).1,w')∧Hp F0 g0 w0 g w' (lgR p x l :: dkR x (D.syncL l).2 :: L)∧Mo g w g w':=by
 obtain ⟨w1,e1,H1,m1⟩:=ebad_ok H
 unfold evlog_Log_Sync Dk.syncL
 rw [e1,bind2_some]
 by_cases hb : D.badL l = 0
 ·obtain ⟨c,s,dz,-,-,-,H1'⟩:=H1.lgo
  have l0 : ldP w1 ⟨p,0,none⟩ = some (some ⟨x,0,none⟩):=H1'.ldP rfl
  obtain ⟨w2,e2,H2,m2⟩:=H1.sw.dsync (by omega)
  refine ⟨w2,?_,?_,m1.t m2⟩
  ·rw [if_neg (by simp [hb]),if_neg (by simp [hb]),Option.bind_some,add_mk,Nat.zero_add,l0,Option.bind_some,e2,bind2_some]
  ·rw [if_neg (by simp [hb])]; exact H2.sw
 ·exact ⟨w1,by rw [if_pos (by simpa using hb),if_pos (by simpa using hb)],by rw [if_pos (by simpa using hb)]; exact H1,m1⟩
theorem clone8_ok (H : Hp F0 g0 w0 g w L) (h : Rd w y 1 (nums .u8 b)) (hn : b.length≤100000) : ∃ z w',slices_Clone_byte_byte y w = some (z,w')∧Hp F0 g0 w0 g w' (owR 5 1 z (nums .u8 b) :: L)∧Mo g w g w':=by
 have hl : b.length = y.n:=by have:=h.len; simpa using this
 unfold slices_Clone_byte_byte
 cases hp : y.p with
 | none =>
  have : b = []:=by
   apply List.eq_nil_of_length_eq_zero
   rcases Nat.eq_zero_or_pos y.n with h0 | h0
   ·omega
   ·obtain ⟨a,e,_⟩:=h.at_ h0; rw [hp] at e; cases e
  subst this
  exact ⟨Sl.nil,w,by simp,H.onil,Mo.r⟩
 | some a =>
  obtain ⟨z1,w1,e1,n1,_,H1,m1⟩:=H.bsl (T:=5) (sz:=1) (ps:=[]) (by intro p hp; cases hp) (by simp)
  have h1 : Rd w1 y 1 (nums .u8 b):=by
   obtain ⟨g',w',e',-,-,-⟩ : ∃ g' w',bsl w 5 1 [] = some (z1,w')∧True∧True∧True:=⟨g,w1,e1,trivial,trivial,trivial⟩
   exact h.fr (S:=fun _=>False) (by obtain ⟨w2,e2,n2⟩:=bsl_s (w:=w) (T:=5) (sz:=1) (ps:=[]) (by intro p hp; cases hp); rw [e1] at e2; cases e2; exact (n2.fr _ _ (Nat.le_refl _)).fr) (fun _ _ _ h=>h)
  obtain ⟨z2,w2,e2,n2,H2,m2⟩:=H1.apS st29 h1 nums_one (by rw [n1]; simp; omega)
  refine ⟨z2,w2,?_,by simpa using H2,m1.t m2⟩
  rw [if_neg (by simp),e1,bind2_some,e2,bind2_some]
theorem rcoR_nil (H : Hp F0 g0 w0 g w (owR 87 2 z [] :: L)) : Hp F0 g0 w0 g w (rcoR z [] :: L) :=
 Hp.pack (i:=([] : List (Int×Sl))) ⟨rfl,fun j r q hr=>by simp at hr⟩ H
theorem zipW_snoc {α β γ : Type} {f : α→β→γ} {a : α} {b : β} : ∀ {l : List α} {m : List β},l.length = m.length→List.zipWith f (l ++ [a]) (m ++ [b]) = List.zipWith f l m ++ [f a b]
 | [],[],_=>rfl
 | x :: l,y :: m,h=>by simp [zipW_snoc (l:=l) (m:=m) (by simpa using h)]
 | [],y :: m,h=>by cases h
 | x :: l,[],h=>by cases h
theorem rcoR_snoc {zb : Sl} {y : Sl} (H : Hp F0 g0 w0 g w (owR 5 1 zb (nums .u8 b) :: rcoR z es :: L)) (hy : Rd w y 2 (rcC t zb)) (hn : es.length≤100000) :
  ∃ z' w',apS Try.prog 74 z y w = some (z',w')∧z'.n = z.n + 1∧Hp F0 g0 w0 g w' (rcoR z' (es ++ [(t,b)]) :: L)∧Mo g w g w':=by
 obtain ⟨oz,⟨h1,h2⟩,H1⟩:=H.sw.unpack
 have hyn : y.n = 1:=by have:=hy.len; simp [rcC] at this; omega
 have hzn : oz.length = z.n:=by have:=Hp.ow (L:=List.zipWith (fun r q=>owR 5 1 r.2 (nums .u8 q.2)) oz es ++ owR 5 1 zb (nums .u8 b) :: L) H1; have:=this.len; rw [fl_len rcF_len] at this; omega
 obtain ⟨z',w',e,n,H2,m⟩:=Hp.apS (L:=List.zipWith (fun r q=>owR 5 1 r.2 (nums .u8 q.2)) oz es ++ owR 5 1 zb (nums .u8 b) :: L) stRec H1 hy rcC_one (by omega)
 refine ⟨z',w',e,by omega,?_,m⟩
 refine Hp.pack (i:=oz ++ [(t,zb)]) ⟨by simp [h1],fun j r q hr hq=>?_⟩ ?_
 ·by_cases hj : j < oz.length
  ·rw [List.getElem?_append_left hj] at hr
   rw [List.getElem?_append_left (by omega)] at hq
   exact h2 j r q hr hq
  ·rw [List.getElem?_append_right (by omega)] at hr
   rw [List.getElem?_append_right (by omega)] at hq
   have h0 : j - oz.length = 0:=by have:=(List.getElem?_eq_some_iff.1 hr).1; simp at this; omega
   rw [h0] at hr
   rw [← h1,h0] at hq
   simp at hr hq
   subst hr; subst hq; rfl
 ·rw [show (oz ++ [(t,zb)]).flatMap rcF = oz.flatMap rcF ++ rcC t zb by simp [rcF],zipW_snoc h1,List.cons_append,List.append_assoc]
  exact H2
theorem rcoR_rd (H : Hp F0 g0 w0 g w (rcoR z es :: L)) : RRd w z es:=by
 obtain ⟨oz,⟨h1,h2⟩,H1⟩:=H.unpack
 refine ⟨oz,(Hp.ow (L:=List.zipWith (fun r q=>owR 5 1 r.2 (nums .u8 q.2)) oz es ++ L) H1).rd,h1,fun j r q hr hq=>⟨h2 j r q hr hq,?_⟩⟩
 have H2 : Hp F0 g0 w0 g w (List.zipWith (fun r q=>owR 5 1 r.2 (nums .u8 q.2)) oz es ++ L):=Hp.tl (L:=List.zipWith (fun r q=>owR 5 1 r.2 (nums .u8 q.2)) oz es ++ L) H1
 have hg : (List.zipWith (fun r q=>owR 5 1 r.2 (nums .u8 q.2)) oz es)[j]? = some (owR 5 1 r.2 (nums .u8 q.2)):=by rw [List.getElem?_zipWith,hr,hq]
 obtain ⟨hj,hj'⟩:=List.getElem?_eq_some_iff.1 hg
 have hm:=List.getElem_mem hj
 rw [hj'] at hm
 obtain ⟨A,C,hAC⟩:=List.append_of_mem hm
 rw [hAC,List.append_assoc] at H2
 have H3 : Hp F0 g0 w0 g w (owR 5 1 r.2 (nums .u8 q.2) :: (A ++ (C ++ L))):=H2.perm List.perm_middle
 exact H3.ow.rd
end
theorem sub_len : ∀ {l m : List Int},l.Nodup→(∀ x∈l,x∈m)→l.length≤m.length
 | [],_,_,_=>Nat.zero_le _
 | x :: l,m,h,hs=>by
  have hx:=hs x (by simp)
  have hn:=List.nodup_cons.1 h
  have:=sub_len (m:=m.erase x) hn.2 (fun y hy=>(List.mem_erase_of_ne (by intro e; subst e; exact hn.1 hy)).2 (hs y (by simp [hy])))
  rw [List.length_erase_of_mem hx] at this
  have:=List.length_pos_of_mem hx
  simp only [List.length_cons]
  omega
theorem nodup_ints (n : Nat) : ((List.range n).map fun k : Nat=>(k : Int)).Nodup:=by
 rw [List.nodup_iff_pairwise_ne,List.pairwise_map]
 exact (List.nodup_iff_pairwise_ne.1 List.nodup_range).imp fun h e=>h (by omega)
theorem any_pos {us : List Sg} {p : Int} : us.any (fun s=>s.pos == p) = true ↔ p∈us.map (fun s=>s.pos):=by
 simp [List.any_eq_true]
theorem posL_s {us : List Sg} : ∀ (m : Nat) (p : Int),p≤posL us m p∧posL us m p≤p + m∧(∀ q,p≤q→q < posL us m p→q∈us.map fun s=>s.pos)∧(posL us m p < p + m→¬ posL us m p∈us.map fun s=>s.pos)
 | 0,p=>⟨Int.le_refl _,by simp [posL],fun q h1 h2=>by simp only [posL] at h2; omega,fun h=>by simp only [posL] at h; omega⟩
 | m + 1,p=>by
  unfold posL
  by_cases h : us.any (fun s=>s.pos == p) = true
  ·rw [if_pos h]
   obtain ⟨h1,h2,h3,h4⟩:=posL_s (us:=us) m (p + 1)
   refine ⟨by omega,by omega,fun q k1 k2=>?_,fun k=>h4 (by omega)⟩
   by_cases e : q = p
   ·subst e; exact any_pos.1 h
   ·exact h3 q (by omega) k2
  ·rw [if_neg h]
   exact ⟨Int.le_refl _,by omega,fun q k1 k2=>by omega,fun _ k=>h (any_pos.2 k)⟩
theorem ints_le {n : Nat} {l : List Int} (h : ∀ k : Nat,k < n→(k : Int)∈l) : n≤l.length:=by
 have:=sub_len (m:=l) (nodup_ints n) (fun x hx=>by obtain ⟨k,hk,rfl⟩:=List.mem_map.1 hx; exact h k (List.mem_range.1 hk))
 simpa using this
theorem posL_out {us : List Sg} : ¬ posL us us.length 0∈us.map fun s=>s.pos:=by
 obtain ⟨h1,h2,h3,h4⟩:=posL_s (us:=us) us.length 0
 by_cases h : posL us us.length 0 < 0 + us.length
 ·exact h4 h
 ·intro hm
  have he : posL us us.length 0 = us.length:=by omega
  have : us.length + 1≤(us.map fun s=>s.pos).length:=ints_le fun k hk=>by
   by_cases e : k = us.length
   ·subst e; rwa [he] at hm
   ·exact h3 k (by omega) (by omega)
  simp at this
  omega
theorem posL_full {us : List Sg} {segs : Int} (hs : 0≤segs) (hn : (us.map fun s=>s.pos).Nodup) (hr : ∀ s∈us,0≤s.pos∧s.pos < segs) : 0≤posL us us.length 0∧posL us us.length 0≤segs∧(posL us us.length 0 = segs ↔ segs≤us.length):=by
 obtain ⟨h1,h2,h3,h4⟩:=posL_s (us:=us) us.length 0
 have h5:=posL_out (us:=us)
 have hle : posL us us.length 0≤segs:=by
  by_cases h : posL us us.length 0≤segs
  ·exact h
  ·have:=h3 segs hs (by omega)
   obtain ⟨s,hs',e⟩:=List.mem_map.1 this
   have:=hr s hs'
   omega
 refine ⟨h1,hle,fun h=>?_,fun h=>?_⟩
 ·have : segs.toNat≤(us.map fun s=>s.pos).length:=ints_le fun k hk=>h3 k (by omega) (by omega)
  simp at this
  omega
 ·by_cases e : posL us us.length 0 = segs
  ·exact e
  ·have key:=sub_len (l:=posL us us.length 0 :: us.map fun s=>s.pos) (m:=(List.range segs.toNat).map fun k : Nat=>(k : Int)) (List.nodup_cons.2 ⟨h5,hn⟩) (fun x hx=>by
    rcases List.mem_cons.1 hx with rfl | hx
    ·exact List.mem_map.2 ⟨(posL us us.length 0).toNat,List.mem_range.2 (by omega),by omega⟩
    ·obtain ⟨s,hs',rfl⟩:=List.mem_map.1 hx
     have:=hr s hs'
     exact List.mem_map.2 ⟨s.pos.toNat,List.mem_range.2 (by omega),by omega⟩)
   simp at key
   omega
section
variable {F0 : Nat → Prop} {g g0 : Gh} {w w0 : World} {L : List Rs} {s y : Sl} {x c p : Nat} {D : Dk} {base segs age high rel t : Int} {dz : List (Sg × Sl)} {l : Lg}
theorem Hp.key {n : Int} (H : Hp F0 g0 w0 g w L) (h0 : -9223372036854775808≤n) (h1 : n≤9223372036854775807) : ∃ o w',octet_Key n w = some (o,w')∧o.n = 8∧Hp F0 g0 w0 g w' (owR 5 1 o (nums .u8 (keyL n)) :: L)∧Mo g w g w':=by
 obtain ⟨o,w',e,r,k,f⟩:=key_ok (w:=w) h0 h1
 have hn : o.n = 8:=by have:=r.len; rw [nums_length,keyL_len] at this; omega
 exact ⟨o,w',e,hn,H.add (nw_of H.lt f) (F:=o.blk) ⟨r,fun _=>Iff.rfl⟩ (fun i hi=>⟨fun hg=>by have:=H.lt i hg; have:=k i hi; omega,k i hi⟩),H.mold f⟩
theorem has_ok11 {pq : Nat} {v : Int} (hs : s.n≤100) (H : Hp F0 g0 w0 g w (seR s dz :: bxR pq [.int .i64 v] 3 :: L)) :
  ∃ w',slices_ContainsFunc_evlog_seg_evlog_seg_121 s ⟨pq,0,none⟩ w = some (dz.any (fun q=>q.1.pos == v),w')∧Hp F0 g0 w0 g w' (seR s dz :: bxR pq [.int .i64 v] 3 :: L)∧Mo g w g w':=by
 have hl : dz.length = s.n:=by have:=H.ow.len; rw [fl_len sgF_len] at this; omega
 have lp:=Ex.loop (step:=fun r : Int×World=>slices_IndexFunc_evlog_seg_evlog_seg_121_l1 s ⟨pq,0,none⟩ r.1 r.2)
  (Φ:=fun o=>match o with | .inl w'=>(dz.any fun q=>q.1.pos == v) = false∧Hp F0 g0 w0 g w' (seR s dz :: bxR pq [.int .i64 v] 3 :: L)∧Mo g w g w' | .inr (i,w')=>0≤i∧(dz.any fun q=>q.1.pos == v) = true∧Hp F0 g0 w0 g w' (seR s dz :: bxR pq [.int .i64 v] 3 :: L)∧Mo g w g w')
  (fun m r=>∃ (j : Nat) (w1 : World),r = ((j : Int),w1)∧m + j = dz.length∧((dz.take j).any fun q=>q.1.pos == v) = false∧Hp F0 g0 w0 g w1 (seR s dz :: bxR pq [.int .i64 v] 3 :: L)∧Mo g w g w1) (fun m r hI=>by
   obtain ⟨j,w1,rfl,hm,hz,H1,m1⟩:=hI
   unfold slices_IndexFunc_evlog_seg_evlog_seg_121_l1
   by_cases hj : j < dz.length
   ·obtain ⟨q,hq⟩ : ∃ q,dz[j]? = some q:=⟨_,List.getElem?_eq_getElem hj⟩
    obtain ⟨b,el⟩:=H1.el sgF_len (by decide) hq
    obtain ⟨pb,w2,e2,H2,m2⟩:=H1.box (T:=125) (cs:=sgF q)
    have l2 : ldI .i64 w2 ⟨pb,0,none⟩ = some q.1.pos:=H2.ldI rfl
    have l2v : ldI .i64 w2 ⟨pq,0,none⟩ = some v:=H2.m2.ldI rfl
    have ef : evlog_Log_fresh_1 (sgF q) ⟨pq,0,none⟩ w1 = some ((q.1.pos == v),w2):=by
     unfold evlog_Log_fresh_1
     rw [e2,bind2_some,add_mk,Nat.zero_add,l2,Option.bind_some,l2v,Option.bind_some]
    refine Ex.t (by simp; omega) (Ex.b1 el.ix (Ex.b1 el.ldA (Ex.b2 ef ?_)))
    by_cases h0 : q.1.pos = v
    ·refine Ex.t (by simpa using h0) (Ex.ret ⟨by omega,?_,H2.tl,m1.t m2⟩)
     rw [List.any_eq_true]
     exact ⟨q,List.mem_of_getElem? hq,by simpa using h0⟩
    ·refine Ex.f (by simpa using h0) (Ex.ret ⟨m - 1,by omega,j + 1,w2,by rw [wrap_nat (by omega)],by omega,?_,H2.tl,m1.t m2⟩)
     rw [List.take_add_one,hq,List.any_append,hz]
     simpa using h0
   ·refine Ex.f (by simp; omega) (Ex.ret ⟨?_,H1,m1⟩)
    rwa [List.take_of_length_le (by omega)] at hz) dz.length (((0 : Nat) : Int),w) ⟨0,w,rfl,by omega,by simp,H,Mo.r⟩
 obtain ⟨o,e,ho⟩:=lp
 have e' : loopF (fun r : Int×World=>slices_IndexFunc_evlog_seg_evlog_seg_121_l1 s ⟨pq,0,none⟩ r.1 r.2) (0,w) = some o:=e
 unfold slices_ContainsFunc_evlog_seg_evlog_seg_121 slices_IndexFunc_evlog_seg_evlog_seg_121
 rw [e',Option.bind_some]
 cases o with
 | inl w'=>obtain ⟨hz,H',m'⟩:=ho; exact ⟨w',by rw [hz]; rfl,H',m'⟩
 | inr r=>obtain ⟨i,w'⟩:=r; obtain ⟨h0,hz,H',m'⟩:=ho; exact ⟨w',by rw [hz]; simp [u2,h0],H',m'⟩
theorem map_any {v : Int} : (dz.any fun q=>q.1.pos == v) = (dz.map Prod.fst).any fun s=>s.pos == v:=by rw [List.any_map]; rfl
theorem place_ok {pq : Nat} (hs : s.n≤100) : ∀ (m : Nat) (v : Int) (w : World),0≤v→v + m≤1000→(¬ posL (dz.map Prod.fst) m v∈(dz.map Prod.fst).map fun s=>s.pos) →
  Hp F0 g0 w0 g w (lbR p (lgC x c base segs age high rel s) :: seR s dz :: bxR pq [.int .i64 v] 3 :: L) →
  ∃ w',loopF (fun r : World=>evlog_Log_fresh_l1 (some ⟨p,0,none⟩) ⟨pq,0,none⟩ r) w = some w'∧Hp F0 g0 w0 g w' (lbR p (lgC x c base segs age high rel s) :: seR s dz :: bxR pq [.int .i64 (posL (dz.map Prod.fst) m v)] 3 :: L)∧Mo g w g w':=by
 intro m
 induction m with
 | zero =>
  intro v w hv hvm hno H
  have l0 : ldL w ⟨p,7,none⟩ = some s:=H.ldL rfl
  obtain ⟨w1,e1,H1,m1⟩:=has_ok11 hs H.b2
  have hf : (dz.any fun q=>q.1.pos == v) = false:=by
   rw [map_any]
   cases h : (dz.map Prod.fst).any fun s=>s.pos == v with
   | false=>rfl
   | true=>exact (hno (any_pos.1 h)).elim
  rw [hf] at e1
  refine ⟨w1,loopF_done ?_,H1.m2,m1⟩
  unfold evlog_Log_fresh_l1
  rw [Option.bind_some,add_mk,Nat.zero_add,l0,Option.bind_some,e1,bind2_some,if_neg (by simp)]
 | succ m ih =>
  intro v w hv hvm hno H
  have l0 : ldL w ⟨p,7,none⟩ = some s:=H.ldL rfl
  obtain ⟨w1,e1,H1,m1⟩:=has_ok11 hs H.b2
  cases h : (dz.any fun q=>q.1.pos == v) with
  | false =>
   rw [h] at e1
   have hp : posL (dz.map Prod.fst) (m + 1) v = v:=by rw [posL,if_neg (by rw [← map_any,h]; simp)]
   refine ⟨w1,loopF_done ?_,by rw [hp]; exact H1.m2,m1⟩
   unfold evlog_Log_fresh_l1
   rw [Option.bind_some,add_mk,Nat.zero_add,l0,Option.bind_some,e1,bind2_some,if_neg (by simp)]
  | true =>
   rw [h] at e1
   have hp : posL (dz.map Prod.fst) (m + 1) v = posL (dz.map Prod.fst) m (v + 1):=by rw [posL,if_pos (by rw [← map_any,h])]
   have l1 : ldI .i64 w1 ⟨pq,0,none⟩ = some v:=H1.sw.ldI rfl
   obtain ⟨w2,e2,H2,m2⟩:=H1.sw.stV (o:=0) (x:=.int .i64 (v + 1)) (by simp) rfl
   have H2 : Hp F0 g0 w0 g w2 (bxR pq [.int .i64 (v + 1)] 3 :: seR s dz :: lbR p (lgC x c base segs age high rel s) :: L):=H2
   rw [hp] at hno ⊢
   obtain ⟨w3,e3,H3,m3⟩:=ih (v + 1) w2 (by omega) (by omega) hno (H2.b2.sw)
   refine ⟨w3,?_,H3,m1.t (m2.t m3)⟩
   rw [← e3]
   refine loopF_next ?_
   unfold evlog_Log_fresh_l1
   rw [Option.bind_some,add_mk,Nat.zero_add,l0,Option.bind_some,e1,bind2_some,if_pos rfl,l1,Option.bind_some,wr64 (by omega) (by omega),e2,Option.bind_some]
theorem fresh_ok (hb0 : 0≤base) (hb1 : base≤512) (hsg : 0≤segs∧segs≤16) (hh : -9223372036854775808≤high∧high≤9223372036854775807) (hn : ((dz.map Prod.fst).map fun s=>s.pos).Nodup) (hr : ∀ q∈dz,0≤q.1.pos∧q.1.pos < segs∧1≤q.1.seq∧q.1.seq≤4611686018427387904) (hdl : dz.length≤100) (hbd : D.W.length < 800000)
  (H : Hp F0 g0 w0 g w (lbR p (lgC x c base segs age high rel s) :: dkR x D :: seR s dz :: L)) :
  ∃ vs g' w',evlog_Log_fresh (some ⟨p,0,none⟩) w = some (vs,(D.fresh ⟨base,segs,age,high,rel,dz.map Prod.fst⟩).1,w')∧Hp F0 g0 w0 g' w' (lbR p (lgC x c base segs age high rel s) :: dkR x (D.fresh ⟨base,segs,age,high,rel,dz.map Prod.fst⟩).2 :: seR s dz :: L)∧Mo g w g' w' ∧
   vs.length = 5∧(∀ v∈vs,v.oneCell' = true)∧((D.fresh ⟨base,segs,age,high,rel,dz.map Prod.fst⟩).1 = 0→vs = sgC ⟨posL (dz.map Prod.fst) (dz.map Prod.fst).length 0,seqL (dz.map Prod.fst),1,high,[]⟩ Sl.nil):=by
 have hl : dz.length = s.n:=by have:=H.m2.ow.len; rw [fl_len sgF_len] at this; omega
 obtain ⟨us,hus⟩ : ∃ us,dz.map Prod.fst = us:=⟨_,rfl⟩
 have hul : us.length = s.n:=by rw [← hus]; simpa using hl
 have hur : ∀ s∈us,0≤s.pos∧s.pos < segs:=fun u hu=>by
  rw [← hus] at hu
  obtain ⟨q,hq,rfl⟩:=List.mem_map.1 hu
  exact ⟨(hr q hq).1,(hr q hq).2.1⟩
 have hfull:=posL_full hsg.1 (by rw [hus] at hn; exact hn) hur
 have hout:=posL_out (us:=us)
 obtain ⟨p1,w1,e1,H1,m1⟩:=H.box (T:=125) (cs:=sg0)
 have e1' : mk w 125 (List.replicate 4 (.int .i64 0) ++ [.slice none 0 0]) = some (⟨p1,0,none⟩,w1):=e1
 obtain ⟨p4,w2,e2,H2,m2⟩:=H1.box (T:=3) (cs:=[.int .i64 0])
 obtain ⟨w3,e3,H3,m3⟩:=H2.stV (o:=0) (x:=.int .i64 0) (by simp) rfl
 have H3 : Hp F0 g0 w0 g w3 (bxR p4 [.int .i64 0] 3 :: bxR p1 sg0 125 :: lbR p (lgC x c base segs age high rel s) :: dkR x D :: seR s dz :: L):=H3
 -- order for the loop: log,segments,the place
 obtain ⟨w4,e4,H4,m4⟩:=place_ok (dz:=dz) (by omega) us.length 0 w3 (Int.le_refl _) (by omega) (by rw [hus]; exact hout) ((H3.m4.m3).perm (List.Perm.cons _ (List.Perm.cons _ (List.Perm.refl _))))
 rw [hus] at H4
 obtain ⟨pp,hpp⟩ : ∃ pp,posL us us.length 0 = pp:=⟨_,rfl⟩
 rw [hpp] at H4 hfull hout
 have mm4:=m1.t (m2.t (m3.t m4))
 -- H4: log,segments,place,box,disk
 have l4s : ldL w4 ⟨p,7,none⟩ = some s:=H4.ldL rfl
 obtain ⟨q5,hq5,hq5b⟩ : ∃ q5,seqL us = q5∧1≤q5∧q5≤4611686018427387905:=by
  refine ⟨_,rfl,?_⟩
  unfold seqL
  cases h : us.getLast? with
  | none=>simp
  | some u =>
   have hm:=List.mem_of_getLast? h
   rw [← hus] at hm
   obtain ⟨q,hq,rfl⟩:=List.mem_map.1 hm
   have:=hr q hq
   simp only; omega
 have eseq : ((some (⟨p,0,none⟩ : Addr)).bind fun p31=>(ldL w4 (p31.add 7)).bind fun v33=>if (decide (0 < (v33.n : Int))) = true then ((ldL w4 (p31.add 7)).bind fun v36=>(ix v36 (IntKind.wrap .i64 ((v33.n : Int) - 1)) 5).bind fun p38=>(ldI .i64 w4 (p38.add 1)).bind fun v40=>some ((IntKind.wrap .i64 (v40 + 1)),w4)) else (some (1,w4))) = some (q5,w4):=by
  rw [Option.bind_some,add_mk,Nat.zero_add,l4s,Option.bind_some]
  by_cases h0 : 0 < s.n
  ·obtain ⟨q,hq⟩ : ∃ q,dz[dz.length - 1]? = some q:=⟨_,List.getElem?_eq_getElem (by omega)⟩
   have hlast : us.getLast? = some q.1:=by rw [← hus,List.getLast?_eq_getElem?,List.getElem?_map,List.length_map,hq]; rfl
   obtain ⟨b,el⟩:=H4.sw.el sgF_len (by decide) hq
   have hix : ix s (IntKind.wrap .i64 ((s.n : Int) - 1)) 5 = some ⟨b,(dz.length - 1) * 5,none⟩:=by
    rw [show IntKind.wrap .i64 ((s.n : Int) - 1) = ((dz.length - 1 : Nat) : Int) by rw [wr64 (by omega) (by omega)]; omega]; exact el.ix
   have hs5 : seqL us = q.1.seq + 1:=by unfold seqL; rw [hlast]
   have ls : ldI .i64 w4 ⟨b,(dz.length - 1) * 5 + 1,none⟩ = some q.1.seq:=el.i rfl
   rw [if_pos (by simpa using h0),Option.bind_some,hix,Option.bind_some,add_mk,ls,Option.bind_some,wr64 (by omega) (by omega),← hs5,hq5]
  ·have : us = []:=List.eq_nil_of_length_eq_zero (by omega)
   rw [if_neg (by simpa using h0),← hq5,this]; rfl
 obtain ⟨w5,e5,H5,m5⟩:=H4.dr
 have l5 : ldI .i64 w5 ⟨p4,0,none⟩ = some pp:=H5.m2.ldI rfl
 have l5s : ldI .i64 w5 ⟨p,3,none⟩ = some segs:=H5.ldI rfl
 have mm5:=mm4.t m5
 -- the box first
 have H5b:=H5.m3
 have fin : ∀ {w6 : World} {g6 : Gh} {D6 : Dk} (e : Int) (vs : List Value),vs.length = 5→(∀ v∈vs,v.oneCell' = true)→Hp F0 g0 w0 g6 w6 (bxR p1 sg0 125 :: lbR p (lgC x c base segs age high rel s) :: seR s dz :: bxR p4 [.int .i64 pp] 3 :: dkR x D6 :: L)→Mo g w g6 w6 →
   ∃ w7,(stA w6 ⟨p1,0,none⟩ 0 vs) = some w7∧ldA 5 w7 ⟨p1,0,none⟩ 0 = some vs∧Hp F0 g0 w0 g6 w7 (lbR p (lgC x c base segs age high rel s) :: dkR x D6 :: seR s dz :: L)∧Mo g w g6 w7:=fun e vs hv h1 H6 m6=>by
  obtain ⟨w7,e7,H7,m7,l7⟩:=H6.stA' (vs:=vs) (by rw [hv]; rfl) h1
  exact ⟨w7,e7,l7,(H7.tl.m2.tl.m2.sw),m6.t m7⟩
 have hs1 : ∀ v∈sg0,v.oneCell' = true:=by intro v hv; simp [sg0] at hv; rcases hv with rfl | rfl <;> rfl
 unfold evlog_Log_fresh
 rw [e1',bind2_some,e2,bind2_some,e3,Option.bind_some,e4,Option.bind_some,eseq,bind2_some,e5,Option.bind_some,l5,Option.bind_some,Option.bind_some,add_mk,Nat.zero_add,l5s,Option.bind_some]
 unfold Dk.fresh
 simp only [hus,hpp,hq5]
 by_cases hfu : segs≤us.length
 ·obtain ⟨w7,e7,l7,H7,m7⟩:=fin 9 sg0 rfl hs1 H5b mm5
  have e7' : stA w5 ⟨p1,0,none⟩ 0 (List.replicate 4 (.int .i64 0) ++ [.slice none 0 0]) = some w7:=e7
  refine ⟨sg0,g,w7,?_,by rw [if_pos hfu]; exact H7,m7,rfl,hs1,fun h=>?_⟩
  ·rw [if_pos (by simpa using hfull.2.2.2 hfu),e7',Option.bind_some,l7,Option.bind_some,if_pos hfu]
  ·rw [if_pos hfu] at h; simp at h
 have hnp : ¬ (pp == segs) = true:=by simpa using fun h=>hfu (hfull.2.2.1 h)
 rw [if_neg hnp]
 simp only [if_neg hfu]
 by_cases hq : 4611686018427387904 < q5
 ·obtain ⟨w7,e7,l7,H7,m7⟩:=fin 6 sg0 rfl hs1 H5b mm5
  have e7' : stA w5 ⟨p1,0,none⟩ 0 (List.replicate 4 (.int .i64 0) ++ [.slice none 0 0]) = some w7:=e7
  refine ⟨sg0,g,w7,?_,by rw [if_pos hq]; exact H7,m7,rfl,hs1,fun h=>?_⟩
  ·rw [if_pos (by simpa using hq),e7',Option.bind_some,l7,Option.bind_some,if_pos hq]
  ·rw [if_pos hq] at h; simp at h
 rw [if_neg (by simpa using hq),Option.bind_some]
 simp only [if_neg hq]
 have hppr : 0≤pp∧pp≤16:=⟨hfull.1,by have:=hfull.2.1; omega⟩
 have hLC:=lgC_LC (x:=x) (c:=c) (segs:=segs) (age:=age) (h:=high) (rel:=rel) (s:=s) hb0 hb1
 obtain ⟨g6,w6,e6,H6,m6⟩:=wipes_ok (pos:=pp) (i:=0) hLC hppr (by omega) (by omega) (H5.m4.sw)
 rw [show (16 - (0 : Int)).toNat = 16 from rfl] at e6 H6
 have hkW:=wipe_W (base:=base) (pos:=pp) 16 D 0 0
 obtain ⟨k,hk⟩ : ∃ k,D.wipe base pp 16 0 0 = k:=⟨_,rfl⟩
 rw [hk] at e6 H6 hkW
 simp only [hk]
 -- H6: log,disk,segments,place,box
 have mm6:=mm5.t m6
 rw [e6,bind3_some]
 by_cases hk0 : k.2.1 = 0
 ·rw [if_neg (by simp [hk0])]
  simp only [hk0,ne_eq,not_true_eq_false,if_false]
  have l6 : ldP w6 ⟨p,0,none⟩ = some (some ⟨x,0,none⟩):=H6.ldP rfl
  obtain ⟨w7,e7,H7,m7⟩:=H6.sw.dsync (by omega)
  have hsW : k.2.2.sync.2.W.length≤k.2.2.W.length:=by
   unfold Dk.sync
   split
   ·simp
   ·split
    ·rw [trips_W]; exact Nat.le_refl _
    ·simp
  obtain ⟨r,hr7⟩ : ∃ r,k.2.2.sync = r:=⟨_,rfl⟩
  rw [hr7] at e7 H7 hsW
  simp only [hr7]
  rw [add_mk,Nat.zero_add,l6,Option.bind_some,e7,bind2_some]
  have mm7:=mm6.t m7
  -- H7: disk,log,segments,place,box
  by_cases hr0 : r.1 = 0
  ·rw [if_neg (by simp [hr0])]
   simp only [hr0,ne_eq,not_true_eq_false,if_false]
   obtain ⟨w8,e8,H8,m8⟩:=H7.sw.dr
   obtain ⟨k9,w9,e9,n9,H9,m9⟩:=H8.key (n:=q5) (by omega) (by omega)
   have l9 : ldI .i64 w9 ⟨p,5,none⟩ = some high:=H9.sw.ldI rfl
   have l8h : ldI .i64 w8 ⟨p,5,none⟩ = some high:=H8.ldI rfl
   obtain ⟨k10,w10,e10,n10,H10,m10⟩:=H9.key (n:=high) hh.1 hh.2
   obtain ⟨z11,w11,e11,n11,H11,m11⟩:=H10.tl.apS st29 H10.ow.rd nums_one (by rw [n9,n10]; decide)
   have hks : nums .u8 (keyL q5) ++ nums .u8 (keyL high) = nums .u8 (keyL q5 ++ keyL high):=by simp [nums]
   rw [hks] at H11
   obtain ⟨g12,p12,H12,m12⟩:=H11.keepO
   obtain ⟨w13,e13,H13,m13⟩:=H12.dr
   have l13 : ldI .i64 w13 ⟨p4,0,none⟩ = some pp:=H13.m3.ldI rfl
   have l13h : ldI .i64 w13 ⟨p,5,none⟩ = some high:=H13.ldI rfl
   have l13d : ldP w13 ⟨p,0,none⟩ = some (some ⟨x,0,none⟩):=H13.ldP rfl
   have a13:=at_ok (i:=0) hLC hppr ⟨by omega,by omega⟩ H13.bx
   obtain ⟨z14,w14,e14,H14,m14⟩:=laid_ok H13 (p12.mo m13) (by simp [keyL_len]) (kind:=1) (by decide) (by decide) true
   have l14 : ldI .i64 w14 ⟨p4,0,none⟩ = some pp:=H14.tl.m3.ldI rfl
   have l14h : ldI .i64 w14 ⟨p,5,none⟩ = some high:=H14.tl.ldI rfl
   have l14d : ldP w14 ⟨p,0,none⟩ = some (some ⟨x,0,none⟩):=H14.tl.ldP rfl
   obtain ⟨w15,e15,H15,m15⟩:=H14.tl.sw.dwrite (i:=base + 2 + pp * 16 + 0) H14.ow.rd (by omega)
   have l15 : ldI .i64 w15 ⟨p4,0,none⟩ = some pp:=H15.m3.ldI rfl
   have l15h : ldI .i64 w15 ⟨p,5,none⟩ = some high:=H15.sw.ldI rfl
   have mm15:=mm7.t (m8.t (m9.t (m10.t (m11.t (m12.t (m13.t (m14.t m15)))))))
   obtain ⟨w16,e16,l16,H16,m16⟩:=fin 0 (sgC ⟨pp,q5,1,high,[]⟩ Sl.nil) rfl sgC_one ((H15.m4).perm (List.Perm.cons _ ((List.Perm.swap _ _ _).trans (List.Perm.cons _ ((List.Perm.swap _ _ _).trans (List.Perm.cons _ (List.Perm.swap _ _ _))))))) mm15
   have e16' : stA w15 ⟨p1,0,none⟩ 0 [.int .i64 pp,.int .i64 q5,.int .i64 1,.int .i64 high,.slice none 0 0] = some w16:=e16
   refine ⟨_,g12,w16,?_,H16,m16,rfl,sgC_one,fun _=>rfl⟩
   rw [e8,Option.bind_some,e9,bind2_some,add_mk,Nat.zero_add,l9,Option.bind_some,e10,bind2_some,e11,bind2_some,chk_pos l8h,e13,Option.bind_some,l13,Option.bind_some,l13h,Option.bind_some,l13d,Option.bind_some,Option.bind_some,a13,bind2_some,e14,bind2_some,e15,bind2_some,e16',Option.bind_some,
    chk_pos l13,chk_pos l14,chk_pos l15,chk_pos l13h,chk_pos l14h,chk_pos l15h,chk_pos l13d,chk_pos l14d,l16,Option.bind_some]
  ·rw [if_pos (by simpa using hr0)]
   simp only [ne_eq,hr0,not_false_eq_true,if_true]
   obtain ⟨w8,e8,l8,H8,m8⟩:=fin r.1 sg0 rfl hs1 ((H7.m4).perm (List.Perm.cons _ ((List.Perm.swap _ _ _).trans (List.Perm.cons _ ((List.Perm.swap _ _ _).trans (List.Perm.cons _ (List.Perm.swap _ _ _))))))) mm7
   have e8' : stA w7 ⟨p1,0,none⟩ 0 (List.replicate 4 (.int .i64 0) ++ [.slice none 0 0]) = some w8:=e8
   exact ⟨sg0,g6,w8,by rw [e8',Option.bind_some,l8,Option.bind_some],H8,m8,rfl,hs1,fun h=>by first | exact (hr0 h).elim | exact h.elim⟩
 ·rw [if_pos (by simpa using hk0)]
  simp only [ne_eq,hk0,not_false_eq_true,if_true]
  obtain ⟨w7,e7,l7,H7,m7⟩:=fin k.2.1 sg0 rfl hs1 ((H6.m4).perm (List.Perm.cons _ (List.Perm.cons _ ((List.Perm.swap _ _ _).trans (List.Perm.cons _ (List.Perm.swap _ _ _)))))) mm6
  have e7' : stA w6 ⟨p1,0,none⟩ 0 (List.replicate 4 (.int .i64 0) ++ [.slice none 0 0]) = some w7:=e7
  exact ⟨sg0,g6,w7,by rw [e7',Option.bind_some,l7,Option.bind_some],H7,m7,rfl,hs1,fun h=>by first | exact (hk0 h).elim | exact h.elim⟩
end
theorem set_last {α : Type} {l : List α} {x : α} (h : 0 < l.length) : l.set (l.length - 1) x = l.dropLast ++ [x]:=by
 obtain ⟨A,a,rfl⟩ : ∃ A a,l = A ++ [a]:=⟨l.dropLast,l.getLast (by intro e; subst e; simp at h),(List.dropLast_concat_getLast _).symm⟩
 rw [List.set_append_right _ _ (by simp)]
 simp
theorem fresh_W {D : Dk} {l : Lg} : (D.fresh l).2.W.length≤D.W.length + 17:=by
 have h1:=wipe_W (base:=l.base) (pos:=posL l.used l.used.length 0) 16 D 0 0
 have hs : ∀ D : Dk,D.sync.2.W.length≤D.W.length:=fun D=>by
  unfold Dk.sync
  split
  ·simp
  ·split
   ·rw [trips_W]; exact Nat.le_refl _
   ·simp
 have h2:=hs (D.wipe l.base (posL l.used l.used.length 0) 16 0 0).2.2
 have h3:=write_W (D.wipe l.base (posL l.used l.used.length 0) 16 0 0).2.2.sync.2 (l.base + 2 + posL l.used l.used.length 0 * 16 + 0) (laidL 1 (keyL (seqL l.used) ++ keyL l.high) true)
 unfold Dk.fresh
 split; · simp
 split; · simp
 split; · simp only; omega
 split; · omega
 omega
section
variable {F0 : Nat → Prop} {g0 : Gh} {w0 : World} {L : List Rs} {s : Sl} {x c p pb : Nat} {base segs age high rel t : Int} {dz : List (Sg × Sl)} {l : Lg}
theorem puts_ok {cs : List Value} (hc : LC cs x base) {q : Sg} {zr : Sl} (hp : 0≤q.pos∧q.pos≤16) {Φ : (World⊕(Int×World))→Prop} : ∀ (m : Nat) (i kind : Int) (all : List Int) (z : Sl) (D : Dk) (g : Gh) (w : World),0≤i→i + m≤16→all.length≤59 * m→59 * m < all.length + 59→0≤kind→kind < 256→D.W.length + m < 900000→PR g w z 1 (nums .u8 all)→z.n≤z.c →
  Hp F0 g0 w0 g w (bxR pb (sgC ⟨q.pos,q.seq,i,q.high,q.recs⟩ zr) 125 :: lbR p cs :: dkR x D :: L) →
  (∀ g' w',(D.puts base q.pos m i kind all).1 = 0→Hp F0 g0 w0 g' w' (bxR pb (sgC ⟨q.pos,q.seq,i + m,q.high,q.recs⟩ zr) 125 :: lbR p cs :: dkR x (D.puts base q.pos m i kind all).2 :: L)→Mo g w g' w'→Φ (.inl w')) →
  (∀ g' w',(D.puts base q.pos m i kind all).1≠0→Hp F0 g0 w0 g' w' (lbR p cs :: dkR x (D.puts base q.pos m i kind all).2 :: L)→Mo g w g' w'→Φ (.inr ((D.puts base q.pos m i kind all).1,w'))) →
  (nloop (fun r : Sl×Int×World=>evlog_Log_Append_l1 (some ⟨p,0,none⟩) ⟨pb,0,none⟩ r.1 r.2.1 r.2.2) (z,kind,w)).t Φ:=by
 intro m
 induction m with
 | zero =>
  intro i kind all z D g w hi him hal hal2 k0 k1 hbd hr hzc H h1 h2
  have hn : all.length = z.n:=by have:=hr.rd.len; simpa using this
  refine Nd.next ?_
  unfold evlog_Log_Append_l1
  refine Nd.f (by simp; omega) (Nd.ret (h1 g w rfl (by simpa [Dk.puts] using H) Mo.r))
 | succ m ih =>
  intro i kind all z D g w hi him hal hal2 k0 k1 hbd hr hzc H h1 h2
  have hn : all.length = z.n:=by have:=hr.rd.len; simpa using this
  have hne : ¬ all = []:=fun e=>by subst e; simp at hal2; omega
  obtain ⟨k,hk⟩ : ∃ k,min 59 all.length = k:=⟨_,rfl⟩
  have hkn : mnI 59 (z.n : Int) = (k : Int):=by unfold mnI; split <;> omega
  have hke : ((k : Int) == (z.n : Int)) = (k == all.length):=by
   rw [← hn,Bool.eq_iff_iff,beq_iff_eq,beq_iff_eq]
   omega
  have h1':=h1
  have h2':=h2
  rw [Dk.puts,if_neg hne,hk] at h1' h2'
  obtain ⟨w1,e1,H1,m1⟩:=H.dr
  have l1d : ldP w1 ⟨p,0,none⟩ = some (some ⟨x,0,none⟩):=H1.sw.ldP hc.d
  have l1p : ldI .i64 w1 ⟨pb,0,none⟩ = some q.pos:=H1.ldI rfl
  have l1i : ldI .i64 w1 ⟨pb,2,none⟩ = some i:=H1.ldI rfl
  have a1:=at_ok (i:=i) hc hp (by omega) H1.sw.bx
  have r1:=hr.mo m1
  obtain ⟨z2,e2,r2,n2,c2⟩:=r1.slN (lo:=0) (hi:=k) (m:=k) (by omega) (by omega) (Nat.le_refl _) (by omega)
  have e2' : slS z 0 (k : Int) (k : Int) 1 = some z2:=e2
  rw [List.drop_zero,Nat.sub_zero] at r2
  obtain ⟨z3,w3,e3,H3,m3⟩:=laid_ok H1 r2 (by rw [List.length_take]; omega) k0 k1 (k == all.length)
  have l3d : ldP w3 ⟨p,0,none⟩ = some (some ⟨x,0,none⟩):=H3.m2.ldP hc.d
  obtain ⟨w4,e4,H4,m4⟩:=H3.m3.dwrite (i:=base + 2 + q.pos * 16 + i) H3.ow.rd (by omega)
  have hww:=write_W D (base + 2 + q.pos * 16 + i) (laidL kind (all.take k) (k == all.length))
  obtain ⟨r,hrr⟩ : ∃ r,D.write (base + 2 + q.pos * 16 + i) (laidL kind (all.take k) (k == all.length)) = r:=⟨_,rfl⟩
  rw [hrr] at e4 H4 h1' h2' hww
  have mm:=m1.t (m3.t m4)
  have H4:=H4.sw.tl.b2
  refine Nd.next ?_
  unfold evlog_Log_Append_l1
  rw [hkn,hke]
  refine Nd.t (by simp; omega) (Nd.b1 e1 (Nd.s1 (Nd.b1 (by rw [add_mk]; exact l1d) (Nd.b1 (by rw [add_mk]; exact l1p) (Nd.b1 (by rw [add_mk]; exact l1i) (Nd.b2 a1 (Nd.b1 e2' (Nd.b2 e3 (Nd.b2 e4 (Nd.ck (by rw [add_mk]; exact l1d) (Nd.ck (by rw [add_mk]; exact l3d) ?_)))))))))))
  by_cases h0 : r.1 = 0
  ·rw [if_pos h0] at h1' h2'
   have r4:=hr.mo mm
   obtain ⟨z5,e5,r5,n5,c5⟩:=r4.slN (lo:=k) (hi:=z.n) (m:=z.c) (by omega) (Nat.le_refl _) hzc (Nat.le_refl _)
   rw [List.take_of_length_le (by rw [List.length_drop]; omega)] at r5
   have l4 : ldI .i64 w4 ⟨pb,2,none⟩ = some i:=H4.ldI rfl
   obtain ⟨w6,e6,H6,m6⟩:=H4.stV (o:=2) (x:=.int .i64 (i + 1)) (by simp [sgC]) rfl
   have H6 : Hp F0 g0 w0 g w6 (bxR pb (sgC ⟨q.pos,q.seq,i + 1,q.high,q.recs⟩ zr) 125 :: lbR p cs :: dkR x r.2 :: L):=H6
   refine Nd.f (by simp [h0]) (Nd.b1 e5 (Nd.b1 (by rw [add_mk]; exact l4) (Nd.b1 (by rw [add_mk,wr64 (by omega) (by omega)]; exact e6) (Nd.ret ?_))))
   refine ih (i + 1) 3 (all.drop k) z5 r.2 g w6 (by omega) (by omega) (by rw [List.length_drop]; omega) (by rw [List.length_drop]; omega) (by decide) (by decide) (by omega) (r5.mo m6) c5 H6 (fun g' w' he H' m'=>?_) (fun g' w' he H' m'=>?_)
   ·rw [show i + 1 + (m : Int) = i + ((m + 1 : Nat) : Int) by omega] at H'
    exact h1' g' w' he H' (mm.t (m6.t m'))
   ·exact h2' g' w' he H' (mm.t (m6.t m'))
  ·rw [if_neg h0] at h1' h2'
   exact Nd.t (by simpa using h0) (Nd.ret (h2' g w4 h0 H4.tl mm))
theorem dv59 {n : Nat} (h : n≤1000) : dvI .i64 (IntKind.wrap .i64 (IntKind.wrap .i64 ((n : Int) + 59) - 1)) 59 = some (((n + 58) / 59 : Nat) : Int):=by
 rw [wr64 (x:=(n : Int) + 59) (by omega) (by omega),wr64 (by omega) (by omega)]
 unfold dvI
 rw [if_neg (by decide),Int.tdiv_eq_ediv_of_nonneg (by omega)]
 rw [show (n : Int) + 59 - 1 = ((n + 58 : Nat) : Int) by omega,wr64 (by omega) (by omega)]
 rfl
theorem cloneR_ok {g : Gh} {w : World} {v : Sl} {rs : List (Int×List Int)} (h : RcL g w v rs) (H : Hp F0 g0 w0 g w L) (hn : rs.length≤100000) : ∃ z w',slices_Clone_api_Rec_api_Rec v w = some (z,w')∧(∃ rz,Hp F0 g0 w0 g w' (owR 87 2 z (rz.flatMap rcF) :: L)∧RZ g w' rz rs)∧Mo g w g w':=by
 have hnn:=h.n
 obtain ⟨rz,h1,h2⟩:=h
 unfold slices_Clone_api_Rec_api_Rec
 cases hp : v.p with
 | none =>
  have h0 : v.n = 0:=by
   rcases Nat.eq_zero_or_pos v.n with h0 | h0
   ·exact h0
   ·obtain ⟨a,e,_⟩:=h1.rd.at_ h0; rw [hp] at e; cases e
  have hrz : rz = []:=List.eq_nil_of_length_eq_zero (by rw [h2.1]; omega)
  subst hrz
  exact ⟨Sl.nil,w,by simp,⟨[],H.onil,h2⟩,Mo.r⟩
 | some a =>
  obtain ⟨z1,w1,e1,n1,_,H1,m1⟩:=H.bsl (T:=87) (sz:=2) (ps:=[]) (by intro p hp; cases hp) (by simp)
  obtain ⟨z2,w2,e2,n2,H2,m2⟩:=H1.apS stRec (h1.mo m1).rd (by intro v hv; obtain ⟨r,_,hr⟩:=List.mem_flatMap.1 hv; exact rcC_one v hr) (by rw [n1]; simp; omega)
  refine ⟨z2,w2,?_,⟨rz,by simpa using H2,h2.mo (m1.t m2)⟩,m1.t m2⟩
  rw [if_neg (by simp),e1,bind2_some,e2,bind2_some]
theorem append_ok {g : Gh} {w : World} {D : Dk} {y : Sl} {body : List Int} {t : Int} (hw : l.Wf) (H : Hp F0 g0 w0 g w (lgR p x l :: dkR x D :: L)) (hy : PR g w y 1 (nums .u8 body)) (hbd : D.W.length < 700000) {Φ : Int×World→Prop}
  (hΦ : ∀ g' w',Hp F0 g0 w0 g' w' (lgR p x (D.appendL l t body).2.2 :: dkR x (D.appendL l t body).2.1 :: L)→Mo g w g' w'→Φ ((D.appendL l t body).1,w')) : (evlog_Log_Append (some ⟨p,0,none⟩) t y w).t Φ:=by
 have hyn : body.length = y.n:=by have:=hy.rd.len; simpa using this
 obtain ⟨w1,e1,H1,m1⟩:=ebad_ok H
 unfold Dk.appendL at hΦ
 unfold evlog_Log_Append
 refine Nd.b2 e1 ?_
 by_cases hb : D.badL l = 0
 rotate_left
 ·rw [if_pos (by simpa using hb)] at hΦ
  exact Nd.t (by simpa using hb) (Nd.ret (hΦ g w1 H1 m1))
 rw [if_neg (by simp [hb])] at hΦ
 refine Nd.f (by simp [hb]) ?_
 by_cases h4 : 400 < body.length
 ·rw [if_pos h4] at hΦ
  exact Nd.t (by simp; omega) (Nd.ret (hΦ g w1 H1 m1))
 rw [if_neg h4] at hΦ
 refine Nd.f (by simp; omega) ?_
 obtain ⟨c,s,dz,hd1,hd2,hd3,H1'⟩:=H1.lgo
 have l1h : ldI .i64 w1 ⟨p,5,none⟩ = some l.high:=H1'.ldI rfl
 by_cases ht : t≤l.high∨1099511627776 < t
 ·rw [if_pos ht] at hΦ
  refine Nd.j2 (Ψ:=fun r=>r = (true,w1)) (Nd.s1 (Nd.b1 (by rw [add_mk]; exact l1h) ?_)) ?_
  ·by_cases h5 : t≤l.high
   ·exact Nd.t (by simpa using h5) (Nd.ret rfl)
   ·exact Nd.f (by simpa using h5) (Nd.ret (by rw [decide_eq_true (by omega)]))
  ·rintro _ _ he; cases he
   exact Nd.t rfl (Nd.ret (hΦ g w1 H1 m1))
 rw [if_neg ht] at hΦ
 refine Nd.j2 (Ψ:=fun r=>r = (false,w1)) (Nd.s1 (Nd.b1 (by rw [add_mk]; exact l1h) (Nd.f (by simpa using fun h=>ht (.inl h)) (Nd.ret (by rw [decide_eq_false (fun h=>ht (.inr h))]))))) ?_
 rintro _ _ he; cases he
 refine Nd.f (by simp) ?_
 have hth : -9223372036854775808≤t∧t≤9223372036854775807:=by have:=hw.r0; have:=hw.r1; omega
 -- the key,and the body behind it
 obtain ⟨k2,w2,e2,n2,H2,m2⟩:=H1'.key hth.1 hth.2
 obtain ⟨z3,w3,e3,n3,H3,m3⟩:=H2.apS st29 (hy.mo (m1.t m2)).rd nums_one (by rw [n2]; omega)
 rw [show nums .u8 (keyL t) ++ nums .u8 body = nums .u8 (keyL t ++ body) by simp [nums]] at H3
 have hz3c:=H3.ow.cap
 obtain ⟨g3,r3,H3k,m3k⟩:=H3.keepO
 have hz3 : z3.n = body.length + 8:=by omega
 have hsec : dvI .i64 (IntKind.wrap .i64 (IntKind.wrap .i64 ((z3.n : Int) + 59) - 1)) 59 = some (secs body : Int):=by
  rw [hz3]; exact dv59 (by omega)
 have hsb : secs body≤7∧1≤secs body:=by unfold secs; omega
 have mm3:=m1.t (m2.t (m3.t m3k))
 obtain ⟨us,hus⟩ : ∃ us,l.used = us:=⟨_,rfl⟩
 rw [hus] at hd1
 have hdl : dz.length = us.length:=by rw [← hd1]; simp
 have hds : dz.length = s.n:=by have:=H3k.sw.ow.len; rw [fl_len sgF_len] at this; omega
 have hdl16 : us.length≤16:=by
  have:=sub_len (l:=us.map fun s=>s.pos) (m:=(List.range 16).map fun k : Nat=>(k : Int)) (by rw [← hus]; exact hw.nd) (fun x hx=>by
   obtain ⟨q,hq,rfl⟩:=List.mem_map.1 hx
   rw [← hus] at hq
   have h1:=(hw.seg q hq).p0
   have h2:=(hw.seg q hq).p1
   have:=hw.s1
   exact List.mem_map.2 ⟨q.pos.toNat,List.mem_range.2 (by omega),by omega⟩)
  simpa using this
 have hdw : ∀ q∈dz,q.1.Wf l.segs:=fun q hq=>hw.seg q.1 (by rw [hus,← hd1]; exact List.mem_map.2 ⟨q,hq,rfl⟩)
 have l3 : ldL w3 ⟨p,7,none⟩ = some s:=H3k.ldL rfl
 -- whether a segment is begun
 obtain ⟨bg,hbg⟩ : ∃ bg,begunL us (secs body) = bg:=⟨_,rfl⟩
 have lastq : 0 < dz.length→∃ q,dz[dz.length - 1]? = some q∧us.getLast? = some q.1:=fun h0=>by
  obtain ⟨q,hq⟩ : ∃ q,dz[dz.length - 1]? = some q:=⟨_,List.getElem?_eq_getElem (by omega)⟩
  exact ⟨q,hq,by rw [← hd1,List.getLast?_eq_getElem?,List.getElem?_map,List.length_map,hq]; rfl⟩
 have hixl : ∀ {w' : World} {cs : List Value} {b : Nat},El w' s 5 b (dz.length - 1) cs→0 < dz.length→ix s (IntKind.wrap .i64 ((s.n : Int) - 1)) 5 = some ⟨b,(dz.length - 1) * 5,none⟩:=fun el h0=>by
  rw [show IntKind.wrap .i64 ((s.n : Int) - 1) = ((dz.length - 1 : Nat) : Int) by rw [wr64 (by omega) (by omega)]; omega]; exact el.ix
 refine Nd.b2 e2 (Nd.b2 e3 (Nd.b1 hsec (Nd.s1 (Nd.b1 (by rw [add_mk]; exact l3) (Nd.j2 (Ψ:=fun r=>r = (bg,w3)) ?_ ?_)))))
 ·by_cases h0 : 0 < dz.length
  ·obtain ⟨q,hq,hlast⟩:=lastq h0
   obtain ⟨b,el⟩:=H3k.sw.el sgF_len (by decide) hq
   have lf : ldI .i64 w3 ⟨b,(dz.length - 1) * 5 + 2,none⟩ = some q.1.fin:=el.i rfl
   have hqw:=hdw q (List.mem_of_getElem? hq)
   have hf0:=hqw.f0
   have hf1:=hqw.f1
   refine Nd.f (by rw [wr64 (by omega) (by omega)]; simp; omega) (Nd.b1 (by rw [add_mk]; exact l3) (Nd.b1 (hixl el h0) (Nd.b1 (by rw [add_mk]; exact lf) (Nd.ret ?_))))
   rw [wr64 (by omega) (by omega),← hbg]
   unfold begunL
   rw [hlast]
  ·have : us = []:=List.eq_nil_of_length_eq_zero (by omega)
   refine Nd.t (by rw [wr64 (by omega) (by omega)]; simp; omega) (Nd.ret ?_)
   rw [← hbg,this]; rfl
 rintro _ _ he; cases he
 obtain ⟨pb,w4,e4,H4,m4⟩:=H3k.box (T:=125) (cs:=sg0)
 have e4' : mk w3 125 (List.replicate 4 (.int .i64 0) ++ [.slice none 0 0]) = some (⟨pb,0,none⟩,w4):=e4
 refine Nd.b2 e4' ?_
 have hle : (⟨l.base,l.segs,l.age,l.high,l.rel,dz.map Prod.fst⟩ : Lg) = l:=by rw [hd1,← hus]
 -- the segment to which it is appended
 obtain ⟨cu,hcu⟩ : ∃ cu,curL l (secs body) = cu:=⟨_,rfl⟩
 have hcue : cu = if bg = true then ⟨posL us us.length 0,seqL us,1,l.high,[]⟩ else us.getLast?.getD ⟨0,0,0,0,[]⟩:=by rw [← hcu]; unfold curL; rw [hus,hbg]
 obtain ⟨D5,hD5⟩ : ∃ D5,(if bg = true then (D.fresh l).2 else D) = D5:=⟨_,rfl⟩
 have hD5W : D5.W.length≤D.W.length + 17:=by
  rw [← hD5]
  split
  ·exact fresh_W
  ·omega
 unfold grownL at hΦ
 rw [hus,hbg,hcu,hD5] at hΦ
 refine Nd.jX (Ψ:=fun w'=>(bg = true→(D.fresh l).1 = 0)∧∃ g' zr,Hp F0 g0 w0 g' w' (bxR pb (sgC cu zr) 125 :: lbR p (lgC x c l.base l.segs l.age l.high l.rel s) :: dkR x D5 :: seR s dz :: L)∧Mo g3 w3 g' w'∧RcL g' w' zr cu.recs) ?_ ?_
 ·cases hbv : bg with
  | true =>
   rw [hbv] at hcue hD5 hΦ
   rw [if_pos rfl] at hcue hD5
   obtain ⟨vs,g5,w5,e5,H5,m5,hv5,hv1,hvs⟩:=fresh_ok (dz:=dz) hw.b0 hw.b1 ⟨by have:=hw.s0; omega,hw.s1⟩ ⟨by have:=hw.r0; have:=hw.r1; omega,by have:=hw.h1; omega⟩ (by rw [hd1,← hus]; exact hw.nd) (fun q hq=>⟨(hdw q hq).p0,(hdw q hq).p1,(hdw q hq).q0,(hdw q hq).q1⟩) (by omega) (by omega) ((H4.b2.m3).perm ((List.Perm.swap _ _ _).trans (List.Perm.cons _ (List.Perm.refl _))))
   rw [hle] at e5 H5 hvs
   obtain ⟨p6,w6,e6,H6,m6⟩:=H5.box (T:=125) (cs:=sg0)
   have e6' : mk w5 125 (List.replicate 4 (.int .i64 0) ++ [.slice none 0 0]) = some (⟨p6,0,none⟩,w6):=e6
   obtain ⟨w7,e7,H7,m7,l7⟩:=H6.stA' (vs:=vs) (by rw [hv5]; rfl) hv1
   have l7' : ldA 5 w7 ⟨p6,0,none⟩ 0 = some vs:=l7
   refine Nd.t rfl (Nd.b3 e5 (Nd.b2 e6' (Nd.b1 e7 (Nd.ck hv5 ?_))))
   -- H7: box6,log,disk,segments,box
   by_cases hf0 : (D.fresh l).1 = 0
   ·have hve:=hvs hf0
    rw [hd1] at hve
    obtain ⟨w8,e8,H8,m8,l8⟩:=(H7.tl.m3).stA' (vs:=vs) (by rw [hv5]; rfl) hv1
    refine Nd.f (by simp [hf0]) (Nd.b1 l7' (Nd.b1 e8 (Nd.ret ⟨fun _=>hf0,g5,Sl.nil,?_,m4.t (m5.t (m6.t (m7.t m8))),by rw [hcue]; exact RcL.nil⟩)))
    rw [hcue,← hD5,← hve]
    exact H8
   ·rw [if_pos ⟨rfl,hf0⟩] at hΦ
    refine Nd.t (by simpa using hf0) (Nd.j1 (Ψ:=fun r=>Φ r) (Nd.ret (hΦ g5 w7 ?_ (mm3.t (m4.t (m5.t (m6.t m7)))))) (fun r hr=>Nd.ret hr))
    have hM:=m3k.t (m4.t (m5.t (m6.t m7)))
    exact Hp.lgi (by rw [hd1,hus]) (hd2.mo ((m2.t m3).t hM)) (hd3.mo ((m2.t m3).t hM)) ((H7.tl.m2).perm ((List.Perm.swap _ _ _).trans (List.Perm.cons _ (List.Perm.cons _ (by exact (List.Perm.cons _ (List.Perm.refl _))))))|>.m3|>.tl)
  | false =>
   rw [hbv] at hcue hD5 hbg
   rw [if_neg (by simp)] at hcue hD5
   have h0 : 0 < dz.length:=by
    rcases Nat.eq_zero_or_pos dz.length with h | h
    ·have : us = []:=List.eq_nil_of_length_eq_zero (by omega)
     rw [this] at hbg; cases hbg
    ·exact h
   obtain ⟨q,hq,hlast⟩:=lastq h0
   have hcq : cu = q.1:=by rw [hcue,hlast]; rfl
   have l4 : ldL w4 ⟨p,7,none⟩ = some s:=H4.sw.ldL rfl
   obtain ⟨b,el⟩:=H4.m2.el sgF_len (by decide) hq
   obtain ⟨w5,e5,H5,m5,l5⟩:=H4.stA' (vs:=sgF q) rfl sgC_one
   refine Nd.f (by simp) (Nd.b1 (by rw [add_mk]; exact l4) (Nd.b1 (hixl el h0) (Nd.b1 el.ldA (Nd.b1 e5 (Nd.ret ⟨fun h=>(by cases h),g3,q.2,?_,m4.t m5,?_⟩)))))
   ·rw [hcq,← hD5]; exact H5.m3.b2
   ·rw [hcq]; exact (hd3 q (List.mem_of_getElem? hq)).mo ((m2.t (m3.t m3k)).t (m4.t m5))
 rintro w5 ⟨hfr,g5,zr,H5,m5,hrc⟩
 have hno : ¬ (bg = true∧(D.fresh l).1≠0):=fun h=>h.2 (hfr h.1)
 rw [if_neg hno] at hΦ
 have m05:=mm3.t m5
 obtain ⟨z6,w6,e6,H6,m6⟩:=clone8_ok H5 (hy.mo m05).rd (by omega)
 obtain ⟨g6,r6,H6,m6k⟩:=H6.keepO
 obtain ⟨p7,w7,e7,H7,m7⟩:=H6.box (T:=87) (cs:=rcC 0 Sl.nil)
 have e7' : mk w6 87 [.int .i64 0,.slice none 0 0] = some (⟨p7,0,none⟩,w7):=e7
 obtain ⟨w8,e8,H8,m8,l8⟩:=H7.stA' (vs:=rcC t z6) rfl rcC_one
 have m58:=m6.t (m6k.t (m7.t m8))
 have m08:=m05.t m58
 have hcp : 0≤cu.pos∧cu.pos≤16∧1≤cu.fin∧cu.fin + secs body≤16∧cu.recs.length≤16:=by
  have:=hw.s1
  cases hbv : bg with
  | true =>
   rw [hbv,if_pos rfl] at hcue
   have:=posL_full (us:=us) (segs:=l.segs) (by have:=hw.s0; omega) (by rw [← hus]; exact hw.nd) (fun s hs=>by rw [← hus] at hs; exact ⟨(hw.seg s hs).p0,(hw.seg s hs).p1⟩)
   rw [hcue]; simp only [List.length_nil]; omega
  | false =>
   rw [hbv,if_neg (by simp)] at hcue
   rw [hbv] at hbg
   cases h : us.getLast? with
   | none=>unfold begunL at hbg; rw [h] at hbg; cases hbg
   | some u =>
    rw [h] at hcue
    have hcu' : cu = u:=hcue
    have hu : u∈l.used:=by rw [hus]; exact List.mem_of_getLast? h
    have hw':=hw.seg u hu
    have h1:=hw'.p0; have h2:=hw'.p1; have h3:=hw'.f0; have h5:=hw'.rn; have h6:=hw'.f1
    unfold begunL at hbg
    rw [h] at hbg
    have : ¬ (16 < u.fin + (secs body : Int)):=by simpa using hbg
    rw [hcu']; omega
 obtain ⟨r,hr9⟩ : ∃ r,D5.puts l.base cu.pos (secs body) cu.fin 2 (keyL t ++ body) = r:=⟨_,rfl⟩
 rw [hr9] at hΦ
 have hall : (keyL t ++ body).length = body.length + 8:=by rw [List.length_append,keyL_len]; omega
 have hLC:=lgC_LC (x:=x) (c:=c) (segs:=l.segs) (age:=l.age) (h:=l.high) (rel:=l.rel) (s:=s) hw.b0 hw.b1
 refine Nd.b2 e6 (Nd.b2 e7' (Nd.b1 e8 (Nd.j1 (Ψ:=fun o=>match o with
  | .inl w'=>r.1 = 0∧∃ g',Hp F0 g0 w0 g' w' (bxR pb (sgC ⟨cu.pos,cu.seq,cu.fin + secs body,cu.high,cu.recs⟩ zr) 125 :: lbR p (lgC x c l.base l.segs l.age l.high l.rel s) :: dkR x r.2 :: bxR p7 (rcC t z6) 87 :: seR s dz :: L)∧Mo g6 w8 g' w'
  | .inr (e,w')=>e = r.1∧r.1≠0∧∃ g',Hp F0 g0 w0 g' w' (lbR p (lgC x c l.base l.segs l.age l.high l.rel s) :: dkR x r.2 :: bxR p7 (rcC t z6) 87 :: seR s dz :: L)∧Mo g6 w8 g' w') ?_ ?_)))
 ·refine puts_ok hLC (q:=cu) (zr:=zr) ⟨hcp.1,hcp.2.1⟩ (secs body) cu.fin 2 (keyL t ++ body) z3 D5 g6 w8 (by omega) hcp.2.2.2.1 (by rw [hall]; unfold secs; omega) (by rw [hall]; unfold secs; omega) (by decide) (by decide) (by omega) (r3.mo (m5.t m58)) hz3c (H8.b3) (fun g' w' he H' m'=>?_) (fun g' w' he H' m'=>?_)
  ·rw [hr9] at he H'; exact ⟨he,g',H',m'⟩
  ·rw [hr9] at he H' ⊢; exact ⟨rfl,he,g',H',m'⟩
 rintro (w9 | ⟨e9,w9⟩) h9
 rotate_left
 ·obtain ⟨rfl,hr0,g9,H9,m9⟩:=h9
  rw [if_pos hr0] at hΦ
  have hM:=(m2.t (m3.t m3k)).t (m5.t (m58.t m9))
  exact Nd.ret (hΦ g9 w9 (Hp.lgi (by rw [hd1,hus]) (hd2.mo hM) (hd3.mo hM) (H9.m2.tl.m2.sw)) (m08.t m9))
 obtain ⟨hr0,g9,H9,m9⟩:=h9
 rw [if_neg (by simp [hr0])] at hΦ
 obtain ⟨w10,e10,H10,m10⟩:=H9.dr
 have mm10:=m5.t (m58.t (m9.t m10))
 have hrc10:=hrc.mo (m58.t (m9.t m10))
 have l10 : ldL w10 ⟨pb,4,none⟩ = some zr:=H10.ldL rfl
 have l10a : ldA 2 w10 ⟨p7,0,none⟩ 0 = some (rcC t z6):=by rw [ldA_B H10.m3.bx (by exact Nat.le_refl _)]; rfl
 have hrn : cu.recs.length = zr.n:=hrc10.n
 -- records,and the new one
 refine Nd.j1 (Ψ:=fun w'=>∃ g' zn,Hp F0 g0 w0 g' w' (bxR pb (sgC ⟨cu.pos,cu.seq,cu.fin + secs body,cu.high,cu.recs ++ [(t,body)]⟩ zn) 125 :: lbR p (lgC x c l.base l.segs l.age l.high l.rel s) :: dkR x r.2 :: seR s dz :: L)∧Mo g9 w10 g' w'∧RcL g' w' zn (cu.recs ++ [(t,body)])) (Nd.b1 e10 (Nd.b1 (by rw [add_mk]; exact l10) (Nd.b1 l10a (Nd.both ?_ ?_)))) ?_
 ·obtain ⟨za,wa,ea,⟨rz,Ha,hrz⟩,ma⟩:=cloneR_ok hrc10 H10 (by omega)
  have lac : ldA 2 wa ⟨p7,0,none⟩ 0 = some (rcC t z6):=by rw [ldA_B (Ha.m4).bx (by exact Nat.le_refl _)]; rfl
  have hzn : rz.length = za.n:=by have:=Ha.ow.len; rw [fl_len rcF_len] at this; omega
  obtain ⟨zb,wb,eb,nb,_,Hb,mb⟩:=Ha.bsl (T:=87) (sz:=2) (ps:=[rcC t z6]) (by intro v hv; simp at hv; subst hv; rfl) (by simp)
  obtain ⟨zc,wc,ec,nc,Hc,mc⟩:=Hb.tl.apS stRec Hb.ow.rd (by intro v hv; simp at hv; exact rcC_one v hv) (by rw [nb]; simp; have:=hrz.1; omega)
  rw [show rz.flatMap rcF ++ [rcC t z6].flatten = (rz ++ [(t,z6)]).flatMap rcF by simp [rcF]] at Hc
  obtain ⟨gd,rd,Hd,md⟩:=Hc.keepO
  obtain ⟨we,ee,He,me⟩:=Hd.stV (o:=4) (x:=zc.v) (by simp [sgC]) rfl
  have mz:=mb.t (mc.t (md.t me))
  exact Nd.b2 ea (Nd.b2 eb (Nd.b2 ec (Nd.b1 (by rw [add_mk]; exact ee) (Nd.ck lac (Nd.ret ⟨gd,zc,He.m3.tl,ma.t mz,⟨_,rd.mo me,(hrz.mo mz).snoc (r6.mo ((m7.t (m8.t (m9.t m10))).t (ma.t mz)))⟩⟩)))))
 ·obtain ⟨zb,wb,eb,nb,_,Hb,mb⟩:=H10.bsl (T:=87) (sz:=2) (ps:=[rcC t z6]) (by intro v hv; simp at hv; subst hv; rfl) (by simp)
  have lb : ldL wb ⟨pb,4,none⟩ = some zr:=Hb.sw.ldL rfl
  obtain ⟨za,wa,ea,⟨rz,Ha,hrz⟩,ma⟩:=cloneR_ok (hrc10.mo mb) Hb (by omega)
  have hzn : rz.length = za.n:=by have:=Ha.ow.len; rw [fl_len rcF_len] at this; omega
  obtain ⟨zc,wc,ec,nc,Hc,mc⟩:=Ha.sw.tl.apS stRec Ha.sw.ow.rd (by intro v hv; simp at hv; exact rcC_one v hv) (by rw [nb]; simp; have:=hrz.1; omega)
  rw [show rz.flatMap rcF ++ [rcC t z6].flatten = (rz ++ [(t,z6)]).flatMap rcF by simp [rcF]] at Hc
  obtain ⟨gd,rd,Hd,md⟩:=Hc.keepO
  obtain ⟨we,ee,He,me⟩:=Hd.stV (o:=4) (x:=zc.v) (by simp [sgC]) rfl
  have mz:=mc.t (md.t me)
  exact Nd.b2 eb (Nd.b2 ea (Nd.b2 ec (Nd.b1 (by rw [add_mk]; exact ee) (Nd.ck (by rw [add_mk]; exact lb) (Nd.ret ⟨gd,zc,He.m3.tl,mb.t (ma.t mz),⟨_,rd.mo me,(hrz.mo mz).snoc (r6.mo ((m7.t (m8.t (m9.t m10))).t (mb.t (ma.t mz))))⟩⟩)))))
 rintro w11 ⟨g11,zn,H11,m11,hrn11⟩
 obtain ⟨w12,e12,H12,m12⟩:=H11.stV (o:=3) (x:=.int .i64 t) (by simp [sgC]) rfl
 obtain ⟨w13,e13,H13,m13⟩:=H12.sw.stV (o:=5) (x:=.int .i64 t) (by simp [lgC]) rfl
 obtain ⟨nq,hnq⟩ : ∃ nq : Sg,nq = ⟨cu.pos,cu.seq,cu.fin + secs body,t,cu.recs ++ [(t,body)]⟩:=⟨_,rfl⟩
 have H13 : Hp F0 g0 w0 g11 w13 (lbR p (lgC x c l.base l.segs l.age t l.rel s) :: bxR pb (sgF (nq,zn)) 125 :: dkR x r.2 :: seR s dz :: L):=by rw [hnq]; exact H13
 refine Nd.b1 (by rw [add_mk]; exact e12) (Nd.b1 (by rw [add_mk]; exact e13) ?_)
 obtain ⟨w14,e14,H14,m14⟩:=H13.dr
 have l14 : ldL w14 ⟨p,7,none⟩ = some s:=H14.ldL rfl
 have l14a : ldA 5 w14 ⟨pb,0,none⟩ 0 = some (sgF (nq,zn)):=by rw [ldA_B H14.sw.bx (by exact Nat.le_refl _)]; rfl
 have m1114:=m12.t (m13.t m14)
 have mAll:=(m2.t (m3.t m3k)).t (mm10.t (m11.t m1114))
 rw [← hnq] at hΦ
 refine Nd.j1 (Ψ:=fun w'=>Φ (0,w')) ?_ (fun w' h'=>Nd.ret h')
 cases hbv : bg with
 | true =>
  rw [hbv] at hΦ
  obtain ⟨zb,wb,eb,nb,_,Hb,mb⟩:=H14.bsl (T:=125) (sz:=5) (ps:=[sgF (nq,zn)]) (by intro v hv; simp at hv; subst hv; rfl) (by simp)
  have lb : ldL wb ⟨p,7,none⟩ = some s:=Hb.sw.ldL rfl
  obtain ⟨zc,wc,ec,nc,Hc,mc⟩:=Hb.tl.m3.apS stSeg Hb.ow.rd (by intro v hv; simp at hv; exact sgC_one v hv) (by rw [nb]; simp; omega)
  rw [show dz.flatMap sgF ++ [sgF (nq,zn)].flatten = (dz ++ [(nq,zn)]).flatMap sgF by simp] at Hc
  obtain ⟨we,ee,He,me⟩:=Hc.sw.stV (o:=7) (x:=zc.v) (by simp [lgC]) rfl
  have He : Hp F0 g0 w0 g11 we (lbR p (lgC x c l.base l.segs l.age t l.rel zc) :: seR zc (dz ++ [(nq,zn)]) :: bxR pb (sgF (nq,zn)) 125 :: dkR x r.2 :: L):=He
  have mz:=mb.t (mc.t me)
  refine Nd.t rfl (Nd.b1 e14 (Nd.b1 (by rw [add_mk]; exact l14) (Nd.b1 l14a (Nd.b2 eb (Nd.b2 ec (Nd.b1 (by rw [add_mk]; exact ee) (Nd.ck (by rw [add_mk]; exact lb) (Nd.ret (hΦ g11 we ?_ (m1.t (mAll.t mz)))))))))))
  refine Hp.lgi (c:=c) (s:=zc) (dz:=dz ++ [(nq,zn)]) (by simp [hd1]) (hd2.mo (mAll.t mz)) (fun q hq=>?_) (He.m2.tl)
  rcases List.mem_append.1 hq with h | h
  ·exact (hd3 q h).mo (mAll.t mz)
  ·simp at h; subst h; simp only; rw [hnq]; exact hrn11.mo (m1114.t mz)
 | false =>
  rw [hbv] at hΦ hbg
  have h0 : 0 < dz.length:=by
   rcases Nat.eq_zero_or_pos dz.length with h | h
   ·have : us = []:=List.eq_nil_of_length_eq_zero (by omega)
    rw [this] at hbg; cases hbg
   ·exact h
  obtain ⟨q,hq,hlast⟩:=lastq h0
  obtain ⟨b,el⟩:=H14.m3.el sgF_len (by decide) hq
  obtain ⟨we,ee,He,me⟩:=H14.m3.elput (q':=(nq,zn)) sgF_len el hq rfl sgC_one
  have hset : dz.set (dz.length - 1) (nq,zn) = dz.dropLast ++ [(nq,zn)]:=set_last h0
  rw [hset] at He
  refine Nd.f (by simp) (Nd.b1 e14 (Nd.b1 (by rw [add_mk]; exact l14) (Nd.b1 l14a (Nd.b1 (hixl el h0) (Nd.b1 ee (Nd.ret (hΦ g11 we ?_ (m1.t (mAll.t me)))))))))
  refine Hp.lgi (c:=c) (s:=s) (dz:=dz.dropLast ++ [(nq,zn)]) (by simp [← hd1,List.map_dropLast]) (hd2.mo (mAll.t me)) (fun q hq=>?_) (He.m2.tl.sw)
  rcases List.mem_append.1 hq with h | h
  ·exact (hd3 q (List.dropLast_subset _ h)).mo (mAll.t me)
  ·simp at h; subst h; simp only; rw [hnq]; exact hrn11.mo (m1114.t me)
end
theorem new_bt (n : Nat) : (Dk.new n).Bt:=by
 refine ⟨fun x hx=>?_,fun x hx=>by simp [Dk.new] at hx⟩
 simp only [Dk.new,List.mem_replicate] at hx
 rw [hx.2]
 intro b hb
 rw [(List.mem_replicate.1 hb).2]; decide
theorem sec_bytes (was : List Int) (n v : Int) : Bytes (secOf was n v):=by
 intro b hb
 simp only [secOf,List.mem_cons,List.mem_append,List.not_mem_nil,or_false] at hb
 rcases hb with rfl | ((hb | hb) | hb) | rfl
 ·omega
 ·exact keyL_bytes _ b hb
 ·exact keyL_bytes _ b hb
 ·rw [(List.mem_replicate.1 hb).2]; decide
 ·omega
theorem write_S (D : Dk) (i : Int) (b : List Int) : (D.write i b).2.S = D.S:=by
 unfold Dk.write
 split; · rfl
 split; · rfl
 split; · rfl
 split
 ·exact trips_S D
 ·exact trips_S D
theorem pad_bytes {b : List Int} (h : Bytes b) : Bytes (pad b):=by
 intro x hx
 simp only [pad,List.mem_append] at hx
 rcases hx with hx | hx
 ·exact h x hx
 ·rw [(List.mem_replicate.1 hx).2]; decide
theorem Dk.Bt.trips {D : Dk} (h : D.Bt) : D.trips.2.Bt:=⟨by rw [trips_S]; exact h.s,by rw [trips_W]; exact h.w⟩
theorem Dk.Bt.write {D : Dk} (h : D.Bt) {i : Int} {b : List Int} (hb : Bytes b) : (D.write i b).2.Bt:=by
 unfold Dk.write
 split; · exact h
 split; · exact h
 split; · exact h
 split
 ·exact h.trips
 ·refine ⟨h.trips.s,fun x hx=>?_⟩
  simp only [List.mem_append,List.mem_singleton] at hx
  rcases hx with hx | rfl
  ·exact h.w x hx
  ·exact pad_bytes hb
theorem putS_bytes {S : List (List Int)} {x : Int×List Int} {m : Nat} (hS : ∀ s∈S,Bytes s) (hx : Bytes x.2) : ∀ s∈putS S x m,Bytes s:=by
 intro s hs
 unfold putS at hs
 rcases List.mem_or_eq_of_mem_set hs with h | h
 ·exact hS s h
 ·subst h
  intro b hb
  rcases List.mem_append.1 hb with h | h
  ·exact hx b (List.mem_of_mem_take h)
  ·exact getD_bytes (i:=x.1.toNat) hS b (List.mem_of_mem_drop h)
theorem syncS_bytes : ∀ (W : List (Int×List Int)) (S : List (List Int)),(∀ s∈S,Bytes s)→(∀ x∈W,Bytes x.2)→∀ s∈W.foldl (fun S x=>putS S x 64) S,Bytes s
 | [],S,h,_=>h
 | x :: W,S,h,hw=>by
  rw [List.foldl_cons]
  exact syncS_bytes W _ (putS_bytes h (hw x (by simp))) (fun y hy=>hw y (by simp [hy]))
theorem syncS_len : ∀ (W : List (Int×List Int)) (S : List (List Int)),(W.foldl (fun S x=>putS S x 64) S).length = S.length
 | [],S=>rfl
 | x :: W,S=>by rw [List.foldl_cons,syncS_len W,putS_length]
theorem Dk.Bt.sync {D : Dk} (h : D.Bt) : D.sync.2.Bt:=by
 unfold Dk.sync
 split; · exact h
 split
 ·exact h.trips
 ·exact ⟨syncS_bytes _ _ h.s h.w,fun x hx=>by simp at hx⟩
theorem sync_S (D : Dk) : D.sync.2.S.length = D.S.length:=by
 unfold Dk.sync
 split; · rfl
 split
 ·simp [trips_S]
 ·simp [syncS_len]
theorem sync_W (D : Dk) : D.sync.2.W.length≤D.W.length:=by
 unfold Dk.sync
 split; · simp
 split
 ·simp [trips_W]
 ·simp
theorem trip_S (D : Dk) (n : Int) : (D.trip n).2.S = D.S∧(D.trip n).2.W = D.W:=by
 unfold Dk.trip
 split; · exact ⟨rfl,rfl⟩
 split <;> exact ⟨rfl,rfl⟩
theorem crash1_bytes {fs : List Int} {k : Nat} {S : List (List Int)} {x : Int×List Int} (hS : ∀ s∈S,Bytes s) (hx : Bytes x.2) : (∀ s∈crash1 fs k S x,Bytes s)∧(crash1 fs k S x).length = S.length:=by
 unfold crash1
 split
 ·exact ⟨putS_bytes hS hx,putS_length⟩
 ·split
  ·exact ⟨putS_bytes hS hx,putS_length⟩
  ·exact ⟨hS,rfl⟩
theorem crashS_bytes {fs : List Int} : ∀ (W : List (Int×List Int)) (k : Nat) (S : List (List Int)),(∀ s∈S,Bytes s)→(∀ x∈W,Bytes x.2)→(∀ s∈crashS fs k W S,Bytes s)∧(crashS fs k W S).length = S.length
 | [],k,S,h,_=>⟨h,rfl⟩
 | x :: W,k,S,h,hw=>by
  obtain ⟨h1,h2⟩:=crash1_bytes (fs:=fs) (k:=k) h (hw x (by simp))
  obtain ⟨h3,h4⟩:=crashS_bytes W (k + 1) _ h1 (fun y hy=>hw y (by simp [hy]))
  exact ⟨h3,h4.trans h2⟩
theorem Dk.Bt.crash {D : Dk} (h : D.Bt) (fs : List Int) : (D.crash fs).Bt:=⟨(crashS_bytes D.W 0 D.S h.s h.w).1,fun x hx=>by simp [Dk.crash] at hx⟩
theorem Dk.Bt.put {D : Dk} (h : D.Bt) (b c i v : Int) : (D.put b c i v).2.Bt:=by
 unfold Dk.put
 split; · exact h
 split; · exact h
 split; · exact h
 split
 ·exact h.write (sec_bytes _ _ _)
 ·exact (h.write (sec_bytes _ _ _)).sync
structure Dk.To (D E : Dk) (k : Nat) : Prop where
 s : E.S.length = D.S.length
 b : D.Bt→E.Bt
 w : E.W.length≤D.W.length + k
 age : E.age = D.age
theorem Dk.To.r {D : Dk} {k : Nat} : D.To D k:=⟨rfl,id,Nat.le_add_right _ _,rfl⟩
theorem Dk.To.t {D E G : Dk} {k m n : Nat} (h : D.To E k) (h2 : E.To G m) (hn : k + m≤n) : D.To G n:=⟨h2.s.trans h.s,fun b=>h2.b (h.b b),by have:=h.w; have:=h2.w; omega,h2.age.trans h.age⟩
theorem trips_age (D : Dk) : D.trips.2.age = D.age:=by unfold Dk.trips; split <;> rfl
theorem write_to (D : Dk) (i : Int) {b : List Int} (hb : Bytes b) : D.To (D.write i b).2 1:=⟨by rw [write_S],fun h=>h.write hb,write_W _ _ _,by
 unfold Dk.write
 split; · rfl
 split; · rfl
 split; · rfl
 split <;> exact trips_age D⟩
theorem sync_to (D : Dk) : D.To D.sync.2 0:=⟨sync_S D,fun h=>h.sync,sync_W D,by
 unfold Dk.sync
 split; · rfl
 split <;> exact trips_age D⟩
theorem by_nil : Bytes []:=fun b hb=>by cases hb
theorem wipe_to {base pos : Int} : ∀ (m : Nat) (D : Dk) (i n : Int),D.To (D.wipe base pos m i n).2.2 m
 | 0,D,_,_=>Dk.To.r
 | m + 1,D,i,n=>by
  unfold Dk.wipe
  split
  ·exact (wipe_to m D _ _).t (Dk.To.r (k:=1)) (by omega)
  ·split
   ·exact (write_to D _ by_nil).t (wipe_to m _ _ _) (by omega)
   ·exact (write_to D _ by_nil).t (Dk.To.r (k:=m)) (by omega)
theorem fresh_to (D : Dk) (l : Lg) : D.To (D.fresh l).2 17:=by
 have h1:=wipe_to (base:=l.base) (pos:=posL l.used l.used.length 0) 16 D 0 0
 unfold Dk.fresh
 split; · exact Dk.To.r
 split; · exact Dk.To.r
 split; · exact h1.t (Dk.To.r (k:=1)) (by omega)
 split; · exact h1.t (sync_to _) (by omega)
 refine (h1.t (sync_to _) (Nat.le_refl _)).t (write_to _ _ (laid_by ⟨by decide,by decide⟩ ?_ (by simp [keyL_len]))) (by omega)
 intro b hb
 rcases List.mem_append.1 hb with h | h
 ·exact keyL_bytes _ b h
 ·exact keyL_bytes _ b h
theorem puts_to {base pos : Int} : ∀ (m : Nat) (D : Dk) (i k : Int) (all : List Int),Bytes all→0≤k→k < 256→D.To (D.puts base pos m i k all).2 m
 | 0,D,_,_,_,_,_,_=>Dk.To.r
 | m + 1,D,i,k,all,hb,k0,k1=>by
  have h1:=write_to D (base + 2 + pos * 16 + i) (laid_by (kind:=k) (p:=all.take (min 59 all.length)) (l:=min 59 all.length == all.length) ⟨k0,k1⟩ (fun b h=>hb b (List.mem_of_mem_take h)) (by rw [List.length_take]; omega))
  unfold Dk.puts
  split
  ·exact Dk.To.r
  ·split
   ·exact h1.t (puts_to m _ _ _ _ (fun b h=>hb b (List.mem_of_mem_drop h)) (by decide) (by decide)) (by omega)
   ·exact h1.t (Dk.To.r (k:=m)) (by omega)
theorem append_to (D : Dk) (l : Lg) (t : Int) {b : List Int} (hb : Bytes b) : D.To (D.appendL l t b).2.1 1000:=by
 unfold Dk.appendL
 split; · exact Dk.To.r
 split; · exact Dk.To.r
 rename_i hl
 split; · exact Dk.To.r
 split
 ·exact (fresh_to D l).t (Dk.To.r (k:=0)) (by omega)
 have hby : Bytes (keyL t ++ b):=fun x hx=>(List.mem_append.1 hx).elim (keyL_bytes _ x) (hb x)
 have h5 : ∀ E : Dk,D.To E 17→D.To (E.puts l.base (curL l (secs b)).pos (secs b) (curL l (secs b)).fin 2 (keyL t ++ b)).2 1000:=fun E hE=>hE.t (puts_to _ E _ _ _ hby (by decide) (by decide)) (by unfold secs; omega)
 have h6 : D.To (if begunL l.used (secs b) = true then (D.fresh l).2 else D) 17:=by
  split
  ·exact fresh_to D l
  ·exact Dk.To.r
 revert h6
 generalize (if begunL l.used (secs b) = true then (D.fresh l).2 else D) = E
 intro h6
 split <;> exact h5 E h6
theorem syncL_to (D : Dk) (l : Lg) : D.To (D.syncL l).2 0:=by
 unfold Dk.syncL
 split
 ·exact Dk.To.r
 ·exact sync_to D
theorem Lg.Wf.len {l : Lg} (h : l.Wf) : l.used.length≤16:=by
 have:=sub_len (l:=l.used.map fun s=>s.pos) (m:=(List.range 16).map fun k : Nat=>(k : Int)) h.nd (fun x hx=>by
  obtain ⟨q,hq,rfl⟩:=List.mem_map.1 hx
  have h1:=(h.seg q hq).p0
  have h2:=(h.seg q hq).p1
  have:=h.s1
  exact List.mem_map.2 ⟨q.pos.toNat,List.mem_range.2 (by omega),by omega⟩)
 simpa using this
def evC (rel a b : Int) (r : Int×List Int) : Bool:=decide (a≤r.1) && decide (r.1≤b) && decide (rel < r.1)
section
variable {F0 : Nat → Prop} {g g0 : Gh} {w0 : World} {L : List Rs} {s : Sl} {x c p : Nat} {D : Dk} {base segs age high rel t a b : Int} {l : Lg} {rs : List (Int × List Int)}
theorem RcL.at_ {w : World} {z : Sl} (h : RcL g w z rs) {j : Nat} {q : Int×List Int} (hq : rs[j]? = some q) : ∃ ad zb,ix z (j : Int) 2 = some ad∧ldA 2 w ad 0 = some (rcC q.1 zb)∧PR g w zb 1 (nums .u8 q.2):=by
 have hn:=h.n
 obtain ⟨rz,h1,h2,h3⟩:=h
 have hj : j < rs.length:=(List.getElem?_eq_some_iff.1 hq).1
 obtain ⟨ad,ea,la,-⟩:=rd_at (i:=j) h1.rd (by omega)
 have hr : rz[j]? = some rz[j]:=List.getElem?_eq_getElem (by omega)
 obtain ⟨e1,e2⟩:=h3 j _ q hr hq
 have hch:=chunk (f:=rcF) (sz:=2) rz j rcF_len (by omega)
 rw [hch] at la
 exact ⟨ad,rz[j].2,ea,by rw [la]; unfold rcF; rw [e1],e2⟩
theorem ev2_ok {v : Sl} (hb : ∀ r∈rs,r.2.length≤100000) (hv : v.n≤100000) : ∀ (m j : Nat) (z : Sl) (acc : List (Int×List Int)) (w : World),m + j = rs.length→acc.length + m≤100000→RcL g w v rs→Hp F0 g0 w0 g w (rcoR z acc :: lbR p (lgC x c base segs age high rel s) :: L) →
  ∃ z' w',loopF (fun r : Sl×Int×World=>evlog_Log_Events_l2 v a b (some ⟨p,0,none⟩) r.1 r.2.1 r.2.2) (z,(j : Int),w) = some (z',w')∧Hp F0 g0 w0 g w' (rcoR z' (acc ++ (rs.drop j).filter (evC rel a b)) :: lbR p (lgC x c base segs age high rel s) :: L)∧Mo g w g w'
 | 0,j,z,acc,w,hm,ha,hr,H=>by
  have hn:=hr.n
  refine ⟨z,w,loopF_done ?_,?_,Mo.r⟩
  ·unfold evlog_Log_Events_l2
   rw [if_neg (by simp; omega)]
  ·rw [List.drop_of_length_le (by omega)]; simpa using H
 | m + 1,j,z,acc,w,hm,ha,hr,H=>by
  have hn:=hr.n
  have hj : j < rs.length:=by omega
  have hq : rs[j]? = some rs[j]:=List.getElem?_eq_getElem hj
  obtain ⟨q,hqe⟩ : ∃ q,rs[j] = q:=⟨_,rfl⟩
  have hqm : q∈rs:=by rw [← hqe]; exact List.getElem_mem hj
  have hd : rs.drop j = q :: rs.drop (j + 1):=by rw [List.drop_eq_getElem_cons hj,hqe]
  rw [hqe] at hq
  obtain ⟨ad,zb,e1,e2,p2⟩:=hr.at_ hq
  obtain ⟨pb,w3,e3,H3,m3⟩:=H.box (T:=87) (cs:=rcC 0 Sl.nil)
  have e3' : mk w 87 [.int .i64 0,.slice none 0 0] = some (⟨pb,0,none⟩,w3):=e3
  obtain ⟨w4,e4,H4,m4,l4⟩:=H3.stA' (vs:=rcC q.1 zb) rfl rcC_one
  obtain ⟨w5,e5,H5,m5⟩:=H4.dr
  have l5 : ldI .i64 w5 ⟨pb,0,none⟩ = some q.1:=H5.ldI rfl
  have l5r : ldI .i64 w5 ⟨p,6,none⟩ = some rel:=H5.m2.ldI rfl
  have hlt : decide ((j : Int) < (v.n : Int)) = true:=by simp; omega
  have mm:=m3.t (m4.t m5)
  have test : (if decide (a≤q.1) = true then ((ldI .i64 w5 ((⟨pb,0,none⟩ : Addr).add 0)).bind fun v59=>if decide (v59≤b) = true then ((ldI .i64 w5 ((⟨pb,0,none⟩ : Addr).add 0)).bind fun v62=>(some (⟨p,0,none⟩ : Addr)).bind fun p64=>(ldI .i64 w5 (p64.add 6)).bind fun v66=>some ((decide (v66 < v62)),w5)) else (some (false,w5))) else (some (false,w5))) = some (evC rel a b q,w5):=by
   rw [add_mk,Nat.zero_add,l5,Option.bind_some,Option.bind_some,Option.bind_some,add_mk,Nat.zero_add,l5r,Option.bind_some,ifA,ifA]
   unfold evC
   rw [Bool.and_assoc]
  have hop : ∀ {γ : Type} (k : Bool→World→Option γ),(bind2 ((dr w4).bind fun w54=>(ldI .i64 w54 ((⟨pb,0,none⟩ : Addr).add 0)).bind fun v56=>if (decide (a≤v56)) = true then ((ldI .i64 w54 ((⟨pb,0,none⟩ : Addr).add 0)).bind fun v59=>if (decide (v59≤b)) = true then ((ldI .i64 w54 ((⟨pb,0,none⟩ : Addr).add 0)).bind fun v62=>(some (⟨p,0,none⟩ : Addr)).bind fun p64=>(ldI .i64 w54 (p64.add 6)).bind fun v66=>some ((decide (v66 < v62)),w54)) else (some (false,w54))) else (some (false,w54))) k) = k (evC rel a b q) w5:=fun k=>by
   have l5' : ldI .i64 w5 ((⟨pb,0,none⟩ : Addr).add 0) = some q.1:=by rw [add_mk]; exact l5
   rw [e5,Option.bind_some,l5',Option.bind_some]
   rw [l5'] at test
   rw [test,bind2_some]
  rw [hd]
  by_cases hc : evC rel a b q = true
  ·obtain ⟨w6,e6,H6,m6⟩:=H5.dr
   have l6 : ldI .i64 w6 ⟨pb,0,none⟩ = some q.1:=H6.ldI rfl
   have l6z : ldL w6 ⟨pb,1,none⟩ = some zb:=H6.ldL rfl
   obtain ⟨z7,w7,e7,H7,m7⟩:=clone8_ok H6 (p2.mo (mm.t m6)).rd (hb q hqm)
   have l7 : ldI .i64 w7 ⟨pb,0,none⟩ = some q.1:=H7.sw.ldI rfl
   obtain ⟨z8,w8,e8,n8,_,H8,m8⟩:=H7.bsl (T:=87) (sz:=2) (ps:=[rcC q.1 z7]) (by intro v hv; simp at hv; subst hv; rfl) (by simp)
   obtain ⟨z9,w9,e9,n9,H9,m9⟩:=rcoR_snoc (y:=z8) (t:=q.1) H8.tl.m2.sw (by have:=H8.ow.rd; simpa using this) (by omega)
   have mm9:=mm.t (m6.t (m7.t (m8.t m9)))
   obtain ⟨z',w',e',H',m'⟩:=ev2_ok hb hv m (j + 1) z9 (acc ++ [(q.1,q.2)]) w9 (by omega) (by simp; omega) (hr.mo mm9) H9.sw.tl
   refine ⟨z',w',?_,?_,mm9.t m'⟩
   ·rw [← e']
    refine loopF_next ?_
    unfold evlog_Log_Events_l2
    rw [if_pos hlt,e1,Option.bind_some,e2,Option.bind_some,e3',bind2_some,e4,Option.bind_some,hop,if_pos hc,e6,Option.bind_some,add_mk,Nat.zero_add,l6,Option.bind_some,add_mk,Nat.zero_add,l6z,Option.bind_some,e7,bind2_some]
    have e8' : bsl w7 87 2 [([.int .i64 q.1,Sl.v z7])] = some (z8,w8):=e8
    rw [e8',bind2_some,e9,bind2_some,chk_pos l7,bind2_some,wrap_nat (by omega)]
   ·rw [List.filter_cons_of_pos (by simpa using hc)]
    simpa using H'
  ·obtain ⟨z',w',e',H',m'⟩:=ev2_ok hb hv m (j + 1) z acc w5 (by omega) (by omega) (hr.mo mm) H5.tl
   refine ⟨z',w',?_,?_,mm.t m'⟩
   ·rw [← e']
    refine loopF_next ?_
    unfold evlog_Log_Events_l2
    rw [if_pos hlt,e1,Option.bind_some,e2,Option.bind_some,e3',bind2_some,e4,Option.bind_some,hop,if_neg hc,bind2_some,wrap_nat (by omega)]
   ·rw [List.filter_cons_of_neg (by simpa using hc)]
    exact H'
theorem ev1_ok {dz : List (Sg×Sl)} (hb : ∀ q∈dz,q.1.recs.length≤100∧∀ r∈q.1.recs,r.2.length≤100000) (hs : s.n≤100) : ∀ (m j : Nat) (z : Sl) (acc : List (Int×List Int)) (w : World),m + j = dz.length→acc.length + m * 100≤100000→DzOk g w dz→Hp F0 g0 w0 g w (rcoR z acc :: lbR p (lgC x c base segs age high rel s) :: seR s dz :: L) →
  ∃ z' w',loopF (fun r : Sl×Int×World=>evlog_Log_Events_l1 s a b (some ⟨p,0,none⟩) r.1 r.2.1 r.2.2) (z,(j : Int),w) = some (z',w')∧Hp F0 g0 w0 g w' (rcoR z' (acc ++ (((dz.map Prod.fst).drop j).flatMap fun s=>s.recs).filter (evC rel a b)) :: lbR p (lgC x c base segs age high rel s) :: seR s dz :: L)∧Mo g w g w'
 | 0,j,z,acc,w,hm,ha,hr,H=>by
  have hl : dz.length = s.n:=by have:=H.m2.ow.len; rw [fl_len sgF_len] at this; omega
  refine ⟨z,w,loopF_done ?_,?_,Mo.r⟩
  ·unfold evlog_Log_Events_l1
   rw [if_neg (by simp; omega)]
  ·rw [List.drop_of_length_le (by simp; omega)]; simpa using H
 | m + 1,j,z,acc,w,hm,ha,hr,H=>by
  have hl : dz.length = s.n:=by have:=H.m2.ow.len; rw [fl_len sgF_len] at this; omega
  have hj : j < dz.length:=by omega
  obtain ⟨q,hq⟩ : ∃ q,dz[j]? = some q:=⟨_,List.getElem?_eq_getElem hj⟩
  have hqm:=List.mem_of_getElem? hq
  have hrq:=hr q hqm
  have hrn:=hrq.n
  have hbq:=hb q hqm
  obtain ⟨bb,el⟩:=H.m2.el sgF_len (by decide) hq
  obtain ⟨pb,w2,e2,H2,m2⟩:=H.box (T:=125) (cs:=sg0)
  have e2' : mk w 125 (List.replicate 4 (.int .i64 0) ++ [.slice none 0 0]) = some (⟨pb,0,none⟩,w2):=e2
  obtain ⟨w3,e3,H3,m3,l3⟩:=H2.stA' (vs:=sgF q) rfl sgC_one
  have l3s : ldL w3 ⟨pb,4,none⟩ = some q.2:=H3.ldL rfl
  obtain ⟨z4,w4,e4,H4,m4⟩:=ev2_ok (a:=a) (b:=b) hbq.2 (by omega) q.1.recs.length 0 z acc w3 (by omega) (by omega) (hrq.mo (m2.t m3)) H3.b2
  have mm:=m2.t (m3.t m4)
  have hfl : (q.1.recs.filter (evC rel a b)).length≤q.1.recs.length:=List.length_filter_le _ _
  rw [List.drop_zero] at H4
  obtain ⟨z',w',e',H',m'⟩:=ev1_ok hb hs m (j + 1) z4 (acc ++ q.1.recs.filter (evC rel a b)) w4 (by omega) (by rw [List.length_append]; omega) (hr.mo mm) H4.m2.tl
  refine ⟨z',w',?_,?_,mm.t m'⟩
  ·rw [← e']
   refine loopF_next ?_
   unfold evlog_Log_Events_l1
   have e4' : loopF (fun r : Sl×Int×World=>evlog_Log_Events_l2 q.2 a b (some ⟨p,0,none⟩) r.1 r.2.1 r.2.2) (z,0,w3) = some (z4,w4):=e4
   rw [if_pos (by simp; omega),el.ix,Option.bind_some,el.ldA,Option.bind_some,e2',bind2_some,e3,Option.bind_some,add_mk,Nat.zero_add,l3s,Option.bind_some,e4',bind2_some,wrap_nat (by omega)]
  ·rw [drop_fst hq,List.flatMap_cons,List.filter_append,← List.append_assoc]
   exact H'
theorem events_ok (hb : ∀ q∈l.used,q.recs.length≤100∧∀ r∈q.recs,r.2.length≤100000) (hn : l.used.length≤100) {w : World} (H : Hp F0 g0 w0 g w (lgR p x l :: L)) :
  ∃ z w',evlog_Log_Events (some ⟨p,0,none⟩) a b w = some (z,w')∧Hp F0 g0 w0 g w' (rcoR z (l.events a b) :: lgR p x l :: L)∧Mo g w g w':=by
 obtain ⟨c,s,dz,h1,h2,h3,H1⟩:=H.lgo
 have hl : dz.length = s.n:=by have:=H1.sw.ow.len; rw [fl_len sgF_len] at this; omega
 have hdl : dz.length = l.used.length:=by rw [← h1]; simp
 have l0 : ldL w ⟨p,7,none⟩ = some s:=H1.ldL rfl
 obtain ⟨z',w',e',H',m'⟩:=ev1_ok (a:=a) (b:=b) (fun q hq=>hb q.1 (by rw [← h1]; exact List.mem_map.2 ⟨q,hq,rfl⟩)) (by omega) dz.length 0 Sl.nil [] w (by omega) (by simp; omega) h3 (rcoR_nil H1.onil)
 have e'' : loopF (fun r : Sl×Int×World=>evlog_Log_Events_l1 s a b (some ⟨p,0,none⟩) r.1 r.2.1 r.2.2) (Sl.nil,0,w) = some (z',w'):=e'
 refine ⟨z',w',?_,?_,m'⟩
 ·unfold evlog_Log_Events
  rw [if_neg (by simp),Option.bind_some,add_mk,Nat.zero_add,l0,Option.bind_some,e'',bind2_some]
 ·rw [List.nil_append,List.drop_zero,h1] at H'
  exact (Hp.lgi h1 (h2.mo m') (h3.mo m') H'.b2).sw
end
section
variable {P : Program} {n : Nat} {L0 L : List (Nat × Value)} {Q Q' : Exit → Act → World → Prop} {a : Act} {w : World}
theorem s_callNg {ι : Type} {ops : Array Oper} {rest : List Oper} {d ty pos af f g} {xs : List Operand} {ts : Array TypeId} {vs : List Value} {pk : ι→Value} {wf : ι→World} {C : ι→Prop} {j t : Nat} {b c : Bool} (hg : g = some (j,c)) (hj : (ops[j]?).bind (·.dst) = some t) (ha : Has n L a) (ht : L.lookup t = some (.bool b)) (hbc : b = c) (hx : evs L xs vs)
  (hf : ∀ (args : Array Value) (w : World),(callFunc f args).run P w = .ok (.enter f args) w)
  (h : Calls P f vs.toArray w fun e w''=>∃ i,e = .returned (pk i)∧C i∧w'' = wf i) (hr : ∀ i,C i→∀ a',Has n (upd d (pk i) L) a'→wpList P ops Q rest a' (wf i)) (hd : ltb n d = true:=by rfl) :
  wpList P ops Q (⟨d,.call { callee:=.value (.func f),args:=xs.toArray,argTypes:=ts },ty,pos,af,g⟩ :: rest) a w:=by
 subst hg; subst hbc
 unfold wpList
 rw [if_pos (by simp [Region.wanted,yields_of hj ha ht])]
 left
 unfold Oper.wp
 have hrun : (execOp a.eval ⟨d,.call { callee:=.value (.func f),args:=xs.toArray,argTypes:=ts },ty,pos,af,some (j,b)⟩).run P w = .ok (.enter f vs.toArray) w:=by
  simp [execOp,resolve,Deferred.ofValue,invoke,Act.eval,hf]
  have:=evs_map ha hx
  exact this
 rw [hrun]
 refine h.mono fun e w' ⟨i,he,hC,hw⟩=>?_
 subst he; subst hw
 exact hr i hC _ (ha.put _ (ltd hd) _)
end
noncomputable def grapevinelaw11_live (w : World) : ND (Bool×World) :=
 lb3 (sector_New 52 w) fun v1 v2 w3 =>
 cb2 (if (v2 != 0) = true then
 (nret (true,w3))
 else
 (nret ((v1.isNone),w3))) fun v5 w6 =>
 if v5 = true then
 (nret (false,w6))
 else
 (cb3 (evlog_Open v1 1 3 w6) fun v11 v12 w13 =>
 cb2 (if (v12 != 0) = true then
 (nret (true,w13))
 else
 (if (v11.isNone) = true then
 (nret (true,w13))
 else
 (lb2 (bsl w13 5 1 [[(.int .u8 97)],[(.int .u8 98)]]) fun s21 w22 =>
 lb2 (cvS Try.prog 72 s21 w22) fun s24 w25 =>
 cb2 (evlog_Log_Append v11 5 s24 w25) fun v27 w28 =>
 if (v27 != 0) = true then
 (nret (true,w28))
 else
 (lb2 (evlog_Log_Sync v11 w28) fun v31 w32 =>
 if (v31 != 0) = true then
 (nret (true,w32))
 else
 (lb2 (sector_Disk_Crash v1 Sl.nil w32) fun v35 w36 =>
 nret ((v35 != 0),w36)))))) fun v15 w16 =>
 if v15 = true then
 (nret (false,w16))
 else
 (cb3 (evlog_Open v1 1 3 w16) fun v39 v40 w41 =>
 cb2 (if (v40 == 0) = true then
 (lb2 (evlog_Log_High v39 w41) fun v48 w49 =>
 if (v48 == 5) = true then
 (lb2 (evlog_Log_Events v39 0 9 w49) fun v52 w53 =>
 lb2 (bsl w53 5 1 [[(.int .u8 97)],[(.int .u8 98)]]) fun s55 w56 =>
 lb2 (cvS Try.prog 72 s55 w56) fun s58 w59 =>
 lb2 (bsl w59 87 2 [([.int .i64 5,Sl.v s58])]) fun s61 w62 =>
 lb2 (grapevineref11_Same v52 s61 w62) fun v64 w65 =>
 nret (v64,w65))
 else
 (nret (false,w49)))
 else
 (nret (false,w41))) fun v43 w44 =>
 nret (v43,w44)))
set_option maxHeartbeats 1000000 in
set_option maxRecDepth 100000 in
theorem grapevinelaw11_live_ok {w : World} {Q : Bool×World→Prop} (h : (grapevinelaw11_live w).t Q) : Calls Try.prog 37 #[] w fun e w''=>∃ i,e = .returned (.bool i.1)∧Q i∧w'' = i.2:=by
 refine calls_dec (n:=66) Try.func37 rfl Try.ntmps37 (by simp) fun a ha=>?_
 unfold grapevinelaw11_live at h
 refine wp_seq<|region_lit<|qa ha rfl fun a ha=>s_nil<|t_n<|wp_seq<|region_lit<|?_
 obtain ⟨v1,v2,w3,e4,h⟩:=h
 refine q ha (d_call (xs:=[_]) (vs:=[(.int .i64 52)]) ha ⟨rfl,trivial⟩ Try.call30 (sector_New_ok e4)) fun a ha=>qm ha rfl fun a ha=>q ha (d_ext ha rfl rfl) fun a ha=>q ha (d_ext ha rfl rfl) fun a ha=>qa ha rfl fun a ha=>qa ha rfl fun a ha=>s_nil<|t_n<|wp_seq<|wp_seq<|?_
 refine reg_joinN (n:=66) (ι:=Bool×World) (Lf:=fun i=>[(16,(.bool i.1)),(1,(.pointer v1))]) (wf:=fun i=>i.2) (un2 h) (fun i h a ha=>?_) (fun h hk8=>?_)
 ·obtain ⟨v5,w6⟩:=i
  have ha : Has 66 [(16,(.bool v5)),(1,(.pointer v1))] a:=ha
  refine t_n<|?_
  refine s_condN ha rfl h (fun b10 h=>?_) (fun b10 h=>?_)
  ·refine wp_seq<|region_lit<|qa ha rfl fun a ha=>s_nil<|t_n<|wp_ret<|t_r<|?_
   have hS:=ha
   exact ret1 Try.results37 hS rfl ⟨(false,w6),rfl,h,rfl⟩
  ·refine wp_skip<|t_n<|wp_seq<|region_lit<|qm ha rfl fun a ha=>?_
   refine s_callN (ι:=(Option Addr)×Int×World) (pk:=fun i=>(.tuple #[(.pointer i.1),(.int .i64 i.2.1)])) (wf:=fun i=>i.2.2) (xs:=[_,_,_]) (vs:=[(.pointer v1),(.int .i64 1),(.int .i64 3)]) ha ⟨rfl,rfl,rfl,trivial⟩ Try.call32 (evlog_Open_ok (un3 h)) (fun i h a ha=>?_)
   obtain ⟨v11,v12,w13⟩:=i
   refine qm ha rfl fun a ha=>q ha (d_ext ha rfl rfl) fun a ha=>q ha (d_ext ha rfl rfl) fun a ha=>qa ha rfl fun a ha=>qa ha rfl fun a ha=>s_nil<|t_n<|wp_seq<|wp_seq<|?_
   refine reg_joinN (n:=66) (ι:=Bool×World) (Lf:=fun i=>[(44,(.bool i.1)),(1,(.pointer v1))]) (wf:=fun i=>i.2) (un2 h) (fun i h a ha=>?_) (fun h hk18=>?_)
   ·obtain ⟨v15,w16⟩:=i
    have ha : Has 66 [(44,(.bool v15)),(1,(.pointer v1))] a:=ha
    refine t_n<|?_
    refine s_condN ha rfl h (fun b38 h=>?_) (fun b38 h=>?_)
    ·refine wp_seq<|region_lit<|qa ha rfl fun a ha=>s_nil<|t_n<|wp_ret<|t_r<|?_
     have hS:=ha
     exact ret1 Try.results37 hS rfl ⟨(false,w16),rfl,h,rfl⟩
    ·refine wp_skip<|t_n<|wp_seq<|region_lit<|qm ha rfl fun a ha=>?_
     refine s_callN (ι:=(Option Addr)×Int×World) (pk:=fun i=>(.tuple #[(.pointer i.1),(.int .i64 i.2.1)])) (wf:=fun i=>i.2.2) (xs:=[_,_,_]) (vs:=[(.pointer v1),(.int .i64 1),(.int .i64 3)]) ha ⟨rfl,rfl,rfl,trivial⟩ Try.call32 (evlog_Open_ok (un3 h)) (fun i h a ha=>?_)
     obtain ⟨v39,v40,w41⟩:=i
     refine qm ha rfl fun a ha=>q ha (d_ext ha rfl rfl) fun a ha=>q ha (d_ext ha rfl rfl) fun a ha=>qa ha rfl fun a ha=>qa ha rfl fun a ha=>s_nil<|t_n<|wp_seq<|?_
     refine reg_joinN (n:=66) (ι:=Bool×World) (Lf:=fun i=>[(0,(.bool i.1))]) (wf:=fun i=>i.2) (un2 h) (fun i h a ha=>?_) (fun h hk46=>?_)
     ·obtain ⟨v43,w44⟩:=i
      have ha : Has 66 [(0,(.bool v43))] a:=ha
      refine t_n<|wp_ret<|?_
      have hS:=ha
      exact ret1 Try.results37 hS rfl ⟨(v43,w44),rfl,h,rfl⟩
     ·refine region_lit<|qm ha rfl fun a ha=>q ha (d_eq ha rfl rfl) fun a ha=>qm ha rfl fun a ha=>?_
      refine ite_n h (fun b47 h=>?_) (fun b47 h=>?_)
      ·refine qg ha 52 b47 (d_move ha rfl) fun a ha=>?_
       obtain ⟨v48,w49,e50,h⟩:=h
       refine qg ha 52 b47 (d_call (xs:=[_]) (vs:=[(.pointer v39)]) ha ⟨rfl,trivial⟩ Try.call38 (evlog_Log_High_ok e50)) fun a ha=>qg ha 52 b47 (d_eq ha rfl rfl) fun a ha=>q ha (d_pick_t ha rfl b47 rfl) fun a ha=>qm ha rfl fun a ha=>?_
       refine ite_n h (fun b51 h=>?_) (fun b51 h=>?_)
       ·refine qg ha 57 b51 (d_move ha rfl) fun a ha=>?_
        obtain ⟨v52,w53,e54,h⟩:=h
        refine qg ha 57 b51 (d_call (xs:=[_,_,_]) (vs:=[(.pointer v39),(.int .i64 0),(.int .i64 9)]) ha ⟨rfl,rfl,rfl,trivial⟩ Try.call44 (evlog_Log_Events_ok e54)) fun a ha=>?_
        obtain ⟨s55,w56,e57,h⟩:=h
        refine qg ha 57 b51 (d_bsl (vs:=[(0,(.int .u8 97)),(1,(.int .u8 98))]) (ps:=[[(.int .u8 97)],[(.int .u8 98)]]) ha ⟨rfl,rfl,rfl,rfl,trivial⟩ ⟨rfl,rfl,rfl,rfl,trivial⟩ rfl Try.runUnderlying72 Try.sizeOf5 Try.zeroValue5 (by decide) e57) fun a ha=>?_
        obtain ⟨s58,w59,e60,h⟩:=h
        refine qg ha 57 b51 (d_cvS ha rfl e60) fun a ha=>qg ha 57 b51 (d_build (vs:=[(0,(.int .i64 5)),(1,(Sl.v s58))]) (pl:=#[(0,1),(1,1)]) (cs:=([.int .i64 5,Sl.v s58])) ha ⟨rfl,rfl,rfl,rfl,trivial⟩ Try.zeroValue87 Try.runUnderlying87 (by intro w; kernel_rfl) (by kernel_rfl)) fun a ha=>?_
        obtain ⟨s61,w62,e63,h⟩:=h
        refine qg ha 57 b51 (d_bsl (vs:=[(0,(.agg (List.toArray ([.int .i64 5,Sl.v s58]))))]) (ps:=[([.int .i64 5,Sl.v s58])]) ha ⟨rfl,rfl,trivial⟩ ⟨rfl,rfl,trivial⟩ rfl Try.runUnderlying74 Try.sizeOf87 Try.zeroValue87 (by decide) e63) fun a ha=>?_
        obtain ⟨v64,w65,e66,h⟩:=h
        refine qg ha 57 b51 (d_call (xs:=[_,_]) (vs:=[(Sl.v v52),(Sl.v s61)]) ha ⟨rfl,rfl,trivial⟩ Try.call48 (grapevineref11_Same_ok e66)) fun a ha=>q ha (d_pick_t ha rfl b51 rfl) fun a ha=>qa ha rfl fun a ha=>s_nil<|?_
        have hS : Has 66 [(0,(.bool v64))] _:=ha.sub ⟨rfl,trivial⟩
        exact hk46 (v64,w65) h _ hS
       ·refine qn ha 57 (nn b51 _ rfl) fun a ha=>qn ha 57 (nn b51 _ rfl) fun a ha=>qn ha 57 (nn b51 _ rfl) fun a ha=>qn ha 57 (nn b51 _ rfl) fun a ha=>qn ha 57 (nn b51 _ rfl) fun a ha=>qn ha 57 (nn b51 _ rfl) fun a ha=>qn ha 57 (nn b51 _ rfl) fun a ha=>q ha (d_pick_f ha rfl b51 rfl) fun a ha=>qa ha rfl fun a ha=>s_nil<|?_
        have hS : Has 66 [(0,(.bool false))] _:=ha.sub ⟨rfl,trivial⟩
        exact hk46 (false,w49) h _ hS
      ·refine qn ha 52 (nn b47 _ rfl) fun a ha=>qn ha 52 (nn b47 _ rfl) fun a ha=>qn ha 52 (nn b47 _ rfl) fun a ha=>q ha (d_pick_f ha rfl b47 rfl) fun a ha=>qm ha rfl fun a ha=>qn ha 57 (nn Bool.false_ne_true _ rfl) fun a ha=>qn ha 57 (nn Bool.false_ne_true _ rfl) fun a ha=>qn ha 57 (nn Bool.false_ne_true _ rfl) fun a ha=>qn ha 57 (nn Bool.false_ne_true _ rfl) fun a ha=>qn ha 57 (nn Bool.false_ne_true _ rfl) fun a ha=>qn ha 57 (nn Bool.false_ne_true _ rfl) fun a ha=>qn ha 57 (nn Bool.false_ne_true _ rfl) fun a ha=>q ha (d_pick_f ha rfl Bool.false_ne_true rfl) fun a ha=>qa ha rfl fun a ha=>s_nil<|?_
       have hS : Has 66 [(0,(.bool false))] _:=ha.sub ⟨rfl,trivial⟩
       exact hk46 (false,w41) h _ hS
   ·refine region_lit<|qm ha rfl fun a ha=>q ha (d_ne ha rfl rfl) fun a ha=>qm ha rfl fun a ha=>?_
    refine ite_n h (fun b19 h=>?_) (fun b19 h=>?_)
    ·refine qn ha 24 (tn b19) fun a ha=>qn ha 24 (tn b19) fun a ha=>q ha (d_pick_t ha rfl b19 rfl) fun a ha=>qm ha rfl fun a ha=>qn ha 28 (tn rfl) fun a ha=>qn ha 28 (tn rfl) fun a ha=>qn ha 28 (tn rfl) fun a ha=>qn ha 28 (tn rfl) fun a ha=>qn ha 28 (tn rfl) fun a ha=>q ha (d_pick_t ha rfl rfl rfl) fun a ha=>qm ha rfl fun a ha=>qn ha 35 (tn rfl) fun a ha=>qn ha 35 (tn rfl) fun a ha=>qn ha 35 (tn rfl) fun a ha=>q ha (d_pick_t ha rfl rfl rfl) fun a ha=>qm ha rfl fun a ha=>qn ha 40 (tn rfl) fun a ha=>qn ha 40 (tn rfl) fun a ha=>qn ha 40 (tn rfl) fun a ha=>q ha (d_pick_t ha rfl rfl rfl) fun a ha=>s_nil<|?_
     have hS : Has 66 [(44,(.bool true)),(1,(.pointer v1))] _:=ha.sub ⟨rfl,rfl,trivial⟩
     exact hk18 (true,w13) h _ hS
    ·refine qg ha 24 (nt b19) (d_move ha rfl) fun a ha=>qg ha 24 (nt b19) (d_eqN ha rfl rfl Try.runUnderlying64) fun a ha=>q ha (d_pick_f ha rfl b19 rfl) fun a ha=>qm ha rfl fun a ha=>?_
     refine ite_n h (fun b20 h=>?_) (fun b20 h=>?_)
     ·refine qn ha 28 (tn b20) fun a ha=>qn ha 28 (tn b20) fun a ha=>qn ha 28 (tn b20) fun a ha=>qn ha 28 (tn b20) fun a ha=>qn ha 28 (tn b20) fun a ha=>q ha (d_pick_t ha rfl b20 rfl) fun a ha=>qm ha rfl fun a ha=>qn ha 35 (tn rfl) fun a ha=>qn ha 35 (tn rfl) fun a ha=>qn ha 35 (tn rfl) fun a ha=>q ha (d_pick_t ha rfl rfl rfl) fun a ha=>qm ha rfl fun a ha=>qn ha 40 (tn rfl) fun a ha=>qn ha 40 (tn rfl) fun a ha=>qn ha 40 (tn rfl) fun a ha=>q ha (d_pick_t ha rfl rfl rfl) fun a ha=>s_nil<|?_
      have hS : Has 66 [(44,(.bool true)),(1,(.pointer v1))] _:=ha.sub ⟨rfl,rfl,trivial⟩
      exact hk18 (true,w13) h _ hS
     ·refine qg ha 28 (nt b20) (d_move ha rfl) fun a ha=>?_
      obtain ⟨s21,w22,e23,h⟩:=h
      refine qg ha 28 (nt b20) (d_bsl (vs:=[(0,(.int .u8 97)),(1,(.int .u8 98))]) (ps:=[[(.int .u8 97)],[(.int .u8 98)]]) ha ⟨rfl,rfl,rfl,rfl,trivial⟩ ⟨rfl,rfl,rfl,rfl,trivial⟩ rfl Try.runUnderlying72 Try.sizeOf5 Try.zeroValue5 (by decide) e23) fun a ha=>?_
      obtain ⟨s24,w25,e26,h⟩:=h
      refine qg ha 28 (nt b20) (d_cvS ha rfl e26) fun a ha=>?_
      refine s_callNg (ι:=Int×World) (pk:=fun i=>(.int .i64 i.1)) (wf:=fun i=>i.2) (xs:=[_,_,_]) (vs:=[(.pointer v11),(.int .i64 5),(Sl.v s24)]) rfl rfl ha (rfl : List.lookup 28 _ = _) (nt b20) ⟨rfl,rfl,rfl,trivial⟩ Try.call42 (evlog_Log_Append_ok (un2 h)) (fun i h a ha=>?_)
      obtain ⟨v27,w28⟩:=i
      refine qg ha 28 (nt b20) (d_ne ha rfl rfl) fun a ha=>q ha (d_pick_f ha rfl b20 rfl) fun a ha=>qm ha rfl fun a ha=>?_
      refine ite_n h (fun b30 h=>?_) (fun b30 h=>?_)
      ·refine qn ha 35 (tn b30) fun a ha=>qn ha 35 (tn b30) fun a ha=>qn ha 35 (tn b30) fun a ha=>q ha (d_pick_t ha rfl b30 rfl) fun a ha=>qm ha rfl fun a ha=>qn ha 40 (tn rfl) fun a ha=>qn ha 40 (tn rfl) fun a ha=>qn ha 40 (tn rfl) fun a ha=>q ha (d_pick_t ha rfl rfl rfl) fun a ha=>s_nil<|?_
       have hS : Has 66 [(44,(.bool true)),(1,(.pointer v1))] _:=ha.sub ⟨rfl,rfl,trivial⟩
       exact hk18 (true,w28) h _ hS
      ·refine qg ha 35 (nt b30) (d_move ha rfl) fun a ha=>?_
       obtain ⟨v31,w32,e33,h⟩:=h
       refine qg ha 35 (nt b30) (d_call (xs:=[_]) (vs:=[(.pointer v11)]) ha ⟨rfl,trivial⟩ Try.call41 (evlog_Log_Sync_ok e33)) fun a ha=>qg ha 35 (nt b30) (d_ne ha rfl rfl) fun a ha=>q ha (d_pick_f ha rfl b30 rfl) fun a ha=>qm ha rfl fun a ha=>?_
       refine ite_n h (fun b34 h=>?_) (fun b34 h=>?_)
       ·refine qn ha 40 (tn b34) fun a ha=>qn ha 40 (tn b34) fun a ha=>qn ha 40 (tn b34) fun a ha=>q ha (d_pick_t ha rfl b34 rfl) fun a ha=>s_nil<|?_
        have hS : Has 66 [(44,(.bool true)),(1,(.pointer v1))] _:=ha.sub ⟨rfl,rfl,trivial⟩
        exact hk18 (true,w32) h _ hS
       ·refine qg ha 40 (nt b34) (d_move ha rfl) fun a ha=>?_
        obtain ⟨v35,w36,e37,h⟩:=h
        refine qg ha 40 (nt b34) (d_call (xs:=[_,_]) (vs:=[(.pointer v1),(Sl.v Sl.nil)]) ha ⟨rfl,rfl,trivial⟩ Try.call79 (sector_Disk_Crash_ok e37)) fun a ha=>qg ha 40 (nt b34) (d_ne ha rfl rfl) fun a ha=>q ha (d_pick_f ha rfl b34 rfl) fun a ha=>s_nil<|?_
        have hS : Has 66 [(44,(.bool (v35 != 0))),(1,(.pointer v1))] _:=ha.sub ⟨rfl,rfl,trivial⟩
        exact hk18 ((v35 != 0),w36) h _ hS
 ·refine region_lit<|qm ha rfl fun a ha=>q ha (d_ne ha rfl rfl) fun a ha=>qm ha rfl fun a ha=>?_
  refine ite_n h (fun b9 h=>?_) (fun b9 h=>?_)
  ·refine qn ha 13 (tn b9) fun a ha=>qn ha 13 (tn b9) fun a ha=>q ha (d_pick_t ha rfl b9 rfl) fun a ha=>s_nil<|?_
   have hS : Has 66 [(16,(.bool true)),(1,(.pointer v1))] _:=ha.sub ⟨rfl,rfl,trivial⟩
   exact hk8 (true,w3) h _ hS
  ·refine qg ha 13 (nt b9) (d_move ha rfl) fun a ha=>qg ha 13 (nt b9) (d_eqN ha rfl rfl Try.runUnderlying57) fun a ha=>q ha (d_pick_f ha rfl b9 rfl) fun a ha=>s_nil<|?_
   have hS : Has 66 [(16,(.bool (v1.isNone))),(1,(.pointer v1))] _:=ha.sub ⟨rfl,rfl,trivial⟩
   exact hk8 ((v1.isNone),w3) h _ hS
def lvL : Lg:=⟨1,3,0,0,0,[]⟩
def lvA : Int×Dk×Lg:=(Dk.new 52).appendL lvL 5 [97,98]
def lvD : Dk:=(lvA.2.1.syncL lvA.2.2).2.crash []
theorem lv1 : (Dk.new 52).openL 1 3 = (0,Dk.new 52,some lvL):=by kernel_rfl
theorem lv2 : lvA.1 = 0:=by kernel_rfl
theorem lv3 : (lvA.2.1.syncL lvA.2.2).1 = 0:=by kernel_rfl
theorem lv4 : (lvD.openL 1 3).1 = 0:=by kernel_rfl
theorem lv5 : (lvD.openL 1 3).2.2 = some ⟨1,3,1,5,0,[⟨0,1,2,5,[(5,[97,98])]⟩]⟩:=by kernel_rfl
theorem new_wf1 : lvL.Wf:=⟨by decide,by decide,by decide,by decide,by decide,by decide,by decide,(fun s hs=>by cases hs),(by simp [lvL])⟩
theorem lvA_to : (Dk.new 52).To lvA.2.1 1000:=append_to _ _ _ (by intro b hb; simp at hb; rcases hb with rfl | rfl <;> decide)
section
variable {F0 : Nat → Prop} {g g0 : Gh} {w w0 : World} {L : List Rs}
theorem Hp.lit {xs : List Int} {ps : List (List Value)} (H : Hp F0 g0 w0 g w L) (hp : ps = xs.map fun x=>[.int .u8 x]) : ∃ z g' w1 w2,D.bsl w 5 1 ps = some (z,w1)∧cvS Try.prog 72 z w1 = some (z,w2)∧Hp F0 g0 w0 g' w2 L∧Mo g w g' w2∧PR g' w2 z 1 (nums .u8 xs):=by
 obtain ⟨w1,w2,e1,e2,r2,f2⟩:=lit_s (w:=w) (t:=72) (T:=5) (P:=Try.prog) (m:=ps.length) rfl Try.underlying72 Try.underlying5 (by intro p h; rw [hp] at h; obtain ⟨x,_,rfl⟩:=List.mem_map.1 h; rfl)
 have hfl : ps.flatten = nums .u8 xs:=by
  rw [hp]
  clear hp
  induction xs with
  | nil=>rfl
  | cons x xs ih=>simpa [nums] using ih
 rw [hfl] at r2
 have hlt : (0 < ps.length→w.heap.size < w2.heap.size):=fun h0=>by
  obtain ⟨a,ea,hc⟩:=r2.at_ h0
  have hx : 0 < xs.length:=by rw [hp] at h0; simpa using h0
  have h1:=hc 0 (.int .u8 xs[0]) (by rw [nums_get,List.getElem?_eq_getElem hx]; rfl)
  simp only [Option.some.injEq] at ea
  subst ea
  exact cell_lt h1
 have n : Nw g w (fun k=>g k∨(0 < ps.length∧k = w.heap.size)) w2:=⟨f2 _,fun k hk _=>⟨fun h=>h.elim id (fun h=>by omega),.inl⟩,⟨(f2 (fun _=>False)).size,fun k hk=>⟨.inl hk,(f2 (fun _=>False)).block k (H.lt k hk) id⟩⟩,
  fun k hk=>hk.elim (fun h'=>Nat.lt_of_lt_of_le (H.lt k h') (f2 (fun _=>False)).size) (fun h'=>by rw [h'.2]; exact hlt h'.1)⟩
 exact ⟨_,_,w1,w2,e1,e2,H.nw n,n.mo,r2,fun a ha h0=>.inr ⟨h0,by cases ha; rfl⟩⟩
theorem live11_ok (H : Hp F0 g0 w0 g w L) {Φ : Bool×World→Prop} (hΦ : ∀ g' w',Hp F0 g0 w0 g' w' L→Mo g w g' w'→Φ (true,w')) : (grapevinelaw11_live w).t Φ:=by
 obtain ⟨x,w1,e1,H1,m1⟩:=H.dnew (m:=52) (by decide) (by decide)
 unfold grapevinelaw11_live
 refine Nd.b3 e1 (Nd.j2 (Ψ:=fun r=>r = (false,w1)) (Nd.f (by decide) (Nd.ret rfl)) ?_)
 rintro _ _ he; cases he
 refine Nd.f (by simp) (Nd.j3 (Ψ:=fun r=>∃ p g',r.1 = some ⟨p,0,none⟩∧r.2.1 = 0∧Hp F0 g0 w0 g' r.2.2 (lgR p x lvL :: dkR x (Dk.new 52) :: L)∧Mo g w g' r.2.2) (eopen_ok H1 (new_bt _) (by simp [Dk.new]) (by decide) fun g' w' o ho m'=>?_) ?_)
 ·rw [show (52 : Int).toNat = 52 from rfl,lv1] at ho
  obtain ⟨p,rfl,H'⟩:=ho
  exact ⟨p,g',rfl,by rw [show (52 : Int).toNat = 52 from rfl,lv1],H',m1.t m'⟩
 rintro _ _ w2 ⟨p,g2,rfl,rfl,H2,m2⟩
 simp only at H2 m2
 -- the record is appended,and the disk crashes
 refine Nd.j2 (Ψ:=fun r=>r.1 = false∧∃ g',Hp F0 g0 w0 g' r.2 (dkR x lvD :: L)∧Mo g w g' r.2) (Nd.f (by decide) (Nd.f (by simp) ?_)) ?_
 ·obtain ⟨z3,g3,w3,w4,e3,e4,H4,m4,p4⟩:=H2.lit (xs:=[97,98]) (ps:=[[.int .u8 97],[.int .u8 98]]) rfl
  refine Nd.b2 e3 (Nd.b2 e4 (Nd.j2 (Ψ:=fun r=>r.1 = 0∧∃ g',Hp F0 g0 w0 g' r.2 (lgR p x lvA.2.2 :: dkR x lvA.2.1 :: L)∧Mo g w g' r.2) (append_ok new_wf1 H4 p4 (by simp [Dk.new]) fun g' w' H' m'=>⟨lv2,g',H',m2.t (m4.t m')⟩) ?_))
  rintro _ w5 ⟨h5,g5,H5,m5⟩
  simp only at h5 H5 m5
  subst h5
  have hW:=lvA_to.w
  have hW0 : (Dk.new 52).W.length = 0:=rfl
  obtain ⟨w6,e6,H6,m6⟩:=esync_ok H5 (by omega)
  rw [lv3] at e6
  have hW6:=(syncL_to lvA.2.1 lvA.2.2).w
  obtain ⟨w7,e7,H7,m7⟩:=(H6.sw).dcrash (f:=Sl.nil) (fs:=[]) (PR.nil rfl) (by omega)
  exact Nd.f (by decide) (Nd.b2 e6 (Nd.f (by decide) (Nd.b2 e7 (Nd.ret ⟨rfl,g5,H7.sw.tl,m5.t (m6.t m7)⟩))))
 rintro _ w8 ⟨h8,g8,H8,m8⟩
 simp only at h8 H8 m8
 subst h8
 have hbt : lvD.Bt:=((syncL_to _ _).b (lvA_to.b (new_bt _))).crash []
 refine Nd.f (by simp) (Nd.j3 (Ψ:=fun r=>∃ p g',r.1 = some ⟨p,0,none⟩∧r.2.1 = 0∧Hp F0 g0 w0 g' r.2.2 (lgR p x ⟨1,3,1,5,0,[⟨0,1,2,5,[(5,[97,98])]⟩]⟩ :: L)∧Mo g w g' r.2.2) (eopen_ok H8 hbt (by simp [lvD,Dk.crash]) (by decide) fun g' w' o ho m'=>?_) ?_)
 ·rw [lv5] at ho
  obtain ⟨p,rfl,H'⟩:=ho
  exact ⟨p,g',rfl,lv4,H'.sw.tl,m8.t m'⟩
 rintro _ _ w9 ⟨q,g9,rfl,rfl,H9,m9⟩
 simp only at H9 m9
 refine Nd.j2 (Ψ:=fun r=>r.1 = true∧∃ g',Hp F0 g0 w0 g' r.2 L∧Mo g w g' r.2) (Nd.t (by decide) (Nd.b2 (high_ok H9) (Nd.t (by decide) ?_))) ?_
 ·obtain ⟨z10,w10,e10,H10,m10⟩:=events_ok (a:=0) (b:=9) (by simp) (by simp) H9
  obtain ⟨z11,g11,w11,w12,e11,e12,H12,m12,p12⟩:=H10.lit (xs:=[97,98]) (ps:=[[.int .u8 97],[.int .u8 98]]) rfl
  obtain ⟨z13,w13,e13,n13,_,H13,m13⟩:=H12.bsl (T:=87) (sz:=2) (ps:=[rcC 5 z11]) (by intro v hv; simp at hv; subst hv; rfl) (by simp)
  have hev : Lg.events ⟨1,3,1,5,0,[⟨0,1,2,5,[(5,[97,98])]⟩]⟩ 0 9 = [(5,[97,98])]:=by kernel_rfl
  rw [hev] at H13
  have r1 : RRd w13 z10 [(5,[97,98])]:=rcoR_rd H13.sw
  have r2 : RRd w13 z13 [(5,[97,98])]:=⟨[(5,z11)],H13.ow.rd,rfl,fun j r q hr hq=>by
   cases j with
   | zero=>simp at hr hq; subst hr; subst hq; exact ⟨rfl,(p12.mo m13).rd⟩
   | succ j=>simp at hr⟩
  obtain ⟨w14,e14,-,f14⟩:=same_ok r1 r2 (by simp)
  have H14:=H13.tl.tl.tl.old f14
  exact Nd.b2 e10 (Nd.b2 e11 (Nd.b2 e12 (Nd.b2 e13 (Nd.b2 e14 (Nd.ret ⟨rfl,g11,H14,m9.t (m10.t (m12.t (m13.t (H13.mold f14))))⟩)))))
 ·rintro _ w15 ⟨h15,g15,H15,m15⟩
  simp only at h15 H15 m15
  subst h15
  exact Nd.ret (hΦ g15 w15 H15 m15)
end
noncomputable def grapevineref09_New_l1 (a0 : Int) (p7 : Addr) (x10 : Int) (w11 : World) : Option ((Int×World)⊕(World)) :=
 if (decide (x10 < a0)) = true then
 ((dr w11).bind fun w18 =>
 (ldL w18 (p7.add 0)).bind fun v20 =>
 bind2 (mkS Try.prog 72 64 64 w18) fun s22 w23 =>
 bind2 (bsl w23 72 1 [[(Sl.v s22)]]) fun s25 w26 =>
 bind2 (apS Try.prog 112 v20 s25 w26) fun s28 w29 =>
 (stV w29 (p7.add 0) (Sl.v s28)).bind fun w31 =>
 chk (ldL w23 (p7.add 0) = some v20) <|
 chk (ldL w26 (p7.add 0) = some v20) <|
 some (.inl ((IntKind.wrap .i64 (x10 + 1)),w31)))
 else
 (some (.inr w11))
noncomputable def grapevineref09_New (a0 : Int) (w : World) : Option ((Option Addr)×Int×World) :=
 bind2 (if (decide (a0 < 1)) = true then
 (some (true,w))
 else
 (some ((decide (512 < a0)),w))) fun v1 w2 =>
 if v1 = true then
 (some (none,2,w2))
 else
 (bind2 (mk w2 115 ([.slice none 0 0,.slice none 0 0,.int .i64 0,.bool false,.int .i64 0])) fun p7 w8 =>
 (loopF (fun s : Int×World=>grapevineref09_New_l1 a0 p7 s.1 s.2) (0,w8)).bind fun w14 =>
 some ((some p7),0,w14))
set_option maxHeartbeats 1000000 in
set_option maxRecDepth 100000 in
theorem grapevineref09_New_ok {a0 : Int} {w w' : World} {r0 : Option Addr} {r1 : Int} (h : grapevineref09_New a0 w = some (r0,r1,w')) : Calls Try.prog 31 #[(.int .i64 a0)] w fun e w''=>e = .returned (.tuple #[(.pointer r0),(.int .i64 r1)])∧w'' = w':=by
 refine calls_dec (n:=30) Try.func31 rfl Try.ntmps31 (by simp) fun a ha=>?_
 unfold grapevineref09_New at h
 refine wp_seq<|region_lit<|qa ha rfl fun a ha=>qa ha rfl fun a ha=>s_nil<|t_n<|wp_seq<|wp_seq<|?_
 obtain ⟨v1,w2,e3,h⟩:=bs2 h
 refine reg_join (n:=30) (L:=[(11,(.bool v1)),(0,(.int .i64 a0))]) (w':=w2) (fun a ha=>?_) (fun hk4=>?_)
 ·refine t_n<|?_
  refine s_cond ha rfl h (fun b6 h=>?_) (fun b6 h=>?_)
  ·refine wp_seq<|region_lit<|qa ha rfl fun a ha=>qa ha rfl fun a ha=>s_nil<|t_n<|wp_ret<|t_r<|?_
   have hS:=ha
   cases h
   exact ret2 Try.results31 hS rfl rfl ⟨rfl,rfl⟩
  ·refine wp_skip<|t_n<|wp_seq<|region_lit<|q ha (d_build (vs:=[]) (pl:=#[(0,1),(1,1),(2,1),(3,1),(4,1)]) (cs:=([.slice none 0 0,.slice none 0 0,.int .i64 0,.bool false,.int .i64 0])) ha trivial Try.zeroValue115 Try.runUnderlying115 (by intro w; kernel_rfl) (by kernel_rfl)) fun a ha=>?_
   obtain ⟨p7,w8,e9,h⟩:=bs2 h
   refine q ha (d_box ha rfl rfl e9) fun a ha=>qa ha rfl fun a ha=>s_nil<|t_n<|wp_seq<|wp_seq<|region_lit<|qa ha rfl fun a ha=>s_nil<|t_n<|wp_block<|?_
   obtain ⟨w14,e13,h⟩:=bs1 h
   refine s_loop1 (n:=30) (L:=[(4,(.pointer (some p7)))]) (w':=w14) (e:=.exit 0) (I:=fun (s : Int×World) a w=>Has 30 [(5,(.int .i64 s.1)),(0,(.int .i64 a0)),(4,(.pointer (some p7)))] a∧w = s.2) ⟨ha.sub ⟨rfl,rfl,rfl,trivial⟩,rfl⟩ e13 (fun a ha=>?_) (fun hk15=>?_)
   ·refine b_hit<|t_n<|wp_seq<|region_lit<|qm ha rfl fun a ha=>qa ha rfl fun a ha=>qa ha rfl fun a ha=>s_nil<|t_n<|wp_ret<|?_
    have hS:=ha
    cases h
    exact ret2 Try.results31 hS rfl rfl ⟨rfl,rfl⟩
   ·clear h
    rintro ⟨x10,w11⟩ a wq o ⟨ha,hwq⟩ h hr16
    obtain rfl : w11 = wq:=hwq.symm
    have ha : Has 30 [(5,(.int .i64 x10)),(0,(.int .i64 a0)),(4,(.pointer (some p7)))] a:=ha
    have h : grapevineref09_New_l1 a0 p7 x10 w11 = some o:=h
    unfold grapevineref09_New_l1 at h
    refine wp_seq<|wp_seq<|region_lit<|qm ha rfl fun a ha=>qm ha rfl fun a ha=>q ha (d_lt ha rfl rfl) fun a ha=>s_nil<|t_n<|?_
    refine s_cond ha rfl h (fun b17 h=>?_) (fun b17 h=>?_)
    ·refine wp_skip<|t_n<|wp_seq<|wp_block<|?_
     obtain ⟨w18,e19,h⟩:=bs1 h
     obtain ⟨v20,e21,h⟩:=bs1 h
     obtain ⟨s22,w23,e24,h⟩:=bs2 h
     obtain ⟨s25,w26,e27,h⟩:=bs2 h
     obtain ⟨s28,w29,e30,h⟩:=bs2 h
     obtain ⟨w31,e32,h⟩:=bs1 h
     obtain ⟨e33,h⟩:=chk_some h
     obtain ⟨e34,h⟩:=chk_some h
     have ha : Has 30 [(0,(.int .i64 a0)),(4,(.pointer (some p7))),(5,(.int .i64 x10))] a:=ha.sub ⟨rfl,rfl,rfl,trivial⟩
     refine region_draw (n:=30) (ds:=(⟨_,(.pointer (some p7)),false,0,3,[],[(4,(.pointer (some p7)))]⟩ :: ⟨_,(.pointer (some p7)),false,0,2,[],[(4,(.pointer (some p7)))]⟩ :: ⟨_,(.pointer (some p7)),false,0,2,[1],[(20,(.pointer (some p7)))]⟩ :: ⟨_,(.pointer (some (p7.add 0))),false,0,2,[1,2],[(21,(.pointer (some p7)))]⟩ :: ⟨_,(Sl.v v20),false,0,2,[1,2,3],[(22,(.pointer (some (p7.add 0))))]⟩ :: ⟨_,(Sl.v s22),true,0,0,[],[]⟩ :: ⟨_,(Sl.v s25),true,1,1,[5],[(24,(Sl.v s22))]⟩ :: ⟨_,(Sl.v s28),true,2,2,(rn 1 6),[(23,(Sl.v v20)),(25,(Sl.v s25))]⟩ :: ⟨_,(.pointer (some p7)),false,3,3,(rn 0 8),[(19,(.pointer (some p7)))]⟩ :: ⟨_,(.pointer (some (p7.add 0))),false,3,3,(rn 0 9),[(27,(.pointer (some p7)))]⟩ :: ⟨_,undef,true,3,3,(rn 0 10),[(28,(.pointer (some (p7.add 0)))),(26,(Sl.v s28))]⟩ :: [])) (W:=(fun j=>match j with | 0=>w18 | 1=>w23 | 2=>w26 | 3=>w29 | 4=>w31 | _=>w31)) (by kernel_rfl) ha (dr_w e19) (by kernel_rfl) ?_ (reads_of (by kernel_rfl)) (by kernel_rfl) (m:=4) (by kernel_rfl) (fun a ha=>?_)
     ·refine ⟨?_,?_,?_,?_,?_,?_,?_,?_,?_,?_,?_,trivial⟩
      ·exact oa fun j a ha=>d_move ha rfl
      ·exact oa fun j a ha=>d_move ha rfl
      ·exact oa fun j a ha=>d_nil ha rfl
      ·exact oa fun j a ha=>d_fa ha rfl Try.runUnderlying115 rfl rfl Try.sizeOf112 (by decide)
      ·intro j h1 h2; have h1 : 0≤j:=h1; have h2 : j≤2:=h2; rcases (by omega : j = 0∨j = 1∨j = 2) with rfl | rfl | rfl
       ·exact ok_do rfl fun a ha=>d_ld ha rfl Try.isAgg112 (ldL_c e21)
       ·exact ok_do rfl fun a ha=>d_ld ha rfl Try.isAgg112 (ldL_c e33)
       ·exact ok_do rfl fun a ha=>d_ld ha rfl Try.isAgg112 (ldL_c e34)
      ·exact oc 0 (ok_do rfl fun a ha=>d_mkS ha rfl rfl e24)
      ·exact oc 1 (ok_do rfl fun a ha=>d_bsl (vs:=[(0,(Sl.v s22))]) (ps:=[[(Sl.v s22)]]) ha ⟨rfl,rfl,trivial⟩ ⟨rfl,rfl,trivial⟩ rfl Try.runUnderlying112 Try.sizeOf72 Try.zeroValue72 (by decide) e27)
      ·exact oc 2 (ok_do rfl fun a ha=>d_apS ha rfl rfl e30)
      ·exact oa fun j a ha=>d_nil ha rfl
      ·exact oa fun j a ha=>d_fa ha rfl Try.runUnderlying115 rfl rfl Try.sizeOf112 (by decide)
      ·exact oc 3 (ok_do rfl fun a ha=>d_st ha rfl rfl Try.sizeOf112 e32)
     ·have ha : Has 30 [(0,(.int .i64 a0)),(4,(.pointer (some p7))),(5,(.int .i64 x10))] a:=ha.sub ⟨rfl,rfl,rfl,trivial⟩
      refine b_n<|t_n<|region_lit<|qm ha rfl fun a ha=>q ha (d_add ha rfl rfl) fun a ha=>qa ha rfl fun a ha=>s_nil<|?_
      have hS : Has 30 [(5,(.int .i64 (IntKind.wrap .i64 (x10 + 1)))),(0,(.int .i64 a0)),(4,(.pointer (some p7)))] _:=ha.sub ⟨rfl,rfl,rfl,trivial⟩
      cases h
      exact lp_next ⟨hS,rfl⟩
    ·refine wp_exit<|t_x<|?_
     have hS : Has 30 [(4,(.pointer (some p7)))] _:=ha.sub ⟨rfl,trivial⟩
     cases h
     cases hr16 _ rfl
     refine lp_x<|?_
     exact hk15 _ hS
 ·clear h
  have h:=e3
  refine region_lit<|qm ha rfl fun a ha=>q ha (d_lt ha rfl rfl) fun a ha=>qm ha rfl fun a ha=>?_
  refine ite_s h (fun b5 h=>?_) (fun b5 h=>?_)
  ·refine qn ha 8 (tn b5) fun a ha=>qn ha 8 (tn b5) fun a ha=>q ha (d_pick_t ha rfl b5 rfl) fun a ha=>s_nil<|?_
   have hS : Has 30 [(11,(.bool true)),(0,(.int .i64 a0))] _:=ha.sub ⟨rfl,rfl,trivial⟩
   cases h
   exact hk4 _ hS
  ·refine qg ha 8 (nt b5) (d_move ha rfl) fun a ha=>qg ha 8 (nt b5) (d_gt ha rfl rfl) fun a ha=>q ha (d_pick_f ha rfl b5 rfl) fun a ha=>s_nil<|?_
   have hS : Has 30 [(11,(.bool (decide (512 < a0)))),(0,(.int .i64 a0))] _:=ha.sub ⟨rfl,rfl,trivial⟩
   cases h
   exact hk4 _ hS
noncomputable def grapevineref09_Disk_trips (a0 : Option Addr) (w : World) : Option (Bool×World) :=
 (a0).bind fun p1 =>
 (ldI .i64 w (p1.add 2)).bind fun v3 =>
 if (decide (0 < v3)) = true then
 ((ldI .i64 w (p1.add 2)).bind fun v6 =>
 (stV w (p1.add 2) (.int .i64 (IntKind.wrap .i64 (v6 - 1)))).bind fun w8 =>
 (ldI .i64 w8 (p1.add 2)).bind fun v10 =>
 (stV w8 (p1.add 3) (.bool (v10 == 0))).bind fun w12 =>
 (ldB w12 (p1.add 3)).bind fun v14 =>
 some (v14,w12))
 else
 (some (false,w))
set_option maxHeartbeats 1000000 in
set_option maxRecDepth 100000 in
theorem grapevineref09_Disk_trips_ok {a0 : Option Addr} {w w' : World} {r0 : Bool} (h : grapevineref09_Disk_trips a0 w = some (r0,w')) : Calls Try.prog 118 #[(.pointer a0)] w fun e w''=>e = .returned (.bool r0)∧w'' = w':=by
 refine calls_dec (n:=27) Try.func118 rfl Try.ntmps118 (by simp) fun a ha=>?_
 unfold grapevineref09_Disk_trips at h
 refine wp_seq<|region_lit<|qa ha rfl fun a ha=>s_nil<|t_n<|wp_seq<|wp_seq<|region_lit<|qm ha rfl fun a ha=>?_
 obtain ⟨p1,e2,h⟩:=bs1 h
 refine q ha (d_nilp ha rfl e2) fun a ha=>q ha (d_fa ha rfl Try.runUnderlying115 rfl rfl Try.sizeOf3 (by decide)) fun a ha=>?_
 obtain ⟨v3,e4,h⟩:=bs1 h
 refine q ha (d_ld ha rfl Try.isAgg3 (ldI_c e4)) fun a ha=>q ha (d_gt ha rfl rfl) fun a ha=>s_nil<|t_n<|?_
 refine s_cond ha rfl h (fun b5 h=>?_) (fun b5 h=>?_)
 ·refine wp_seq<|region_lit<|qm ha rfl fun a ha=>q ha (d_nilp ha rfl e2) fun a ha=>q ha (d_fa ha rfl Try.runUnderlying115 rfl rfl Try.sizeOf3 (by decide)) fun a ha=>?_
  obtain ⟨v6,e7,h⟩:=bs1 h
  refine q ha (d_ld ha rfl Try.isAgg3 (ldI_c e7)) fun a ha=>q ha (d_sub ha rfl rfl) fun a ha=>q ha (d_nilp ha rfl e2) fun a ha=>q ha (d_fa ha rfl Try.runUnderlying115 rfl rfl Try.sizeOf3 (by decide)) fun a ha=>?_
  obtain ⟨w8,e9,h⟩:=bs1 h
  refine q ha (d_st ha rfl rfl Try.sizeOf3 e9) fun a ha=>s_nil<|t_n<|wp_seq<|region_lit<|qm ha rfl fun a ha=>qm ha rfl fun a ha=>q ha (d_nilp ha rfl e2) fun a ha=>q ha (d_fa ha rfl Try.runUnderlying115 rfl rfl Try.sizeOf3 (by decide)) fun a ha=>?_
  obtain ⟨v10,e11,h⟩:=bs1 h
  refine q ha (d_ld ha rfl Try.isAgg3 (ldI_c e11)) fun a ha=>q ha (d_eq ha rfl rfl) fun a ha=>q ha (d_nilp ha rfl e2) fun a ha=>q ha (d_fa ha rfl Try.runUnderlying115 rfl rfl Try.sizeOf4 (by decide)) fun a ha=>?_
  obtain ⟨w12,e13,h⟩:=bs1 h
  refine q ha (d_st ha rfl rfl Try.sizeOf4 e13) fun a ha=>s_nil<|t_n<|wp_seq<|region_lit<|qm ha rfl fun a ha=>q ha (d_nilp ha rfl e2) fun a ha=>q ha (d_fa ha rfl Try.runUnderlying115 rfl rfl Try.sizeOf4 (by decide)) fun a ha=>?_
  obtain ⟨v14,e15,h⟩:=bs1 h
  refine q ha (d_ld ha rfl Try.isAgg4 (ldB_c e15)) fun a ha=>qa ha rfl fun a ha=>s_nil<|t_n<|wp_ret<|t_r<|?_
  have hS:=ha
  cases h
  exact ret1 Try.results118 hS rfl ⟨rfl,rfl⟩
 ·refine wp_skip<|t_n<|wp_seq<|region_lit<|qa ha rfl fun a ha=>s_nil<|t_n<|wp_ret<|?_
  have hS:=ha
  cases h
  exact ret1 Try.results118 hS rfl ⟨rfl,rfl⟩
noncomputable def grapevineref09_Disk_put (a0 : Option Addr) (a1 : List Value) (a2 : Int) (w : World) : Option (World) :=
 bind2 (mk w 172 a1) fun p1 w2 =>
 bind2 (bsl w2 5 1 []) fun s4 w5 =>
 (ldL w5 (p1.add 1)).bind fun v7 =>
 (slS v7 0 a2 (v7.c : Int) 1).bind fun s9 =>
 bind2 (apS Try.prog 72 s4 s9 w5) fun s11 w12 =>
 (dr w12).bind fun w14 =>
 (a0).bind fun p16 =>
 (ldL w14 (p16.add 0)).bind fun v18 =>
 (ldI .i64 w14 (p1.add 0)).bind fun v20 =>
 (ldL w14 (p16.add 0)).bind fun v22 =>
 (ldI .i64 w14 (p1.add 0)).bind fun v24 =>
 (ix v22 v24 1).bind fun p26 =>
 (ldL w14 p26).bind fun v28 =>
 (slS v28 a2 (v28.n : Int) (v28.c : Int) 1).bind fun s30 =>
 bind2 (apS Try.prog 72 s11 s30 w14) fun s32 w33 =>
 (ix v18 v20 1).bind fun p35 =>
 (stV w33 p35 (Sl.v s32)).bind fun w37 =>
 chk (ldL w33 (p16.add 0) = some v18) <|
 chk (ldI .i64 w33 (p1.add 0) = some v20) <|
 some w37
set_option maxHeartbeats 1000000 in
set_option maxRecDepth 100000 in
theorem grapevineref09_Disk_put_ok {a0 : Option Addr} {a1 : List Value} {a2 : Int} {w w' : World} (h : grapevineref09_Disk_put a0 a1 a2 w = some w') : Calls Try.prog 119 #[(.pointer a0),(.agg (List.toArray a1)),(.int .i64 a2)] w fun e w''=>e = .returned (.tuple #[])∧w'' = w':=by
 refine calls_dec (n:=32) Try.func119 rfl Try.ntmps119 (by simp) fun a ha=>?_
 unfold grapevineref09_Disk_put at h
 refine wp_seq<|region_lit<|?_
 obtain ⟨p1,w2,e3,h⟩:=bs2 h
 refine q ha (d_box ha rfl rfl e3) fun a ha=>s_nil<|t_n<|wp_seq<|region_lit<|?_
 obtain ⟨s4,w5,e6,h⟩:=bs2 h
 refine q ha (d_bsl (vs:=[]) (ps:=[]) ha trivial trivial rfl Try.runUnderlying72 Try.sizeOf5 Try.zeroValue5 (by decide) e6) fun a ha=>q ha (d_fa ha rfl Try.runUnderlying172 rfl rfl Try.sizeOf72 (by decide)) fun a ha=>?_
 obtain ⟨v7,e8,h⟩:=bs1 h
 refine q ha (d_ld ha rfl Try.isAgg72 (ldL_c e8)) fun a ha=>qm ha rfl fun a ha=>?_
 obtain ⟨s9,e10,h⟩:=bs1 h
 refine q ha (d_slS ha rfl Try.runUnderlying72 Try.sizeOf5 rfl ⟨_,rfl⟩ rfl (by simp) e10) fun a ha=>?_
 obtain ⟨s11,w12,e13,h⟩:=bs2 h
 refine q ha (d_apS ha rfl rfl e13) fun a ha=>qa ha rfl fun a ha=>s_nil<|t_n<|?_
 obtain ⟨w14,e15,h⟩:=bs1 h
 obtain ⟨p16,e17,h⟩:=bs1 h
 obtain ⟨v18,e19,h⟩:=bs1 h
 obtain ⟨v20,e21,h⟩:=bs1 h
 obtain ⟨v22,e23,h⟩:=bs1 h
 obtain ⟨v24,e25,h⟩:=bs1 h
 obtain ⟨p26,e27,h⟩:=bs1 h
 obtain ⟨v28,e29,h⟩:=bs1 h
 obtain ⟨s30,e31,h⟩:=bs1 h
 obtain ⟨s32,w33,e34,h⟩:=bs2 h
 obtain ⟨p35,e36,h⟩:=bs1 h
 obtain ⟨w37,e38,h⟩:=bs1 h
 obtain ⟨e39,h⟩:=chk_some h
 obtain ⟨e40,h⟩:=chk_some h
 have ha : Has 32 [(0,(.pointer a0)),(2,(.int .i64 a2)),(4,(.pointer (some p1))),(6,(Sl.v s11))] a:=ha.sub ⟨rfl,rfl,rfl,rfl,trivial⟩
 refine region_draw (n:=32) (ds:=(⟨_,(.pointer a0),false,0,1,[],[(0,(.pointer a0))]⟩ :: ⟨_,(.pointer (some p16)),false,0,1,[0],[(13,(.pointer a0))]⟩ :: ⟨_,(.pointer (some (p16.add 0))),false,0,1,[0,1],[(14,(.pointer (some p16)))]⟩ :: ⟨_,(Sl.v v18),false,0,1,[0,1,2],[(15,(.pointer (some (p16.add 0))))]⟩ :: ⟨_,(.pointer (some (p1.add 0))),false,0,1,[],[(4,(.pointer (some p1)))]⟩ :: ⟨_,(.int .i64 v20),false,0,1,[4],[(17,(.pointer (some (p1.add 0))))]⟩ :: ⟨_,(Sl.v s11),false,0,0,[],[(6,(Sl.v s11))]⟩ :: ⟨_,(.pointer a0),false,0,0,[],[(0,(.pointer a0))]⟩ :: ⟨_,(.pointer (some p16)),false,0,0,[7],[(20,(.pointer a0))]⟩ :: ⟨_,(.pointer (some (p16.add 0))),false,0,0,[7,8],[(21,(.pointer (some p16)))]⟩ :: ⟨_,(Sl.v v22),false,0,0,[7,8,9],[(22,(.pointer (some (p16.add 0))))]⟩ :: ⟨_,(.pointer (some (p1.add 0))),false,0,0,[],[(4,(.pointer (some p1)))]⟩ :: ⟨_,(.int .i64 v24),false,0,0,[11],[(24,(.pointer (some (p1.add 0))))]⟩ :: ⟨_,(.pointer (some p26)),false,0,0,(rn 7 6),[(23,(Sl.v v22)),(25,(.int .i64 v24))]⟩ :: ⟨_,(Sl.v v28),false,0,0,(rn 7 7),[(26,(.pointer (some p26)))]⟩ :: ⟨_,(.int .i64 a2),false,0,0,[],[(2,(.int .i64 a2))]⟩ :: ⟨_,(Sl.v s30),false,0,0,(rn 7 9),[(27,(Sl.v v28)),(28,(.int .i64 a2))]⟩ :: ⟨_,(Sl.v s32),true,0,0,(rn 6 11),[(19,(Sl.v s11)),(29,(Sl.v s30))]⟩ :: ⟨_,(.pointer (some p35)),false,1,1,(rn 0 18),[(16,(Sl.v v18)),(18,(.int .i64 v20))]⟩ :: ⟨_,undef,true,1,1,(rn 0 19),[(31,(.pointer (some p35))),(30,(Sl.v s32))]⟩ :: [])) (W:=(fun j=>match j with | 0=>w14 | 1=>w33 | 2=>w37 | _=>w37)) (by kernel_rfl) ha (dr_w e15) (by kernel_rfl) ?_ (reads_of (by kernel_rfl)) (by kernel_rfl) (m:=2) (by kernel_rfl) (fun a ha=>?_)
 ·refine ⟨?_,?_,?_,?_,?_,?_,?_,?_,?_,?_,?_,?_,?_,?_,?_,?_,?_,?_,?_,?_,trivial⟩
  ·exact oa fun j a ha=>d_move ha rfl
  ·exact oa fun j a ha=>d_nilp ha rfl e17
  ·exact oa fun j a ha=>d_fa ha rfl Try.runUnderlying115 rfl rfl Try.sizeOf112 (by decide)
  ·intro j h1 h2; have h1 : 0≤j:=h1; have h2 : j≤1:=h2; rcases (by omega : j = 0∨j = 1) with rfl | rfl
   ·exact ok_do rfl fun a ha=>d_ld ha rfl Try.isAgg112 (ldL_c e19)
   ·exact ok_do rfl fun a ha=>d_ld ha rfl Try.isAgg112 (ldL_c e39)
  ·exact oa fun j a ha=>d_fa ha rfl Try.runUnderlying172 rfl rfl Try.sizeOf3 (by decide)
  ·intro j h1 h2; have h1 : 0≤j:=h1; have h2 : j≤1:=h2; rcases (by omega : j = 0∨j = 1) with rfl | rfl
   ·exact ok_do rfl fun a ha=>d_ld ha rfl Try.isAgg3 (ldI_c e21)
   ·exact ok_do rfl fun a ha=>d_ld ha rfl Try.isAgg3 (ldI_c e40)
  ·exact oa fun j a ha=>d_move ha rfl
  ·exact oa fun j a ha=>d_move ha rfl
  ·exact oa fun j a ha=>d_nilp ha rfl e17
  ·exact oa fun j a ha=>d_fa ha rfl Try.runUnderlying115 rfl rfl Try.sizeOf112 (by decide)
  ·exact oc 0 (ok_do rfl fun a ha=>d_ld ha rfl Try.isAgg112 (ldL_c e23))
  ·exact oa fun j a ha=>d_fa ha rfl Try.runUnderlying172 rfl rfl Try.sizeOf3 (by decide)
  ·exact oc 0 (ok_do rfl fun a ha=>d_ld ha rfl Try.isAgg3 (ldI_c e25))
  ·exact oa fun j a ha=>d_ix ha rfl rfl Try.runUnderlying112 Try.sizeOf72 e27
  ·exact oc 0 (ok_do rfl fun a ha=>d_ld ha rfl Try.isAgg72 (ldL_c e29))
  ·exact oa fun j a ha=>d_move ha rfl
  ·exact oa fun j a ha=>d_slS ha rfl Try.runUnderlying72 Try.sizeOf5 ⟨_,rfl⟩ rfl rfl (by simp) e31
  ·exact oc 0 (ok_do rfl fun a ha=>d_apS ha rfl rfl e34)
  ·exact oa fun j a ha=>d_ix ha rfl rfl Try.runUnderlying112 Try.sizeOf72 e36
  ·exact oc 1 (ok_do rfl fun a ha=>d_st ha rfl rfl Try.sizeOf72 e38)
 ·have ha : Has 32 [] a:=ha.sub trivial
  have hS:=ha
  cases h
  exact end0 Try.results119 hS ⟨rfl,rfl⟩
noncomputable def grapevineref09_Disk_Sync_l1 (a0 : Option Addr) (x15 : Int) (w16 : World) : Option ((Int×World)⊕(World)) :=
 (a0).bind fun p22 =>
 (ldL w16 (p22.add 1)).bind fun v24 =>
 if (decide (x15 < (v24.n : Int))) = true then
 ((ldL w16 (p22.add 1)).bind fun v27 =>
 (ix v27 x15 2).bind fun p29 =>
 (ldA 2 w16 p29 0).bind fun c31 =>
 (grapevineref09_Disk_put a0 c31 64 w16).bind fun w33 =>
 some (.inl ((IntKind.wrap .i64 (x15 + 1)),w33)))
 else
 (some (.inr w16))
noncomputable def grapevineref09_Disk_Sync (a0 : Option Addr) (w : World) : Option (Int×World) :=
 if (a0.isNone) = true then
 (some (1,w))
 else
 (bind2 ((a0).bind fun p6 =>
 (ldB w (p6.add 3)).bind fun v8 =>
 if v8 = true then
 (some (true,w))
 else
 (bind2 (grapevineref09_Disk_trips a0 w) fun v11 w12 =>
 some (v11,w12))) fun v2 w3 =>
 if v2 = true then
 (some (10,w3))
 else
 ((loopF (fun s : Int×World=>grapevineref09_Disk_Sync_l1 a0 s.1 s.2) (0,w3)).bind fun w19 =>
 (a0).bind fun p35 =>
 (stV w19 (p35.add 1) (Sl.v Sl.nil)).bind fun w37 =>
 some (0,w37)))
set_option maxHeartbeats 1000000 in
set_option maxRecDepth 100000 in
theorem grapevineref09_Disk_Sync_ok {a0 : Option Addr} {w w' : World} {r0 : Int} (h : grapevineref09_Disk_Sync a0 w = some (r0,w')) : Calls Try.prog 76 #[(.pointer a0)] w fun e w''=>e = .returned (.int .i64 r0)∧w'' = w':=by
 refine calls_dec (n:=35) Try.func76 rfl Try.ntmps76 (by simp) fun a ha=>?_
 unfold grapevineref09_Disk_Sync at h
 refine wp_seq<|region_lit<|qa ha rfl fun a ha=>s_nil<|t_n<|wp_seq<|wp_seq<|region_lit<|qm ha rfl fun a ha=>q ha (d_eqN ha rfl rfl Try.runUnderlying61) fun a ha=>s_nil<|t_n<|?_
 refine s_cond ha rfl h (fun b1 h=>?_) (fun b1 h=>?_)
 ·refine wp_seq<|region_lit<|qa ha rfl fun a ha=>s_nil<|t_n<|wp_ret<|t_r<|?_
  have hS:=ha
  cases h
  exact ret1 Try.results76 hS rfl ⟨rfl,rfl⟩
 ·refine wp_skip<|t_n<|wp_seq<|wp_seq<|?_
  obtain ⟨v2,w3,e4,h⟩:=bs2 h
  refine reg_join (n:=35) (L:=[(13,(.bool v2)),(0,(.pointer a0))]) (w':=w3) (fun a ha=>?_) (fun hk5=>?_)
  ·refine t_n<|?_
   refine s_cond ha rfl h (fun b14 h=>?_) (fun b14 h=>?_)
   ·refine wp_seq<|region_lit<|qa ha rfl fun a ha=>s_nil<|t_n<|wp_ret<|t_r<|?_
    have hS:=ha
    cases h
    exact ret1 Try.results76 hS rfl ⟨rfl,rfl⟩
   ·refine wp_skip<|t_n<|wp_seq<|wp_seq<|region_lit<|qa ha rfl fun a ha=>s_nil<|t_n<|wp_block<|?_
    obtain ⟨w19,e18,h⟩:=bs1 h
    refine s_loop1 (n:=35) (L:=[(0,(.pointer a0))]) (w':=w19) (e:=.exit 0) (I:=fun (s : Int×World) a w=>Has 35 [(3,(.int .i64 s.1)),(0,(.pointer a0))] a∧w = s.2) ⟨ha.sub ⟨rfl,rfl,trivial⟩,rfl⟩ e18 (fun a ha=>?_) (fun hk20=>?_)
    ·refine b_hit<|t_n<|wp_seq<|region_lit<|qm ha rfl fun a ha=>?_
     obtain ⟨p35,e36,h⟩:=bs1 h
     refine q ha (d_nilp ha rfl e36) fun a ha=>q ha (d_fa ha rfl Try.runUnderlying115 rfl rfl Try.sizeOf113 (by decide)) fun a ha=>?_
     obtain ⟨w37,e38,h⟩:=bs1 h
     refine q ha (d_st ha rfl rfl Try.sizeOf113 e38) fun a ha=>s_nil<|t_n<|wp_seq<|region_lit<|qa ha rfl fun a ha=>s_nil<|t_n<|wp_ret<|?_
     have hS:=ha
     cases h
     exact ret1 Try.results76 hS rfl ⟨rfl,rfl⟩
    ·clear h
     rintro ⟨x15,w16⟩ a wq o ⟨ha,hwq⟩ h hr21
     obtain rfl : w16 = wq:=hwq.symm
     have ha : Has 35 [(3,(.int .i64 x15)),(0,(.pointer a0))] a:=ha
     have h : grapevineref09_Disk_Sync_l1 a0 x15 w16 = some o:=h
     unfold grapevineref09_Disk_Sync_l1 at h
     refine wp_seq<|wp_seq<|region_lit<|qm ha rfl fun a ha=>qm ha rfl fun a ha=>?_
     obtain ⟨p22,e23,h⟩:=bs1 h
     refine q ha (d_nilp ha rfl e23) fun a ha=>q ha (d_fa ha rfl Try.runUnderlying115 rfl rfl Try.sizeOf113 (by decide)) fun a ha=>?_
     obtain ⟨v24,e25,h⟩:=bs1 h
     refine q ha (d_ld ha rfl Try.isAgg113 (ldL_c e25)) fun a ha=>q ha (d_lenS ha rfl Try.runUnderlying113) fun a ha=>q ha (d_lt ha rfl rfl) fun a ha=>s_nil<|t_n<|?_
     refine s_cond ha rfl h (fun b26 h=>?_) (fun b26 h=>?_)
     ·refine wp_skip<|t_n<|wp_seq<|wp_block<|region_lit<|qm ha rfl fun a ha=>qm ha rfl fun a ha=>q ha (d_nilp ha rfl e23) fun a ha=>q ha (d_fa ha rfl Try.runUnderlying115 rfl rfl Try.sizeOf113 (by decide)) fun a ha=>?_
      obtain ⟨v27,e28,h⟩:=bs1 h
      refine q ha (d_ld ha rfl Try.isAgg113 (ldL_c e28)) fun a ha=>qm ha rfl fun a ha=>?_
      obtain ⟨p29,e30,h⟩:=bs1 h
      refine q ha (d_ix ha rfl rfl Try.runUnderlying113 Try.sizeOf172 e30) fun a ha=>?_
      obtain ⟨c31,e32,h⟩:=bs1 h
      refine q ha (d_ldA ha rfl Try.isAgg172 Try.sizeOf172 e32) fun a ha=>?_
      obtain ⟨w33,e34,h⟩:=bs1 h
      refine q ha (d_call (xs:=[_,_,_]) (vs:=[(.pointer a0),(.agg (List.toArray c31)),(.int .i64 64)]) ha ⟨rfl,rfl,rfl,trivial⟩ Try.call119 (grapevineref09_Disk_put_ok e34)) fun a ha=>s_nil<|b_n<|t_n<|region_lit<|qm ha rfl fun a ha=>q ha (d_add ha rfl rfl) fun a ha=>qa ha rfl fun a ha=>s_nil<|?_
      have hS : Has 35 [(3,(.int .i64 (IntKind.wrap .i64 (x15 + 1)))),(0,(.pointer a0))] _:=ha.sub ⟨rfl,rfl,trivial⟩
      cases h
      exact lp_next ⟨hS,rfl⟩
     ·refine wp_exit<|t_x<|?_
      have hS : Has 35 [(0,(.pointer a0))] _:=ha.sub ⟨rfl,trivial⟩
      cases h
      cases hr21 _ rfl
      refine lp_x<|?_
      exact hk20 _ hS
  ·clear h
   have h:=e4
   refine region_lit<|qm ha rfl fun a ha=>?_
   obtain ⟨p6,e7,h⟩:=bs1 h
   refine q ha (d_nilp ha rfl e7) fun a ha=>q ha (d_fa ha rfl Try.runUnderlying115 rfl rfl Try.sizeOf4 (by decide)) fun a ha=>?_
   obtain ⟨v8,e9,h⟩:=bs1 h
   refine q ha (d_ld ha rfl Try.isAgg4 (ldB_c e9)) fun a ha=>qm ha rfl fun a ha=>?_
   refine ite_s h (fun b10 h=>?_) (fun b10 h=>?_)
   ·refine qn ha 10 (tn b10) fun a ha=>qn ha 10 (tn b10) fun a ha=>q ha (d_pick_t ha rfl b10 rfl) fun a ha=>s_nil<|?_
    have hS : Has 35 [(13,(.bool true)),(0,(.pointer a0))] _:=ha.sub ⟨rfl,rfl,trivial⟩
    cases h
    exact hk5 _ hS
   ·refine qg ha 10 (nt b10) (d_move ha rfl) fun a ha=>?_
    obtain ⟨v11,w12,e13,h⟩:=bs2 h
    refine qg ha 10 (nt b10) (d_call (xs:=[_]) (vs:=[(.pointer a0)]) ha ⟨rfl,trivial⟩ Try.call118 (grapevineref09_Disk_trips_ok e13)) fun a ha=>q ha (d_pick_f ha rfl b10 rfl) fun a ha=>s_nil<|?_
    have hS : Has 35 [(13,(.bool v11)),(0,(.pointer a0))] _:=ha.sub ⟨rfl,rfl,trivial⟩
    cases h
    exact hk5 _ hS
noncomputable def grapevineref09_Disk_has (a0 : Option Addr) (a1 : Int) (w : World) : Option (Bool×World) :=
 bind2 (if (decide (0≤a1)) = true then
 ((a0).bind fun p6 =>
 (ldL w (p6.add 0)).bind fun v8 =>
 some ((decide (a1 < (v8.n : Int))),w))
 else
 (some (false,w))) fun v1 w2 =>
 some (v1,w2)
set_option maxHeartbeats 1000000 in
set_option maxRecDepth 100000 in
theorem grapevineref09_Disk_has_ok {a0 : Option Addr} {a1 : Int} {w w' : World} {r0 : Bool} (h : grapevineref09_Disk_has a0 a1 w = some (r0,w')) : Calls Try.prog 123 #[(.pointer a0),(.int .i64 a1)] w fun e w''=>e = .returned (.bool r0)∧w'' = w':=by
 refine calls_dec (n:=16) Try.func123 rfl Try.ntmps123 (by simp) fun a ha=>?_
 unfold grapevineref09_Disk_has at h
 refine wp_seq<|region_lit<|qa ha rfl fun a ha=>s_nil<|t_n<|wp_seq<|?_
 obtain ⟨v1,w2,e3,h⟩:=bs2 h
 refine reg_join (n:=16) (L:=[(4,(.bool v1))]) (w':=w2) (fun a ha=>?_) (fun hk4=>?_)
 ·refine t_n<|wp_ret<|?_
  have hS:=ha
  cases h
  exact ret1 Try.results123 hS rfl ⟨rfl,rfl⟩
 ·clear h
  have h:=e3
  refine region_lit<|qm ha rfl fun a ha=>q ha (d_ge ha rfl rfl) fun a ha=>qm ha rfl fun a ha=>?_
  refine ite_s h (fun b5 h=>?_) (fun b5 h=>?_)
  ·refine qg ha 7 b5 (d_move ha rfl) fun a ha=>qg ha 7 b5 (d_move ha rfl) fun a ha=>?_
   obtain ⟨p6,e7,h⟩:=bs1 h
   refine qg ha 7 b5 (d_nilp ha rfl e7) fun a ha=>qg ha 7 b5 (d_fa ha rfl Try.runUnderlying115 rfl rfl Try.sizeOf112 (by decide)) fun a ha=>?_
   obtain ⟨v8,e9,h⟩:=bs1 h
   refine qg ha 7 b5 (d_ld ha rfl Try.isAgg112 (ldL_c e9)) fun a ha=>qg ha 7 b5 (d_lenS ha rfl Try.runUnderlying112) fun a ha=>qg ha 7 b5 (d_lt ha rfl rfl) fun a ha=>q ha (d_pick_t ha rfl b5 rfl) fun a ha=>qa ha rfl fun a ha=>s_nil<|?_
   have hS : Has 16 [(4,(.bool (decide (a1 < (v8.n : Int)))))] _:=ha.sub ⟨rfl,trivial⟩
   cases h
   exact hk4 _ hS
  ·refine qn ha 7 (nn b5 _ rfl) fun a ha=>qn ha 7 (nn b5 _ rfl) fun a ha=>qn ha 7 (nn b5 _ rfl) fun a ha=>qn ha 7 (nn b5 _ rfl) fun a ha=>qn ha 7 (nn b5 _ rfl) fun a ha=>qn ha 7 (nn b5 _ rfl) fun a ha=>qn ha 7 (nn b5 _ rfl) fun a ha=>q ha (d_pick_f ha rfl b5 rfl) fun a ha=>qa ha rfl fun a ha=>s_nil<|?_
   have hS : Has 16 [(4,(.bool false))] _:=ha.sub ⟨rfl,trivial⟩
   cases h
   exact hk4 _ hS
noncomputable def grapevineref09_Disk_Write (a0 : Option Addr) (a1 : Int) (a2 : Sl) (w : World) : Option (Int×World) :=
 if (a0.isNone) = true then
 (some (1,w))
 else
 ((a0).bind fun p2 =>
 (ldB w (p2.add 3)).bind fun v4 =>
 if v4 = true then
 (some (10,w))
 else
 (bind2 (grapevineref09_Disk_has a0 a1 w) fun v7 w8 =>
 if (!v7) = true then
 (some (2,w8))
 else
 (if (decide (64 < (a2.n : Int))) = true then
 (some (6,w8))
 else
 (bind2 (grapevineref09_Disk_trips a0 w8) fun v12 w13 =>
 if v12 = true then
 (some (10,w13))
 else
 (bind2 (bsl w13 5 1 []) fun s16 w17 =>
 bind2 (apS Try.prog 72 s16 a2 w17) fun s19 w20 =>
 bind2 (apZ Try.prog 72 3 s19 (IntKind.wrap .i64 (64 - (a2.n : Int))) w20) fun s22 w23 =>
 (ldL w23 (p2.add 1)).bind fun v25 =>
 bind2 (bsl w23 172 2 [([.int .i64 a1,Sl.v s22])]) fun s27 w28 =>
 bind2 (apS Try.prog 113 v25 s27 w28) fun s30 w31 =>
 (stV w31 (p2.add 1) (Sl.v s30)).bind fun w33 =>
 some (0,w33))))))
set_option maxHeartbeats 1000000 in
set_option maxRecDepth 100000 in
theorem grapevineref09_Disk_Write_ok {a0 : Option Addr} {a1 : Int} {a2 : Sl} {w w' : World} {r0 : Int} (h : grapevineref09_Disk_Write a0 a1 a2 w = some (r0,w')) : Calls Try.prog 89 #[(.pointer a0),(.int .i64 a1),(Sl.v a2)] w fun e w''=>e = .returned (.int .i64 r0)∧w'' = w':=by
 refine calls_dec (n:=42) Try.func89 rfl Try.ntmps89 (by simp) fun a ha=>?_
 unfold grapevineref09_Disk_Write at h
 refine wp_seq<|region_lit<|qa ha rfl fun a ha=>s_nil<|t_n<|wp_seq<|wp_seq<|region_lit<|qm ha rfl fun a ha=>q ha (d_eqN ha rfl rfl Try.runUnderlying61) fun a ha=>s_nil<|t_n<|?_
 refine s_cond ha rfl h (fun b1 h=>?_) (fun b1 h=>?_)
 ·refine wp_seq<|region_lit<|qa ha rfl fun a ha=>s_nil<|t_n<|wp_ret<|t_r<|?_
  have hS:=ha
  cases h
  exact ret1 Try.results89 hS rfl ⟨rfl,rfl⟩
 ·refine wp_skip<|t_n<|wp_seq<|wp_seq<|region_lit<|qm ha rfl fun a ha=>?_
  obtain ⟨p2,e3,h⟩:=bs1 h
  refine q ha (d_nilp ha rfl e3) fun a ha=>q ha (d_fa ha rfl Try.runUnderlying115 rfl rfl Try.sizeOf4 (by decide)) fun a ha=>?_
  obtain ⟨v4,e5,h⟩:=bs1 h
  refine q ha (d_ld ha rfl Try.isAgg4 (ldB_c e5)) fun a ha=>s_nil<|t_n<|?_
  refine s_cond ha rfl h (fun b6 h=>?_) (fun b6 h=>?_)
  ·refine wp_seq<|region_lit<|qa ha rfl fun a ha=>s_nil<|t_n<|wp_ret<|t_r<|?_
   have hS:=ha
   cases h
   exact ret1 Try.results89 hS rfl ⟨rfl,rfl⟩
  ·refine wp_skip<|t_n<|wp_seq<|wp_seq<|region_lit<|qm ha rfl fun a ha=>qm ha rfl fun a ha=>?_
   obtain ⟨v7,w8,e9,h⟩:=bs2 h
   refine q ha (d_call (xs:=[_,_]) (vs:=[(.pointer a0),(.int .i64 a1)]) ha ⟨rfl,rfl,trivial⟩ Try.call123 (grapevineref09_Disk_has_ok e9)) fun a ha=>q ha (d_not ha rfl) fun a ha=>s_nil<|t_n<|?_
   refine s_cond ha rfl h (fun b10 h=>?_) (fun b10 h=>?_)
   ·refine wp_seq<|region_lit<|qa ha rfl fun a ha=>s_nil<|t_n<|wp_ret<|t_r<|?_
    have hS:=ha
    cases h
    exact ret1 Try.results89 hS rfl ⟨rfl,rfl⟩
   ·refine wp_skip<|t_n<|wp_seq<|wp_seq<|region_lit<|qm ha rfl fun a ha=>q ha (d_lenS ha rfl Try.runUnderlying72) fun a ha=>q ha (d_gt ha rfl rfl) fun a ha=>s_nil<|t_n<|?_
    refine s_cond ha rfl h (fun b11 h=>?_) (fun b11 h=>?_)
    ·refine wp_seq<|region_lit<|qa ha rfl fun a ha=>s_nil<|t_n<|wp_ret<|t_r<|?_
     have hS:=ha
     cases h
     exact ret1 Try.results89 hS rfl ⟨rfl,rfl⟩
    ·refine wp_skip<|t_n<|wp_seq<|wp_seq<|region_lit<|qm ha rfl fun a ha=>?_
     obtain ⟨v12,w13,e14,h⟩:=bs2 h
     refine q ha (d_call (xs:=[_]) (vs:=[(.pointer a0)]) ha ⟨rfl,trivial⟩ Try.call118 (grapevineref09_Disk_trips_ok e14)) fun a ha=>s_nil<|t_n<|?_
     refine s_cond ha rfl h (fun b15 h=>?_) (fun b15 h=>?_)
     ·refine wp_seq<|region_lit<|qa ha rfl fun a ha=>s_nil<|t_n<|wp_ret<|t_r<|?_
      have hS:=ha
      cases h
      exact ret1 Try.results89 hS rfl ⟨rfl,rfl⟩
     ·refine wp_skip<|t_n<|wp_seq<|region_lit<|?_
      obtain ⟨s16,w17,e18,h⟩:=bs2 h
      refine q ha (d_bsl (vs:=[]) (ps:=[]) ha trivial trivial rfl Try.runUnderlying72 Try.sizeOf5 Try.zeroValue5 (by decide) e18) fun a ha=>qm ha rfl fun a ha=>?_
      obtain ⟨s19,w20,e21,h⟩:=bs2 h
      refine q ha (d_apS ha rfl rfl e21) fun a ha=>qm ha rfl fun a ha=>q ha (d_lenS ha rfl Try.runUnderlying72) fun a ha=>q ha (d_sub ha rfl rfl) fun a ha=>?_
      obtain ⟨s22,w23,e24,h⟩:=bs2 h
      refine q ha (d_apZ ha rfl rfl e24) fun a ha=>qa ha rfl fun a ha=>s_nil<|t_n<|wp_seq<|region_lit<|qm ha rfl fun a ha=>qm ha rfl fun a ha=>q ha (d_nilp ha rfl e3) fun a ha=>q ha (d_fa ha rfl Try.runUnderlying115 rfl rfl Try.sizeOf113 (by decide)) fun a ha=>?_
      obtain ⟨v25,e26,h⟩:=bs1 h
      refine q ha (d_ld ha rfl Try.isAgg113 (ldL_c e26)) fun a ha=>qm ha rfl fun a ha=>qm ha rfl fun a ha=>q ha (d_build (vs:=[(0,(.int .i64 a1)),(1,(Sl.v s22))]) (pl:=#[(0,1),(1,1)]) (cs:=([.int .i64 a1,Sl.v s22])) ha ⟨rfl,rfl,rfl,rfl,trivial⟩ Try.zeroValue172 Try.runUnderlying172 (by intro w; kernel_rfl) (by kernel_rfl)) fun a ha=>?_
      obtain ⟨s27,w28,e29,h⟩:=bs2 h
      refine q ha (d_bsl (vs:=[(0,(.agg (List.toArray ([.int .i64 a1,Sl.v s22]))))]) (ps:=[([.int .i64 a1,Sl.v s22])]) ha ⟨rfl,rfl,trivial⟩ ⟨rfl,rfl,trivial⟩ rfl Try.runUnderlying113 Try.sizeOf172 Try.zeroValue172 (by decide) e29) fun a ha=>?_
      obtain ⟨s30,w31,e32,h⟩:=bs2 h
      refine q ha (d_apS ha rfl rfl e32) fun a ha=>q ha (d_nilp ha rfl e3) fun a ha=>q ha (d_fa ha rfl Try.runUnderlying115 rfl rfl Try.sizeOf113 (by decide)) fun a ha=>?_
      obtain ⟨w33,e34,h⟩:=bs1 h
      refine q ha (d_st ha rfl rfl Try.sizeOf113 e34) fun a ha=>s_nil<|t_n<|wp_seq<|region_lit<|qa ha rfl fun a ha=>s_nil<|t_n<|wp_ret<|?_
      have hS:=ha
      cases h
      exact ret1 Try.results89 hS rfl ⟨rfl,rfl⟩
noncomputable def grapevineref09_Disk_Trip (a0 : Option Addr) (a1 : Int) (w : World) : Option (Int×World) :=
 if (a0.isNone) = true then
 (some (1,w))
 else
 ((a0).bind fun p2 =>
 (ldB w (p2.add 3)).bind fun v4 =>
 if v4 = true then
 (some (10,w))
 else
 (if (decide (a1 < 0)) = true then
 (some (2,w))
 else
 ((stV w (p2.add 2) (.int .i64 a1)).bind fun w8 =>
 some (0,w8))))
noncomputable def grapevineref09_Disk_Sure (a0 : Option Addr) (a1 : Int) (w : World) : Option (Sl×Int×World) :=
 if (a0.isNone) = true then
 (some (Sl.nil,1,w))
 else
 (bind2 (grapevineref09_Disk_has a0 a1 w) fun v2 w3 =>
 if (!v2) = true then
 (some (Sl.nil,2,w3))
 else
 (bind2 (bsl w3 5 1 []) fun s6 w7 =>
 (a0).bind fun p9 =>
 (ldL w7 (p9.add 0)).bind fun v11 =>
 (ix v11 a1 1).bind fun p13 =>
 (ldL w7 p13).bind fun v15 =>
 bind2 (apS Try.prog 72 s6 v15 w7) fun s17 w18 =>
 some (s17,0,w18)))
noncomputable def grapevineref09_Disk_Read_l1 (a0 : Option Addr) (a1 : Int) (x17 : Sl) (x18 : Int) (w19 : World) : Option ((Sl×Int×World)⊕(Sl×World)) :=
 (a0).bind fun p26 =>
 (ldL w19 (p26.add 1)).bind fun v28 =>
 if (decide (x18 < (v28.n : Int))) = true then
 (bind2 ((ldL w19 (p26.add 1)).bind fun v35 =>
 (ix v35 x18 2).bind fun p37 =>
 (ldI .i64 w19 (p37.add 0)).bind fun v39 =>
 if (v39 == a1) = true then
 ((ldL w19 (p26.add 1)).bind fun v42 =>
 (ix v42 x18 2).bind fun p44 =>
 (ldL w19 (p44.add 1)).bind fun v46 =>
 some (v46,w19))
 else
 (some (x17,w19))) fun v31 w32 =>
 some (.inl (v31,(IntKind.wrap .i64 (x18 + 1)),w32)))
 else
 (some (.inr (x17,w19)))
noncomputable def grapevineref09_Disk_Read (a0 : Option Addr) (a1 : Int) (w : World) : Option (Sl×Int×World) :=
 if (a0.isNone) = true then
 (some (Sl.nil,1,w))
 else
 ((a0).bind fun p2 =>
 (ldB w (p2.add 3)).bind fun v4 =>
 if v4 = true then
 (some (Sl.nil,10,w))
 else
 (bind2 (grapevineref09_Disk_has a0 a1 w) fun v7 w8 =>
 if (!v7) = true then
 (some (Sl.nil,2,w8))
 else
 ((ldL w8 (p2.add 0)).bind fun v11 =>
 (ix v11 a1 1).bind fun p13 =>
 (ldL w8 p13).bind fun v15 =>
 bind2 (loopF (fun s : Sl×Int×World=>grapevineref09_Disk_Read_l1 a0 a1 s.1 s.2.1 s.2.2) (v15,0,w8)) fun v22 w23 =>
 bind2 (bsl w23 5 1 []) fun s48 w49 =>
 bind2 (apS Try.prog 72 s48 v22 w49) fun s51 w52 =>
 some (s51,0,w52))))
set_option maxHeartbeats 1000000 in
set_option maxRecDepth 100000 in
theorem grapevineref09_Disk_Read_ok {a0 : Option Addr} {a1 : Int} {w w' : World} {r0 : Sl} {r1 : Int} (h : grapevineref09_Disk_Read a0 a1 w = some (r0,r1,w')) : Calls Try.prog 100 #[(.pointer a0),(.int .i64 a1)] w fun e w''=>e = .returned (.tuple #[(Sl.v r0),(.int .i64 r1)])∧w'' = w':=by
 refine calls_dec (n:=55) Try.func100 rfl Try.ntmps100 (by simp) fun a ha=>?_
 unfold grapevineref09_Disk_Read at h
 refine wp_seq<|region_lit<|qa ha rfl fun a ha=>qa ha rfl fun a ha=>s_nil<|t_n<|wp_seq<|wp_seq<|region_lit<|qm ha rfl fun a ha=>q ha (d_eqN ha rfl rfl Try.runUnderlying61) fun a ha=>s_nil<|t_n<|?_
 refine s_cond ha rfl h (fun b1 h=>?_) (fun b1 h=>?_)
 ·refine wp_seq<|region_lit<|qa ha rfl fun a ha=>qa ha rfl fun a ha=>s_nil<|t_n<|wp_ret<|t_r<|?_
  have hS:=ha
  cases h
  exact ret2 Try.results100 hS rfl rfl ⟨rfl,rfl⟩
 ·refine wp_skip<|t_n<|wp_seq<|wp_seq<|region_lit<|qm ha rfl fun a ha=>?_
  obtain ⟨p2,e3,h⟩:=bs1 h
  refine q ha (d_nilp ha rfl e3) fun a ha=>q ha (d_fa ha rfl Try.runUnderlying115 rfl rfl Try.sizeOf4 (by decide)) fun a ha=>?_
  obtain ⟨v4,e5,h⟩:=bs1 h
  refine q ha (d_ld ha rfl Try.isAgg4 (ldB_c e5)) fun a ha=>s_nil<|t_n<|?_
  refine s_cond ha rfl h (fun b6 h=>?_) (fun b6 h=>?_)
  ·refine wp_seq<|region_lit<|qa ha rfl fun a ha=>qa ha rfl fun a ha=>s_nil<|t_n<|wp_ret<|t_r<|?_
   have hS:=ha
   cases h
   exact ret2 Try.results100 hS rfl rfl ⟨rfl,rfl⟩
  ·refine wp_skip<|t_n<|wp_seq<|wp_seq<|region_lit<|qm ha rfl fun a ha=>qm ha rfl fun a ha=>?_
   obtain ⟨v7,w8,e9,h⟩:=bs2 h
   refine q ha (d_call (xs:=[_,_]) (vs:=[(.pointer a0),(.int .i64 a1)]) ha ⟨rfl,rfl,trivial⟩ Try.call123 (grapevineref09_Disk_has_ok e9)) fun a ha=>q ha (d_not ha rfl) fun a ha=>s_nil<|t_n<|?_
   refine s_cond ha rfl h (fun b10 h=>?_) (fun b10 h=>?_)
   ·refine wp_seq<|region_lit<|qa ha rfl fun a ha=>qa ha rfl fun a ha=>s_nil<|t_n<|wp_ret<|t_r<|?_
    have hS:=ha
    cases h
    exact ret2 Try.results100 hS rfl rfl ⟨rfl,rfl⟩
   ·refine wp_skip<|t_n<|wp_seq<|region_lit<|qm ha rfl fun a ha=>q ha (d_nilp ha rfl e3) fun a ha=>q ha (d_fa ha rfl Try.runUnderlying115 rfl rfl Try.sizeOf112 (by decide)) fun a ha=>?_
    obtain ⟨v11,e12,h⟩:=bs1 h
    refine q ha (d_ld ha rfl Try.isAgg112 (ldL_c e12)) fun a ha=>qm ha rfl fun a ha=>?_
    obtain ⟨p13,e14,h⟩:=bs1 h
    refine q ha (d_ix ha rfl rfl Try.runUnderlying112 Try.sizeOf72 e14) fun a ha=>?_
    obtain ⟨v15,e16,h⟩:=bs1 h
    refine q ha (d_ld ha rfl Try.isAgg72 (ldL_c e16)) fun a ha=>qa ha rfl fun a ha=>s_nil<|t_n<|wp_seq<|wp_seq<|region_lit<|qa ha rfl fun a ha=>s_nil<|t_n<|wp_block<|?_
    obtain ⟨v22,w23,e21,h⟩:=bs2 h
    refine s_loop1 (n:=55) (L:=[(6,(Sl.v v22))]) (w':=w23) (e:=.exit 0) (I:=fun (s : Sl×Int×World) a w=>Has 55 [(6,(Sl.v s.1)),(7,(.int .i64 s.2.1)),(0,(.pointer a0)),(1,(.int .i64 a1))] a∧w = s.2.2) ⟨ha.sub ⟨rfl,rfl,rfl,rfl,trivial⟩,rfl⟩ e21 (fun a ha=>?_) (fun hk24=>?_)
    ·refine b_hit<|t_n<|wp_seq<|region_lit<|?_
     obtain ⟨s48,w49,e50,h⟩:=bs2 h
     refine q ha (d_bsl (vs:=[]) (ps:=[]) ha trivial trivial rfl Try.runUnderlying72 Try.sizeOf5 Try.zeroValue5 (by decide) e50) fun a ha=>qm ha rfl fun a ha=>?_
     obtain ⟨s51,w52,e53,h⟩:=bs2 h
     refine q ha (d_apS ha rfl rfl e53) fun a ha=>qa ha rfl fun a ha=>qa ha rfl fun a ha=>s_nil<|t_n<|wp_ret<|?_
     have hS:=ha
     cases h
     exact ret2 Try.results100 hS rfl rfl ⟨rfl,rfl⟩
    ·clear h
     rintro ⟨x17,x18,w19⟩ a wq o ⟨ha,hwq⟩ h hr25
     obtain rfl : w19 = wq:=hwq.symm
     have ha : Has 55 [(6,(Sl.v x17)),(7,(.int .i64 x18)),(0,(.pointer a0)),(1,(.int .i64 a1))] a:=ha
     have h : grapevineref09_Disk_Read_l1 a0 a1 x17 x18 w19 = some o:=h
     unfold grapevineref09_Disk_Read_l1 at h
     refine wp_seq<|wp_seq<|region_lit<|qm ha rfl fun a ha=>qm ha rfl fun a ha=>?_
     obtain ⟨p26,e27,h⟩:=bs1 h
     refine q ha (d_nilp ha rfl e27) fun a ha=>q ha (d_fa ha rfl Try.runUnderlying115 rfl rfl Try.sizeOf113 (by decide)) fun a ha=>?_
     obtain ⟨v28,e29,h⟩:=bs1 h
     refine q ha (d_ld ha rfl Try.isAgg113 (ldL_c e29)) fun a ha=>q ha (d_lenS ha rfl Try.runUnderlying113) fun a ha=>q ha (d_lt ha rfl rfl) fun a ha=>s_nil<|t_n<|?_
     refine s_cond ha rfl h (fun b30 h=>?_) (fun b30 h=>?_)
     ·refine wp_skip<|t_n<|?_
      obtain ⟨v31,w32,e33,h⟩:=bs2 h
      refine seq_join (n:=55) (L:=[(6,(Sl.v v31)),(0,(.pointer a0)),(1,(.int .i64 a1)),(7,(.int .i64 x18))]) (w':=w32) (fun a ha=>?_) (fun hk34=>?_)
      ·refine region_lit<|qm ha rfl fun a ha=>q ha (d_add ha rfl rfl) fun a ha=>qa ha rfl fun a ha=>s_nil<|?_
       have hS : Has 55 [(6,(Sl.v v31)),(7,(.int .i64 (IntKind.wrap .i64 (x18 + 1)))),(0,(.pointer a0)),(1,(.int .i64 a1))] _:=ha.sub ⟨rfl,rfl,rfl,rfl,trivial⟩
       cases h
       exact lp_next ⟨hS,rfl⟩
      ·clear h
       have h:=e33
       refine wp_block<|wp_seq<|region_lit<|qm ha rfl fun a ha=>q ha (d_nilp ha rfl e27) fun a ha=>q ha (d_fa ha rfl Try.runUnderlying115 rfl rfl Try.sizeOf113 (by decide)) fun a ha=>?_
       obtain ⟨v35,e36,h⟩:=bs1 h
       refine q ha (d_ld ha rfl Try.isAgg113 (ldL_c e36)) fun a ha=>qm ha rfl fun a ha=>?_
       obtain ⟨p37,e38,h⟩:=bs1 h
       refine q ha (d_ix ha rfl rfl Try.runUnderlying113 Try.sizeOf172 e38) fun a ha=>q ha (d_fa ha rfl Try.runUnderlying172 rfl rfl Try.sizeOf3 (by decide)) fun a ha=>?_
       obtain ⟨v39,e40,h⟩:=bs1 h
       refine q ha (d_ld ha rfl Try.isAgg3 (ldI_c e40)) fun a ha=>qm ha rfl fun a ha=>q ha (d_eq ha rfl rfl) fun a ha=>s_nil<|t_n<|?_
       refine s_cond ha rfl h (fun b41 h=>?_) (fun b41 h=>?_)
       ·refine region_lit<|qm ha rfl fun a ha=>q ha (d_nilp ha rfl e27) fun a ha=>q ha (d_fa ha rfl Try.runUnderlying115 rfl rfl Try.sizeOf113 (by decide)) fun a ha=>?_
        obtain ⟨v42,e43,h⟩:=bs1 h
        refine q ha (d_ld ha rfl Try.isAgg113 (ldL_c e43)) fun a ha=>qm ha rfl fun a ha=>?_
        obtain ⟨p44,e45,h⟩:=bs1 h
        refine q ha (d_ix ha rfl rfl Try.runUnderlying113 Try.sizeOf172 e45) fun a ha=>q ha (d_fa ha rfl Try.runUnderlying172 rfl rfl Try.sizeOf72 (by decide)) fun a ha=>?_
        obtain ⟨v46,e47,h⟩:=bs1 h
        refine q ha (d_ld ha rfl Try.isAgg72 (ldL_c e47)) fun a ha=>qa ha rfl fun a ha=>s_nil<|b_n<|?_
        have hS : Has 55 [(6,(Sl.v v46)),(0,(.pointer a0)),(1,(.int .i64 a1)),(7,(.int .i64 x18))] _:=ha.sub ⟨rfl,rfl,rfl,rfl,trivial⟩
        cases h
        exact hk34 _ hS
       ·refine wp_skip<|b_n<|?_
        have hS : Has 55 [(6,(Sl.v x17)),(0,(.pointer a0)),(1,(.int .i64 a1)),(7,(.int .i64 x18))] _:=ha.sub ⟨rfl,rfl,rfl,rfl,trivial⟩
        cases h
        exact hk34 _ hS
     ·refine wp_exit<|t_x<|?_
      have hS : Has 55 [(6,(Sl.v x17))] _:=ha.sub ⟨rfl,trivial⟩
      cases h
      cases hr25 _ rfl
      refine lp_x<|?_
      exact hk24 _ hS
noncomputable def grapevineref02_TakeKey_l1 (a0 : Sl) (a1 : Int) (x8 : Int) (x9 : Int) (w10 : World) : Option ((Int×Int×World)⊕(Int×World)) :=
 if (decide (x9 < 8)) = true then
 ((ix a0 (IntKind.wrap .i64 (a1 + x9)) 1).bind fun p18 =>
 (ldI .u8 w10 p18).bind fun v20 =>
 some (.inl ((IntKind.wrap .u64 ((IntKind.wrap .u64 (256 * x8)) + (IntKind.wrap .u64 v20))),(IntKind.wrap .i64 (x9 + 1)),w10)))
 else
 (some (.inr (x8,w10)))
noncomputable def grapevineref02_TakeKey (a0 : Sl) (a1 : Int) (w : World) : Option (Int×Int×Int×World) :=
 bind2 (if (decide (a1 < 0)) = true then
 (some (true,w))
 else
 (some ((decide ((a0.n : Int) < a1)),w))) fun v1 w2 =>
 if v1 = true then
 (some (0,0,2,w2))
 else
 (if (decide ((IntKind.wrap .i64 ((a0.n : Int) - a1)) < 8)) = true then
 (some (0,0,3,w2))
 else
 (bind2 (loopF (fun s : Int×Int×World=>grapevineref02_TakeKey_l1 a0 a1 s.1 s.2.1 s.2.2) (0,0,w2)) fun v13 w14 =>
 some ((IntKind.wrap .i64 (IntKind.wrap .u64 (v13 - 9223372036854775808))),(IntKind.wrap .i64 (a1 + 8)),0,w14)))
set_option maxHeartbeats 1000000 in
set_option maxRecDepth 100000 in
theorem grapevineref02_TakeKey_ok {a0 : Sl} {a1 : Int} {w w' : World} {r0 : Int} {r1 : Int} {r2 : Int} (h : grapevineref02_TakeKey a0 a1 w = some (r0,r1,r2,w')) : Calls Try.prog 146 #[(Sl.v a0),(.int .i64 a1)] w fun e w''=>e = .returned (.tuple #[(.int .i64 r0),(.int .i64 r1),(.int .i64 r2)])∧w'' = w':=by
 refine calls_dec (n:=41) Try.func146 rfl Try.ntmps146 (by simp) fun a ha=>?_
 unfold grapevineref02_TakeKey at h
 refine wp_seq<|region_lit<|qa ha rfl fun a ha=>qa ha rfl fun a ha=>qa ha rfl fun a ha=>s_nil<|t_n<|wp_seq<|wp_seq<|?_
 obtain ⟨v1,w2,e3,h⟩:=bs2 h
 refine reg_join (n:=41) (L:=[(16,(.bool v1)),(0,(Sl.v a0)),(1,(.int .i64 a1))]) (w':=w2) (fun a ha=>?_) (fun hk4=>?_)
 ·refine t_n<|?_
  refine s_cond ha rfl h (fun b6 h=>?_) (fun b6 h=>?_)
  ·refine wp_seq<|region_lit<|qa ha rfl fun a ha=>qa ha rfl fun a ha=>qa ha rfl fun a ha=>s_nil<|t_n<|wp_ret<|t_r<|?_
   have hS:=ha
   cases h
   exact ret3 Try.results146 hS rfl rfl rfl ⟨rfl,rfl⟩
  ·refine wp_skip<|t_n<|wp_seq<|wp_seq<|region_lit<|qm ha rfl fun a ha=>q ha (d_lenS ha rfl Try.runUnderlying72) fun a ha=>qm ha rfl fun a ha=>q ha (d_sub ha rfl rfl) fun a ha=>q ha (d_lt ha rfl rfl) fun a ha=>s_nil<|t_n<|?_
   refine s_cond ha rfl h (fun b7 h=>?_) (fun b7 h=>?_)
   ·refine wp_seq<|region_lit<|qa ha rfl fun a ha=>qa ha rfl fun a ha=>qa ha rfl fun a ha=>s_nil<|t_n<|wp_ret<|t_r<|?_
    have hS:=ha
    cases h
    exact ret3 Try.results146 hS rfl rfl rfl ⟨rfl,rfl⟩
   ·refine wp_skip<|t_n<|wp_seq<|region_lit<|qa ha rfl fun a ha=>s_nil<|t_n<|wp_seq<|wp_seq<|region_lit<|qa ha rfl fun a ha=>s_nil<|t_n<|wp_block<|?_
    obtain ⟨v13,w14,e12,h⟩:=bs2 h
    refine s_loop1 (n:=41) (L:=[(7,(.int .u64 v13)),(1,(.int .i64 a1))]) (w':=w14) (e:=.exit 0) (I:=fun (s : Int×Int×World) a w=>Has 41 [(7,(.int .u64 s.1)),(8,(.int .i64 s.2.1)),(0,(Sl.v a0)),(1,(.int .i64 a1))] a∧w = s.2.2) ⟨ha.sub ⟨rfl,rfl,rfl,rfl,trivial⟩,rfl⟩ e12 (fun a ha=>?_) (fun hk15=>?_)
    ·refine b_hit<|t_n<|wp_seq<|region_lit<|qm ha rfl fun a ha=>q ha (d_sub ha rfl rfl) fun a ha=>q ha (d_conv ha rfl Try.runUnderlying60 Try.runUnderlying2) fun a ha=>qm ha rfl fun a ha=>q ha (d_add ha rfl rfl) fun a ha=>qa ha rfl fun a ha=>qa ha rfl fun a ha=>qa ha rfl fun a ha=>s_nil<|t_n<|wp_ret<|?_
     have hS:=ha
     cases h
     exact ret3 Try.results146 hS rfl rfl rfl ⟨rfl,rfl⟩
    ·clear h
     rintro ⟨x8,x9,w10⟩ a wq o ⟨ha,hwq⟩ h hr16
     obtain rfl : w10 = wq:=hwq.symm
     have ha : Has 41 [(7,(.int .u64 x8)),(8,(.int .i64 x9)),(0,(Sl.v a0)),(1,(.int .i64 a1))] a:=ha
     have h : grapevineref02_TakeKey_l1 a0 a1 x8 x9 w10 = some o:=h
     unfold grapevineref02_TakeKey_l1 at h
     refine wp_seq<|wp_seq<|region_lit<|qm ha rfl fun a ha=>q ha (d_lt ha rfl rfl) fun a ha=>s_nil<|t_n<|?_
     refine s_cond ha rfl h (fun b17 h=>?_) (fun b17 h=>?_)
     ·refine wp_skip<|t_n<|wp_seq<|wp_block<|region_lit<|qm ha rfl fun a ha=>q ha (d_mul ha rfl rfl) fun a ha=>qm ha rfl fun a ha=>qm ha rfl fun a ha=>qm ha rfl fun a ha=>q ha (d_add ha rfl rfl) fun a ha=>?_
      obtain ⟨p18,e19,h⟩:=bs1 h
      refine q ha (d_ix ha rfl rfl Try.runUnderlying72 Try.sizeOf5 e19) fun a ha=>?_
      obtain ⟨v20,e21,h⟩:=bs1 h
      refine q ha (d_ld ha rfl Try.isAgg5 (ldI_c e21)) fun a ha=>q ha (d_conv ha rfl Try.runUnderlying5 Try.runUnderlying60) fun a ha=>q ha (d_add ha rfl rfl) fun a ha=>qa ha rfl fun a ha=>s_nil<|b_n<|t_n<|region_lit<|qm ha rfl fun a ha=>q ha (d_add ha rfl rfl) fun a ha=>qa ha rfl fun a ha=>s_nil<|?_
      have hS : Has 41 [(7,(.int .u64 (IntKind.wrap .u64 ((IntKind.wrap .u64 (256 * x8)) + (IntKind.wrap .u64 v20))))),(8,(.int .i64 (IntKind.wrap .i64 (x9 + 1)))),(0,(Sl.v a0)),(1,(.int .i64 a1))] _:=ha.sub ⟨rfl,rfl,rfl,rfl,trivial⟩
      cases h
      exact lp_next ⟨hS,rfl⟩
     ·refine wp_exit<|t_x<|?_
      have hS : Has 41 [(7,(.int .u64 x8)),(1,(.int .i64 a1))] _:=ha.sub ⟨rfl,rfl,trivial⟩
      cases h
      cases hr16 _ rfl
      refine lp_x<|?_
      exact hk15 _ hS
 ·clear h
  have h:=e3
  refine region_lit<|qm ha rfl fun a ha=>q ha (d_lt ha rfl rfl) fun a ha=>qm ha rfl fun a ha=>?_
  refine ite_s h (fun b5 h=>?_) (fun b5 h=>?_)
  ·refine qn ha 11 (tn b5) fun a ha=>qn ha 11 (tn b5) fun a ha=>qn ha 11 (tn b5) fun a ha=>qn ha 11 (tn b5) fun a ha=>q ha (d_pick_t ha rfl b5 rfl) fun a ha=>s_nil<|?_
   have hS : Has 41 [(16,(.bool true)),(0,(Sl.v a0)),(1,(.int .i64 a1))] _:=ha.sub ⟨rfl,rfl,rfl,trivial⟩
   cases h
   exact hk4 _ hS
  ·refine qg ha 11 (nt b5) (d_move ha rfl) fun a ha=>qg ha 11 (nt b5) (d_move ha rfl) fun a ha=>qg ha 11 (nt b5) (d_lenS ha rfl Try.runUnderlying72) fun a ha=>qg ha 11 (nt b5) (d_gt ha rfl rfl) fun a ha=>q ha (d_pick_f ha rfl b5 rfl) fun a ha=>s_nil<|?_
   have hS : Has 41 [(16,(.bool (decide ((a0.n : Int) < a1)))),(0,(Sl.v a0)),(1,(.int .i64 a1))] _:=ha.sub ⟨rfl,rfl,rfl,trivial⟩
   cases h
   exact hk4 _ hS
noncomputable def grapevineref10_Open (a0 : Option Addr) (a1 : Int) (a2 : Int) (w : World) : Option ((Option Addr)×Int×World) :=
 if (a0.isNone) = true then
 (some (none,1,w))
 else
 (bind2 (if (decide (a2 < 1)) = true then
 (some (true,w))
 else
 (if (decide (32 < a2)) = true then
 (some (true,w))
 else
 (if (decide (a1 < 0)) = true then
 (some (true,w))
 else
 ((a0).bind fun p9 =>
 (ldL w (p9.add 0)).bind fun v11 =>
 some ((decide ((IntKind.wrap .i64 ((v11.n : Int) - (IntKind.wrap .i64 (2 * a2)))) < a1)),w))))) fun v2 w3 =>
 if v2 = true then
 (some (none,2,w3))
 else
 (bind2 (mk w3 197 ([.pointer a0,.int .i64 a1,.int .i64 a2])) fun p14 w15 =>
 some ((some p14),0,w15)))
set_option maxHeartbeats 1000000 in
set_option maxRecDepth 100000 in
theorem grapevineref10_Open_ok {a0 : Option Addr} {a1 : Int} {a2 : Int} {w w' : World} {r0 : Option Addr} {r1 : Int} (h : grapevineref10_Open a0 a1 a2 w = some (r0,r1,w')) : Calls Try.prog 114 #[(.pointer a0),(.int .i64 a1),(.int .i64 a2)] w fun e w''=>e = .returned (.tuple #[(.pointer r0),(.int .i64 r1)])∧w'' = w':=by
 refine calls_dec (n:=37) Try.func114 rfl Try.ntmps114 (by simp) fun a ha=>?_
 unfold grapevineref10_Open at h
 refine wp_seq<|region_lit<|qa ha rfl fun a ha=>qa ha rfl fun a ha=>s_nil<|t_n<|wp_seq<|wp_seq<|region_lit<|qm ha rfl fun a ha=>q ha (d_eqN ha rfl rfl Try.runUnderlying61) fun a ha=>s_nil<|t_n<|?_
 refine s_cond ha rfl h (fun b1 h=>?_) (fun b1 h=>?_)
 ·refine wp_seq<|region_lit<|qa ha rfl fun a ha=>qa ha rfl fun a ha=>s_nil<|t_n<|wp_ret<|t_r<|?_
  have hS:=ha
  cases h
  exact ret2 Try.results114 hS rfl rfl ⟨rfl,rfl⟩
 ·refine wp_skip<|t_n<|wp_seq<|wp_seq<|?_
  obtain ⟨v2,w3,e4,h⟩:=bs2 h
  refine reg_join (n:=37) (L:=[(31,(.bool v2)),(0,(.pointer a0)),(1,(.int .i64 a1)),(2,(.int .i64 a2))]) (w':=w3) (fun a ha=>?_) (fun hk5=>?_)
  ·refine t_n<|?_
   refine s_cond ha rfl h (fun b13 h=>?_) (fun b13 h=>?_)
   ·refine wp_seq<|region_lit<|qa ha rfl fun a ha=>qa ha rfl fun a ha=>s_nil<|t_n<|wp_ret<|t_r<|?_
    have hS:=ha
    cases h
    exact ret2 Try.results114 hS rfl rfl ⟨rfl,rfl⟩
   ·refine wp_skip<|t_n<|wp_seq<|region_lit<|qm ha rfl fun a ha=>qm ha rfl fun a ha=>qm ha rfl fun a ha=>q ha (d_build (vs:=[(0,(.pointer a0)),(1,(.int .i64 a1)),(2,(.int .i64 a2))]) (pl:=#[(0,1),(1,1),(2,1)]) (cs:=([.pointer a0,.int .i64 a1,.int .i64 a2])) ha ⟨rfl,rfl,rfl,rfl,rfl,rfl,trivial⟩ Try.zeroValue197 Try.runUnderlying197 (by intro w; kernel_rfl) (by kernel_rfl)) fun a ha=>?_
    obtain ⟨p14,w15,e16,h⟩:=bs2 h
    refine q ha (d_box ha rfl rfl e16) fun a ha=>qa ha rfl fun a ha=>qa ha rfl fun a ha=>s_nil<|t_n<|wp_ret<|?_
    have hS:=ha
    cases h
    exact ret2 Try.results114 hS rfl rfl ⟨rfl,rfl⟩
  ·clear h
   have h:=e4
   refine region_lit<|qm ha rfl fun a ha=>q ha (d_lt ha rfl rfl) fun a ha=>qm ha rfl fun a ha=>?_
   refine ite_s h (fun b6 h=>?_) (fun b6 h=>?_)
   ·refine qn ha 12 (tn b6) fun a ha=>qn ha 12 (tn b6) fun a ha=>q ha (d_pick_t ha rfl b6 rfl) fun a ha=>qm ha rfl fun a ha=>qn ha 16 (tn rfl) fun a ha=>qn ha 16 (tn rfl) fun a ha=>q ha (d_pick_t ha rfl rfl rfl) fun a ha=>qm ha rfl fun a ha=>qn ha 20 (tn rfl) fun a ha=>qn ha 20 (tn rfl) fun a ha=>qn ha 20 (tn rfl) fun a ha=>qn ha 20 (tn rfl) fun a ha=>qn ha 20 (tn rfl) fun a ha=>qn ha 20 (tn rfl) fun a ha=>qn ha 20 (tn rfl) fun a ha=>qn ha 20 (tn rfl) fun a ha=>qn ha 20 (tn rfl) fun a ha=>qn ha 20 (tn rfl) fun a ha=>q ha (d_pick_t ha rfl rfl rfl) fun a ha=>s_nil<|?_
    have hS : Has 37 [(31,(.bool true)),(0,(.pointer a0)),(1,(.int .i64 a1)),(2,(.int .i64 a2))] _:=ha.sub ⟨rfl,rfl,rfl,rfl,trivial⟩
    cases h
    exact hk5 _ hS
   ·refine qg ha 12 (nt b6) (d_move ha rfl) fun a ha=>qg ha 12 (nt b6) (d_gt ha rfl rfl) fun a ha=>q ha (d_pick_f ha rfl b6 rfl) fun a ha=>qm ha rfl fun a ha=>?_
    refine ite_s h (fun b7 h=>?_) (fun b7 h=>?_)
    ·refine qn ha 16 (tn b7) fun a ha=>qn ha 16 (tn b7) fun a ha=>q ha (d_pick_t ha rfl b7 rfl) fun a ha=>qm ha rfl fun a ha=>qn ha 20 (tn rfl) fun a ha=>qn ha 20 (tn rfl) fun a ha=>qn ha 20 (tn rfl) fun a ha=>qn ha 20 (tn rfl) fun a ha=>qn ha 20 (tn rfl) fun a ha=>qn ha 20 (tn rfl) fun a ha=>qn ha 20 (tn rfl) fun a ha=>qn ha 20 (tn rfl) fun a ha=>qn ha 20 (tn rfl) fun a ha=>qn ha 20 (tn rfl) fun a ha=>q ha (d_pick_t ha rfl rfl rfl) fun a ha=>s_nil<|?_
     have hS : Has 37 [(31,(.bool true)),(0,(.pointer a0)),(1,(.int .i64 a1)),(2,(.int .i64 a2))] _:=ha.sub ⟨rfl,rfl,rfl,rfl,trivial⟩
     cases h
     exact hk5 _ hS
    ·refine qg ha 16 (nt b7) (d_move ha rfl) fun a ha=>qg ha 16 (nt b7) (d_lt ha rfl rfl) fun a ha=>q ha (d_pick_f ha rfl b7 rfl) fun a ha=>qm ha rfl fun a ha=>?_
     refine ite_s h (fun b8 h=>?_) (fun b8 h=>?_)
     ·refine qn ha 20 (tn b8) fun a ha=>qn ha 20 (tn b8) fun a ha=>qn ha 20 (tn b8) fun a ha=>qn ha 20 (tn b8) fun a ha=>qn ha 20 (tn b8) fun a ha=>qn ha 20 (tn b8) fun a ha=>qn ha 20 (tn b8) fun a ha=>qn ha 20 (tn b8) fun a ha=>qn ha 20 (tn b8) fun a ha=>qn ha 20 (tn b8) fun a ha=>q ha (d_pick_t ha rfl b8 rfl) fun a ha=>s_nil<|?_
      have hS : Has 37 [(31,(.bool true)),(0,(.pointer a0)),(1,(.int .i64 a1)),(2,(.int .i64 a2))] _:=ha.sub ⟨rfl,rfl,rfl,rfl,trivial⟩
      cases h
      exact hk5 _ hS
     ·refine qg ha 20 (nt b8) (d_move ha rfl) fun a ha=>?_
      obtain ⟨p9,e10,h⟩:=bs1 h
      refine qg ha 20 (nt b8) (d_nilp ha rfl e10) fun a ha=>qg ha 20 (nt b8) (d_fa ha rfl Try.runUnderlying115 rfl rfl Try.sizeOf112 (by decide)) fun a ha=>?_
      obtain ⟨v11,e12,h⟩:=bs1 h
      refine qg ha 20 (nt b8) (d_ld ha rfl Try.isAgg112 (ldL_c e12)) fun a ha=>qg ha 20 (nt b8) (d_lenS ha rfl Try.runUnderlying112) fun a ha=>qg ha 20 (nt b8) (d_move ha rfl) fun a ha=>qg ha 20 (nt b8) (d_mul ha rfl rfl) fun a ha=>qg ha 20 (nt b8) (d_sub ha rfl rfl) fun a ha=>qg ha 20 (nt b8) (d_move ha rfl) fun a ha=>qg ha 20 (nt b8) (d_lt ha rfl rfl) fun a ha=>q ha (d_pick_f ha rfl b8 rfl) fun a ha=>s_nil<|?_
      have hS : Has 37 [(31,(.bool (decide ((IntKind.wrap .i64 ((v11.n : Int) - (IntKind.wrap .i64 (2 * a2)))) < a1)))),(0,(.pointer a0)),(1,(.int .i64 a1)),(2,(.int .i64 a2))] _:=ha.sub ⟨rfl,rfl,rfl,rfl,trivial⟩
      cases h
      exact hk5 _ hS
noncomputable def grapevineref10_Whole_l1 (a0 : Sl) (x34 : Bool) (x35 : Int) (w36 : World) : Option ((Bool×Int×World)⊕(Bool×World)) :=
 if (decide (x35 < 63)) = true then
 (bind2 (if x34 = true then
 ((ix a0 x35 1).bind fun p49 =>
 (ldI .u8 w36 p49).bind fun v51 =>
 some ((v51 == 0),w36))
 else
 (some (false,w36))) fun v44 w45 =>
 some (.inl (v44,(IntKind.wrap .i64 (x35 + 1)),w45)))
 else
 (some (.inr (x34,w36)))
noncomputable def grapevineref10_Whole (a0 : Sl) (w : World) : Option (Int×Int×Bool×World) :=
 bind2 ((dr w).bind fun w5 =>
 if ((a0.n : Int) != 64) = true then
 (some (true,w5))
 else
 ((ix a0 0 1).bind fun p8 =>
 (ldI .u8 w5 p8).bind fun v10 =>
 (ix a0 63 1).bind fun p12 =>
 (ldI .u8 w5 p12).bind fun v14 =>
 some ((v10 != v14),w5))) fun v1 w2 =>
 if v1 = true then
 (some (0,0,false,w2))
 else
 (bind4 (grapevineref02_TakeKey a0 1 w2) fun v17 v18 v19 w20 =>
 bind4 (grapevineref02_TakeKey a0 9 w20) fun v22 v23 v24 w25 =>
 bind2 (if (decide (1≤v17)) = true then
 (if (decide (v17≤4611686018427387904)) = true then
 (if (decide (0≤v22)) = true then
 (some ((decide (v22≤1099511627776)),w25))
 else
 (some (false,w25)))
 else
 (some (false,w25)))
 else
 (some (false,w25))) fun v27 w28 =>
 bind2 (loopF (fun s : Bool×Int×World=>grapevineref10_Whole_l1 a0 s.1 s.2.1 s.2.2) (v27,17,w28)) fun v39 w40 =>
 if (!v39) = true then
 (some (0,0,false,w40))
 else
 (some (v17,v22,true,w40)))
set_option maxHeartbeats 1000000 in
set_option maxRecDepth 100000 in
theorem grapevineref10_Whole_ok {a0 : Sl} {w w' : World} {r0 : Int} {r1 : Int} {r2 : Bool} (h : grapevineref10_Whole a0 w = some (r0,r1,r2,w')) : Calls Try.prog 158 #[(Sl.v a0)] w fun e w''=>e = .returned (.tuple #[(.int .i64 r0),(.int .i64 r1),(.bool r2)])∧w'' = w':=by
 refine calls_dec (n:=67) Try.func158 rfl Try.ntmps158 (by simp) fun a ha=>?_
 unfold grapevineref10_Whole at h
 refine wp_seq<|region_lit<|qa ha rfl fun a ha=>qa ha rfl fun a ha=>qa ha rfl fun a ha=>s_nil<|t_n<|wp_seq<|wp_seq<|?_
 obtain ⟨v1,w2,e3,h⟩:=bs2 h
 refine reg_join (n:=67) (L:=[(24,(.bool v1)),(0,(Sl.v a0))]) (w':=w2) (fun a ha=>?_) (fun hk4=>?_)
 ·refine t_n<|?_
  refine s_cond ha rfl h (fun b16 h=>?_) (fun b16 h=>?_)
  ·refine wp_seq<|region_lit<|qa ha rfl fun a ha=>qa ha rfl fun a ha=>qa ha rfl fun a ha=>s_nil<|t_n<|wp_ret<|t_r<|?_
   have hS:=ha
   cases h
   exact ret3 Try.results158 hS rfl rfl rfl ⟨rfl,rfl⟩
  ·refine wp_skip<|t_n<|wp_seq<|region_lit<|qm ha rfl fun a ha=>?_
   obtain ⟨v17,v18,v19,w20,e21,h⟩:=bs4 h
   refine q ha (d_call (xs:=[_,_]) (vs:=[(Sl.v a0),(.int .i64 1)]) ha ⟨rfl,rfl,trivial⟩ Try.call146 (grapevineref02_TakeKey_ok e21)) fun a ha=>qm ha rfl fun a ha=>q ha (d_ext ha rfl rfl) fun a ha=>q ha (d_ext ha rfl rfl) fun a ha=>q ha (d_ext ha rfl rfl) fun a ha=>qa ha rfl fun a ha=>qa ha rfl fun a ha=>qa ha rfl fun a ha=>s_nil<|t_n<|wp_seq<|region_lit<|qm ha rfl fun a ha=>?_
   obtain ⟨v22,v23,v24,w25,e26,h⟩:=bs4 h
   refine q ha (d_call (xs:=[_,_]) (vs:=[(Sl.v a0),(.int .i64 9)]) ha ⟨rfl,rfl,trivial⟩ Try.call146 (grapevineref02_TakeKey_ok e26)) fun a ha=>qm ha rfl fun a ha=>q ha (d_ext ha rfl rfl) fun a ha=>q ha (d_ext ha rfl rfl) fun a ha=>q ha (d_ext ha rfl rfl) fun a ha=>qa ha rfl fun a ha=>qa ha rfl fun a ha=>qa ha rfl fun a ha=>s_nil<|t_n<|wp_seq<|?_
   obtain ⟨v27,w28,e29,h⟩:=bs2 h
   refine reg_join (n:=67) (L:=[(11,(.bool v27)),(0,(Sl.v a0)),(5,(.int .i64 v17)),(8,(.int .i64 v22))]) (w':=w28) (fun a ha=>?_) (fun hk30=>?_)
   ·refine t_n<|wp_seq<|wp_seq<|region_lit<|qa ha rfl fun a ha=>s_nil<|t_n<|wp_block<|?_
    obtain ⟨v39,w40,e38,h⟩:=bs2 h
    refine s_loop1 (n:=67) (L:=[(11,(.bool v39)),(5,(.int .i64 v17)),(8,(.int .i64 v22))]) (w':=w40) (e:=.exit 0) (I:=fun (s : Bool×Int×World) a w=>Has 67 [(11,(.bool s.1)),(12,(.int .i64 s.2.1)),(0,(Sl.v a0)),(5,(.int .i64 v17)),(8,(.int .i64 v22))] a∧w = s.2.2) ⟨ha.sub ⟨rfl,rfl,rfl,rfl,rfl,trivial⟩,rfl⟩ e38 (fun a ha=>?_) (fun hk41=>?_)
    ·refine b_hit<|t_n<|wp_seq<|wp_seq<|region_lit<|qm ha rfl fun a ha=>q ha (d_not ha rfl) fun a ha=>s_nil<|t_n<|?_
     refine s_cond ha rfl h (fun b53 h=>?_) (fun b53 h=>?_)
     ·refine wp_seq<|region_lit<|qa ha rfl fun a ha=>qa ha rfl fun a ha=>qa ha rfl fun a ha=>s_nil<|t_n<|wp_ret<|t_r<|?_
      have hS:=ha
      cases h
      exact ret3 Try.results158 hS rfl rfl rfl ⟨rfl,rfl⟩
     ·refine wp_skip<|t_n<|wp_seq<|region_lit<|qm ha rfl fun a ha=>qm ha rfl fun a ha=>qa ha rfl fun a ha=>qa ha rfl fun a ha=>qa ha rfl fun a ha=>s_nil<|t_n<|wp_ret<|?_
      have hS:=ha
      cases h
      exact ret3 Try.results158 hS rfl rfl rfl ⟨rfl,rfl⟩
    ·clear h
     rintro ⟨x34,x35,w36⟩ a wq o ⟨ha,hwq⟩ h hr42
     obtain rfl : w36 = wq:=hwq.symm
     have ha : Has 67 [(11,(.bool x34)),(12,(.int .i64 x35)),(0,(Sl.v a0)),(5,(.int .i64 v17)),(8,(.int .i64 v22))] a:=ha
     have h : grapevineref10_Whole_l1 a0 x34 x35 w36 = some o:=h
     unfold grapevineref10_Whole_l1 at h
     refine wp_seq<|wp_seq<|region_lit<|qm ha rfl fun a ha=>q ha (d_lt ha rfl rfl) fun a ha=>s_nil<|t_n<|?_
     refine s_cond ha rfl h (fun b43 h=>?_) (fun b43 h=>?_)
     ·refine wp_skip<|t_n<|wp_seq<|wp_block<|?_
      obtain ⟨v44,w45,e46,h⟩:=bs2 h
      refine reg_join (n:=67) (L:=[(11,(.bool v44)),(0,(Sl.v a0)),(5,(.int .i64 v17)),(8,(.int .i64 v22)),(12,(.int .i64 x35))]) (w':=w45) (fun a ha=>?_) (fun hk47=>?_)
      ·refine b_n<|t_n<|region_lit<|qm ha rfl fun a ha=>q ha (d_add ha rfl rfl) fun a ha=>qa ha rfl fun a ha=>s_nil<|?_
       have hS : Has 67 [(11,(.bool v44)),(12,(.int .i64 (IntKind.wrap .i64 (x35 + 1)))),(0,(Sl.v a0)),(5,(.int .i64 v17)),(8,(.int .i64 v22))] _:=ha.sub ⟨rfl,rfl,rfl,rfl,rfl,trivial⟩
       cases h
       exact lp_next ⟨hS,rfl⟩
      ·clear h
       have h:=e46
       refine region_lit<|qm ha rfl fun a ha=>qm ha rfl fun a ha=>?_
       refine ite_s h (fun b48 h=>?_) (fun b48 h=>?_)
       ·refine qg ha 56 b48 (d_move ha rfl) fun a ha=>qg ha 56 b48 (d_move ha rfl) fun a ha=>?_
        obtain ⟨p49,e50,h⟩:=bs1 h
        refine qg ha 56 b48 (d_ix ha rfl rfl Try.runUnderlying72 Try.sizeOf5 e50) fun a ha=>?_
        obtain ⟨v51,e52,h⟩:=bs1 h
        refine qg ha 56 b48 (d_ld ha rfl Try.isAgg5 (ldI_c e52)) fun a ha=>qg ha 56 b48 (d_eq ha rfl rfl) fun a ha=>q ha (d_pick_t ha rfl b48 rfl) fun a ha=>qa ha rfl fun a ha=>s_nil<|?_
        have hS : Has 67 [(11,(.bool (v51 == 0))),(0,(Sl.v a0)),(5,(.int .i64 v17)),(8,(.int .i64 v22)),(12,(.int .i64 x35))] _:=ha.sub ⟨rfl,rfl,rfl,rfl,rfl,trivial⟩
        cases h
        exact hk47 _ hS
       ·refine qn ha 56 (nn b48 _ rfl) fun a ha=>qn ha 56 (nn b48 _ rfl) fun a ha=>qn ha 56 (nn b48 _ rfl) fun a ha=>qn ha 56 (nn b48 _ rfl) fun a ha=>qn ha 56 (nn b48 _ rfl) fun a ha=>q ha (d_pick_f ha rfl b48 rfl) fun a ha=>qa ha rfl fun a ha=>s_nil<|?_
        have hS : Has 67 [(11,(.bool false)),(0,(Sl.v a0)),(5,(.int .i64 v17)),(8,(.int .i64 v22)),(12,(.int .i64 x35))] _:=ha.sub ⟨rfl,rfl,rfl,rfl,rfl,trivial⟩
        cases h
        exact hk47 _ hS
     ·refine wp_exit<|t_x<|?_
      have hS : Has 67 [(11,(.bool x34)),(5,(.int .i64 v17)),(8,(.int .i64 v22))] _:=ha.sub ⟨rfl,rfl,rfl,trivial⟩
      cases h
      cases hr42 _ rfl
      refine lp_x<|?_
      exact hk41 _ hS
   ·clear h
    have h:=e29
    refine region_lit<|qm ha rfl fun a ha=>q ha (d_ge ha rfl rfl) fun a ha=>qm ha rfl fun a ha=>?_
    refine ite_s h (fun b31 h=>?_) (fun b31 h=>?_)
    ·refine qg ha 39 b31 (d_move ha rfl) fun a ha=>qg ha 39 b31 (d_le ha rfl rfl) fun a ha=>q ha (d_pick_t ha rfl b31 rfl) fun a ha=>qm ha rfl fun a ha=>?_
     refine ite_s h (fun b32 h=>?_) (fun b32 h=>?_)
     ·refine qg ha 43 b32 (d_move ha rfl) fun a ha=>qg ha 43 b32 (d_ge ha rfl rfl) fun a ha=>q ha (d_pick_t ha rfl b32 rfl) fun a ha=>qm ha rfl fun a ha=>?_
      refine ite_s h (fun b33 h=>?_) (fun b33 h=>?_)
      ·refine qg ha 47 b33 (d_move ha rfl) fun a ha=>qg ha 47 b33 (d_le ha rfl rfl) fun a ha=>q ha (d_pick_t ha rfl b33 rfl) fun a ha=>qa ha rfl fun a ha=>s_nil<|?_
       have hS : Has 67 [(11,(.bool (decide (v22≤1099511627776)))),(0,(Sl.v a0)),(5,(.int .i64 v17)),(8,(.int .i64 v22))] _:=ha.sub ⟨rfl,rfl,rfl,rfl,trivial⟩
       cases h
       exact hk30 _ hS
      ·refine qn ha 47 (nn b33 _ rfl) fun a ha=>qn ha 47 (nn b33 _ rfl) fun a ha=>q ha (d_pick_f ha rfl b33 rfl) fun a ha=>qa ha rfl fun a ha=>s_nil<|?_
       have hS : Has 67 [(11,(.bool false)),(0,(Sl.v a0)),(5,(.int .i64 v17)),(8,(.int .i64 v22))] _:=ha.sub ⟨rfl,rfl,rfl,rfl,trivial⟩
       cases h
       exact hk30 _ hS
     ·refine qn ha 43 (nn b32 _ rfl) fun a ha=>qn ha 43 (nn b32 _ rfl) fun a ha=>q ha (d_pick_f ha rfl b32 rfl) fun a ha=>qm ha rfl fun a ha=>qn ha 47 (nn Bool.false_ne_true _ rfl) fun a ha=>qn ha 47 (nn Bool.false_ne_true _ rfl) fun a ha=>q ha (d_pick_f ha rfl Bool.false_ne_true rfl) fun a ha=>qa ha rfl fun a ha=>s_nil<|?_
      have hS : Has 67 [(11,(.bool false)),(0,(Sl.v a0)),(5,(.int .i64 v17)),(8,(.int .i64 v22))] _:=ha.sub ⟨rfl,rfl,rfl,rfl,trivial⟩
      cases h
      exact hk30 _ hS
    ·refine qn ha 39 (nn b31 _ rfl) fun a ha=>qn ha 39 (nn b31 _ rfl) fun a ha=>q ha (d_pick_f ha rfl b31 rfl) fun a ha=>qm ha rfl fun a ha=>qn ha 43 (nn Bool.false_ne_true _ rfl) fun a ha=>qn ha 43 (nn Bool.false_ne_true _ rfl) fun a ha=>q ha (d_pick_f ha rfl Bool.false_ne_true rfl) fun a ha=>qm ha rfl fun a ha=>qn ha 47 (nn Bool.false_ne_true _ rfl) fun a ha=>qn ha 47 (nn Bool.false_ne_true _ rfl) fun a ha=>q ha (d_pick_f ha rfl Bool.false_ne_true rfl) fun a ha=>qa ha rfl fun a ha=>s_nil<|?_
     have hS : Has 67 [(11,(.bool false)),(0,(Sl.v a0)),(5,(.int .i64 v17)),(8,(.int .i64 v22))] _:=ha.sub ⟨rfl,rfl,rfl,rfl,trivial⟩
     cases h
     exact hk30 _ hS
 ·clear h
  have h:=e3
  obtain ⟨w5,e6,h⟩:=bs1 h
  refine ite_s h (fun b7 h=>?_) (fun b7 h=>?_)
  ·have ha : Has 67 [(0,(Sl.v a0))] a:=ha.sub ⟨rfl,trivial⟩
   refine region_draw (n:=67) (ds:=(⟨_,(Sl.v a0),false,0,0,[],[(0,(Sl.v a0))]⟩ :: ⟨_,(.int .i64 (a0.n : Int)),false,0,0,[0],[(13,(Sl.v a0))]⟩ :: ⟨_,(.bool ((a0.n : Int) != 64)),false,0,0,[0,1],[(14,(.int .i64 (a0.n : Int)))]⟩ :: ⟨_,(.bool ((a0.n : Int) != 64)),false,0,0,[0,1,2],[(15,(.bool ((a0.n : Int) != 64)))]⟩ :: ⟨_,undef,false,0,0,(rn 0 4),[(16,(.bool ((a0.n : Int) != 64)))]⟩ :: ⟨_,undef,false,0,0,(rn 0 5),[(16,(.bool ((a0.n : Int) != 64)))]⟩ :: ⟨_,undef,false,0,0,(rn 0 6),[(16,(.bool ((a0.n : Int) != 64)))]⟩ :: ⟨_,undef,false,0,0,(rn 0 4),[(16,(.bool ((a0.n : Int) != 64)))]⟩ :: ⟨_,undef,false,0,0,(rn 0 4 ++ [7]),[(16,(.bool ((a0.n : Int) != 64)))]⟩ :: ⟨_,undef,false,0,0,(rn 0 4 ++ [7,8]),[(16,(.bool ((a0.n : Int) != 64)))]⟩ :: ⟨_,undef,false,0,0,(rn 0 10),[(16,(.bool ((a0.n : Int) != 64)))]⟩ :: ⟨_,(.bool true),false,0,0,(rn 0 11),[(16,(.bool ((a0.n : Int) != 64))),(23,undef)]⟩ :: [])) (W:=(fun _=>w5)) (by kernel_rfl) ha (dr_w e6) (by kernel_rfl) ?_ (reads_of (by kernel_rfl)) (by kernel_rfl) (m:=0) (by kernel_rfl) (fun a ha=>?_)
   ·refine ⟨?_,?_,?_,?_,?_,?_,?_,?_,?_,?_,?_,?_,trivial⟩
    ·exact oa fun j a ha=>d_move ha rfl
    ·exact oa fun j a ha=>d_lenS ha rfl Try.runUnderlying72
    ·exact oa fun j a ha=>d_ne ha rfl rfl
    ·exact oa fun j a ha=>d_move ha rfl
    ·exact on 16 (tn b7)
    ·exact on 16 (tn b7)
    ·exact on 16 (tn b7)
    ·exact on 16 (tn b7)
    ·exact on 16 (tn b7)
    ·exact on 16 (tn b7)
    ·exact on 16 (tn b7)
    ·exact oa fun j a ha=>d_pick_t ha rfl b7 rfl
   ·have ha : Has 67 [(0,(Sl.v a0)),(24,(.bool true))] a:=ha.sub ⟨rfl,rfl,trivial⟩
    have hS : Has 67 [(24,(.bool true)),(0,(Sl.v a0))] _:=ha.sub ⟨rfl,rfl,trivial⟩
    cases h
    exact hk4 _ hS
  ·obtain ⟨p8,e9,h⟩:=bs1 h
   obtain ⟨v10,e11,h⟩:=bs1 h
   obtain ⟨p12,e13,h⟩:=bs1 h
   obtain ⟨v14,e15,h⟩:=bs1 h
   have ha : Has 67 [(0,(Sl.v a0))] a:=ha.sub ⟨rfl,trivial⟩
   refine region_draw (n:=67) (ds:=(⟨_,(Sl.v a0),false,0,0,[],[(0,(Sl.v a0))]⟩ :: ⟨_,(.int .i64 (a0.n : Int)),false,0,0,[0],[(13,(Sl.v a0))]⟩ :: ⟨_,(.bool ((a0.n : Int) != 64)),false,0,0,[0,1],[(14,(.int .i64 (a0.n : Int)))]⟩ :: ⟨_,(.bool ((a0.n : Int) != 64)),false,0,0,[0,1,2],[(15,(.bool ((a0.n : Int) != 64)))]⟩ :: ⟨_,(Sl.v a0),false,0,0,(rn 0 4),[(0,(Sl.v a0)),(16,(.bool ((a0.n : Int) != 64)))]⟩ :: ⟨_,(.pointer (some p8)),false,0,0,(rn 0 5),[(17,(Sl.v a0)),(16,(.bool ((a0.n : Int) != 64)))]⟩ :: ⟨_,(.int .u8 v10),false,0,0,(rn 0 6),[(18,(.pointer (some p8))),(16,(.bool ((a0.n : Int) != 64)))]⟩ :: ⟨_,(Sl.v a0),false,0,0,(rn 0 4),[(0,(Sl.v a0)),(16,(.bool ((a0.n : Int) != 64)))]⟩ :: ⟨_,(.pointer (some p12)),false,0,0,(rn 0 4 ++ [7]),[(20,(Sl.v a0)),(16,(.bool ((a0.n : Int) != 64)))]⟩ :: ⟨_,(.int .u8 v14),false,0,0,(rn 0 4 ++ [7,8]),[(21,(.pointer (some p12))),(16,(.bool ((a0.n : Int) != 64)))]⟩ :: ⟨_,(.bool (v10 != v14)),false,0,0,(rn 0 10),[(19,(.int .u8 v10)),(22,(.int .u8 v14)),(16,(.bool ((a0.n : Int) != 64)))]⟩ :: ⟨_,(.bool (v10 != v14)),false,0,0,(rn 0 11),[(16,(.bool ((a0.n : Int) != 64))),(23,(.bool (v10 != v14)))]⟩ :: [])) (W:=(fun _=>w5)) (by kernel_rfl) ha (dr_w e6) (by kernel_rfl) ?_ (reads_of (by kernel_rfl)) (by kernel_rfl) (m:=0) (by kernel_rfl) (fun a ha=>?_)
   ·refine ⟨?_,?_,?_,?_,?_,?_,?_,?_,?_,?_,?_,?_,trivial⟩
    ·exact oa fun j a ha=>d_move ha rfl
    ·exact oa fun j a ha=>d_lenS ha rfl Try.runUnderlying72
    ·exact oa fun j a ha=>d_ne ha rfl rfl
    ·exact oa fun j a ha=>d_move ha rfl
    ·exact oag 16 (nt b7) fun j a ha=>d_move ha rfl
    ·exact oag 16 (nt b7) fun j a ha=>d_ix ha rfl rfl Try.runUnderlying72 Try.sizeOf5 e9
    ·exact oc (e:=false) 0 (ok_do_g rfl rfl (rfl : List.lookup 16 _ = _) (nt b7) fun a ha=>d_ld ha rfl Try.isAgg5 (ldI_c e11))
    ·exact oag 16 (nt b7) fun j a ha=>d_move ha rfl
    ·exact oag 16 (nt b7) fun j a ha=>d_ix ha rfl rfl Try.runUnderlying72 Try.sizeOf5 e13
    ·exact oc (e:=false) 0 (ok_do_g rfl rfl (rfl : List.lookup 16 _ = _) (nt b7) fun a ha=>d_ld ha rfl Try.isAgg5 (ldI_c e15))
    ·exact oag 16 (nt b7) fun j a ha=>d_ne ha rfl rfl
    ·exact oa fun j a ha=>d_pick_f ha rfl b7 rfl
   ·have ha : Has 67 [(0,(Sl.v a0)),(24,(.bool (v10 != v14)))] a:=ha.sub ⟨rfl,rfl,trivial⟩
    have hS : Has 67 [(24,(.bool (v10 != v14))),(0,(Sl.v a0))] _:=ha.sub ⟨rfl,rfl,trivial⟩
    cases h
    exact hk4 _ hS
noncomputable def grapevineref10_Cells_counts (a0 : Option Addr) (a1 : Int) (w : World) : Option (Int×Int×Int×World) :=
 (dr w).bind fun w1 =>
 (a0).bind fun p3 =>
 (ldP w1 (p3.add 0)).bind fun v5 =>
 (ldI .i64 w1 (p3.add 1)).bind fun v7 =>
 bind3 (grapevineref09_Disk_Read v5 (IntKind.wrap .i64 (v7 + (IntKind.wrap .i64 (2 * a1)))) w1) fun v9 v10 w11 =>
 (dr w11).bind fun w13 =>
 (ldP w13 (p3.add 0)).bind fun v15 =>
 (ldI .i64 w13 (p3.add 1)).bind fun v17 =>
 bind3 (grapevineref09_Disk_Read v15 (IntKind.wrap .i64 ((IntKind.wrap .i64 (v17 + (IntKind.wrap .i64 (2 * a1)))) + 1)) w13) fun v19 v20 w21 =>
 bind4 (grapevineref10_Whole v9 w21) fun v23 v24 v25 w26 =>
 bind4 (grapevineref10_Whole v19 w26) fun v28 v29 v30 w31 =>
 bind2 (if v25 = true then
 (if (!v30) = true then
 (some (true,w31))
 else
 (some ((decide (v28≤v23)),w31)))
 else
 (some (false,w31))) fun v33 w34 =>
 if v33 = true then
 (some (0,v23,v24,w34))
 else
 (if v30 = true then
 (some (1,v28,v29,w34))
 else
 (some (2,0,0,w34)))
set_option maxHeartbeats 1000000 in
set_option maxRecDepth 100000 in
theorem grapevineref10_Cells_counts_ok {a0 : Option Addr} {a1 : Int} {w w' : World} {r0 : Int} {r1 : Int} {r2 : Int} (h : grapevineref10_Cells_counts a0 a1 w = some (r0,r1,r2,w')) : Calls Try.prog 147 #[(.pointer a0),(.int .i64 a1)] w fun e w''=>e = .returned (.tuple #[(.int .i64 r0),(.int .i64 r1),(.int .i64 r2)])∧w'' = w':=by
 refine calls_dec (n:=75) Try.func147 rfl Try.ntmps147 (by simp) fun a ha=>?_
 unfold grapevineref10_Cells_counts at h
 refine wp_seq<|region_lit<|qa ha rfl fun a ha=>qa ha rfl fun a ha=>qa ha rfl fun a ha=>s_nil<|t_n<|wp_seq<|?_
 obtain ⟨w1,e2,h⟩:=bs1 h
 obtain ⟨p3,e4,h⟩:=bs1 h
 obtain ⟨v5,e6,h⟩:=bs1 h
 obtain ⟨v7,e8,h⟩:=bs1 h
 obtain ⟨v9,v10,w11,e12,h⟩:=bs3 h
 have ha : Has 75 [(0,(.pointer a0)),(1,(.int .i64 a1))] a:=ha.sub ⟨rfl,rfl,trivial⟩
 refine region_draw (n:=75) (ds:=(⟨_,(.pointer a0),false,0,0,[],[(0,(.pointer a0))]⟩ :: ⟨_,(.pointer (some p3)),false,0,0,[0],[(18,(.pointer a0))]⟩ :: ⟨_,(.pointer (some (p3.add 0))),false,0,0,[0,1],[(19,(.pointer (some p3)))]⟩ :: ⟨_,(.pointer v5),false,0,0,[0,1,2],[(20,(.pointer (some (p3.add 0))))]⟩ :: ⟨_,(.pointer a0),false,0,0,[],[(0,(.pointer a0))]⟩ :: ⟨_,(.pointer (some p3)),false,0,0,[4],[(22,(.pointer a0))]⟩ :: ⟨_,(.pointer (some (p3.add 1))),false,0,0,[4,5],[(23,(.pointer (some p3)))]⟩ :: ⟨_,(.int .i64 v7),false,0,0,[4,5,6],[(24,(.pointer (some (p3.add 1))))]⟩ :: ⟨_,(.int .i64 a1),false,0,0,[],[(1,(.int .i64 a1))]⟩ :: ⟨_,(.int .i64 (IntKind.wrap .i64 (2 * a1))),false,0,0,[8],[(26,(.int .i64 a1))]⟩ :: ⟨_,(.int .i64 (IntKind.wrap .i64 (v7 + (IntKind.wrap .i64 (2 * a1))))),false,0,0,(rn 4 6),[(25,(.int .i64 v7)),(27,(.int .i64 (IntKind.wrap .i64 (2 * a1))))]⟩ :: ⟨_,(.tuple #[(Sl.v v9),(.int .i64 v10)]),true,0,0,(rn 0 11),[(21,(.pointer v5)),(28,(.int .i64 (IntKind.wrap .i64 (v7 + (IntKind.wrap .i64 (2 * a1))))))]⟩ :: ⟨_,(.tuple #[(Sl.v v9),(.int .i64 v10)]),false,1,1,(rn 0 12),[(29,(.tuple #[(Sl.v v9),(.int .i64 v10)]))]⟩ :: ⟨_,(Sl.v v9),false,1,1,(rn 0 13),[(17,(.tuple #[(Sl.v v9),(.int .i64 v10)]))]⟩ :: ⟨_,(.int .i64 v10),false,1,1,(rn 0 13),[(17,(.tuple #[(Sl.v v9),(.int .i64 v10)]))]⟩ :: ⟨_,(Sl.v v9),false,1,1,(rn 0 14),[(30,(Sl.v v9))]⟩ :: ⟨_,(.int .i64 v10),false,1,1,(rn 0 16),[(31,(.int .i64 v10))]⟩ :: [])) (W:=(fun j=>match j with | 0=>w1 | 1=>w11 | _=>w11)) (by kernel_rfl) ha (dr_w e2) (by kernel_rfl) ?_ (reads_of (by kernel_rfl)) (by kernel_rfl) (m:=1) (by kernel_rfl) (fun a ha=>?_)
 ·refine ⟨?_,?_,?_,?_,?_,?_,?_,?_,?_,?_,?_,?_,?_,?_,?_,?_,?_,trivial⟩
  ·exact oa fun j a ha=>d_move ha rfl
  ·exact oa fun j a ha=>d_nilp ha rfl e4
  ·exact oa fun j a ha=>d_fa ha rfl Try.runUnderlying197 rfl rfl Try.sizeOf61 (by decide)
  ·exact oc 0 (ok_do rfl fun a ha=>d_ld ha rfl Try.isAgg61 (ldP_c e6))
  ·exact oa fun j a ha=>d_move ha rfl
  ·exact oa fun j a ha=>d_nilp ha rfl e4
  ·exact oa fun j a ha=>d_fa ha rfl Try.runUnderlying197 rfl rfl Try.sizeOf3 (by decide)
  ·exact oc 0 (ok_do rfl fun a ha=>d_ld ha rfl Try.isAgg3 (ldI_c e8))
  ·exact oa fun j a ha=>d_move ha rfl
  ·exact oa fun j a ha=>d_mul ha rfl rfl
  ·exact oa fun j a ha=>d_add ha rfl rfl
  ·exact oc 0 (ok_do rfl fun a ha=>d_call (xs:=[_,_]) (vs:=[(.pointer v5),(.int .i64 (IntKind.wrap .i64 (v7 + (IntKind.wrap .i64 (2 * a1)))))]) ha ⟨rfl,rfl,trivial⟩ Try.call100 (grapevineref09_Disk_Read_ok e12))
  ·exact oa fun j a ha=>d_move ha rfl
  ·exact oa fun j a ha=>d_ext ha rfl rfl
  ·exact oa fun j a ha=>d_ext ha rfl rfl
  ·exact oa fun j a ha=>d_assign ha rfl
  ·exact oa fun j a ha=>d_assign ha rfl
 ·have ha : Has 75 [(0,(.pointer a0)),(1,(.int .i64 a1)),(7,(Sl.v v9))] a:=ha.sub ⟨rfl,rfl,rfl,trivial⟩
  refine t_n<|wp_seq<|?_
  obtain ⟨w13,e14,h⟩:=bs1 h
  obtain ⟨v15,e16,h⟩:=bs1 h
  obtain ⟨v17,e18,h⟩:=bs1 h
  obtain ⟨v19,v20,w21,e22,h⟩:=bs3 h
  have ha : Has 75 [(0,(.pointer a0)),(1,(.int .i64 a1)),(7,(Sl.v v9))] a:=ha.sub ⟨rfl,rfl,rfl,trivial⟩
  refine region_draw (n:=75) (ds:=(⟨_,(.pointer a0),false,0,0,[],[(0,(.pointer a0))]⟩ :: ⟨_,(.pointer (some p3)),false,0,0,[0],[(33,(.pointer a0))]⟩ :: ⟨_,(.pointer (some (p3.add 0))),false,0,0,[0,1],[(34,(.pointer (some p3)))]⟩ :: ⟨_,(.pointer v15),false,0,0,[0,1,2],[(35,(.pointer (some (p3.add 0))))]⟩ :: ⟨_,(.pointer a0),false,0,0,[],[(0,(.pointer a0))]⟩ :: ⟨_,(.pointer (some p3)),false,0,0,[4],[(37,(.pointer a0))]⟩ :: ⟨_,(.pointer (some (p3.add 1))),false,0,0,[4,5],[(38,(.pointer (some p3)))]⟩ :: ⟨_,(.int .i64 v17),false,0,0,[4,5,6],[(39,(.pointer (some (p3.add 1))))]⟩ :: ⟨_,(.int .i64 a1),false,0,0,[],[(1,(.int .i64 a1))]⟩ :: ⟨_,(.int .i64 (IntKind.wrap .i64 (2 * a1))),false,0,0,[8],[(41,(.int .i64 a1))]⟩ :: ⟨_,(.int .i64 (IntKind.wrap .i64 (v17 + (IntKind.wrap .i64 (2 * a1))))),false,0,0,(rn 4 6),[(40,(.int .i64 v17)),(42,(.int .i64 (IntKind.wrap .i64 (2 * a1))))]⟩ :: ⟨_,(.int .i64 (IntKind.wrap .i64 ((IntKind.wrap .i64 (v17 + (IntKind.wrap .i64 (2 * a1)))) + 1))),false,0,0,(rn 4 7),[(43,(.int .i64 (IntKind.wrap .i64 (v17 + (IntKind.wrap .i64 (2 * a1))))))]⟩ :: ⟨_,(.tuple #[(Sl.v v19),(.int .i64 v20)]),true,0,0,(rn 0 12),[(36,(.pointer v15)),(44,(.int .i64 (IntKind.wrap .i64 ((IntKind.wrap .i64 (v17 + (IntKind.wrap .i64 (2 * a1)))) + 1))))]⟩ :: ⟨_,(.tuple #[(Sl.v v19),(.int .i64 v20)]),false,1,1,(rn 0 13),[(45,(.tuple #[(Sl.v v19),(.int .i64 v20)]))]⟩ :: ⟨_,(Sl.v v19),false,1,1,(rn 0 14),[(32,(.tuple #[(Sl.v v19),(.int .i64 v20)]))]⟩ :: ⟨_,(.int .i64 v20),false,1,1,(rn 0 14),[(32,(.tuple #[(Sl.v v19),(.int .i64 v20)]))]⟩ :: ⟨_,(Sl.v v19),false,1,1,(rn 0 15),[(46,(Sl.v v19))]⟩ :: ⟨_,(.int .i64 v20),false,1,1,(rn 0 17),[(47,(.int .i64 v20))]⟩ :: [])) (W:=(fun j=>match j with | 0=>w13 | 1=>w21 | _=>w21)) (by kernel_rfl) ha (dr_w e14) (by kernel_rfl) ?_ (reads_of (by kernel_rfl)) (by kernel_rfl) (m:=1) (by kernel_rfl) (fun a ha=>?_)
  ·refine ⟨?_,?_,?_,?_,?_,?_,?_,?_,?_,?_,?_,?_,?_,?_,?_,?_,?_,?_,trivial⟩
   ·exact oa fun j a ha=>d_move ha rfl
   ·exact oa fun j a ha=>d_nilp ha rfl e4
   ·exact oa fun j a ha=>d_fa ha rfl Try.runUnderlying197 rfl rfl Try.sizeOf61 (by decide)
   ·exact oc 0 (ok_do rfl fun a ha=>d_ld ha rfl Try.isAgg61 (ldP_c e16))
   ·exact oa fun j a ha=>d_move ha rfl
   ·exact oa fun j a ha=>d_nilp ha rfl e4
   ·exact oa fun j a ha=>d_fa ha rfl Try.runUnderlying197 rfl rfl Try.sizeOf3 (by decide)
   ·exact oc 0 (ok_do rfl fun a ha=>d_ld ha rfl Try.isAgg3 (ldI_c e18))
   ·exact oa fun j a ha=>d_move ha rfl
   ·exact oa fun j a ha=>d_mul ha rfl rfl
   ·exact oa fun j a ha=>d_add ha rfl rfl
   ·exact oa fun j a ha=>d_add ha rfl rfl
   ·exact oc 0 (ok_do rfl fun a ha=>d_call (xs:=[_,_]) (vs:=[(.pointer v15),(.int .i64 (IntKind.wrap .i64 ((IntKind.wrap .i64 (v17 + (IntKind.wrap .i64 (2 * a1)))) + 1)))]) ha ⟨rfl,rfl,trivial⟩ Try.call100 (grapevineref09_Disk_Read_ok e22))
   ·exact oa fun j a ha=>d_move ha rfl
   ·exact oa fun j a ha=>d_ext ha rfl rfl
   ·exact oa fun j a ha=>d_ext ha rfl rfl
   ·exact oa fun j a ha=>d_assign ha rfl
   ·exact oa fun j a ha=>d_assign ha rfl
  ·have ha : Has 75 [(7,(Sl.v v9)),(9,(Sl.v v19))] a:=ha.sub ⟨rfl,rfl,trivial⟩
   refine t_n<|wp_seq<|region_lit<|qm ha rfl fun a ha=>?_
   obtain ⟨v23,v24,v25,w26,e27,h⟩:=bs4 h
   refine q ha (d_call (xs:=[_]) (vs:=[(Sl.v v9)]) ha ⟨rfl,trivial⟩ Try.call158 (grapevineref10_Whole_ok e27)) fun a ha=>qm ha rfl fun a ha=>q ha (d_ext ha rfl rfl) fun a ha=>q ha (d_ext ha rfl rfl) fun a ha=>q ha (d_ext ha rfl rfl) fun a ha=>qa ha rfl fun a ha=>qa ha rfl fun a ha=>qa ha rfl fun a ha=>s_nil<|t_n<|wp_seq<|region_lit<|qm ha rfl fun a ha=>?_
   obtain ⟨v28,v29,v30,w31,e32,h⟩:=bs4 h
   refine q ha (d_call (xs:=[_]) (vs:=[(Sl.v v19)]) ha ⟨rfl,trivial⟩ Try.call158 (grapevineref10_Whole_ok e32)) fun a ha=>qm ha rfl fun a ha=>q ha (d_ext ha rfl rfl) fun a ha=>q ha (d_ext ha rfl rfl) fun a ha=>q ha (d_ext ha rfl rfl) fun a ha=>qa ha rfl fun a ha=>qa ha rfl fun a ha=>qa ha rfl fun a ha=>s_nil<|t_n<|wp_seq<|wp_seq<|?_
   obtain ⟨v33,w34,e35,h⟩:=bs2 h
   refine reg_join (n:=75) (L:=[(69,(.bool v33)),(11,(.int .i64 v23)),(12,(.int .i64 v24)),(14,(.int .i64 v28)),(15,(.int .i64 v29)),(16,(.bool v30))]) (w':=w34) (fun a ha=>?_) (fun hk36=>?_)
   ·refine t_n<|?_
    refine s_cond ha rfl h (fun b39 h=>?_) (fun b39 h=>?_)
    ·refine wp_seq<|region_lit<|qm ha rfl fun a ha=>qm ha rfl fun a ha=>qa ha rfl fun a ha=>qa ha rfl fun a ha=>qa ha rfl fun a ha=>s_nil<|t_n<|wp_ret<|t_r<|?_
     have hS:=ha
     cases h
     exact ret3 Try.results147 hS rfl rfl rfl ⟨rfl,rfl⟩
    ·refine wp_skip<|t_n<|wp_seq<|wp_seq<|region_lit<|qm ha rfl fun a ha=>s_nil<|t_n<|?_
     refine s_cond ha rfl h (fun b40 h=>?_) (fun b40 h=>?_)
     ·refine wp_seq<|region_lit<|qm ha rfl fun a ha=>qm ha rfl fun a ha=>qa ha rfl fun a ha=>qa ha rfl fun a ha=>qa ha rfl fun a ha=>s_nil<|t_n<|wp_ret<|t_r<|?_
      have hS:=ha
      cases h
      exact ret3 Try.results147 hS rfl rfl rfl ⟨rfl,rfl⟩
     ·refine wp_skip<|t_n<|wp_seq<|region_lit<|qa ha rfl fun a ha=>qa ha rfl fun a ha=>qa ha rfl fun a ha=>s_nil<|t_n<|wp_ret<|?_
      have hS:=ha
      cases h
      exact ret3 Try.results147 hS rfl rfl rfl ⟨rfl,rfl⟩
   ·clear h
    have h:=e35
    refine region_lit<|qm ha rfl fun a ha=>qm ha rfl fun a ha=>?_
    refine ite_s h (fun b37 h=>?_) (fun b37 h=>?_)
    ·refine qg ha 61 b37 (d_move ha rfl) fun a ha=>qg ha 61 b37 (d_not ha rfl) fun a ha=>qg ha 61 b37 (d_move ha rfl) fun a ha=>?_
     refine ite_s h (fun b38 h=>?_) (fun b38 h=>?_)
     ·refine qn ha 64 (tn b38) fun a ha=>qn ha 64 (tn b38) fun a ha=>qn ha 64 (tn b38) fun a ha=>qg ha 61 b37 (d_pick_t ha rfl b38 rfl) fun a ha=>q ha (d_pick_t ha rfl b37 rfl) fun a ha=>s_nil<|?_
      have hS : Has 75 [(69,(.bool true)),(11,(.int .i64 v23)),(12,(.int .i64 v24)),(14,(.int .i64 v28)),(15,(.int .i64 v29)),(16,(.bool v30))] _:=ha.sub ⟨rfl,rfl,rfl,rfl,rfl,rfl,trivial⟩
      cases h
      exact hk36 _ hS
     ·refine qg ha 64 (nt b38) (d_move ha rfl) fun a ha=>qg ha 64 (nt b38) (d_move ha rfl) fun a ha=>qg ha 64 (nt b38) (d_ge ha rfl rfl) fun a ha=>qg ha 61 b37 (d_pick_f ha rfl b38 rfl) fun a ha=>q ha (d_pick_t ha rfl b37 rfl) fun a ha=>s_nil<|?_
      have hS : Has 75 [(69,(.bool (decide (v28≤v23)))),(11,(.int .i64 v23)),(12,(.int .i64 v24)),(14,(.int .i64 v28)),(15,(.int .i64 v29)),(16,(.bool v30))] _:=ha.sub ⟨rfl,rfl,rfl,rfl,rfl,rfl,trivial⟩
      cases h
      exact hk36 _ hS
    ·refine qn ha 61 (nn b37 _ rfl) fun a ha=>qn ha 61 (nn b37 _ rfl) fun a ha=>qn ha 61 (nn b37 _ rfl) fun a ha=>qu ha 64 fun a ha=>qu ha 64 fun a ha=>qu ha 64 fun a ha=>qn ha 61 (nn b37 _ rfl) fun a ha=>q ha (d_pick_f ha rfl b37 rfl) fun a ha=>s_nil<|?_
     have hS : Has 75 [(69,(.bool false)),(11,(.int .i64 v23)),(12,(.int .i64 v24)),(14,(.int .i64 v28)),(15,(.int .i64 v29)),(16,(.bool v30))] _:=ha.sub ⟨rfl,rfl,rfl,rfl,rfl,rfl,trivial⟩
     cases h
     exact hk36 _ hS
noncomputable def grapevineref10_Cells_Get (a0 : Option Addr) (a1 : Int) (w : World) : Option (Int×Bool×World) :=
 bind2 (if (a0.isNone) = true then
 (some (true,w))
 else
 (if (decide (a1 < 0)) = true then
 (some (true,w))
 else
 ((a0).bind fun p7 =>
 (ldI .i64 w (p7.add 2)).bind fun v9 =>
 some ((decide (v9≤a1)),w)))) fun v1 w2 =>
 if v1 = true then
 (some (0,false,w2))
 else
 (bind4 (grapevineref10_Cells_counts a0 a1 w2) fun v12 v13 v14 w15 =>
 some (v14,(decide (v12 < 2)),w15))
set_option maxHeartbeats 1000000 in
set_option maxRecDepth 100000 in
theorem grapevineref10_Cells_Get_ok {a0 : Option Addr} {a1 : Int} {w w' : World} {r0 : Int} {r1 : Bool} (h : grapevineref10_Cells_Get a0 a1 w = some (r0,r1,w')) : Calls Try.prog 115 #[(.pointer a0),(.int .i64 a1)] w fun e w''=>e = .returned (.tuple #[(.int .i64 r0),(.bool r1)])∧w'' = w':=by
 refine calls_dec (n:=33) Try.func115 rfl Try.ntmps115 (by simp) fun a ha=>?_
 unfold grapevineref10_Cells_Get at h
 refine wp_seq<|region_lit<|qa ha rfl fun a ha=>qa ha rfl fun a ha=>s_nil<|t_n<|wp_seq<|wp_seq<|?_
 obtain ⟨v1,w2,e3,h⟩:=bs2 h
 refine reg_join (n:=33) (L:=[(22,(.bool v1)),(0,(.pointer a0)),(1,(.int .i64 a1))]) (w':=w2) (fun a ha=>?_) (fun hk4=>?_)
 ·refine t_n<|?_
  refine s_cond ha rfl h (fun b11 h=>?_) (fun b11 h=>?_)
  ·refine wp_seq<|region_lit<|qa ha rfl fun a ha=>qa ha rfl fun a ha=>s_nil<|t_n<|wp_ret<|t_r<|?_
   have hS:=ha
   cases h
   exact ret2 Try.results115 hS rfl rfl ⟨rfl,rfl⟩
  ·refine wp_skip<|t_n<|wp_seq<|region_lit<|qm ha rfl fun a ha=>qm ha rfl fun a ha=>?_
   obtain ⟨v12,v13,v14,w15,e16,h⟩:=bs4 h
   refine q ha (d_call (xs:=[_,_]) (vs:=[(.pointer a0),(.int .i64 a1)]) ha ⟨rfl,rfl,trivial⟩ Try.call147 (grapevineref10_Cells_counts_ok e16)) fun a ha=>qm ha rfl fun a ha=>q ha (d_ext ha rfl rfl) fun a ha=>q ha (d_ext ha rfl rfl) fun a ha=>q ha (d_ext ha rfl rfl) fun a ha=>qa ha rfl fun a ha=>qa ha rfl fun a ha=>qa ha rfl fun a ha=>s_nil<|t_n<|wp_seq<|region_lit<|qm ha rfl fun a ha=>qm ha rfl fun a ha=>q ha (d_lt ha rfl rfl) fun a ha=>qa ha rfl fun a ha=>qa ha rfl fun a ha=>s_nil<|t_n<|wp_ret<|?_
   have hS:=ha
   cases h
   exact ret2 Try.results115 hS rfl rfl ⟨rfl,rfl⟩
 ·clear h
  have h:=e3
  refine region_lit<|qm ha rfl fun a ha=>q ha (d_eqN ha rfl rfl Try.runUnderlying167) fun a ha=>qm ha rfl fun a ha=>?_
  refine ite_s h (fun b5 h=>?_) (fun b5 h=>?_)
  ·refine qn ha 11 (tn b5) fun a ha=>qn ha 11 (tn b5) fun a ha=>q ha (d_pick_t ha rfl b5 rfl) fun a ha=>qm ha rfl fun a ha=>qn ha 15 (tn rfl) fun a ha=>qn ha 15 (tn rfl) fun a ha=>qn ha 15 (tn rfl) fun a ha=>qn ha 15 (tn rfl) fun a ha=>qn ha 15 (tn rfl) fun a ha=>qn ha 15 (tn rfl) fun a ha=>q ha (d_pick_t ha rfl rfl rfl) fun a ha=>s_nil<|?_
   have hS : Has 33 [(22,(.bool true)),(0,(.pointer a0)),(1,(.int .i64 a1))] _:=ha.sub ⟨rfl,rfl,rfl,trivial⟩
   cases h
   exact hk4 _ hS
  ·refine qg ha 11 (nt b5) (d_move ha rfl) fun a ha=>qg ha 11 (nt b5) (d_lt ha rfl rfl) fun a ha=>q ha (d_pick_f ha rfl b5 rfl) fun a ha=>qm ha rfl fun a ha=>?_
   refine ite_s h (fun b6 h=>?_) (fun b6 h=>?_)
   ·refine qn ha 15 (tn b6) fun a ha=>qn ha 15 (tn b6) fun a ha=>qn ha 15 (tn b6) fun a ha=>qn ha 15 (tn b6) fun a ha=>qn ha 15 (tn b6) fun a ha=>qn ha 15 (tn b6) fun a ha=>q ha (d_pick_t ha rfl b6 rfl) fun a ha=>s_nil<|?_
    have hS : Has 33 [(22,(.bool true)),(0,(.pointer a0)),(1,(.int .i64 a1))] _:=ha.sub ⟨rfl,rfl,rfl,trivial⟩
    cases h
    exact hk4 _ hS
   ·refine qg ha 15 (nt b6) (d_move ha rfl) fun a ha=>qg ha 15 (nt b6) (d_move ha rfl) fun a ha=>?_
    obtain ⟨p7,e8,h⟩:=bs1 h
    refine qg ha 15 (nt b6) (d_nilp ha rfl e8) fun a ha=>qg ha 15 (nt b6) (d_fa ha rfl Try.runUnderlying197 rfl rfl Try.sizeOf3 (by decide)) fun a ha=>?_
    obtain ⟨v9,e10,h⟩:=bs1 h
    refine qg ha 15 (nt b6) (d_ld ha rfl Try.isAgg3 (ldI_c e10)) fun a ha=>qg ha 15 (nt b6) (d_ge ha rfl rfl) fun a ha=>q ha (d_pick_f ha rfl b6 rfl) fun a ha=>s_nil<|?_
    have hS : Has 33 [(22,(.bool (decide (v9≤a1)))),(0,(.pointer a0)),(1,(.int .i64 a1))] _:=ha.sub ⟨rfl,rfl,rfl,trivial⟩
    cases h
    exact hk4 _ hS
end Go.Proofs.Ytejkaciimmfgcaa.D
