/- CoverInside -/
import Derived.Test.YtggheaclnklhaaaProg
import Derived.WalkKit
import Derived.Laws.OwnMore
import Derived.Laws.IdiomCopy
import Derived.Orders
import Derived.KernelRfl
import Derived.ChangeSlices
import Derived.Scope
import Derived.ChangeArms
import GoSem.ClaimJoined
namespace Go.Proofs.Ytggheaclnklhaaa.D
open Go
set_option linter.unusedVariables false
set_option linter.unusedSimpArgs false
set_option maxHeartbeats 1000000
set_option maxRecDepth 100000
noncomputable section
theorem aBP:True:=trivial
theorem aBN {α β:Type} (a:α) (f:α->Option β):(some a).bind f=f a:=rfl
theorem aBO (n:Nat):0+n=n:=Nat.zero_add n
abbrev yG:=@Try.runUnderlying40
abbrev yH:=@Try.sizeOf40
abbrev yI:=@Try.runUnderlying22
abbrev yJ:=@Try.runUnderlying38
abbrev yK:=@Try.runUnderlying43
abbrev yL:=@Try.runUnderlying57
abbrev yM:=@Try.runUnderlying83
abbrev yN:=@Try.sizeOf9
abbrev yO:=@Try.sizeOf43
abbrev yP:=@Try.isAgg9
abbrev yQ:=@Try.runUnderlying47
abbrev yR:=@Try.sizeOf31
abbrev yS:=@Try.isAgg31
abbrev yT:=@Try.isAgg3
abbrev yU:=@Try.sizeOf3
abbrev yV:=@Try.sizeOf38
abbrev yW:=@Try.sizeOf2
abbrev yX:=@Try.isAgg38
abbrev yY:=@Try.runUnderlying9
abbrev yZ:=@Try.zeroValue40
abbrev zA:=@Try.sizeOf4
abbrev zB:=@Try.isAgg43
abbrev zC:=@Try.isAgg40
abbrev zD:=@Try.runUnderlying55
abbrev zE:=@Try.sizeOf47
abbrev zF:=@Try.runUnderlying68
abbrev zG:=@Try.isAgg2
abbrev zH:=@Try.sizeOf52
abbrev zI:=@Try.sizeOf55
abbrev zJ:=@Try.sizeOf22
abbrev zK:=@Try.isAgg47
abbrev zL:=@Try.runUnderlying34
abbrev zM:=@Try.runUnderlying33
abbrev zN:=@Try.runUnderlying70
abbrev zO:=@Try.isAgg52
abbrev zP:=@Try.runUnderlying36
abbrev zQ:=@Try.isAgg22
abbrev zR:=@Try.sizeOf57
abbrev zS:=@Try.sizeOf70
abbrev zT:=@Try.isAgg4
abbrev zU:=@Try.zeroValue70
abbrev zV:=@Try.isAgg55
abbrev zW:=@Try.sizeOf33
abbrev zX:=@Try.sizeOf5
abbrev zY:=@Try.zeroValue22
abbrev zZ:=@Try.isAgg5
abbrev aAa:=@Try.zeroValue57
abbrev aAb:=@Try.zeroValue43
abbrev aAc:=@Try.zeroValue33
abbrev aAd:=@Try.isAgg57
abbrev aAe:=@Try.zeroValue83
abbrev aAf:=@Try.runUnderlying79
abbrev aAg:=@Try.isAgg34
abbrev aAh:=@Array.getD_eq_getD_getElem?
abbrev aAi:=@List.getElem?_eq_some_iff
abbrev aAj:=@List.all_eq_true
abbrev aAk:=@List.getElem?_eq_getElem
abbrev aAl:=@Bool.and_eq_true
abbrev aAm:=@Bool.false_ne_true
abbrev aAn:=@List.mem_of_getElem?
abbrev aAo:=@List.getElem?_append_left
abbrev aAp:=@Array.getElem?_setIfInBounds_ne
abbrev aAq:=@Option.map_some
abbrev aAr:=@List.mem_zipIdx_iff_getElem?
abbrev aAs:=@List.drop_zero
abbrev aAt:=@Bool.not_eq_true'
abbrev aAu:=@List.mem_range
abbrev aAv:=@List.eq_nil_of_length_eq_zero
abbrev aAw:=@List.mem_filter
abbrev aAx:=@Option.getD_some
abbrev aAy:=@List.contains_iff_mem
abbrev aAz:=@Array.getElem?_eq_getElem
abbrev aAA:=@Bool.or_eq_true
abbrev aAB:=@List.drop_of_length_le
abbrev aAC:=@List.exists_mem_of_ne_nil
abbrev aAD:=@List.drop_eq_getElem_cons
abbrev aAE:=@List.length_cons
abbrev aAF:=@Array.getElem?_replicate
abbrev aAG:=@List.getElem?_cons_succ
abbrev aAH:=@Nat.le_refl
abbrev aAI:=@List.getElem?_cons_zero
abbrev aAJ:=@Array.all_eq_true'
abbrev aAK:=@Array.getElem?_modify
abbrev aAL:=@List.getElem?_toArray
abbrev aAM:=@List.any_eq_true
abbrev aAN:=@Nat.add_zero
abbrev aAO:=@Nat.le_trans
abbrev aAP:=@Array.getElem?_eq_some_iff
abbrev aAQ:=@List.getElem?_append_right
abbrev aAR:=@Bool.not_eq_true
abbrev aAS:=@List.getElem?_eq_none_iff
abbrev aAT:=@List.lookup_cons
abbrev aAU:=@Array.all_toList
abbrev aAV:=@List.length_append
abbrev aAW:=@Nat.lt_of_lt_of_le
abbrev aAX:=@Array.toList_setIfInBounds
abbrev aAY:=@Array.getElem?_append_left
abbrev aAZ:=@List.filter_cons
abbrev aBa:=@List.filter_eq_self
abbrev aBb:=@Nat.succ_mul
abbrev aBc:=@List.length_erase_of_mem
abbrev aBd:=@Bool.true_and
abbrev aBe:=@List.findIdx?_cons
abbrev aBf:=@Bool.false_eq_true
abbrev aBg:=@List.take_succ_eq_append_getElem
abbrev aBh:=@List.take_of_length_le
abbrev aBi:=@List.filter_eq_nil_iff
abbrev aBj:=@Option.map_eq_some_iff
abbrev aBk:=@List.filter_congr
abbrev aBl:=@List.flatMap_cons
abbrev aBm:=@List.getElem?_map
abbrev aBn:=@List.getElem?_eq_none
abbrev aBo:=@Int.mul_le_mul_of_nonneg_right
abbrev aBp:=@List.getElem?_zipWith
abbrev aBq:=@Nat.mul_le_mul_right
abbrev aBr:=@List.set_append_left
abbrev aBs:=@List.mem_append
abbrev aBt:=@Array.getElem?_append_right
abbrev aBu:=@List.getD_eq_getElem?_getD
abbrev aBv:=@Option.any_eq_true
abbrev aBw:=@List.filter_filter
abbrev aBx:=@Array.ext_getElem?
abbrev aBy:=@Nat.eq_zero_or_pos
abbrev aBz:=@Int.neg_nonneg_of_nonpos
abbrev aBA:=@Array.setIfInBounds_comm
abbrev aBB:=@Bool.false_or
abbrev aBC:=@List.map_cons
abbrev aBD:=@List.mem_cons
abbrev aBE:=@List.all_cons
abbrev aBF:=@List.all_eq_not_any_not
abbrev aBG:=@IntKind.wrap_i64
abbrev aBH:=@Nat.lt_or_ge
abbrev aBI:=@Option.all_some
abbrev aBJ:=@Int.mul_nonneg
abbrev aBK:=@List.take_zero
abbrev aBL:=@Bool.or_false
abbrev aBM:=@Nat.add_assoc
structure Sl where
 p:Option Addr
 n:Nat
 c:Nat
def Sl.v (s:Sl):Value:=.slice s.p s.n s.c
def Sl.nil:Sl:=⟨none,0,0⟩
def aE {α β γ:Type} (o:Option (α×β)) (f:α->β->Option γ):Option γ:=match o with | some (a,b)=>f a b | none=>none
def tU {α β γ δ:Type} (o:Option (α×β×γ)) (f:α->β->γ->Option δ):Option δ:=match o with | some (a,b,c)=>f a b c | none=>none
def vF {α β γ δ ε:Type} (o:Option (α×β×γ×δ)) (f:α->β->γ->δ->Option ε):Option ε:=match o with | some (a,b,c,d)=>f a b c d | none=>none
def vE {α β γ δ ε ζ:Type} (o:Option (α×β×γ×δ×ε)) (f:α->β->γ->δ->ε->Option ζ):Option ζ:=match o with | some (a,b,c,d,e)=>f a b c d e | none=>none
def xW {α β γ δ ε ζ η:Type} (o:Option (α×β×γ×δ×ε×ζ)) (f:α->β->γ->δ->ε->ζ->Option η):Option η:=match o with | some (a,b,c,d,e,g)=>f a b c d e g | none=>none
def xJ {α β γ δ ε ζ η θ:Type} (o:Option (α×β×γ×δ×ε×ζ×η)) (f:α->β->γ->δ->ε->ζ->η->Option θ):Option θ:=match o with | some (a,b,c,d,e,g,i)=>f a b c d e g i | none=>none
def hJ {ρ α γ:Type} (o:Option (ρ⊕α)) (g:ρ->Option γ) (f:α->Option γ):Option γ:=match o with | some (.inl r)=>g r | some (.inr a)=>f a | none=>none
@[simp] theorem cZ {α β γ:Type} (a:α) (b:β) (f:α->β->Option γ):aE (some (a,b)) f=f a b:=rfl
@[simp] theorem wG {α β γ δ:Type} (a:α) (b:β) (c:γ) (f:α->β->γ->Option δ):tU (some (a,b,c)) f=f a b c:=rfl
@[simp] theorem wF {α β γ δ ε:Type} (a:α) (b:β) (c:γ) (d:δ) (f:α->β->γ->δ->Option ε):vF (some (a,b,c,d)) f=f a b c d:=rfl
@[simp] theorem vX {α β γ δ ε ζ:Type} (a:α) (b:β) (c:γ) (d:δ) (e:ε) (f:α->β->γ->δ->ε->Option ζ):vE (some (a,b,c,d,e)) f=f a b c d e:=rfl
@[simp] theorem wX {α β γ δ ε ζ η:Type} (a:α) (b:β) (c:γ) (d:δ) (e:ε) (g:ζ) (f:α->β->γ->δ->ε->ζ->Option η):xW (some (a,b,c,d,e,g)) f=f a b c d e g:=rfl
@[simp] theorem wT {α β γ δ ε ζ η θ:Type} (a:α) (b:β) (c:γ) (d:δ) (e:ε) (g:ζ) (i:η) (f:α->β->γ->δ->ε->ζ->η->Option θ):xJ (some (a,b,c,d,e,g,i)) f=f a b c d e g i:=rfl
@[simp] theorem xD {ρ α γ:Type} (r:ρ) (g:ρ->Option γ) (f:α->Option γ):hJ (some (.inl r)) g f=g r:=rfl
@[simp] theorem xC {ρ α γ:Type} (a:α) (g:ρ->Option γ) (f:α->Option γ):hJ (some (.inr a)) g f=f a:=rfl
theorem bs1 {α γ:Type} {o:Option α} {f:α->Option γ} {r:γ} (h:o.bind f=some r):∃ a,o=some a/\f a=some r:=by
 cases o with
 | none=>cases h
 | some a=>exact⟨a,rfl,h⟩
theorem bs2 {α β γ:Type} {o:Option (α×β)} {f:α->β->Option γ} {r:γ} (h:aE o f=some r):∃ a b,o=some (a,b)/\f a b=some r:=by
 cases o with
 | none=>cases h
 | some a=>exact⟨_,_,rfl,h⟩
theorem bsX {ρ α γ:Type} {o:Option (ρ⊕α)} {g:ρ->Option γ} {f:α->Option γ} {r:γ} (h:hJ o g f=some r):∃ x,o=some x/\hJ (some x) g f=some r:=by
 cases o with
 | none=>cases h
 | some x=>exact⟨x,rfl,h⟩
def chk {α:Type} (p:Prop) (o:Option α):Option α:=open Classical in if p then o else none
theorem uT {α:Type} {p:Prop} (h:p) (o:Option α):chk p o=o:=by unfold chk;rw[if_pos h]
theorem dO {α:Type} {p:Prop} {o:Option α} {r:α} (h:chk p o=some r):p/\o=some r:=by
 unfold chk at h;split at h
 .exact⟨‹_›,h⟩
 cases h
def lV {S R:Type} (step:S->Option (S⊕R)):Nat->S->Option R
 | 0,_=>none
 | k+1,s=>match step s with
  | some (.inl s')=>lV step k s'
  | some (.inr r)=>some r
  | none=>none
theorem oW {S R:Type} {step:S->Option (S⊕R)}:∀ (k:Nat) (s:S) (r:R),lV step k s=some r->lV step (k+1) s=some r
 | 0,_,_,h=>by cases h
 | k+1,s,r,h=>by
  unfold lV at h ⊢;split
  .rename_i s' e;simp only[e] at h;exact oW k s' r h
  .rename_i r' e;simp only[e] at h;exact h
  rename_i e;simp only[e] at h;cases h
theorem qV {S R:Type} {step:S->Option (S⊕R)} {k m:Nat} {s:S} {r:R} (h:lV step k s=some r) (hm:k<=m):lV step m s=some r:=by
 induction hm with
 | refl=>exact h
 | step _ ih=>exact oW _ _ _ ih
theorem sF {S R:Type} {step:S->Option (S⊕R)} {k m:Nat} {s:S} {r r':R} (h:lV step k s=some r) (h':lV step m s=some r'):r=r':=by
 have a:=qV h (Nat.le_max_left k m);have b:=qV h' (Nat.le_max_right k m);rw[a] at b;exact Option.some.inj b
open Classical in
def bB {S R:Type} (step:S->Option (S⊕R)) (s:S):Option R :=
 if h:∃ k r,lV step k s=some r then some (Classical.choose (Classical.choose_spec h)) else none
theorem iL {S R:Type} {step:S->Option (S⊕R)} {s:S} {r:R}:bB step s=some r↔∃ k,lV step k s=some r:=by
 unfold bB;constructor
 .intro h;split at h
  .rename_i hx;exact⟨_,(Classical.choose_spec (Classical.choose_spec hx)).trans h⟩
  cases h
 rintro⟨k,hk⟩;have hx:∃ k r,lV step k s=some r:=⟨k,r,hk⟩;rw[dif_pos hx];exact congrArg some (sF (Classical.choose_spec (Classical.choose_spec hx)) hk)
theorem eO {S R:Type} {step:S->Option (S⊕R)} {s s':S} (h:step s=some (.inl s')):bB step s=bB step s':=by
 cases e:bB step s' with
 | some r =>
  obtain⟨k,hk⟩:=iL.1 e;exact iL.2 ⟨k+1,by unfold lV;simp only[h];exact hk⟩
 | none =>
  cases e':bB step s with
  | none=>rfl
  | some r =>
   obtain⟨k,hk⟩:=iL.1 e'
   cases k with
   | zero=>cases hk
   | succ k =>
    unfold lV at hk;simp only[h] at hk;rw[iL.2 ⟨k,hk⟩] at e;cases e
theorem cF {S R:Type} {step:S->Option (S⊕R)} {s:S} {r:R} (h:step s=some (.inr r)):bB step s=some r :=
 iL.2 ⟨1,by unfold lV;simp only[h]⟩
def nO:Nat->List Value->List (Nat×Value)
 | _,[]=>[]
 | i,v::l=>(i,v)::nO (i+1) l
structure Has (n:Nat) (L:List (Nat×Value)) (a:Act):Prop where
 d:a.defers=[]
 z:a.tmps.size=n
 l:∀ i v,L.lookup i=some v->a.tmps[i]?=some v
def evO (L:List (Nat×Value)):Operand->Option Value
 | .tmp i=>L.lookup i
 | .const v=>some v
 | .global g=>some (.pointer (some ⟨g,0,none⟩))
 | .func f=>some (.func (.func f) #[] #[])
def upd (dst:Option Nat) (v:Value) (L:List (Nat×Value)):List (Nat×Value):=match dst with | some d=>(d,v)::L | none=>L
section
variable {P : Program} {n : Nat} {L : List (Nat × Value)} {a : Act}
theorem Has.ev (h:Has n L a) {x:Operand} {v:Value} (hx:evO L x=some v):a.eval x=v:=by
 cases x with
 | tmp i =>
  have:=h.l i v hx;simp[Act.eval,aAh,this]
 | const u=>simpa[evO,Act.eval] using hx
 | global g=>simpa[evO,Act.eval] using hx
 | func f=>simpa[evO,Act.eval] using hx
theorem Has.put (h:Has n L a) (dst:Option Nat) (hd:∀ d,dst=some d->d<n) (v:Value):Has n (upd dst v L) (a.put dst v):=by
 cases dst with
 | none=>exact h
 | some d =>
  refine⟨h.d,by simpa[Act.put] using h.z,fun i u hu=>?_⟩;simp only[Act.put,upd,aAT] at hu ⊢;have hdn:d<a.tmps.size:=h.z ▸ hd d rfl;by_cases e:i=d
  .subst e;simp at hu;subst hu;simp[hdn]
  have e1:(i==d)=false:=by simpa using e
  rw[e1] at hu;rw[aAp (Ne.symm e)];exact h.l i u hu
def qQ (L:List (Nat×Value)):List (Nat×Value)->Prop
 | []=>True
 | (i,v)::M=>L.lookup i=some v/\qQ L M
theorem Has.sub (h:Has n L a) {M:List (Nat×Value)} (hm:qQ L M):Has n M a:=by
 refine⟨h.d,h.z,fun i v hv=>h.l i v ?_⟩
 induction M with
 | nil=>cases hv
 | cons p M ih =>
  obtain⟨j,u⟩:=p;obtain⟨h1,h2⟩:=hm;rw[aAT] at hv;by_cases e:i=j
  .subst e;simp at hv;subst hv;exact h1
  have e1:(i==j)=false:=by simpa using e
  rw[e1] at hv;exact ih h2 hv
theorem rH {args:Array Value} (hs:args.size<=n):Has n (nO 0 args.toList) { tmps:=args++Array.replicate (n-args.size) undef,defers:=[] }:=by
 refine⟨rfl,by simp;omega,fun i v hv=>?_⟩;have key:∀ (l:List Value) (k i:Nat) (v:Value),(nO k l).lookup i=some v->k<=i/\l[i-k]?=some v:=by
  intro l
  induction l with
  | nil=>intro k i v h;cases h
  | cons x l ih =>
   intro k i v h;simp only[nO,aAT] at h;by_cases e:i=k
   .subst e;simp at h;subst h;simp
   have e1:(i==k)=false:=by simpa using e
   rw[e1] at h;obtain⟨h1,h2⟩:=ih _ _ _ h;refine⟨by omega,?_⟩;obtain⟨m,hm⟩:∃ m,i-k=m+1:=⟨i-k-1,by omega⟩;rw[hm,aAG];rwa[show i-(k+1)=m by omega] at h2
 obtain⟨_,h2⟩:=key _ _ _ _ hv;simp only[Nat.sub_zero] at h2;have hi:i<args.size:=by
  rcases aBH i args.size with h | h
  .exact h
  rw[aBn (by simpa using h)] at h2;cases h2
 simp only[Array.getElem?_append,hi,if_true];simpa using h2
theorem aG {f:FuncId} {fn:Func} {c:Code} {args:Array Value} {w:World} {R:Ending->World->Prop} {n:Nat}
  (hf:P.funcs[f]?=some fn) (hb:fn.body=some c) (hn:fn.ntmps=n) (hs:args.size<=n)
  (h:∀ a,Has n (nO 0 args.toList) a->c.wp P (bodyPost P fn R) a w):Calls P f args w R:=by
 refine calls_of_wp hf hb ?_;rw[hn];exact h _ (rH hs)
def dE (P:Program) (o:Oper) (a:Act) (w:World) (v:Value) (w':World):Prop :=
 ∀ (K:Act->World->Prop) (Q:Exit->Act->World->Prop),K (a.put o.dst v) w'->o.wp P a w K Q
theorem cB {o:Oper} {w w':World} {v:Value} (h:(execOp a.eval o).run P w = .ok (.value v) w'):dE P o a w v w':=fun K Q hk=>by
 unfold Oper.wp;rw[h];exact hk
theorem qR {o:Oper} {w w':World} (h:(execOp a.eval o).run P w = .ok .skip w'):dE P o a w undef w':=fun K Q hk=>by
 unfold Oper.wp;rw[h];exact hk
theorem sW {o:Oper} {w w1 w':World} {v:Value} {f:FuncId} {args:Array Value} (h:(execOp a.eval o).run P w = .ok (.enter f args) w1)
  (hc:Calls P f args w1 fun e w''=>e = .returned v/\w''=w'):dE P o a w v w':=fun K Q hk=>by
 unfold Oper.wp;rw[h];exact hc.mono fun e w'' ⟨he,hw⟩=>by subst he;subst hw;exact hk
section
variable {ops : Array Oper} {Q : Exit -> Act -> World -> Prop} {w : World} {rest : List Oper}
theorem aC (h:Q .normal a w):wpList P ops Q [] a w:=h
theorem wM {o:Oper} {v:Value} {w':World} (hg:o.guard=none) (ha:Has n L a) (hd:∀ d,o.dst=some d->d<n) (h:dE P o a w v w')
  (hr:∀ a',Has n (upd o.dst v L) a'->wpList P ops Q rest a' w'):wpList P ops Q (o::rest) a w:=by
 unfold wpList;rw[if_pos (by simp[Region.wanted,hg])];exact .inl (h _ _ (hr _ (ha.put _ hd v)))
theorem jU {j t:Nat} {b:Bool} (hj:(ops[j]?).bind (·.dst)=some t) (ha:Has n L a) (ht:L.lookup t=some (.bool b)):yielded ops a.tmps j=some b:=by
 unfold yielded;rw[hj];simp[ha.l t _ ht]
theorem wS {o:Oper} {v:Value} {w':World} {j t:Nat} {b:Bool} (hg:o.guard=some (j,b)) (hj:(ops[j]?).bind (·.dst)=some t) (ha:Has n L a) (ht:L.lookup t=some (.bool b))
  (hd:∀ d,o.dst=some d->d<n) (h:dE P o a w v w')
  (hr:∀ a',Has n (upd o.dst v L) a'->wpList P ops Q rest a' w'):wpList P ops Q (o::rest) a w:=by
 unfold wpList;rw[if_pos (by simp[Region.wanted,hg,jU hj ha ht])];exact .inl (h _ _ (hr _ (ha.put _ hd v)))
theorem wL {o:Oper} {j t:Nat} {b c:Bool} (hg:o.guard=some (j,c)) (hj:(ops[j]?).bind (·.dst)=some t) (ha:Has n L a) (ht:L.lookup t=some (.bool b)) (hbc:b≠c)
  (hd:∀ d,o.dst=some d->d<n)
  (hr:∀ a',Has n (upd o.dst undef L) a'->wpList P ops Q rest a' w):wpList P ops Q (o::rest) a w:=by
 unfold wpList;rw[if_neg (by simp[Region.wanted,hg,jU hj ha ht,hbc])];exact hr _ (ha.put _ hd _)
end
section
variable {Q : Exit -> Act -> World -> Prop} {w : World} {K : Act -> World -> Prop}
theorem t_n (h:K a w):Exit.then K Q .normal a w:=h
theorem t_x {i:Nat} (h:Q (.exit i) a w):Exit.then K Q (.exit i) a w:=h
theorem t_r (h:Q .ret a w):Exit.then K Q .ret a w:=h
theorem b_n {i:Nat} (h:Q .normal a w):Exit.inBlock i Q .normal a w:=h
theorem eC {i:Nat} (h:Q .normal a w):Exit.inBlock i Q (.exit i) a w:=by unfold Exit.inBlock;simpa using h
theorem b_r {i:Nat} (h:Q .ret a w):Exit.inBlock i Q .ret a w:=h
theorem aF {c:Operand} {x y:Code} {b:Bool} {γ:Type} {A B:Option γ} {r:γ} (ha:Has n L a) (hc:evO L c=some (.bool b)) (h:(if b=true then A else B)=some r)
  (ht:b=true->A=some r->x.wp P Q a w) (hf:b=false->B=some r->y.wp P Q a w):(Code.cond c x y).wp P Q a w:=by
 refine wp_cond_split (ha.ev hc) (fun e=>ht e ?_) (fun e=>hf e ?_)
 .rwa[if_pos e] at h
 rwa[if_neg (by simp[e])] at h
def LP {S R:Type} (I:S->Act->World->Prop) (Q:Exit->Act->World->Prop):(S⊕R)->Exit->Act->World->Prop
 | .inl s,.normal,a,w=>I s a w
 | .inl _,_,_,_=>False
 | .inr _,.normal,_,_=>False
 | .inr _,e,a,w=>Q e a w
theorem cP {S R:Type} {I:S->Act->World->Prop} {Q:Exit->Act->World->Prop} {s:S} (h:I s a w):LP (R:=R) I Q (.inl s) .normal a w:=h
theorem iE {S R:Type} {I:S->Act->World->Prop} {Q:Exit->Act->World->Prop} {r:R} {i:Nat} (h:Q (.exit i) a w):LP (S:=S) I Q (.inr r) (.exit i) a w:=h
theorem gB {S R:Type} {I:S->Act->World->Prop} {Q:Exit->Act->World->Prop} {r:R} (h:Q .ret a w):LP (S:=S) I Q (.inr r) .ret a w:=h
theorem sM {S R:Type} {step:S->Option (S⊕R)} {I:S->Act->World->Prop} {body:Code} {r0:R} {s0:S}
  (hI:I s0 a w) (h:bB step s0=some r0)
  (hb:∀ s a w o,I s a w->step s=some o->(∀ r,o = .inr r->r=r0)->body.wp P (LP I Q o) a w):(Code.loop body).wp P Q a w:=by
 obtain⟨k,hk⟩:=iL.1 h;refine wp_loop_rounds k ?_;clear h
 induction k generalizing s0 a w with
 | zero=>cases hk
 | succ k ih =>
  rw[rounds_succ];unfold lV at hk;split at hk
  .rename_i s' e;refine wp_mono (hb s0 a w _ hI e (fun r hr=>by cases hr)) fun x a' w' hx=>?_;cases x<;>first | exact ih hx hk | exact hx.elim
  .rename_i r' e;cases hk;refine wp_mono (hb s0 a w _ hI e (fun r hr=>by cases hr;rfl)) fun x a' w' hx=>?_;cases x<;>first | exact hx | exact hx.elim
  cases hk
end
end
def ldI (k:IntKind) (w:World) (a:Addr):Option Int:=match w.cell? a with | some (.int k' x)=>if k'=k then some x else none | _=>none
def ldB (w:World) (a:Addr):Option Bool:=match w.cell? a with | some (.bool b)=>some b | _=>none
def ldS (w:World) (a:Addr):Option ByteArray:=match w.cell? a with | some (.string s)=>some s | _=>none
def ldL (w:World) (a:Addr):Option Sl:=match w.cell? a with | some (.slice p n c)=>some ⟨p,n,c⟩ | _=>none
def ldA:Nat->World->Addr->Nat->Option (List Value)
 | 0,_,_,_=>some []
 | n+1,w,a,i=>(w.cell? (a.add i)).bind fun v=>(ldA n w a (i+1)).bind fun l=>some (v::l)
theorem aL {k:IntKind} {w:World} {a:Addr} {x:Int} (h:ldI k w a=some x):w.cell? a=some (.int k x):=by
 unfold ldI at h;split at h
 .rename_i k' y e;split at h
  .rename_i hk;subst hk;cases h;exact e
  cases h
 cases h
theorem iU {w:World} {a:Addr} {x:Bool} (h:ldB w a=some x):w.cell? a=some (.bool x):=by
 unfold ldB at h;split at h<;>cases h;assumption
theorem cG {w:World} {a:Addr} {x:ByteArray} (h:ldS w a=some x):w.cell? a=some (.string x):=by
 unfold ldS at h;split at h<;>cases h;assumption
theorem bG {w:World} {a:Addr} {x:Sl} (h:ldL w a=some x):w.cell? a=some (x.v):=by
 unfold ldL at h;split at h<;>cases h;assumption
theorem jI:∀ {n:Nat} {w:World} {a:Addr} {i:Nat} {l:List Value},ldA n w a i=some l->l.length=n/\∀ j v,l[j]?=some v->w.cell? (a.add (i+j))=some v
 | 0,_,_,_,_,h=>by cases h;simp
 | n+1,w,a,i,l,h=>by
  unfold ldA at h;obtain⟨v,e1,h⟩:=bs1 h;obtain⟨m,e2,h⟩:=bs1 h;cases h;obtain⟨h1,h2⟩:=jI e2;refine⟨by simp[h1],fun j u hu=>?_⟩
  cases j with
  | zero=>simp at hu;subst hu;exact e1
  | succ j =>
   have:=h2 j u (by simpa using hu);rwa[show i+(j+1)=i+1+j by omega]
def stV (w:World) (a:Addr) (v:Value):Option World:=if v.oneCell'=true/\(w.cell? a).isSome=true/\w.frozen? a=false then some (w.setCell a v) else none
def stA:World->Addr->Nat->List Value->Option World
 | w,_,_,[]=>some w
 | w,a,i,v::l=>(stV w (a.add i) v).bind fun w'=>stA w' a (i+1) l
def mk (w:World) (t:TypeId) (cs:List Value):Option (Addr×World):=some (⟨w.heap.size,0,none⟩,w.alloc (.cells cs.toArray t))
section
variable {P : Program} {n : Nat} {L : List (Nat × Value)} {a : Act} {w w' : World}
theorem qU {ad:Addr} {v:Value} (h:stV w ad v=some w'):v.oneCell'=true/\(store ad v).run P w = .ok () w':=by
 unfold stV at h;split at h
 .rename_i hc;obtain⟨h1,h2,h3⟩:=hc;cases h;refine⟨h1,?_⟩;rw[run_store _ _ _ _ _ h1];obtain⟨u,hu⟩:=Option.isSome_iff_exists.1 h2;simp[hu,h3]
 cases h
theorem rB:∀ {l:List Value} {ad:Addr} {i:Nat} {w w':World},stA w ad i l=some w'->(storeCells ad l i).run P w = .ok () w'
 | [],_,_,_,_,h=>by cases h;rfl
 | v::l,ad,i,w,w',h=>by
  unfold stA at h;obtain⟨w1,e1,h⟩:=bs1 h;have:=(qU (P:=P) e1).2;simp only[storeCells,Sem.run_bind,this,Result.andThen_ok,rB h]
theorem rF {v:Value} (h:v.oneCell'=true):v.cells=#[v]:=by
 cases v<;>simp_all [Value.oneCell',Value.cells]
theorem aD {d ty pos af g x v} (ha:Has n L a) (hx:evO L x=some v):dE P ⟨d,.move x,ty,pos,af,g⟩ a w v w :=
 cB (by simp[execOp,ha.ev hx])
theorem dZ {d ty pos af g x v} (ha:Has n L a) (hx:evO L x=some v):dE P ⟨d,.assign x,ty,pos,af,g⟩ a w v w :=
 cB (by simp[execOp,ha.ev hx])
theorem aK {d ty pos af g c x y u} {b:Bool} (ha:Has n L a) (hc:evO L c=some (.bool b)) (hb:b=true) (hx:evO L x=some u) :
  dE P ⟨d,.pick c x y,ty,pos,af,g⟩ a w u w:=by
 subst hb;exact cB (by simp[execOp,ha.ev hc,ha.ev hx,asBool])
theorem aJ {d ty pos af g c x y v} {b:Bool} (ha:Has n L a) (hc:evO L c=some (.bool b)) (hb:b≠true) (hy:evO L y=some v) :
  dE P ⟨d,.pick c x y,ty,pos,af,g⟩ a w v w:=by
 have:b=false:=by simpa using hb
 subst this;exact cB (by simp[execOp,ha.ev hc,ha.ev hy,asBool])
theorem aH {d ty pos af g t x} {ad:Addr} {v:Value} (ha:Has n L a) (hx:evO L x=some (.pointer (some ad))) (ht:∀ w,(isAgg t).run P w = .ok false w) (h:w.cell? ad=some v) :
  dE P ⟨d,.load t x,ty,pos,af,g⟩ a w v w :=
 cB (by simp[execOp,ha.ev hx,Instr.loadAt,Instr.sureAddr,loadVar,ht,run_load,h])
theorem bE {d ty pos af g t x sz} {ad:Addr} {cs:List Value} (ha:Has n L a) (hx:evO L x=some (.pointer (some ad))) (ht:∀ w,(isAgg t).run P w = .ok true w) (hz:∀ w,(sizeOf t).run P w = .ok sz w)
  (h:ldA sz w ad 0=some cs):dE P ⟨d,.load t x,ty,pos,af,g⟩ a w (.agg cs.toArray) w:=by
 obtain⟨h1,h2⟩:=jI h;have hl:=run_loadCells_list (P:=P) w ad cs (fun j v hv=>by simpa using h2 j v hv);rw[h1] at hl;exact cB (by simp[execOp,ha.ev hx,Instr.loadAt,Instr.sureAddr,loadVar,ht,hz,hl])
theorem iI {d ty pos af g t x y} {ad:Addr} {v:Value} (ha:Has n L a) (hx:evO L x=some (.pointer (some ad))) (hy:evO L y=some v) (hz:∀ w,(sizeOf t).run P w = .ok 1 w) (h:stV w ad v=some w') :
  dE P ⟨d,.store t x y,ty,pos,af,g⟩ a w undef w':=by
 obtain⟨h1,h2⟩:=qU (P:=P) h;refine qR ?_;have hadd:ad.add 0=ad:=by simp[Addr.add]
 simp[execOp,ha.ev hx,ha.ev hy,Instr.storeAt,Instr.sureAddr,storeVar,rF h1,hz,storeCells,hadd,h2]
theorem eU {d ty pos af g t x y sz} {ad:Addr} {cs:List Value} (ha:Has n L a) (hx:evO L x=some (.pointer (some ad))) (hy:evO L y=some (.agg cs.toArray)) (hz:∀ w,(sizeOf t).run P w = .ok sz w) (hl:cs.length=sz)
  (h:stA w ad 0 cs=some w'):dE P ⟨d,.store t x y,ty,pos,af,g⟩ a w undef w':=by
 refine qR ?_;simp[execOp,ha.ev hx,ha.ev hy,Instr.storeAt,Instr.sureAddr,storeVar,Value.cells,hz,hl,rB (P:=P) h]
theorem dG {d ty pos af g t} {z:Value} {cs:List Value} {ad:Addr} (hz:∀ w,(zeroValue t).run P w = .ok z w) (hc:z.cells=cs.toArray) (h:mk w t cs=some (ad,w')) :
  dE P ⟨d,.alloc t,ty,pos,af,g⟩ a w (.pointer (some ad)) w':=by
 cases h;exact cB (by simp[execOp,Instr.alloc,hz,newVar,newRow,hc])
theorem dJ {d ty pos af g t x} {v:Value} {cs:List Value} {ad:Addr} (ha:Has n L a) (hx:evO L x=some v) (hc:v.cells=cs.toArray) (h:mk w t cs=some (ad,w')) :
  dE P ⟨d,.box t x,ty,pos,af,g⟩ a w (.pointer (some ad)) w':=by
 cases h;exact cB (by simp[execOp,ha.ev hx,Instr.box,newVar,newRow,hc])
theorem tA {d ty pos af g x} {ad:Addr} (ha:Has n L a) (hx:evO L x=some (.pointer (some ad))):dE P ⟨d,.nilCheck x,ty,pos,af,g⟩ a w (.pointer (some ad)) w :=
 cB (by simp[execOp,ha.ev hx])
theorem bT {d ty pos af g x} {p:Option Addr} {ad:Addr} (ha:Has n L a) (hx:evO L x=some (.pointer p)) (hp:p=some ad):dE P ⟨d,.nilCheck x,ty,pos,af,g⟩ a w (.pointer (some ad)) w:=by
 subst hp;exact tA ha hx
theorem aI {d ty pos af g t x k} {ad:Addr} {fs:Array Field} {f:Field} {off sz:Nat} (ha:Has n L a) (hx:evO L x=some (.pointer (some ad))) (ht:∀ w,(underlying t).run P w = .ok (.struct fs) w)
  (hf:fs[k]?=some f) (ho:f.offset=off) (hz:∀ w,(sizeOf f.type).run P w = .ok sz w) (h0:sz≠0:=by decide):dE P ⟨d,.fieldAddr t x k,ty,pos,af,g⟩ a w (.pointer (some (ad.add off))) w:=by
 subst ho;exact cB (by simp[execOp,ha.ev hx,Instr.fieldAt,ht,hf,Instr.sureAddr,fieldPlace,hz,h0])
def ix (s:Sl) (i:Int) (sz:Nat):Option Addr:=s.p.bind fun ad=>if 0<=i/\i<s.n then some (ad.add (i.toNat*sz)) else none
theorem dL {d ty pos af g t x y k e sz} {s:Sl} {i:Int} {ad:Addr} (ha:Has n L a) (hx:evO L x=some s.v) (hy:evO L y=some (.int k i)) (ht:∀ w,(underlying t).run P w = .ok (.slice e) w)
  (hz:∀ w,(sizeOf e).run P w = .ok sz w) (h:ix s i sz=some ad):dE P ⟨d,.indexAddr t x y,ty,pos,af,g⟩ a w (.pointer (some ad)) w:=by
 obtain⟨b,hb,h⟩:=bs1 h;split at h
 .rename_i hi;cases h;obtain⟨p,n',c⟩:=s;simp only at hb hi;subst hb;exact cB (by simp[execOp,ha.ev hx,ha.ev hy,Sl.v,Instr.indexAt,asIntOf,ht,hi,hz])
 cases h
def ixS (s:ByteArray) (i:Int):Option Int:=if 0<=i then (s[i.toNat]?).map fun b=>(b.toNat:Int) else none
theorem nM {d ty pos af g t x y k} {s:ByteArray} {i v:Int} (ha:Has n L a) (hx:evO L x=some (.string s)) (hy:evO L y=some (.int k i)) (ht:∀ w,(underlying t).run P w = .ok .string w) (h:ixS s i=some v) :
  dE P ⟨d,.index t x y,ty,pos,af,g⟩ a w (.int .u8 v) w:=by
 unfold ixS at h;split at h
 .rename_i hi
  cases e:s[i.toNat]? with
  | none=>rw[e] at h;cases h
  | some b =>
   rw[e] at h;cases h;exact cB (by simp[execOp,ha.ev hx,ha.ev hy,Instr.index,asIntOf,ht,hi,e])
 cases h
def mkS (P:Program) (t:TypeId) (x y:Int) (w:World):Option (Sl×World):=match (Instr.makeSlice t (.int .i64 x) (.int .i64 y)).run P w with | .ok (.slice p n c) w'=>some (⟨p,n,c⟩,w') | _=>none
theorem xK {d ty pos af g t x y} {i j:Int} {s:Sl} (ha:Has n L a) (hx:evO L x=some (.int .i64 i)) (hy:evO L y=some (.int .i64 j)) (h:mkS P t i j w=some (s,w')) :
  dE P ⟨d,.makeSlice t x y,ty,pos,af,g⟩ a w s.v w':=by
 unfold mkS at h;split at h
 .rename_i p m c w1 e;cases h;exact cB (by simp[execOp,ha.ev hx,ha.ev hy,e,Sl.v])
 cases h
def apS (P:Program) (t:TypeId) (x y:Sl) (w:World):Option (Sl×World):=match (Builtin.append_ #[t,t] t #[x.v,y.v]).run P w with | .ok (.slice p n c) w'=>some (⟨p,n,c⟩,w') | _=>none
theorem lG {d ty pos af g t x y} {p q s:Sl} (ha:Has n L a) (hx:evO L x=some p.v) (hy:evO L y=some q.v) (h:apS P t p q w=some (s,w')) :
  dE P ⟨d,.call { callee:=.builtin .append,args:=#[x,y],argTypes:=#[t,t] },ty,pos,af,g⟩ a w s.v w':=by
 unfold apS at h;split at h
 .rename_i r m c w1 e;cases h;have e':(Builtin.append_ #[t,t] ty #[p.v,q.v]).run P w = .ok (.slice r m c) w':=e;exact cB (by simp[execOp,resolve,invoke,builtin,ha.ev hx,ha.ev hy,e'];rfl)
 cases h
theorem wH {d ty pos af g t u x k k'} {i:Int} {dt:TypeDesc} (ha:Has n L a) (hx:evO L x=some (.int k i)) (ht:∀ w,(underlying t).run P w = .ok dt w) (hu:∀ w,(underlying u).run P w = .ok (.int k') w) :
  dE P ⟨d,.convert t u x,ty,pos,af,g⟩ a w (.int k' (k'.wrap i)) w:=by
 refine cB ?_;simp only[execOp,ha.ev hx,convert,Sem.run_bind,ht,hu,Result.andThen_ok,Conv.intToInt,Sem.run_pure]
theorem bZ {d ty pos af g t x e} {s:Sl} (ha:Has n L a) (hx:evO L x=some s.v) (ht:∀ w,(underlying t).run P w = .ok (.slice e) w) :
  dE P ⟨d,.call { callee:=.builtin .len,args:=#[x],argTypes:=#[t] },ty,pos,af,g⟩ a w (.int .i64 s.n) w :=
 cB (by simp[execOp,resolve,invoke,builtin,ha.ev hx,Builtin.len_,ht,Sl.v,goInt])
theorem lY {d ty pos af g t x} {s:ByteArray} (ha:Has n L a) (hx:evO L x=some (.string s)) (ht:∀ w,(underlying t).run P w = .ok .string w) :
  dE P ⟨d,.call { callee:=.builtin .len,args:=#[x],argTypes:=#[t] },ty,pos,af,g⟩ a w (.int .i64 s.size) w :=
 cB (by simp[execOp,resolve,invoke,builtin,ha.ev hx,Builtin.len_,ht,goInt])
def pP (k:IntKind) (x y:Int):Int:=k.wrap (BitVec.ofInt k.bits x &&& BitVec.ofInt k.bits y).toNat
def qA (k:IntKind) (x y:Int):Int:=k.wrap (BitVec.ofInt k.bits x &&& ~~~BitVec.ofInt k.bits y).toNat
def dvI (k:IntKind) (x y:Int):Option Int:=if y=0 then none else some (k.wrap (x.tdiv y))
def rmI (x y:Int):Option Int:=if y=0 then none else some (x.tmod y)
section
variable {d : Option Nat} {ty t t2 : TypeId} {pos : String} {af : Array Edge} {g : Option (Nat × Bool)} {x y : Operand} {k k2 : IntKind} {i j r : Int}
theorem dP (ha:Has n L a) (hx:evO L x=some (.int k i)) (hy:evO L y=some (.int k j)):dE P ⟨d,.binOp .add t x y t2,ty,pos,af,g⟩ a w (.int k (k.wrap (i+j))) w :=
 cB (by simp[execOp,ha.ev hx,ha.ev hy,eqGuard,binOp,Op.intArith])
theorem jM (ha:Has n L a) (hx:evO L x=some (.int k i)) (hy:evO L y=some (.int k j)):dE P ⟨d,.binOp .sub t x y t2,ty,pos,af,g⟩ a w (.int k (k.wrap (i-j))) w :=
 cB (by simp[execOp,ha.ev hx,ha.ev hy,eqGuard,binOp,Op.intArith])
theorem lC (ha:Has n L a) (hx:evO L x=some (.int k i)) (hy:evO L y=some (.int k j)):dE P ⟨d,.binOp .mul t x y t2,ty,pos,af,g⟩ a w (.int k (k.wrap (i*j))) w :=
 cB (by simp[execOp,ha.ev hx,ha.ev hy,eqGuard,binOp,Op.intArith])
theorem vU (ha:Has n L a) (hx:evO L x=some (.int k i)) (hy:evO L y=some (.int k j)):dE P ⟨d,.binOp .and t x y t2,ty,pos,af,g⟩ a w (.int k (pP k i j)) w :=
 cB (by simp[execOp,ha.ev hx,ha.ev hy,eqGuard,binOp,Op.intBits,pP])
theorem tV (ha:Has n L a) (hx:evO L x=some (.int k i)) (hy:evO L y=some (.int k j)):dE P ⟨d,.binOp .andNot t x y t2,ty,pos,af,g⟩ a w (.int k (qA k i j)) w :=
 cB (by simp[execOp,ha.ev hx,ha.ev hy,eqGuard,binOp,Op.intBits,qA])
theorem qZ (ha:Has n L a) (hx:evO L x=some (.int k i)) (hy:evO L y=some (.int k j)) (h:dvI k i j=some r):dE P ⟨d,.binOp .quo t x y t2,ty,pos,af,g⟩ a w (.int k r) w:=by
 unfold dvI at h;split at h
 .cases h
 cases h;exact cB (by simp[execOp,ha.ev hx,ha.ev hy,eqGuard,binOp,Op.intDiv, *])
theorem nY (ha:Has n L a) (hx:evO L x=some (.int k i)) (hy:evO L y=some (.int k j)) (h:rmI i j=some r):dE P ⟨d,.binOp .rem t x y t2,ty,pos,af,g⟩ a w (.int k r) w:=by
 unfold rmI at h;split at h
 .cases h
 cases h;exact cB (by simp[execOp,ha.ev hx,ha.ev hy,eqGuard,binOp,Op.intDiv, *])
theorem cA (ha:Has n L a) (hx:evO L x=some (.int k i)) (hy:evO L y=some (.int k j)):dE P ⟨d,.binOp .eql t x y t2,ty,pos,af,g⟩ a w (.bool (i==j)) w :=
 cB (by simp[execOp,ha.ev hx,ha.ev hy,eqGuard,binOp,Op.intCmp])
theorem kE (ha:Has n L a) (hx:evO L x=some (.int k i)) (hy:evO L y=some (.int k j)):dE P ⟨d,.binOp .neq t x y t2,ty,pos,af,g⟩ a w (.bool (i !=j)) w :=
 cB (by simp[execOp,ha.ev hx,ha.ev hy,eqGuard,binOp,Op.intCmp])
theorem eX (ha:Has n L a) (hx:evO L x=some (.int k i)) (hy:evO L y=some (.int k j)):dE P ⟨d,.binOp .lss t x y t2,ty,pos,af,g⟩ a w (.bool (decide (i<j))) w :=
 cB (by simp[execOp,ha.ev hx,ha.ev hy,eqGuard,binOp,Op.intCmp])
theorem mE (ha:Has n L a) (hx:evO L x=some (.int k i)) (hy:evO L y=some (.int k j)):dE P ⟨d,.binOp .leq t x y t2,ty,pos,af,g⟩ a w (.bool (decide (i<=j))) w :=
 cB (by simp[execOp,ha.ev hx,ha.ev hy,eqGuard,binOp,Op.intCmp])
theorem iM (ha:Has n L a) (hx:evO L x=some (.int k i)) (hy:evO L y=some (.int k j)):dE P ⟨d,.binOp .gtr t x y t2,ty,pos,af,g⟩ a w (.bool (decide (j<i))) w :=
 cB (by simp[execOp,ha.ev hx,ha.ev hy,eqGuard,binOp,Op.intCmp])
theorem lU (ha:Has n L a) (hx:evO L x=some (.int k i)) (hy:evO L y=some (.int k j)):dE P ⟨d,.binOp .geq t x y t2,ty,pos,af,g⟩ a w (.bool (decide (j<=i))) w :=
 cB (by simp[execOp,ha.ev hx,ha.ev hy,eqGuard,binOp,Op.intCmp])
theorem uJ {m:Nat} {s:Sl} {e:TypeId} (ht:∀ w,(underlying t).run P w = .ok (.slice e) w):(Op.equalIn (m+1) t s.v (.slice none 0 0)).run P w = .ok s.p.isNone w:=by
 obtain⟨p,q,c⟩:=s;cases p<;>simp[Op.equalIn,ht,Sl.v]
theorem rJ {m:Nat} {b c:Bool} (ht:∀ w,(underlying t).run P w = .ok .bool w):(Op.equalIn (m+1) t (.bool b) (.bool c)).run P w = .ok (b==c) w:=by
 simp[Op.equalIn,ht]
theorem xG {s:Sl} {e:TypeId} (ht:∀ w,(underlying t).run P w = .ok (.slice e) w):(Op.equal t s.v (.slice none 0 0)).run P w = .ok s.p.isNone w:=uJ (m:=9999) ht
theorem vC {b c:Bool} (ht:∀ w,(underlying t).run P w = .ok .bool w):(Op.equal t (.bool b) (.bool c)).run P w = .ok (b==c) w:=rJ (m:=9999) ht
theorem vH {b c:Bool} (ha:Has n L a) (hx:evO L x=some (.bool b)) (hy:evO L y=some (.bool c)) (ht:∀ w,(underlying t).run P w = .ok .bool w):dE P ⟨d,.binOp .eql t x y t2,ty,pos,af,g⟩ a w (.bool (b==c)) w:=by
 refine cB ?_;simp only[execOp,ha.ev hx,ha.ev hy,eqGuard,binOp,Sem.run_bind,vC ht];rfl
theorem vP {s:Sl} {e:TypeId} (ha:Has n L a) (hx:evO L x=some s.v) (hy:evO L y=some (.slice none 0 0)) (ht:∀ w,(underlying t).run P w = .ok (.slice e) w):dE P ⟨d,.binOp .eql t x y t2,ty,pos,af,g⟩ a w (.bool s.p.isNone) w:=by
 refine cB ?_;have h:=xG (P:=P) (w:=w) (s:=s) ht;simp only[Sl.v] at h;simp only[execOp,ha.ev hx,ha.ev hy,Sl.v,eqGuard,binOp];simp[h]
def sEq (s u:ByteArray):Bool:=s.toList==u.toList
def sLt (s u:ByteArray):Bool:=Op.bytesLess s.toList u.toList
theorem tM {s u:ByteArray} (ha:Has n L a) (hx:evO L x=some (.string s)) (hy:evO L y=some (.string u)):dE P ⟨d,.binOp .eql t x y t2,ty,pos,af,g⟩ a w (.bool (sEq s u)) w :=
 cB (by simp[execOp,ha.ev hx,ha.ev hy,eqGuard,binOp,Op.stringOp,sEq])
theorem oC {s u:ByteArray} (ha:Has n L a) (hx:evO L x=some (.string s)) (hy:evO L y=some (.string u)):dE P ⟨d,.binOp .leq t x y t2,ty,pos,af,g⟩ a w (.bool (sLt s u||sEq s u)) w :=
 cB (by simp[execOp,ha.ev hx,ha.ev hy,eqGuard,binOp,Op.stringOp,sLt,sEq])
theorem vL {s u:ByteArray} (ha:Has n L a) (hx:evO L x=some (.string s)) (hy:evO L y=some (.string u)):dE P ⟨d,.binOp .geq t x y t2,ty,pos,af,g⟩ a w (.bool (!sLt s u)) w :=
 cB (by simp[execOp,ha.ev hx,ha.ev hy,eqGuard,binOp,Op.stringOp,sLt])
def uQ (s u:ByteArray):Option ByteArray:=if ((s.size+u.size:Nat):Int)>IntKind.i64.max then none else some (s++u)
theorem sR {s u v:ByteArray} (ha:Has n L a) (hx:evO L x=some (.string s)) (hy:evO L y=some (.string u)) (h:uQ s u=some v):dE P ⟨d,.binOp .add t x y t2,ty,pos,af,g⟩ a w (.string v) w:=by
 unfold uQ at h;split at h
 .cases h
 rename_i hn;cases h;refine cB ?_;simp only[execOp,ha.ev hx,ha.ev hy,eqGuard,binOp,Op.stringOp,Sem.run_bind];rw[if_neg hn];simp
theorem eP {b:Bool} (ha:Has n L a) (hx:evO L x=some (.bool b)):dE P ⟨d,.unOp .not t x,ty,pos,af,g⟩ a w (.bool (!b)) w :=
 cB (by simp[execOp,ha.ev hx,Op.unary])
theorem kP {vs:Array Value} {v:Value} {q:Nat} (ha:Has n L a) (hx:evO L x=some (.tuple vs)) (hv:vs[q]?=some v):dE P ⟨d,.extract x q,ty,pos,af,g⟩ a w v w :=
 cB (by simp[execOp,ha.ev hx,Instr.extract,hv])
end
def evs (L:List (Nat×Value)):List Operand->List Value->Prop
 | [],[]=>True
 | x::xs,v::vs=>evO L x=some v/\evs L xs vs
 | _,_=>False
theorem lK (ha:Has n L a):∀ {xs:List Operand} {vs:List Value},evs L xs vs->xs.map a.eval=vs
 | [],[],_=>rfl
 | x::xs,v::vs,h=>by simp[ha.ev h.1,lK ha h.2]
theorem fP {d ty pos af g f} {xs:List Operand} {ts:Array TypeId} {vs:List Value} {v:Value} (ha:Has n L a) (hx:evs L xs vs) (hf:∀ (args:Array Value) (w:World),(callFunc f args).run P w = .ok (.enter f args) w)
  (h:Calls P f vs.toArray w fun e w''=>e = .returned v/\w''=w'):dE P ⟨d,.call { callee:=.value (.func f),args:=xs.toArray,argTypes:=ts },ty,pos,af,g⟩ a w v w':=by
 refine sW (w1:=w) (f:=f) (args:=vs.toArray) ?_ h;simp[execOp,resolve,Deferred.ofValue,invoke,Act.eval,hf];have:=lK ha hx;exact this
section
variable {fn : Func} {R : Ending -> World -> Prop} {e : Exit}
theorem pQ (hr:fn.results=#[]) (ha:Has n L a) (hR:R (.returned (.tuple #[])) w):bodyPost P fn R .ret a w :=
 ⟨ha.d,_,by simp[results,hr],hR⟩
theorem nP (hr:fn.results=#[]) (ha:Has n L a) (hR:R (.returned (.tuple #[])) w):bodyPost P fn R .normal a w :=
 ⟨ha.d,_,by simp[results,hr],hR⟩
theorem aX {t:Nat} {v:Value} (hr:fn.results=#[.tmp t]) (ha:Has n L a) (hv:L.lookup t=some v) (hR:R (.returned v) w):bodyPost P fn R .ret a w :=
 ⟨ha.d,_,by simp[results,hr,ha.l t v hv],hR⟩
theorem nD {t u:Nat} {v v2:Value} (hr:fn.results=#[.tmp t,.tmp u]) (ha:Has n L a) (hv:L.lookup t=some v) (hv2:L.lookup u=some v2) (hR:R (.returned (.tuple #[v,v2])) w):bodyPost P fn R .ret a w :=
 ⟨ha.d,_,by simp[results,hr,ha.l t v hv,ha.l u v2 hv2],hR⟩
end
end
section
variable {P : Program} {n : Nat} {L : List (Nat × Value)} {a : Act} {w w' : World}
def evp (L:List (Nat×Value)):List (Nat×Operand)->List (Nat×Value)->Prop
 | [],[]=>True
 | (i,x)::xs,(j,v)::vs=>i=j/\evO L x=some v/\evp L xs vs
 | _,_=>False
theorem pB (ha:Has n L a):∀ {xs:List (Nat×Operand)} {vs:List (Nat×Value)},evp L xs vs->(xs.map fun (i,x)=>(i,a.eval x))=vs
 | [],[],_=>rfl
 | (i,x)::xs,(j,v)::vs,h=>by
  obtain⟨rfl,h1,h2⟩:=h;simp[ha.ev h1,pB ha h2]
theorem gT {d ty pos af g t} {xs:List (Nat×Operand)} {vs:List (Nat×Value)} {z:Value} {fs:Array Field} {pl:Array (Nat×Nat)} {cs:List Value} (ha:Has n L a) (hx:evp L xs vs) (hz:∀ w,(zeroValue t).run P w = .ok z w) (ht:∀ w,(underlying t).run P w = .ok (.struct fs) w)
  (hp:∀ w,((fs.mapM fun f=>do pure (f.offset,<-sizeOf f.type)):Sem (Array (Nat×Nat))).run P w = .ok pl w) (hf:Instr.fill (pl[·]?) z.cells vs=some cs.toArray) :
  dE P ⟨d,.build t xs.toArray,ty,pos,af,g⟩ a w (.agg cs.toArray) w:=by
 refine cB ?_;have e:(xs.toArray.map fun (i,x)=>(i,a.eval x))=vs.toArray:=by rw[<-pB ha hx];simp
 simp only[execOp,e,Instr.build,Sem.run_bind,hz,Result.andThen_ok,ht,hp,hf,Sem.run_pure]
def bsl (w:World) (e:TypeId) (sz:Nat) (ps:List (List Value)):Option (Sl×World) :=
 if (ps.all fun p=>p.length==sz)=true then some (⟨some ⟨w.heap.size,0,none⟩,ps.length,ps.length⟩,w.alloc (.cells ps.flatten.toArray e)) else none
def qL:Nat->List (List Value)->List (Nat×Value)->Prop
 | _,[],[]=>True
 | i,p::ps,(j,v)::vs=>i=j/\v.cells=p.toArray/\qL (i+1) ps vs
 | _,_,_=>False
theorem rU (p:List Value):∀ (k:Nat) (c:Array Value) (off:Nat),off+k+p.length<=c.size ->
  ((p.zipIdx k).foldl (fun cs (x,j)=>cs.setIfInBounds (off+j) x) c).toList=c.toList.take (off+k)++p++c.toList.drop (off+k+p.length):=by
 induction p with
 | nil=>intro k c off h;simp
 | cons x p ih =>
  intro k c off h;simp only[aAE] at h;simp only[List.zipIdx_cons,List.foldl_cons];rw[ih (k+1) _ off (by simp;omega)];simp only[aAX,aAE];have h1:off+k<c.toList.length:=by simp;omega
  rw[show off+(k+1)=off+k+1 by omega,aBg (by simpa using h1),List.take_set_of_le (by omega)];rw[List.drop_set_of_lt (by omega)];simp[List.getElem_set];omega
theorem nV (sz:Nat):∀ (ps:List (List Value)) (vs:List (Nat×Value)) (i:Nat) (c:Array Value),qL i ps vs->(∀ p∈ps,p.length=sz)->c.size=(i+ps.length)*sz ->
  ∃ c',Instr.fill (fun i=>some (i*sz,sz)) c vs=some c'/\c'.toList=c.toList.take (i*sz)++ps.flatten
 | [],[],i,c,_,_,hc=>⟨c,rfl,by simp at hc;simp[aBh (show c.toList.length<=i*sz by simp;omega)]⟩
 | p::ps,(j,v)::vs,i,c,h,hl,hc=>by
  obtain⟨rfl,h1,h2⟩:=h;have hp:=hl p (by simp);have hs:i*sz+sz<=c.size:=by
   rw[hc,<-aBb];exact aBq _ (by simp)
  have hvs:v.cells.size=sz:=by rw[h1];simpa using hp
  simp only[Instr.fill];rw[if_neg (by rw[hvs];simp only[ne_eq,not_true_eq_false,decide_false,aBB,decide_eq_true_eq,Nat.not_lt,gt_iff_lt];first | omega | (simp;omega))];have hfold:=rU p 0 c (i*sz) (by omega);have e:v.cells.zipIdx.foldl (fun cs (x,j)=>cs.setIfInBounds (i*sz+j) x) c=(p.zipIdx 0).foldl (fun cs (x,j)=>cs.setIfInBounds (i*sz+j) x) c:=by
   rw[h1];simp
  rw[e];obtain⟨c',h3,h4⟩:=nV sz ps vs (i+1) _ h2 (fun q hq=>hl q (by simp[hq])) (by
   rw[<-Array.length_toList,hfold];simp only[aAV,List.length_take,List.length_drop,Array.length_toList,hp,aAN];have h5:c.size=(i+1+ps.length)*sz:=by rw[hc,aAE];congr 1;omega
   omega)
  refine⟨c',h3,?_⟩;rw[h4,hfold,aBb];simp only[aAN,hp,List.flatten_cons];rw[List.take_append_of_le_length (by simp;omega),aBh (by simp;omega)];simp
 | [],_::_,_,_,h,_,_=>h.elim
 | _::_,[],_,_,h,_,_=>h.elim
theorem iJ {d ty pos af g t e sz len} {xs:List (Nat×Operand)} {vs:List (Nat×Value)} {ps:List (List Value)} {s:Sl} {z:Value} (ha:Has n L a) (hx:evp L xs vs) (hp:qL 0 ps vs) (hl:len=ps.length) (ht:∀ w,(underlying t).run P w = .ok (.slice e) w)
  (hz:∀ w,(sizeOf e).run P w = .ok sz w) (hzv:∀ w,(zeroValue e).run P w = .ok z w) (hsm:len*sz<=16777216) (h:bsl w e sz ps=some (s,w')) :
  dE P ⟨d,.buildSlice t len xs.toArray,ty,pos,af,g⟩ a w s.v w':=by
 subst hl;unfold bsl at h;split at h
 .rename_i hc;cases h;have hps:∀ p∈ps,p.length=sz:=fun p hp'=>by simpa using aAj.1 hc p hp'
  obtain⟨c',h1,h2⟩:=nV sz ps vs 0 ((Array.range (ps.length*sz)).map ((if ps.length*sz=0 then #[] else z.cells)[· % (if ps.length*sz=0 then #[] else z.cells).size]!)) hp hps (by simp);have e':(xs.toArray.map fun (i,x)=>(i,a.eval x)).toList=vs:=by rw[<-pB ha hx];simp
  have hc':c'=ps.flatten.toArray:=by apply Array.ext';rw[h2];simp
  refine cB ?_;have hb:¬ ps.length*sz>2 ^ 24:=by omega
  simp only[execOp,Instr.buildSlice,Sem.run_bind,ht,Result.andThen_ok,hz,e',Sl.v];rw[if_neg hb];by_cases h0:ps.length*sz=0
  .simp only[h0,if_true] at h1 ⊢;simp only[Sem.run_pure,Result.andThen_ok,h1,Sem.run_bind,newRow,run_newObj,World.alloc_eq,hc']
  simp only[h0,if_false] at h1 ⊢;simp only[Sem.run_bind,hzv,Sem.run_pure,Result.andThen_ok,h1,newRow,run_newObj,World.alloc_eq,hc']
 cases h
end
structure OpD where
 o:Oper
 v:Value
 e:Bool
 lo:Nat
 hi:Nat
 cl:List Nat
 li:List (Nat×Value)
abbrev dD {o:Oper} (v:Value) (w:Nat) (k:List Nat) (n:Nat):OpD:=⟨o,v,false,w,w,k,[(n,v)]⟩
abbrev aQ {o:Oper} (v:Value) (w:Nat) (k:List Nat) (n:Nat) (x:Value):OpD:=⟨o,v,false,w,w,k,[(n,x)]⟩
abbrev bY {o:Oper} (v:Value) (w:Nat) (k:List Nat) (r:List (Nat×Value)):OpD:=⟨o,v,false,w,w,k,r⟩
abbrev aN {o:Oper} (v:Value) (e:Bool) (a b:Nat) (k:List Nat) (r:List (Nat×Value)):OpD:=⟨o,v,e,a,b,k,r⟩
def eQ:List OpD->Nat->(Nat->Bool)->List (Nat×Value)->List (Nat×Value)
 | [],_,_,L=>L
 | d::ds,i,S,L=>eQ ds (i+1) S (if S i=true then upd d.o.dst d.v L else L)
def iO:List OpD->Nat->(Nat->Bool)->Nat->Option Value
 | [],_,_,_=>none
 | d::ds,i,S,t=>match iO ds (i+1) S t with
  | some v=>some v
  | none=>if S i=true/\d.o.dst=some t then some d.v else none
theorem kD {dst:Option Nat} {v:Value} {L:List (Nat×Value)} {t:Nat}:(upd dst v L).lookup t=if dst=some t then some v else L.lookup t:=by
 cases dst with
 | none=>simp[upd]
 | some d =>
  simp only[upd,aAT];by_cases h:t=d
  .subst h;simp
  have e:(t==d)=false:=by simpa using h
  rw[e];simp[Ne.symm h]
theorem gI {t:Nat}:∀ (ds:List OpD) (i:Nat) (S:Nat->Bool) (L:List (Nat×Value)),(eQ ds i S L).lookup t=(iO ds i S t).or (L.lookup t)
 | [],_,_,_=>by simp[eQ,iO]
 | d::ds,i,S,L=>by
  rw[eQ,gI ds (i+1) S,iO]
  cases h:iO ds (i+1) S t with
  | some v=>simp
  | none =>
   simp only[Option.none_or];by_cases hs:S i=true
   .rw[if_pos hs,kD];by_cases hd:d.o.dst=some t<;>simp[hs,hd]
   rw[if_neg hs];simp[hs]
theorem gM {t:Nat} {S S':Nat->Bool}:∀ (ds:List OpD) (i:Nat),(∀ k d,ds[k]?=some d->d.o.dst=some t->S (i+k)=S' (i+k))->iO ds i S t=iO ds i S' t
 | [],_,_=>rfl
 | d::ds,i,h=>by
  have h1:iO ds (i+1) S t=iO ds (i+1) S' t:=gM ds (i+1) (fun k d' hk hd=>by have:=h (k+1) d' (by simpa using hk) hd;rwa[show i+(k+1)=i+1+k by omega] at this);simp only[iO,h1];by_cases hd:d.o.dst=some t
  .have:=h 0 d rfl hd;simp only[aAN] at this;rw[this]
  simp[hd]
theorem mM {t:Nat} {S:Nat->Bool}:∀ (ds:List OpD) (i k:Nat) (d:OpD),ds[k]?=some d->d.o.dst=some t->S (i+k)=true->(∀ k' d',k<k'->ds[k']?=some d'->d'.o.dst=some t->S (i+k')=false)->iO ds i S t=some d.v
 | [],_,_,_,h,_,_,_=>by simp at h
 | d0::ds,i,0,d,hk,hd,hs,hn=>by
  simp at hk;subst hk;have h1:iO ds (i+1) S t=none:=by
   have:iO ds (i+1) S t=iO ds (i+1) (fun _=>false) t:=gM ds (i+1) fun k' d' h1 h2=>by
    have:=hn (k'+1) d' (by omega) (by simpa using h1) h2;rwa[show i+(k'+1)=i+1+k' by omega] at this
   rw[this];clear this hn hd hs;generalize i+1=m
   induction ds generalizing m with
   | nil=>rfl
   | cons x xs ih=>simp[iO,ih]
  simp only[aAN] at hs;simp[iO,h1,hd,hs]
 | d0::ds,i,k+1,d,hk,hd,hs,hn=>by
  have h1:=mM (t:=t) (S:=S) ds (i+1) k d (by simpa using hk) hd (by rwa[show i+(k+1)=i+1+k by omega] at hs) (fun k' d' h1 h2 h3=>by
   have:=hn (k'+1) d' (by omega) (by simpa using h2) h3;rwa[show i+(k'+1)=i+1+k' by omega] at this)
  simp[iO,h1]
def cnt:List OpD->Nat->(Nat->Bool)->Nat
 | [],_,_=>0
 | d::ds,i,S=>(if S i=true/\d.e=true then 1 else 0)+cnt ds (i+1) S
theorem kK {S S':Nat->Bool}:∀ (ds:List OpD) (i:Nat),(∀ k d,ds[k]?=some d->d.e=true->S (i+k)=true->S' (i+k)=true)->cnt ds i S<=cnt ds i S'
 | [],_,_=>aAH _
 | d::ds,i,h=>by
  have h1:=kK ds (i+1) (fun k d' hk hd hs=>by have:=h (k+1) d' (by simpa using hk) hd (by rwa[show i+(k+1)=i+1+k by omega]);rwa[show i+(k+1)=i+1+k by omega] at this);simp only[cnt];have h0:=h 0 d rfl;simp only[aAN] at h0;by_cases hs:S i=true/\d.e=true
  .rw[if_pos hs,if_pos ⟨h0 hs.2 hs.1,hs.2⟩];omega
  rw[if_neg hs];omega
def fA (S:Nat->Bool) (i:Nat):Nat->Bool:=fun k=>if k=i then true else S k
theorem nH {S:Nat->Bool} {j:Nat}:∀ (ds:List OpD) (i k:Nat) (d:OpD),ds[k]?=some d->j=i+k->S j=false->cnt ds i (fA S j)=cnt ds i S+(if d.e=true then 1 else 0)
 | [],_,_,_,h,_,_=>by simp at h
 | d0::ds,i,0,d,hk,hj,hs=>by
  simp at hk;subst hk;simp only[aAN] at hj;subst hj;have:cnt ds (j+1) (fA S j)=cnt ds (j+1) S:=by
   apply Nat.le_antisymm
   .exact kK ds (j+1) fun k d h1 h2 h3=>by simp only[fA] at h3;rwa[if_neg (by omega)] at h3
   exact kK ds (j+1) fun k d h1 h2 h3=>by simp only[fA];rwa[if_neg (by omega)]
  simp only[cnt,this];simp[fA,hs];omega
 | d0::ds,i,k+1,d,hk,hj,hs=>by
  have:=nH (S:=S) ds (i+1) k d (by simpa using hk) (by omega) hs;have e:fA S j i=S i:=by simp only[fA];rw[if_neg (by omega)]
  simp only[cnt,this,e];omega
theorem tD {S S':Nat->Bool} (ds:List OpD) (i:Nat) (h:∀ k,k<ds.length->S (i+k)=S' (i+k)):cnt ds i S=cnt ds i S':=by
 have hk:∀ (k:Nat) (d:OpD),ds[k]?=some d->k<ds.length:=fun k d h=>(aAi.1 h).1;apply Nat.le_antisymm
 .exact kK ds i fun k d h1 _ h3=>(h k (hk k d h1)) ▸ h3
 exact kK ds i fun k d h1 _ h3=>(h k (hk k d h1)).symm ▸ h3
def wE (ds:List OpD):Bool:=ds.zipIdx.all fun (d,i)=>d.cl.all fun k=>d.o.after.toList.any fun e=>Region.binds .any e&&decide (e.on<i)&&(k==e.on||((ds[e.on]?).any fun d'=>d'.cl.contains k))
def qE (ds:List OpD):Bool:=ds.zipIdx.all fun (d,i)=>d.o.dst.all fun t=>ds.zipIdx.all fun (d',k)=>!(decide (i<k))||d'.o.dst !=some t||d'.cl.contains i
def uE (ds:List OpD):Bool:=ds.zipIdx.all fun (d,i)=>d.li.all fun (t,_)=>ds.zipIdx.all fun (d',k)=>k==i||d'.o.dst !=some t||(decide (k<i)&&d.cl.contains k)||(decide (i<k)&&d'.cl.contains i)
def vN (ds:List OpD):Bool:=ds.zipIdx.all fun (d,i) =>
 decide (d.lo<=cnt ds 0 fun k=>d.cl.contains k)&&decide ((cnt ds 0 fun k=>k !=i&&!((ds[k]?).any fun d'=>d'.cl.contains i))<=d.hi)
def pK (ds:List OpD):Bool:=ds.zipIdx.all fun (d,i)=>d.o.after.toList.all fun e=>!Region.binds .any e||decide (e.on<i)
def sX (ds:List OpD):Bool:=wE ds&&qE ds&&uE ds&&vN ds&&pK ds
section
variable {P : Program} {n : Nat} {L0 : List (Nat × Value)} {Q : Exit -> Act -> World -> Prop}
def jK (P:Program) (n:Nat) (ops:Array Oper) (o:Oper) (li:List (Nat×Value)) (v:Value) (w w':World):Prop :=
 ∀ a,Has n li a->∀ (K:Act->World->Prop) (Q:Exit->Act->World->Prop),K (a.put o.dst v) w'->if Region.wanted o (yielded ops a.tmps) then o.wp P a w K Q else K (a.put o.dst undef) w
theorem vT {ops:Array Oper} {o:Oper} {li:List (Nat×Value)} {v:Value} {w w':World} (hg:o.guard=none) (h:∀ a,Has n li a->dE P o a w v w'):jK P n ops o li v w w':=fun a ha K Q hk=>by
 rw[if_pos (by simp[Region.wanted,hg])];exact h a ha K Q hk
theorem qS {ops:Array Oper} {o:Oper} {li:List (Nat×Value)} {v:Value} {w w':World} {j t:Nat} {b c:Bool} (hg:o.guard=some (j,c)) (hj:(ops[j]?).bind (·.dst)=some t) (ht:li.lookup t=some (.bool b)) (hbc:b=c)
  (h:∀ a,Has n li a->dE P o a w v w'):jK P n ops o li v w w':=fun a ha K Q hk=>by
 rw[if_pos (by simp[Region.wanted,hg,jU hj ha ht,hbc])];exact h a ha K Q hk
theorem uY {ops:Array Oper} {o:Oper} {li:List (Nat×Value)} {w:World} {j t:Nat} {b c:Bool} (hg:o.guard=some (j,c)) (hj:(ops[j]?).bind (·.dst)=some t) (ht:li.lookup t=some (.bool b)) (hbc:b≠c) :
  jK P n ops o li undef w w:=fun a ha K Q hk=>by
 rw[if_neg (by simp[Region.wanted,hg,jU hj ha ht,hbc])];exact hk
def Obl (P:Program) (n:Nat) (ops:Array Oper) (W:Nat->World):List OpD->Prop
 | []=>True
 | d::ds=>(∀ j,d.lo<=j->j<=d.hi->jK P n ops d.o d.li d.v (W j) (W (j+if d.e=true then 1 else 0)))/\Obl P n ops W ds
theorem Obl.get {ops:Array Oper} {W:Nat->World}:∀ {ds:List OpD},Obl P n ops W ds->∀ {i:Nat} {d:OpD},ds[i]?=some d->∀ j,d.lo<=j->j<=d.hi->jK P n ops d.o d.li d.v (W j) (W (j+if d.e=true then 1 else 0))
 | [],_,_,_,h=>by simp at h
 | _::_,h,0,_,hd=>by simp at hd;subst hd;exact h.1
 | _::_,h,i+1,_,hd=>h.2.get (by simpa using hd)
def hD:List OpD->List (Nat×Value)->Prop
 | [],_=>True
 | d::ds,L=>qQ L d.li/\hD ds (upd d.o.dst d.v L)
theorem qQ.look {L M:List (Nat×Value)} (h:qQ L M) {t:Nat} {v:Value} (hv:M.lookup t=some v):L.lookup t=some v:=by
 induction M with
 | nil=>cases hv
 | cons p M ih =>
  obtain⟨j,u⟩:=p;rw[aAT] at hv;by_cases e:t=j
  .subst e;simp at hv;subst hv;exact h.1
  have e1:(t==j)=false:=by simpa using e
  rw[e1] at hv;exact ih h.2 hv
theorem lZ {M:List (Nat×Value)} {t:Nat} {v:Value} (hv:M.lookup t=some v):∃ u,(t,u)∈M:=by
 induction M with
 | nil=>cases hv
 | cons p M ih =>
  obtain⟨j,u⟩:=p;rw[aAT] at hv;by_cases e:t=j
  .subst e;exact⟨u,by simp⟩
  have e1:(t==j)=false:=by simpa using e
  rw[e1] at hv;obtain⟨u',hu⟩:=ih hv;exact⟨u',by simp[hu]⟩
theorem hD.get:∀ {ds:List OpD} {L:List (Nat×Value)} (b:Nat),hD ds L->∀ {i:Nat} {d:OpD},ds[i]?=some d->qQ (eQ ds b (fun k=>decide (k<b+i)) L) d.li
 | [],_,_,_,_,_,h=>by simp at h
 | d0::ds,L,b,h,0,d,hd=>by
  simp at hd;subst hd;have:eQ (d0::ds) b (fun k=>decide (k<b+0)) L=L:=by
   have key:∀ (ds:List OpD) (m:Nat),b<=m->eQ ds m (fun k=>decide (k<b+0)) L=L:=by
    intro ds
    induction ds with
    | nil=>intro m _;rfl
    | cons x xs ih=>intro m hm;simp only[eQ];rw[if_neg (by simp;omega)];exact ih _ (by omega)
   exact key _ _ (aAH _)
  rw[this];exact h.1
 | d0::ds,L,b,h,i+1,d,hd=>by
  have:=hD.get (b+1) h.2 (i:=i) (d:=d) (by simpa using hd);rw[eQ,if_pos (by simp)];rwa[show b+1+i=b+(i+1) by omega] at this
theorem qP {ds:List OpD} {W:Nat->World} (hok:sX ds=true) (hO:Obl P n (ds.map (·.o)).toArray W ds) (hR:hD ds L0) (hd:∀ (i:Nat) (d:OpD) (t:Nat),ds[i]?=some d->d.o.dst=some t->t<n)
  (hQ:∀ a,Has n (eQ ds 0 (fun _=>true) L0) a->Q .normal a (W (cnt ds 0 fun _=>true))) :
  ∀ (fuel:Nat) (listed:Array Bool) (a:Act),listed.size=ds.length ->
   (∀ (i:Nat) (d:OpD),ds[i]?=some d->listed.getD i false=true->∀ e∈d.o.after.toList,Region.binds .any e=true->listed.getD e.on false=true) ->
   Has n (eQ ds 0 (fun k=>listed.getD k false) L0) a->fuel=((List.range ds.length).filter fun i=>!listed.getD i false).length ->
   wpAny P .any (ds.map (·.o)).toArray Q fuel listed a (W (cnt ds 0 fun k=>listed.getD k false)):=by
 simp only[sX,aAl] at hok;obtain⟨⟨⟨⟨hcl,hds⟩,hli⟩,hrg⟩,hed⟩:=hok;have zi:∀ (i:Nat) (d:OpD),ds[i]?=some d->(d,i)∈ds.zipIdx:=fun i d h=>aAr.2 h;have hed':∀ (i:Nat) (d:OpD),ds[i]?=some d->∀ e∈d.o.after.toList,Region.binds .any e=true->e.on<i:=fun i d h e he hb=>by
  have:=aAj.1 (aAj.1 hed _ (zi i d h)) e he;simpa[hb] using this
 have hcl':∀ (i:Nat) (d:OpD),ds[i]?=some d->∀ k∈d.cl,∃ e∈d.o.after.toList,Region.binds .any e=true/\e.on<i/\(k=e.on\/∃ d',ds[e.on]?=some d'/\k∈d'.cl):=fun i d h k hk=>by
  have:=aAj.1 (aAj.1 hcl _ (zi i d h)) k hk;obtain⟨e,he,hx⟩:=aAM.1 this;simp only[aAl,decide_eq_true_eq,aAA,beq_iff_eq,aBv,aAy] at hx;exact⟨e,he,hx.1.1,hx.1.2,hx.2⟩
 have hds':∀ (i k:Nat) (d d':OpD) (t:Nat),ds[i]?=some d->ds[k]?=some d'->i<k->d.o.dst=some t->d'.o.dst=some t->i∈d'.cl:=fun i k d d' t h h' hik ht ht'=>by
  have:=aAj.1 hds _ (zi i d h);simp only[ht,aBI] at this;have:=aAj.1 this _ (zi k d' h');simpa[hik,ht'] using this
 have hli':∀ (i k:Nat) (d d':OpD) (t:Nat) (u:Value),ds[i]?=some d->ds[k]?=some d'->(t,u)∈d.li->d'.o.dst=some t->k=i\/(k<i/\k∈d.cl)\/(i<k/\i∈d'.cl):=fun i k d d' t u h h' ht ht'=>by
  have:=aAj.1 (aAj.1 (aAj.1 hli _ (zi i d h)) _ ht) _ (zi k d' h');simp only[ht',bne_self_eq_false,aBL,aAA,beq_iff_eq,aAl,decide_eq_true_eq,aAy] at this;rcases this with(h1 | h1) | h1
  .exact .inl h1
  .exact .inr (.inl h1)
  exact .inr (.inr h1)
 have hrg':∀ (i:Nat) (d:OpD),ds[i]?=some d->d.lo<=(cnt ds 0 fun k=>d.cl.contains k)/\(cnt ds 0 fun k=>k !=i&&!((ds[k]?).any fun d'=>d'.cl.contains i))<=d.hi:=fun i d h=>by
  have:=aAj.1 hrg _ (zi i d h);simpa using this
 -- what lies ahead of a listed one is listed
 have closed:∀ (listed:Array Bool),(∀ (i:Nat) (d:OpD),ds[i]?=some d->listed.getD i false=true->∀ e∈d.o.after.toList,Region.binds .any e=true->listed.getD e.on false=true) ->
   ∀ (i:Nat) (d:OpD),ds[i]?=some d->(∀ e∈d.o.after.toList,Region.binds .any e=true->listed.getD e.on false=true)->∀ k∈d.cl,listed.getD k false=true:=by
  intro listed hc i
  induction i using Nat.strongRecOn with
  | _ i ih =>
   intro d hd0 he k hk;obtain⟨e,he1,he2,he3,he4⟩:=hcl' i d hd0 k hk;rcases he4 with rfl | ⟨d',hd',hk'⟩
   .exact he e he1 he2
   exact ih e.on he3 d' hd' (hc e.on d' hd' (he e he1 he2)) k hk'
 have opsAt:∀ (i:Nat),(ds.map fun d=>d.o).toArray[i]?=(ds[i]?).map (fun d:OpD=>d.o):=fun i=>by simp
 intro fuel
 induction fuel with
 | zero =>
  intro listed a hsz hc ha hf;have hall:∀ k,k<ds.length->listed.getD k false=true:=fun k hk=>by
   cases h:listed.getD k false with
   | true=>rfl
   | false =>
    have:k∈(List.range ds.length).filter fun i=>!listed.getD i false:=by simp[hk];simpa using h
    rw[aAv hf.symm] at this;cases this
  have e1:eQ ds 0 (fun k=>listed.getD k false) L0=eQ ds 0 (fun _=>true) L0:=by
   have key:∀ (l:List OpD) (m:Nat) (L:List (Nat×Value)),m+l.length<=ds.length->eQ l m (fun k=>listed.getD k false) L=eQ l m (fun _=>true) L:=by
    intro l
    induction l with
    | nil=>intro m L _;rfl
    | cons x xs ih=>intro m L hm;simp only[eQ];simp only[aAE] at hm;rw[if_pos (hall m (by omega)),if_pos trivial];exact ih _ _ (by omega)
   exact key ds 0 L0 (by omega)
  have e2:(cnt ds 0 fun k=>listed.getD k false)=cnt ds 0 fun _=>true:=tD ds 0 fun k hk=>by simpa using hall k hk
  rw[e2];refine⟨?_,hQ a (e1 ▸ ha)⟩;unfold Region.ready;rw[aBi];intro i hi;simp at hi;have:=hall i hi;simp only[aAh] at this ⊢;have h3:listed[i]?=some true:=by
   cases h4:listed[i]? with
   | none=>simp[h4] at this
   | some b=>simpa[h4] using this
  simp[h3]
 | succ fuel ih =>
  intro listed a hsz hc ha hf;have some_ready:Region.ready .any (ds.map (·.o)).toArray listed≠[]:=by
   have hne:((List.range ds.length).filter fun i=>!listed.getD i false)≠[]:=fun h=>by rw[h] at hf;cases hf
   obtain⟨x,hx⟩:=aAC _ hne;have hx':x<ds.length/\listed.getD x false=false:=by simpa using hx
   have hmin:∃ m,(m<ds.length/\listed.getD m false=false)/\∀ k,k<m->¬ (k<ds.length/\listed.getD k false=false):=by
    clear hx hf hne
    induction x using Nat.strongRecOn with
    | _ x ihx =>
     by_cases h:∃ k,k<x/\(k<ds.length/\listed.getD k false=false)
     .obtain⟨k,hk,hk'⟩:=h;exact ihx k hk hk'
     exact⟨x,hx',fun k hk hk'=>h ⟨k,hk,hk'⟩⟩
   obtain⟨m,⟨hm1,hm2⟩,hm3⟩:=hmin;intro hr;have:m∈Region.ready .any (ds.map (·.o)).toArray listed:=by
    unfold Region.ready;simp only[aAw,aAu,aAl,aAt];have hl:listed[m]?=some false:=by
     have h4:m<listed.size:=by omega
     simp only[aAh] at hm2;simpa[h4] using hm2
    refine⟨by simpa using hm1,by simp[hl],?_⟩;rw[opsAt];obtain⟨d,hd0⟩:∃ d,ds[m]?=some d:=⟨_,aAk hm1⟩;rw[hd0];simp only[aAq,aAx];rw[<-aAU,aAj];intro e he;by_cases hb:Region.binds .any e=true
    .have h5:=hed' m d hd0 e he hb;have h6:listed.getD e.on false=true:=by
      cases h7:listed.getD e.on false with
      | true=>rfl
      | false=>exact(hm3 e.on h5 ⟨by omega,h7⟩).elim
     simp[h6]
    simp at hb;simp[hb]
   rw[hr] at this;cases this
  refine⟨fun h=>(some_ready h).elim,fun i hi=>?_⟩;unfold Region.ready at hi;simp only[aAw,aAu,aAl,aAt] at hi;obtain⟨hi1,hi2,hi3⟩:=hi;have hi1':i<ds.length:=by simpa using hi1
  obtain⟨d,hd0⟩:∃ d,ds[i]?=some d:=⟨_,aAk hi1'⟩;have hun:listed.getD i false=false:=by
   have h4:i<listed.size:=by omega
   simp only[aAh] at hi2 ⊢;simpa[h4] using hi2
  rw[opsAt,hd0] at hi3;simp only[aAq,aAx] at hi3;rw[<-aAU,aAj] at hi3;have hed2:∀ e∈d.o.after.toList,Region.binds .any e=true->listed.getD e.on false=true:=fun e he hb=>by
   have:=hi3 e he;simpa[hb] using this
  have hcl2:=closed listed hc i d hd0 hed2;have notl:∀ k (d':OpD),ds[k]?=some d'->i∈d'.cl->listed.getD k false=false:=fun k d' hk hik=>by
   cases h:listed.getD k false with
   | false=>rfl
   | true =>
    have:=closed listed hc k d' hk (hc k d' hk h) i hik;rw[hun] at this;cases this
  have hj1:d.lo<=cnt ds 0 fun k=>listed.getD k false:=aAO (hrg' i d hd0).1 (kK ds 0 fun k d' h1 h2 h3=>by
   simp only[aBO] at h3 ⊢;exact hcl2 k (by simpa using h3))
  have hj2:(cnt ds 0 fun k=>listed.getD k false)<=d.hi:=aAO (kK ds 0 fun k d' h1 h2 h3=>by
   simp only[aBO] at h3 ⊢;simp only[aAl,bne_iff_ne,aAt,Option.any_eq_false];refine⟨fun e=>?_,fun d'' h4=>?_⟩
   .subst e;rw[hun] at h3;cases h3
   rw[h1] at h4;cases h4;simp only[List.contains_eq_mem,decide_eq_false_iff_not];intro h5;rw[notl k d' h1 h5] at h3;cases h3) (hrg' i d hd0).2
  have hop:=hO.get hd0 _ hj1 hj2;have hLi:Has n d.li a:=by
   have hs:=hD.get 0 hR hd0;refine⟨ha.d,ha.z,fun t v hv=>ha.l t v ?_⟩;have h1:=hs.look hv;obtain⟨u,hu⟩:=lZ hv;rw[gI] at h1 ⊢;rw[<-h1];congr 1;refine gM ds 0 fun k d' hk hkd=>?_;simp only[aBO];rcases hli' i k d d' t u hd0 hk hu hkd with rfl | ⟨h2,h3⟩ | ⟨h2,h3⟩
   .rw[hun];simp
   .rw[hcl2 k h3];simp[h2]
   rw[notl k d' hk h3];simp;omega
  have goal:=fun K hk=>hop a hLi K Q hk;unfold wpOp;rw[opsAt,hd0];simp only[aAq];have hK:=goal (wpAny P .any (ds.map (·.o)).toArray Q fuel (listed.setIfInBounds i true)) ?_
  .split
   .rename_i hw;rw[if_pos hw] at hK;exact .inl hK
   rename_i hw;rw[if_neg hw] at hK;exact hK
  have hset:∀ k,(listed.setIfInBounds i true).getD k false=fA (fun k=>listed.getD k false) i k:=fun k=>by
   simp only[fA,aAh];by_cases h:k=i
   .subst h;have:k<listed.size:=by omega
    simp[this]
   rw[aAp (Ne.symm h),if_neg h]
  have hset':(fun k=>(listed.setIfInBounds i true).getD k false)=fA (fun k=>listed.getD k false) i:=funext hset;have hcnt:=nH (S:=fun k=>listed.getD k false) (j:=i) ds 0 i d hd0 (by omega) hun;have hfin:=ih (listed.setIfInBounds i true) (a.put d.o.dst d.v) (by simpa using hsz) ?_ ?_ ?_
  .rw[hset',hcnt] at hfin;exact hfin
  .intro k d' hk hl e he hb;rw[hset] at hl ⊢;simp only[fA] at hl ⊢;split
   .rfl
   split at hl
   .rename_i h1 h2;subst h2;rw[hd0] at hk;cases hk;exact hed2 e he hb
   exact hc k d' hk hl e he hb
  .have hput:=ha.put d.o.dst (fun t ht=>hd i d t hd0 ht) d.v;refine⟨hput.d,hput.z,fun t v hv=>hput.l t v ?_⟩;rw[hset'] at hv;rw[kD];rw[gI] at hv ⊢;by_cases ht:d.o.dst=some t
   .rw[if_pos ht];rw[mM ds 0 i d hd0 ht (by simp[fA]) (fun k' d' h1 h2 h3=>by
     simp only[aBO,fA];rw[if_neg (by omega)];exact notl k' d' h2 (hds' i k' d d' t hd0 h2 h1 ht h3))] at hv
    simpa using hv
   rw[if_neg ht];rw[<-hv];congr 1;refine gM ds 0 fun k d' hk hkd=>?_;simp only[aBO,fA];split
   .rename_i h1;subst h1;rw[hd0] at hk;cases hk;exact(ht hkd).elim
   rfl
  have h1:(List.range ds.length).filter (fun k=>!(listed.setIfInBounds i true).getD k false)=((List.range ds.length).filter fun k=>!listed.getD k false).filter (fun k=>k !=i):=by
   rw[aBw];apply aBk;intro k _;rw[hset];simp only[fA];by_cases h:k=i<;>simp[h]
  rw[h1];have hmem:i∈(List.range ds.length).filter fun k=>!listed.getD k false:=by
   simp only[aAw,aAu];exact⟨hi1',by rw[hun];rfl⟩
  have hnd:((List.range ds.length).filter fun k=>!listed.getD k false).Nodup:=List.nodup_range.filter _;have:=hnd.erase_eq_filter i;rw[<-this,aBc hmem,<-hf];rfl
theorem bC {ds:List OpD} {W:Nat->World} {id:Nat} {w:World} {a:Act} (hm:P.follows .mixedOrders=true) (ha:Has n L0 a) (h0:W 0=w.drew) (hok:sX ds=true) (hO:Obl P n (ds.map (·.o)).toArray W ds) (hR:hD ds L0)
  (hd:(ds.all fun d=>d.o.dst.all fun t=>decide (t<n))=true) {m:Nat} (hcm:cnt ds 0 (fun _=>true)=m)
  (hQ:∀ a,Has n (eQ ds 0 (fun _=>true) L0) a->Q .normal a (W m)):(Code.region id (ds.map (·.o)).toArray true).wp P Q a w:=by
 subst hcm;refine wp_region_any hm ?_;have hz:∀ k,(Array.replicate ds.length false).getD k false=false:=fun k=>by
  simp only[aAh,aAF];split<;>rfl
 have hS:(fun k=>(Array.replicate ds.length false).getD k false)=fun _=>false:=funext hz;have key:∀ (l:List OpD) (i:Nat) (L:List (Nat×Value)),eQ l i (fun _=>false) L=L:=by
  intro l;induction l with
  | nil=>intro i L;rfl
  | cons x xs ih=>intro i L;simp only[eQ];rw[if_neg (by simp)];exact ih _ _
 have key2:∀ (l:List OpD) (i:Nat),cnt l i (fun _=>false)=0:=by
  intro l;induction l with
  | nil=>intro i;rfl
  | cons x xs ih=>intro i;simp[cnt,ih]
 have h:=qP (P:=P) (n:=n) (L0:=L0) (Q:=Q) hok hO hR (fun i d t hi ht=>by
  have h1:=aAj.1 hd d (aAn hi);simpa[ht] using h1) hQ ds.length (Array.replicate ds.length false) a (by simp) (fun i d _ hl=>by rw[hz] at hl;cases hl) (by rw[hS,key];exact ha) (by
   have:((List.range ds.length).filter fun i=>!(Array.replicate ds.length false).getD i false)=List.range ds.length:=by
    rw[aBa];intro k _;rw[hz];rfl
   rw[this,List.length_range])
 rw[hS,key2,h0] at h;have e:(ds.map (·.o)).toArray.size=ds.length:=by simp
 rw[e];exact h
end
def u1 {α γ:Type} (i:α) (f:α->γ):γ:=f i
def u2 {α β γ:Type} (i:α×β) (f:α->β->γ):γ:=f i.1 i.2
def u3 {α β δ γ:Type} (i:α×β×δ) (f:α->β->δ->γ):γ:=f i.1 i.2.1 i.2.2
def u4 {α β δ ε γ:Type} (i:α×β×δ×ε) (f:α->β->δ->ε->γ):γ:=f i.1 i.2.1 i.2.2.1 i.2.2.2
def u5 {α β δ ε ζ γ:Type} (i:α×β×δ×ε×ζ) (f:α->β->δ->ε->ζ->γ):γ:=f i.1 i.2.1 i.2.2.1 i.2.2.2.1 i.2.2.2.2
def u6 {α β δ ε ζ η γ:Type} (i:α×β×δ×ε×ζ×η) (f:α->β->δ->ε->ζ->η->γ):γ:=f i.1 i.2.1 i.2.2.1 i.2.2.2.1 i.2.2.2.2.1 i.2.2.2.2.2
def tI:List OpD->List (Nat×Value)->List (List (Option Value))
 | [],_=>[]
 | d::ds,L=>(d.li.map fun p=>L.lookup p.1)::tI ds (upd d.o.dst d.v L)
theorem bA:∀ {ds:List OpD} {L:List (Nat×Value)},tI ds L=ds.map (fun d=>d.li.map fun p=>some p.2)->hD ds L
 | [],_,_=>trivial
 | d::ds,L,h=>by
  simp only[tI,aBC,List.cons.injEq] at h;refine⟨?_,bA h.2⟩;have key:∀ (M:List (Nat×Value)),(M.map fun p=>L.lookup p.1)=(M.map fun p=>some p.2)->qQ L M:=by
   intro M
   induction M with
   | nil=>intro _;trivial
   | cons p M ih=>intro h;simp only[aBC,List.cons.injEq] at h;exact⟨h.1,ih h.2⟩
  exact key _ h.1
section
variable {P : Program} {n : Nat} {L : List (Nat × Value)} {a : Act} {w w' : World} {Q : Exit -> Act -> World -> Prop}
theorem ltd {o:Option Nat} {n:Nat} (h:(o.all fun d=>decide (d<n))=true):∀ d,o=some d->d<n:=fun d hd=>by
 subst hd;simpa using h
theorem nt {b:Bool} (h:b≠true):b=false:=by simpa using h
theorem tn {b:Bool} (h:b=true):b≠false:=by rw[h];decide
theorem bU {b:Bool} {γ:Type} {A B:Option γ} {r:γ} {G:Prop} (h:(if b=true then A else B)=some r) (ht:b=true->A=some r->G) (hf:b≠true->B=some r->G):G:=by
 by_cases e:b=true
 .exact ht e (by rwa[if_pos e] at h)
 exact hf e (by rwa[if_neg e] at h)
theorem uN {ops:Array Oper} {rest:List Oper} {o:Oper} {v:Value} {j t:Nat} {b c:Bool} (hg:o.guard=some (j,c)) (hj:(ops[j]?).bind (·.dst)=some t) (ha:Has n L a) (ht:L.lookup t=some (.bool b)) (hbc:b=c)
  (hd:∀ d,o.dst=some d->d<n) (h:dE P o a w v w')
  (hr:∀ a',Has n (upd o.dst v L) a'->wpList P ops Q rest a' w'):wpList P ops Q (o::rest) a w:=by
 subst hbc;exact wS hg hj ha ht hd h hr
theorem sH {ops:Array Oper} {j t:Nat} (hj:(ops[j]?).bind (·.dst)=some t) (ha:Has n L a) (ht:L.lookup t=some undef):yielded ops a.tmps j=none:=by
 unfold yielded;rw[hj];simp[ha.l t _ ht,undef]
theorem wV {ops:Array Oper} {rest:List Oper} {o:Oper} {j t:Nat} {c:Bool} (hg:o.guard=some (j,c)) (hj:(ops[j]?).bind (·.dst)=some t) (ha:Has n L a) (ht:L.lookup t=some undef)
  (hd:∀ d,o.dst=some d->d<n)
  (hr:∀ a',Has n (upd o.dst undef L) a'->wpList P ops Q rest a' w):wpList P ops Q (o::rest) a w:=by
 unfold wpList;rw[if_neg (by simp[Region.wanted,hg,sH hj ha ht])];exact hr _ (ha.put _ hd _)
theorem iS {x y:Code} {L:List (Nat×Value)} {w':World} (hk:∀ a,Has n L a->y.wp P Q a w')
  (hx:(∀ a,Has n L a->Exit.then (y.wp P Q) Q .normal a w')->x.wp P (Exit.then (y.wp P Q) Q) a w):(Code.seq x y).wp P Q a w :=
 wp_seq (hx hk)
theorem iW {x y:Code} {ι:Type} {Lf:ι->List (Nat×Value)} {wf:ι->World} {C:ι->Prop} (hk:∀ i,C i->∀ a,Has n (Lf i) a->y.wp P Q a (wf i))
  (hx:(∀ i,C i->∀ a,Has n (Lf i) a->Exit.then (y.wp P Q) Q .normal a (wf i))->x.wp P (Exit.then (y.wp P Q) Q) a w):(Code.seq x y).wp P Q a w :=
 wp_seq (hx hk)
theorem aW {c:Code} {L:List (Nat×Value)} {w':World} (hk:∀ a,Has n L a->Q .normal a w') (hx:(∀ a,Has n L a->Q .normal a w')->c.wp P Q a w):c.wp P Q a w:=hx hk
theorem lO {S R:Type} {step:S->Option (S⊕R)} {I:S->Act->World->Prop} {body:Code} {r0:R} {s0:S} {e:Exit} {L:List (Nat×Value)} {w':World}
  (hI:I s0 a w) (h:bB step s0=some r0) (hk:∀ a,Has n L a->Q e a w')
  (hb:(∀ a,Has n L a->Q e a w')->∀ s a w o,I s a w->step s=some o->(∀ r,o = .inr r->r=r0)->body.wp P (LP I Q o) a w):(Code.loop body).wp P Q a w :=
 sM hI h (hb hk)
theorem dH {S R1 R2:Type} {step:S->Option (S⊕(R1⊕R2))} {I:S->Act->World->Prop} {body:Code} {r0:R1⊕R2} {s0:S} {e1 e2:Exit} {L1:R1->List (Nat×Value)} {w1:R1->World} {L2:R2->List (Nat×Value)} {w2:R2->World}
  (hI:I s0 a w) (h:bB step s0=some r0) (hk1:∀ i,r0 = .inl i->∀ a,Has n (L1 i) a->Q e1 a (w1 i)) (hk2:∀ i,r0 = .inr i->∀ a,Has n (L2 i) a->Q e2 a (w2 i))
  (hb:(∀ i,r0 = .inl i->∀ a,Has n (L1 i) a->Q e1 a (w1 i))->(∀ i,r0 = .inr i->∀ a,Has n (L2 i) a->Q e2 a (w2 i)) ->
   ∀ s a w o,I s a w->step s=some o->(∀ r,o = .inr r->r=r0)->body.wp P (LP I Q o) a w):(Code.loop body).wp P Q a w :=
 sM hI h (hb hk1 hk2)
def dr (w:World):Option World:=some w.drew
theorem gN {w w':World} (h:dr w=some w'):w'=w.drew:=(Option.some.inj h).symm
theorem aA {id:Nat} {l:List Oper} (h:wpList P l.toArray Q l a w):(Code.region id l.toArray false).wp P Q a w:=wp_region_lit h
end
def B (w:World) (b:Nat):Option (List Value×TypeId):=match w.heap[b]? with | some (.cells c T fz)=>if fz=(0,0) then some (c.toList,T) else none | _=>none
def wr (w:World) (b:Nat) (cs:List Value):World:={ w with heap:=w.heap.modify b fun | .cells _ T fz=>.cells cs.toArray T fz | o=>o }
theorem jS {w:World} {b:Nat} {cs:List Value} {T:TypeId}:B w b=some (cs,T)↔w.heap[b]?=some (.cells cs.toArray T (0,0)):=by
 unfold B;constructor
 .intro h;split at h
  .rename_i c T' fz e;split at h
   .rename_i hf;subst hf;cases h;simpa using e
   cases h
  cases h
 intro h;rw[h];simp
theorem vB {w:World} {b:Nat} {x:List Value×TypeId} (h:B w b=some x):b<w.heap.size:=by
 obtain⟨cs,T⟩:=x;exact(aAP.1 (jS.1 h)).1
theorem nL {w:World} {b k:Nat} {f:Obj->Obj} (h:k≠b):(w.heap.modify b f)[k]?=w.heap[k]?:=by
 rw[aAK,if_neg (Ne.symm h)]
@[simp] theorem yA {w:World} {b:Nat} {cs:List Value}:(wr w b cs).heap.size=w.heap.size:=by simp[wr]
theorem lX {w:World} {b k:Nat} {cs:List Value} (h:k≠b):(wr w b cs).heap[k]?=w.heap[k]?:=nL h
theorem sN {w:World} {b:Nat} {c cs:List Value} {T:TypeId} (h:B w b=some (c,T)):B (wr w b cs) b=some (cs,T):=by
 rw[jS] at h ⊢;simp[wr,aAK,h]
@[simp] theorem vR {w:World} {cs:List Value} {T:TypeId}:B (w.alloc (.cells cs.toArray T)) w.heap.size=some (cs,T):=by
 rw[jS];exact heap_alloc_new w _
theorem uC {w:World} {o:Obj} {k:Nat} (h:k<w.heap.size):B (w.alloc o) k=B w k:=by
 unfold B;rw[Go.heap_alloc_old w o h]
@[simp] theorem yF {w:World} {k:Nat}:B w.drew k=B w k:=rfl
@[simp] theorem xZ {w:World} {b:Nat} {cs:List Value}:wr w.drew b cs=(wr w b cs).drew:=rfl
@[simp] theorem aO (b o n:Nat):(⟨b,o,none⟩:Addr).add n=⟨b,o+n,none⟩:=by
 unfold Addr.add;split<;>simp_all
theorem jE {w:World} {b o:Nat} {cs:List Value} {T:TypeId} (h:B w b=some (cs,T)):w.cell? ⟨b,o,none⟩=cs[o]?:=by
 simp[World.cell?,jS.1 h]
theorem sD {w:World} {b o:Nat} {cs:List Value} {T:TypeId} (h:B w b=some (cs,T)):w.frozen? ⟨b,o,none⟩=false:=by
 simp[World.frozen?,jS.1 h]
section
variable {w : World} {b o : Nat} {cs : List Value} {T : TypeId}
theorem jZ {k:IntKind} {a:Addr} {x:Int} (h:w.cell? a=some (.int k x)):ldI k w a=some x:=by simp[ldI,h]
theorem tC {a:Addr} {x:Bool} (h:w.cell? a=some (.bool x)):ldB w a=some x:=by simp[ldB,h]
theorem lE {a:Addr} {x:ByteArray} (h:w.cell? a=some (.string x)):ldS w a=some x:=by simp[ldS,h]
theorem gP {a:Addr} {s:Sl} (h:w.cell? a=some s.v):ldL w a=some s:=by simp[ldL,h,Sl.v]
theorem xT {k:IntKind} {x:Int} (h:B w b=some (cs,T)) (hx:cs[o]?=some (.int k x)):ldI k w ⟨b,o,none⟩=some x:=jZ ((jE h).trans hx)
theorem xO {x:Bool} (h:B w b=some (cs,T)) (hx:cs[o]?=some (.bool x)):ldB w ⟨b,o,none⟩=some x:=tC ((jE h).trans hx)
theorem xY {s:Sl} (h:B w b=some (cs,T)) (hx:cs[o]?=some s.v):ldL w ⟨b,o,none⟩=some s:=gP ((jE h).trans hx)
theorem lM:∀ (n:Nat) (w:World) (a:Addr) (i:Nat) (l:List Value),l.length=n->(∀ j v,l[j]?=some v->w.cell? (a.add (i+j))=some v)->ldA n w a i=some l
 | 0,_,_,_,l,h,_=>by rw[aAv h];rfl
 | n+1,w,a,i,[],h,_=>by simp at h
 | n+1,w,a,i,v::l,h,hc=>by
  have h0:=hc 0 v rfl;simp only[aAN] at h0;simp only[ldA,h0,aBN];rw[lM n w a (i+1) l (by simpa using h) (fun j u hu=>by have:=hc (j+1) u (by simpa using hu);rwa[show i+(j+1)=i+1+j by omega] at this)];rfl
theorem sJ {n:Nat} (h:B w b=some (cs,T)) (hn:o+n<=cs.length):ldA n w ⟨b,o,none⟩ 0=some ((cs.drop o).take n):=by
 refine lM n w _ 0 _ (by simp;omega) fun j v hv=>?_;rw[List.getElem?_take] at hv;split at hv
 .simp only[aBO,aO];rw[jE h,<-hv,List.getElem?_drop]
 cases hv
theorem qM {v:Value} (h:B w b=some (cs,T)):w.setCell ⟨b,o,none⟩ v=wr w b (cs.set o v):=by
 have hh:=jS.1 h;have hb:=vB h;have e:w.heap.modify b (fun | .cells c elem frozen=>.cells (if (none:Option Nat).isSome then c else c.setIfInBounds o v) elem frozen | o=>o)=w.heap.modify b (fun | .cells _ T fz=>.cells (cs.set o v).toArray T fz | o=>o):=by
  apply aBx;intro i;rw[aAK,aAK];by_cases hi:b=i
  .subst hi;simp only[if_true,hh,aAq];simp
  simp[hi]
 simp only[World.setCell,wr];rw[<-e];rfl
theorem tK {v:Value} (h:B w b=some (cs,T)) (ho:o<cs.length) (hv:v.oneCell'=true):stV w ⟨b,o,none⟩ v=some (wr w b (cs.set o v)):=by
 unfold stV;rw[if_pos ⟨hv,by rw[jE h,aAk ho];rfl,sD h⟩,qM h]
theorem xM {c d:List Value}:wr (wr w b c) b d=wr w b d:=by
 simp only[wr];congr 1;apply aBx;intro i;simp only[aAK];by_cases hi:b=i
 .subst hi;simp only[if_true,Option.map_map];congr 1
  funext x
  cases x<;>rfl
 simp[hi]
theorem uK (h:B w b=some (cs,T)):wr w b cs=w:=by
 have hh:=jS.1 h;simp only[wr];have:(w.heap.modify b fun | .cells _ T fz=>.cells cs.toArray T fz | o=>o)=w.heap:=by
  apply aBx;intro i;rw[aAK];by_cases hi:b=i
  .subst hi;simp[hh]
  simp[hi]
 rw[this]
def pJ (cs:List Value) (o:Nat) (vs:List Value):List Value:=cs.take o++vs++cs.drop (o+vs.length)
theorem rI {v:Value} {vs:List Value} (ho:o+(vs.length+1)<=cs.length):pJ (cs.set o v) (o+1) vs=pJ cs o (v::vs):=by
 simp only[pJ,aAE];have h1:o<cs.length:=by omega
 rw[aBg (by simpa using h1),List.take_set_of_le (aAH _),List.drop_set_of_lt (by omega),List.getElem_set_self];simp[aBM,Nat.add_comm 1]
theorem vS:∀ (vs:List Value) (i:Nat) (w:World) (cs:List Value),B w b=some (cs,T)->o+i+vs.length<=cs.length->(∀ v∈vs,v.oneCell'=true)->stA w ⟨b,o,none⟩ i vs=some (wr w b (pJ cs (o+i) vs))
 | [],i,w,cs,h,ho,_=>by simp only[stA,pJ];simp[uK h]
 | v::vs,i,w,cs,h,ho,hv=>by
  simp only[aAE] at ho;simp only[stA,aO];rw[tK h (by omega) (hv v (by simp)),aBN,vS vs (i+1) _ _ (sN h) (by simp;omega) (fun u hu=>hv u (by simp[hu])),xM];rw[show o+(i+1)=o+i+1 by omega,rI (by omega)]
end
structure Fr (S:Nat->Prop) (w w':World):Prop where
 os:w'.os=w.os
 tape:w'.tape=w.tape
 output:w'.output=w.output
 size:w.heap.size<=w'.heap.size
 block:∀ k,k<w.heap.size->¬ S k->w'.heap[k]?=w.heap[k]?
section
variable {S : Nat -> Prop} {w w' w'' : World}
theorem Fr.refl:Fr S w w:=⟨rfl,rfl,rfl,aAH _,fun _ _ _=>rfl⟩
theorem Fr.trans (h:Fr S w w') (k:Fr S w' w''):Fr S w w'' :=
 ⟨k.os.trans h.os,k.tape.trans h.tape,k.output.trans h.output,aAO h.size k.size,fun i hi hs=>(k.block i (aAW hi h.size) hs).trans (h.block i hi hs)⟩
theorem Fr.trans_new {S':Nat->Prop} (h:Fr S w w') (k:Fr S' w' w'') (hs:∀ i,S' i->S i\/w.heap.size<=i):Fr S w w'' :=
 ⟨k.os.trans h.os,k.tape.trans h.tape,k.output.trans h.output,aAO h.size k.size,fun i hi hn=>(k.block i (aAW hi h.size) fun h'=>(hs i h').elim hn (fun h2=>by omega)).trans (h.block i hi hn)⟩
theorem Fr.mono {S':Nat->Prop} (h:Fr S w w') (hs:∀ i,S i->S' i\/w.heap.size<=i):Fr S' w w' :=
 ⟨h.os,h.tape,h.output,h.size,fun i hi hn=>h.block i hi fun h'=>(hs i h').elim hn (fun h2=>by omega)⟩
theorem Fr.alloc (h:Fr S w w') (o:Obj):Fr S w (w'.alloc o) :=
 h.trans ⟨rfl,rfl,rfl,by simp,fun k hk _=>Go.heap_alloc_old w' o hk⟩
theorem Fr.drew (h:Fr S w w'):Fr S w w'.drew:=⟨h.os,h.tape,h.output,h.size,h.block⟩
theorem Fr.wr (h:Fr S w w') {b:Nat} (hb:S b\/w.heap.size<=b) (cs:List Value):Fr S w (wr w' b cs) :=
 h.trans_new (S':=fun k=>k=b) ⟨rfl,rfl,rfl,by simp,fun k _ hk=>lX hk⟩ (fun i hi=>by subst hi;exact hb)
theorem Fr.B (h:Fr S w w') {k:Nat} {x:List Value×TypeId} (hk:B w k=some x) (hs:¬ S k):D.B w' k=some x:=by
 have:=h.block k (vB hk) hs;unfold D.B at hk ⊢;rwa[this]
theorem Fr.cell (h:Fr S w w') {a:Addr} {v:Value} (hc:w.cell? a=some v) (hs:¬ S a.block):w'.cell? a=some v:=by
 have hb:=World.block_lt_of_cell? w a hc;exact(World.cell?_of_block (h.block a.block hb hs)).trans hc
theorem Fr.below {n:Nat} (h:Fr S w w') (hn:n<=w.heap.size) (hs:∀ i,S i->n<=i):Go.RowKit.Below n w w' :=
 ⟨h.os,h.tape,h.output,h.size,fun k hk=>h.block k (by omega) fun h'=>by have:=hs k h';omega⟩
end
structure Rd (w:World) (s:Sl) (sz:Nat) (cs:List Value):Prop where
 len:cs.length=s.n*sz
 at_:0<s.n->∃ a,s.p=some a/\∀ j v,cs[j]?=some v->w.cell? (a.add j)=some v
theorem Rd.fr {S : Nat -> Prop} {w w' : World} {s : Sl} {sz : Nat} {cs : List Value} (h : Rd w s sz cs) (hf : Fr S w w') (hs : ∀ a, s.p = some a -> 0 < s.n -> ¬ S a.block) : Rd w' s sz cs :=
  ⟨h.len, fun hn => by
    obtain ⟨a, e, hc⟩ := h.at_ hn
    exact ⟨a, e, fun j v hv => hf.cell (hc j v hv) (by have : (a.add j).block = a.block := by unfold Addr.add; split <;> rfl
                                                       rw [this]; exact hs a e hn)⟩⟩
theorem Rd.nil {w:World} {s:Sl} {sz:Nat} (h:s.n=0):Rd w s sz []:=⟨by simp[h],fun h'=>by omega⟩
theorem Rd.ix {w:World} {s:Sl} {sz:Nat} {cs:List Value} (h:Rd w s sz cs) {i:Nat} (hi:i<s.n):∃ a,ix s i sz=some a/\∀ j v,j<sz->cs[i*sz+j]?=some v->w.cell? (a.add j)=some v:=by
 obtain⟨a,e,hc⟩:=h.at_ (by omega);refine⟨a.add (i*sz),by unfold D.ix;rw[e,aBN,if_pos ⟨by omega,by omega⟩];simp,fun j v hj hv=>?_⟩;have:=hc _ _ hv;have e2:(a.add (i*sz)).add j=a.add (i*sz+j):=by
  unfold Addr.add;split
  .split<;>simp_all
  split
  .simp_all
  rw[if_neg (by omega)];simp[aBM]
 rwa[e2]
def nums (k:IntKind) (xs:List Int):List Value:=xs.map fun x=>.int k x
@[simp] theorem vK {k:IntKind} {xs:List Int}:(nums k xs).length=xs.length:=by simp[nums]
structure ST (P:Program) (t e:TypeId) (sz by_:Nat) (Z:List Value):Prop where
 ht:P.underlying t=some (.slice e)
 hi:∃ (i:TypeInfo) (z:Value),P.info? e=some i/\i.zero=some z/\z.cells=Z.toArray/\i.size=sz/\i.bytes=by_
 hZ:Z.length=sz
 pos:0<sz
 bpos:0<by_
def Sl.blk (s:Sl) (k:Nat):Prop:=∃ a,s.p=some a/\a.block=k
structure Own (w:World) (T:TypeId) (s:Sl) (sz:Nat) (cs:List Value):Prop where
 len:cs.length=s.n*sz
 cap:s.n<=s.c
 max:s.c<=9223372036854775807
 h:(s.p=none/\s.n=0/\s.c=0)\/∃ g rest,s.p=some ⟨g,0,none⟩/\B w g=some (cs++rest,T)/\rest.length=(s.c-s.n)*sz
section
variable {P : Program} {t e T : TypeId} {sz by_ : Nat} {Z : List Value} {w w' : World} {s y : Sl} {cs ys : List Value}
theorem Own.nil:Own w T Sl.nil sz []:=⟨by simp[Sl.nil],aAH _,by simp[Sl.nil],.inl ⟨rfl,rfl,rfl⟩⟩
theorem Own.rd (h:Own w T s sz cs):Rd w s sz cs:=⟨h.len,fun hn=>by
 rcases h.h with⟨_,h0,_⟩ | ⟨g,rest,hp,hb,_⟩
 .omega
 refine⟨_,hp,fun j v hv=>?_⟩;rw[aO,jE hb,aAo (by simpa using(aAi.1 hv).1)];simpa using hv⟩
theorem Own.fr {S:Nat->Prop} (h:Own w T s sz cs) (hf:Fr S w w') (hs:∀ k,s.blk k->¬ S k):Own w' T s sz cs :=
 ⟨h.len,h.cap,h.max,by
  rcases h.h with h0 | ⟨g,rest,hp,hb,hr⟩
  .exact .inl h0
  exact .inr ⟨g,rest,hp,hf.B hb (hs g ⟨_,hp,rfl⟩),hr⟩⟩
theorem Own.lt (h:Own w T s sz cs) {k:Nat} (hk:s.blk k):k<w.heap.size:=by
 obtain⟨a,ha,rfl⟩:=hk;rcases h.h with⟨hp,_⟩ | ⟨g,rest,hp,hb,_⟩
 .rw[hp] at ha;cases ha
 rw[hp] at ha;cases ha;exact vB hb
theorem Own.ty (h:Own w T s sz cs) {k:Nat} (hk:s.blk k):∃ c,B w k=some (c,T):=by
 obtain⟨a,ha,rfl⟩:=hk;rcases h.h with⟨hp,_⟩ | ⟨g,rest,hp,hb,_⟩
 .rw[hp] at ha;cases ha
 rw[hp] at ha;cases ha;exact⟨_,hb⟩
theorem mQ (Z:List Value) (n sz:Nat) (hZ:Z.length=sz) (hp:0<sz):(madeCells Z.toArray (n*sz)).toList=(List.replicate n Z).flatten:=by
 apply List.ext_getElem?;intro i;by_cases hi:i<n*sz
 .have h1:(madeCells Z.toArray (n*sz)).toList[i]?=some (Z[i % sz]'(by rw[hZ];exact Nat.mod_lt _ hp)):=by
   simp[madeCells,hi,hZ];rw[aAk (by rw[hZ];exact Nat.mod_lt _ hp)];rfl
  rw[h1];clear h1
  induction n generalizing i with
  | zero=>simp at hi
  | succ n ih =>
   rw[List.replicate_succ,List.flatten_cons];by_cases h2:i<sz
   .rw[aAo (by omega),aAk (by omega)];congr 1;congr 1;exact Nat.mod_eq_of_lt h2
   rw[aAQ (by omega),show i-Z.length=i-sz by rw[hZ]];have h3:i-sz<n*sz:=by rw[aBb] at hi;omega
   rw[<-ih (i-sz) h3];congr 1;congr 1;exact Nat.mod_eq_sub_mod (by omega)
 rw[aBn (by simp[madeCells];omega),aBn (by simp[hZ];omega)]
theorem wW (st:ST P t e sz by_ Z) {n:Int} (h0:0<=n) (hb:(by_:Int)*n<=281474976710656) :
  mkS P t n n w=some (⟨some ⟨w.heap.size,0,none⟩,n.toNat,n.toNat⟩,w.alloc (.cells ((List.replicate n.toNat Z).flatten).toArray e)):=by
 obtain⟨i,z,hi,hz,hzc,hs,hby⟩:=st.hi;subst hs;subst hby;have hn:n<=281474976710656:=by
  have:(1:Int)*n<=(i.bytes:Int)*n:=aBo (by have:=st.bpos;omega) h0;omega
 have hr:=run_make (P:=P) w t e i z st.ht hi hz .i64 .i64 n n h0 (Int.le_refl _) hb (by omega);unfold mkS;rw[hr];simp only;congr 4;apply Array.ext';rw[hzc,mQ Z _ _ st.hZ st.pos]
theorem rS {w:World} {g:Nat} {c cs:List Value} {T:TypeId} (h:B w g=some (c,T)):w.setRow g cs.toArray=wr w g cs:=by
 have hh:=jS.1 h;simp only[World.setRow,wr];congr 1
theorem oH {z:Array Value} {n:Nat}:(Builtin.zeroCells z n).size=n*z.size:=size_zeroCells z n
theorem uI (st:ST P t e sz by_ Z) (h:Own w e s sz cs) (hy:Rd w y sz ys) (h1:∀ v∈ys,v.oneCell'=true) (hb:(s.n+y.n)*by_<=140737488355328) :
  ∃ s' w',apS P t s y w=some (s',w')/\Own w' e s' sz (cs++ys)/\Fr s.blk w w'/\s'.n=s.n+y.n/\(∀ k,s'.blk k->s.blk k\/w.heap.size<=k):=by
 obtain⟨i,z,hi,hz,hzc,hs,hby⟩:=st.hi;subst hs;subst hby;have h63:s.n+y.n<=140737488355328:=aAO (Nat.le_mul_of_pos_right _ st.bpos) hb;have hzs:z.cells.size=i.size:=by rw[hzc];simpa using st.hZ
 obtain⟨yp,yn,yc⟩:=y;obtain⟨sp,sn,sc⟩:=s;have hlen:=h.len;have hcap:=h.cap;have hmax:=h.max;have hylen:=hy.len
 simp only at hlen hcap hmax hylen h63 hb;have fits:∀ old,old<sn+yn->Builtin.nextslicecap (sn+yn) old*i.bytes<=281474976710656:=fun old ho=>growslice_fits ho hb
 -- a new block
 have newOwn:∀ (old:Nat) (olds:List Value),olds=cs->Own (w.drew.alloc (.cells (olds.toArray++ys.toArray++Builtin.zeroCells z.cells (grownCap w (sn+yn) old e-(sn+yn))) e)) e
   ⟨some ⟨w.heap.size,0,none⟩,sn+yn,grownCap w (sn+yn) old e⟩ i.size (cs++ys):=by
  intro old olds ho;subst ho;have hge:=grownCap_ge w (sn+yn) old e;have hle:grownCap w (sn+yn) old e<=9223372036854775807:=by
   have:=grownCap_le_maxLen w (sn+yn) old e (by simp[maxLen];omega);simpa[maxLen] using this
  refine⟨by simp[hlen,hylen,Nat.add_mul],hge,hle,.inr ⟨w.heap.size,(Builtin.zeroCells z.cells (grownCap w (sn+yn) old e-(sn+yn))).toList,rfl,?_,by simp[oH,hzs]⟩⟩;rw[jS,show(olds++ys++(Builtin.zeroCells z.cells (grownCap w (sn+yn) old e-(sn+yn))).toList).toArray=olds.toArray++ys.toArray++Builtin.zeroCells z.cells (grownCap w (sn+yn) old e-(sn+yn)) by simp];exact heap_alloc_new w.drew _
 have newFr:∀ (S:Nat->Prop) (o:Obj),Fr S w (w.drew.alloc o):=fun S o=>(Fr.refl.drew).alloc o
 cases yp with
 | none =>
  have hy0:yn=0:=by
   rcases aBy yn with h0 | h0
   .exact h0
   obtain⟨a,ha,_⟩:=hy.at_ h0;cases ha
  subst hy0;have hys:ys=[]:=aAv (by simpa using hylen);subst hys;have hr:(Builtin.append_ #[t,t] t #[.slice sp sn sc,.slice none 0 yc]).run P w = .ok (.slice sp sn sc) w:=by
   cases sp<;>simp[Builtin.append_,run_underlying st.ht,sizeOf,typeInfo,hi,Builtin.lenOf,Builtin.firstCells,hcap,storeCells]
  refine⟨⟨sp,sn,sc⟩,w,by simp[apS,Sl.v,hr],by simpa using h,Fr.refl,by simp,fun k hk=>.inl hk⟩
 | some ya =>
  have hnews:∀ j u,ys[j]?=some u->w.cell? (ya.add j)=some u:=by
   intro j u hu;have hn:0<yn:=by
    have:=(aAi.1 hu).1;rcases aBy yn with h0 | h0
    .rw[h0] at hylen;omega
    exact h0
   obtain⟨a,ha,hc⟩:=hy.at_ hn;cases ha;exact hc j u hu
  rcases h.h with⟨hp,h0,hc0⟩ | ⟨g,rest,hp,hB,hrest⟩
  .simp only at hp h0 hc0;subst hp;subst h0;subst hc0;have hcs:cs=[]:=aAv (by simpa using hlen);subst hcs;rcases aBy yn with hy0 | hy0
   .subst hy0;have hys:ys=[]:=aAv (by simpa using hylen);subst hys;have hr:(Builtin.append_ #[t,t] t #[.slice none 0 0,.slice (some ya) 0 yc]).run P w = .ok (.slice none 0 0) w:=by
     simp[Builtin.append_,run_underlying st.ht,sizeOf,typeInfo,hi,Builtin.lenOf,Builtin.firstCells,loadCells,loadCellsFrom]
    exact⟨⟨none,0,0⟩,w,by simp[apS,Sl.v,hr],by simpa using h,Fr.refl,by simp,fun k hk=>.inl hk⟩
   have hr:=run_append_nil (P:=P) w t t e i z st.ht hi hz ya yn yc ys hylen hnews hy0 (by omega) (by simp only[aBO] at hb;omega);have no:=newOwn 0 [] rfl;simp only[aBO,Array.empty_append] at no ⊢;refine⟨⟨some ⟨w.heap.size,0,none⟩,yn,grownCap w yn 0 e⟩,w.drew.alloc (.cells (ys.toArray++Builtin.zeroCells z.cells (grownCap w yn 0 e-yn)) e),by simp only[apS,Sl.v,hr],by simpa using no,newFr _ _,rfl,fun k hk=>?_⟩;obtain⟨a,ha,rfl⟩:=hk;cases ha;right;simp
  simp only at hp hrest;subst hp;by_cases hroom:sn+yn<=sc
  .have hr:=run_append_room (P:=P) w t t e i st.ht hi g sn sc (cs++rest).toArray (jS.1 hB) ya yn yc ys hylen hnews h1 hroom (by simp[hlen,hrest,hylen];rw[Nat.sub_mul];have:=aBq i.size hroom;have:=aBq i.size hcap;rw[Nat.add_mul] at *;omega);have e1:((cs++rest).toArray.toList.take (sn*i.size)++ys++(cs++rest).toArray.toList.drop (sn*i.size+ys.length))=(cs++ys)++rest.drop ys.length:=by
    simp only[<-hlen];simp
   rw[e1,rS hB] at hr;refine⟨⟨some ⟨g,0,none⟩,sn+yn,sc⟩,wr w g (cs++ys++rest.drop ys.length),by simp only[apS,Sl.v,hr],⟨by simp[hlen,hylen,Nat.add_mul],hroom,hmax,.inr ⟨g,rest.drop ys.length,rfl,by rw[sN hB],by simp[hrest,hylen,<-Nat.sub_mul];congr 1;omega⟩⟩,(Fr.refl).wr (.inl ⟨_,rfl,rfl⟩) _,rfl,fun k hk=>.inl hk⟩
  have holds:∀ j u,cs[j]?=some u->w.cell? ((⟨g,0,none⟩:Addr).add j)=some u:=by
   intro j u hu;rw[aO,jE hB,aBO,aAo (aAi.1 hu).1];exact hu
  have hr:=run_append_grow (P:=P) w t t e i z st.ht hi hz ⟨g,0,none⟩ sn sc cs hlen holds ya yn yc ys hylen hnews (by omega) (by omega) (fits sc (by omega));refine⟨⟨some ⟨w.heap.size,0,none⟩,sn+yn,grownCap w (sn+yn) sc e⟩,w.drew.alloc (.cells (cs.toArray++ys.toArray++Builtin.zeroCells z.cells (grownCap w (sn+yn) sc e-(sn+yn))) e),by simp only[apS,Sl.v,hr],newOwn sc cs rfl,newFr _ _,rfl,fun k hk=>?_⟩;obtain⟨a,ha,rfl⟩:=hk;cases ha;right;simp
end
structure Fz (n:Nat) (S:Nat->Prop) (w w':World):Prop where
 os:w'.os=w.os
 tape:w'.tape=w.tape
 output:w'.output=w.output
 size:w.heap.size<=w'.heap.size
 block:∀ k,k<n->¬ S k->w'.heap[k]?=w.heap[k]?
section
variable {n b o : Nat} {S : Nat -> Prop} {w w' w'' : World} {cs : List Value} {T : TypeId}
theorem Fz.refl:Fz n S w w:=⟨rfl,rfl,rfl,aAH _,fun _ _ _=>rfl⟩
theorem Fz.trans (h:Fz n S w w') (k:Fz n S w' w''):Fz n S w w'' :=
 ⟨k.os.trans h.os,k.tape.trans h.tape,k.output.trans h.output,aAO h.size k.size,fun i hi hs=>(k.block i hi hs).trans (h.block i hi hs)⟩
theorem Fz.fr (h:Fz w.heap.size S w w'):Fr S w w':=⟨h.os,h.tape,h.output,h.size,h.block⟩
theorem Fr.fz {S':Nat->Prop} (h:Fr S' w w') (hn:n<=w.heap.size) (hs:∀ k,S' k->S k\/n<=k):Fz n S w w' :=
 ⟨h.os,h.tape,h.output,h.size,fun k hk hS=>h.block k (by omega) fun h'=>(hs k h').elim hS (fun h2=>by omega)⟩
theorem Fz.B (h:Fz n S w w') {k:Nat} {x:List Value×TypeId} (hk:B w k=some x) (hn:k<n) (hs:¬ S k):D.B w' k=some x:=by
 have:=h.block k hn hs;unfold D.B at hk ⊢;rwa[this]
theorem Fz.mono {S':Nat->Prop} {m:Nat} (h:Fz n S w w') (hs:∀ i,i<m->S i->S' i) (hm:m<=n):Fz m S' w w' :=
 ⟨h.os,h.tape,h.output,h.size,fun i hi hn=>h.block i (by omega) fun h'=>hn (hs i hi h')⟩
structure One (b:Nat) (w w':World):Prop where
 os:w'.os=w.os
 tape:w'.tape=w.tape
 output:w'.output=w.output
 size:w'.heap.size=w.heap.size
 block:∀ k,k≠b->w'.heap[k]?=w.heap[k]?
theorem One.fz (h:One b w w') (hb:S b\/n<=b):Fz n S w w' :=
 ⟨h.os,h.tape,h.output,Nat.le_of_eq h.size.symm,fun k hk hs=>h.block k fun e=>by subst e;exact hb.elim hs (fun h2=>by omega)⟩
theorem One.fr (h:One b w w') (hb:S b):Fr S w w':=⟨h.os,h.tape,h.output,Nat.le_of_eq h.size.symm,fun k hk hs=>h.block k fun e=>by subst e;exact hs hb⟩
theorem One.B (h:One b w w') {k:Nat} (hk:k≠b):D.B w' k=D.B w k:=by unfold D.B;rw[h.block k hk]
theorem One.wr (w:World) (b:Nat) (cs:List Value):One b w (wr w b cs):=⟨rfl,rfl,rfl,by simp,fun k hk=>lX hk⟩
theorem One.own {e:TypeId} {s:Sl} {sz:Nat} (h:One b w w') (ho:Own w e s sz cs) (hb:¬ s.blk b):Own w' e s sz cs :=
 ho.fr (S:=fun k=>k=b) (h.fr rfl) (fun k hk e=>hb (e ▸ hk))
theorem wR {x:Obj}:Fr S w (w.alloc x):=Fr.refl.alloc x
structure New (w w':World) (cs:List Value) (T:TypeId):Prop where
 b:B w' w.heap.size=some (cs,T)
 fr:∀ (n:Nat) (S:Nat->Prop),n<=w.heap.size->Fz n S w w'
 size:w'.heap.size=w.heap.size+1
 old:∀ k,k<w.heap.size->B w' k=B w k
theorem oT:New w (w.alloc (.cells cs.toArray T)) cs T :=
 ⟨vR,fun n S hn=>(wR (S:=S)).fz hn (fun _ h=>.inl h),by simp,fun k hk=>uC hk⟩
theorem xL {sz:Nat} {ps:List (List Value)} (h:∀ p∈ps,p.length=sz):∃ w',bsl w T sz ps=some (⟨some ⟨w.heap.size,0,none⟩,ps.length,ps.length⟩,w')/\New w w' ps.flatten T:=by
 refine⟨_,?_,oT⟩;unfold bsl;rw[if_pos (by simpa using h)]
theorem xP {P:Program} {t e:TypeId} {sz by_:Nat} {Z:List Value} (st:ST P t e sz by_ Z) {m:Int} (h0:0<=m) (hb:(by_:Int)*m<=281474976710656) :
  ∃ w',mkS P t m m w=some (⟨some ⟨w.heap.size,0,none⟩,m.toNat,m.toNat⟩,w')/\New w w' (List.replicate m.toNat Z).flatten e:=⟨_,wW st h0 hb,oT⟩
theorem Own.of_new {e:TypeId} {sz:Nat} {m:Nat} (h:New w w' cs e) (hl:cs.length=m*sz) (hm:m<=9223372036854775807):Own w' e ⟨some ⟨w.heap.size,0,none⟩,m,m⟩ sz cs :=
 ⟨hl,aAH _,hm,.inr ⟨_,[],rfl,by simpa using h.b,by simp⟩⟩
end
theorem lQ {α:Type} {f:α->List Value} {sz:Nat} (l:List α) (h:∀ x∈l,(f x).length=sz):(l.flatMap f).length=l.length*sz:=by
 induction l with
 | nil=>simp
 | cons x l ih =>
  simp only[aBl,aAV,aAE];rw[h x (by simp),ih (fun y hy=>h y (by simp[hy])),aBb];omega
section
variable {w w' : World} {n : Nat} {F : Nat -> Prop}
def Out (F:Nat->Prop) (s:Sl):Prop:=∀ a,s.p=some a->0<s.n->¬ F a.block
theorem Out.nil:Out F Sl.nil:=fun a ha=>by cases ha
structure Arg (n:Nat) (w:World) (s:Sl) (sz:Nat) (cs:List Value):Prop where
 rd:Rd w s sz cs
 lo:∀ a,s.p=some a->0<s.n->a.block<n
theorem Arg.fr {s:Sl} {sz:Nat} {cs:List Value} (h:Arg n w s sz cs) (hf:Fr (fun k=>n<=k) w w'):Arg n w' s sz cs :=
 ⟨h.rd.fr hf (fun a ha h0=>by have:=h.lo a ha h0;omega),h.lo⟩
theorem Arg.out {s:Sl} {sz:Nat} {cs:List Value} (h:Arg n w s sz cs):Out (fun k=>n<=k) s:=fun a ha h0 hk=>by have:=h.lo a ha h0;omega
end
theorem lI (a:Addr) (i j:Nat):(a.add i).add j=a.add (i+j):=by
 unfold Addr.add;by_cases hi:i=0<;>by_cases hj:j=0<;>simp[hi,hj,aBM]
theorem uP {w:World} {a:Addr} {v:Value} (h:w.cell? a=some v):a.block<w.heap.size:=by
 rcases aBH a.block w.heap.size with h' | h'
 .exact h'
 simp[World.cell?,Array.getElem?_eq_none h'] at h
abbrev Gh:=Nat->Prop
structure Mo (g:Gh) (w:World) (g':Gh) (w':World):Prop where
 size:w.heap.size<=w'.heap.size
 keep:∀ k,g k->g' k/\w'.heap[k]?=w.heap[k]?
theorem Mo.r {g:Gh} {w:World}:Mo g w g w:=⟨aAH _,fun k h=>⟨h,rfl⟩⟩
theorem Mo.t {g g' g'':Gh} {w w' w'':World} (h:Mo g w g' w') (k:Mo g' w' g'' w''):Mo g w g'' w'' :=
 ⟨aAO h.size k.size,fun i hi=>⟨(k.keep i (h.keep i hi).1).1,(k.keep i (h.keep i hi).1).2.trans (h.keep i hi).2⟩⟩
theorem Mo.cell {g g':Gh} {w w':World} (h:Mo g w g' w') {a:Addr} {v:Value} (hg:g a.block) (hc:w.cell? a=some v):w'.cell? a=some v :=
 (World.cell?_of_block (h.keep _ hg).2).trans hc
structure Rs where
 h:Gh->World->(Nat->Prop)->Prop
 st:∀ {g:Gh} {w:World} {F:Nat->Prop} {g':Gh} {w':World},h g w F->Mo g w g' w'->(∀ k,F k->w'.heap[k]?=w.heap[k]?)->h g' w' F
 lt:∀ {g:Gh} {w:World} {F:Nat->Prop} {k:Nat},h g w F->F k->k<w.heap.size
structure Sp (F:Nat->Prop) (g:Gh) (w:World) (g':Gh) (w':World):Prop where
 fr:Fr F w w'
 gh:∀ k,k<w.heap.size->¬ F k->(g' k↔g k)
 mo:Mo g w g' w'
 lt:∀ k,g' k->k<w'.heap.size
abbrev Nw (g:Gh) (w:World) (g':Gh) (w':World):Prop:=Sp (fun _=>False) g w g' w'
def Sep (g:Gh) (w:World):(Nat->Prop)->List Rs->Prop
 | _,[]=>True
 | A,r::L=>∃ F:Nat->Prop,r.h g w F/\(∀ k,F k->A k/\¬ g k)/\Sep g w (fun k=>A k/\¬ F k) L
structure Hp (F0:Nat->Prop) (g0:Gh) (w0:World) (g:Gh) (w:World) (L:List Rs):Prop where
 sp:Sp F0 g0 w0 g w
 sep:Sep g w (fun k=>F0 k\/w0.heap.size<=k) L
section
variable {F F' F0 A A' : Nat -> Prop} {g g' g'' g0 : Gh} {w w' w'' w0 : World} {L : List Rs} {r r' s q u v : Rs}
theorem Sp.rfl' (h:∀ k,g k->k<w.heap.size):Sp F g w g w:=⟨Fr.refl,fun _ _ _=>Iff.rfl,Mo.r,h⟩
theorem Sp.t (h : Sp F g w g' w') (k : Sp F' g' w' g'' w'') (hF : ∀ i, i < w.heap.size -> F' i -> F i) : Sp F g w g'' w'' :=
  ⟨h.fr.trans_new k.fr (fun i hi => (aBH i w.heap.size).elim (fun hl => .inl (hF i hl hi)) .inr),
   fun i hi hn => (k.gh i (aAW hi h.fr.size) (fun h' => hn (hF i hi h'))).trans (h.gh i hi hn), h.mo.t k.mo, k.lt⟩
theorem Nw.t (h:Nw g w g' w') (k:Nw g' w' g'' w''):Nw g w g'' w'':=Sp.t h k (fun _ _ h=>h)
theorem Sp.size (h:Sp F g w g' w'):w.heap.size<=w'.heap.size:=h.fr.size
theorem Sep.mono:∀ {L:List Rs} {A A':Nat->Prop},Sep g w A L->(∀ k,k<w.heap.size->A k->A' k)->Sep g w A' L
 | [],_,_,_,_=>trivial
 | r::L,A,A',⟨F,h,hF,hL⟩,hA=>⟨F,h,fun k hk=>⟨hA k (r.lt h hk) (hF k hk).1,(hF k hk).2⟩,hL.mono fun k hk h=>⟨hA k hk h.1,h.2⟩⟩
theorem Sep.step:∀ {L:List Rs} {A A':Nat->Prop},Sep g w A L->Mo g w g' w'->(∀ k,k<w.heap.size->A k->w'.heap[k]?=w.heap[k]?/\(g' k->g k)/\A' k)->Sep g' w' A' L
 | [],_,_,_,_,_=>trivial
 | r::L,A,A',⟨F,h,hF,hL⟩,m,hA =>
  ⟨F,r.st h m (fun k hk=>(hA k (r.lt h hk) (hF k hk).1).1),fun k hk=>⟨(hA k (r.lt h hk) (hF k hk).1).2.2,fun hg=>(hF k hk).2 ((hA k (r.lt h hk) (hF k hk).1).2.1 hg)⟩,
   hL.step m fun k hk h=>⟨(hA k hk h.1).1,(hA k hk h.1).2.1,(hA k hk h.1).2.2,h.2⟩⟩
theorem Sep.sw (h:Sep g w A (r::s::L)):Sep g w A (s::r::L):=by
 obtain⟨F,h1,h2,F',h3,h4,h5⟩:=h;exact⟨F',h3,fun k hk=>⟨(h4 k hk).1.1,(h4 k hk).2⟩,F,h1,fun k hk=>⟨⟨(h2 k hk).1,fun h'=>(h4 k h').1.2 hk⟩,(h2 k hk).2⟩,h5.mono fun k _ h=>⟨⟨h.1.1,h.2⟩,h.1.2⟩⟩
theorem Sep.tl (h:Sep g w A (r::L)):Sep g w A L:=by
 obtain⟨F,h1,h2,h3⟩:=h;exact h3.mono fun k _ h=>h.1
theorem Sep.sub (h:Sep g w A (r::L)) (k:∀ A,Sep g w A L->Sep g w A' []):True:=trivial
theorem Sep.cons (h:Sep g w A (r::L)) {L':List Rs} (k:∀ A,Sep g w A L->Sep g w A L'):Sep g w A (r::L'):=by
 obtain⟨F,h1,h2,h3⟩:=h;exact⟨F,h1,h2,k _ h3⟩
theorem Hp.lt (H:Hp F0 g0 w0 g w L):∀ k,g k->k<w.heap.size:=H.sp.lt
theorem Hp.tl (H:Hp F0 g0 w0 g w (r::L)):Hp F0 g0 w0 g w L:=⟨H.sp,H.sep.tl⟩
theorem Hp.sw (H:Hp F0 g0 w0 g w (r::s::L)):Hp F0 g0 w0 g w (s::r::L):=⟨H.sp,H.sep.sw⟩
theorem Hp.m2 (H:Hp F0 g0 w0 g w (r::s::q::L)):Hp F0 g0 w0 g w (q::r::s::L):=⟨H.sp,(H.sep.cons fun _ h=>h.sw).sw⟩
theorem Hp.m3 (H:Hp F0 g0 w0 g w (r::s::q::u::L)):Hp F0 g0 w0 g w (u::r::s::q::L):=⟨H.sp,((H.sep.cons fun _ h=>(h.cons fun _ h=>h.sw).sw).sw)⟩
theorem Hp.m4 (H:Hp F0 g0 w0 g w (r::s::q::u::v::L)):Hp F0 g0 w0 g w (v::r::s::q::u::L) :=
 ⟨H.sp,((H.sep.cons fun _ h=>(h.cons fun _ h=>(h.cons fun _ h=>h.sw).sw).sw).sw)⟩
theorem Hp.b2 (H:Hp F0 g0 w0 g w (q::r::s::L)):Hp F0 g0 w0 g w (r::s::q::L):=⟨H.sp,H.sep.sw.cons fun _ h=>h.sw⟩
theorem Hp.b3 (H:Hp F0 g0 w0 g w (u::r::s::q::L)):Hp F0 g0 w0 g w (r::s::q::u::L):=⟨H.sp,H.sep.sw.cons fun _ h=>h.sw.cons fun _ h=>h.sw⟩
theorem Hp.b4 (H:Hp F0 g0 w0 g w (v::r::s::q::u::L)):Hp F0 g0 w0 g w (r::s::q::u::v::L) :=
 ⟨H.sp,H.sep.sw.cons fun _ h=>h.sw.cons fun _ h=>h.sw.cons fun _ h=>h.sw⟩
theorem Hp.hd (H:Hp F0 g0 w0 g w (r::L)):∃ F,r.h g w F:=by obtain⟨F,h,_⟩:=H.sep;exact⟨F,h⟩
theorem Hp.beg (h:∀ k,g k->k<w.heap.size):Hp F0 g w g w []:=⟨Sp.rfl' h,trivial⟩
theorem Hp.nw (H:Hp F0 g0 w0 g w L) (n:Nw g w g' w'):Hp F0 g0 w0 g' w' L :=
 ⟨H.sp.t n (fun _ _ h=>h.elim),H.sep.step n.mo fun k hk hA=>⟨n.fr.block k hk id,fun hg=>(n.gh k hk id).1 hg,hA⟩⟩
theorem Hp.up (H:Hp F0 g0 w0 g w (r::L)) {Ψ:Gh->World->Prop} (f:∀ F,r.h g w F->(∀ k,F k->¬ g k)->∃ g' w' F',Ψ g' w'/\r'.h g' w' F'/\Sp F g w g' w'/\∀ k,F' k->¬ g' k/\(F k\/w.heap.size<=k)) :
  ∃ g' w',Ψ g' w'/\Hp F0 g0 w0 g' w' (r'::L)/\Mo g w g' w':=by
 obtain⟨F,h,hF,hL⟩:=H.sep;obtain⟨g',w',F',h1,h2,h3,h4⟩:=f F h (fun k hk=>(hF k hk).2);refine⟨g',w',h1,⟨H.sp.t h3 (fun i hi hf=>(hF i hf).1.elim id (fun h=>by omega)),F',h2,fun k hk=>⟨?_,(h4 k hk).1⟩,?_⟩,h3.mo⟩
 .exact(h4 k hk).2.elim (fun h=>(hF k h).1) (fun h=>.inr (aAO H.sp.size h))
 exact hL.step h3.mo fun k hk hA=>⟨h3.fr.block k hk hA.2,(h3.gh k hk hA.2).1,hA.1,fun hk'=>(h4 k hk').2.elim hA.2 (fun h=>by omega)⟩
theorem Hp.add (H:Hp F0 g0 w0 g w L) (n:Nw g w g' w') (h:r.h g' w' F) (hF:∀ k,F k->¬ g' k/\w.heap.size<=k):Hp F0 g0 w0 g' w' (r::L) :=
 ⟨(H.nw n).sp,F,h,fun k hk=>⟨.inr (aAO H.sp.size (hF k hk).2),(hF k hk).1⟩,H.sep.step n.mo fun k hk hA=>⟨n.fr.block k hk id,(n.gh k hk id).1,hA,fun hk'=>by have:=(hF k hk').2;omega⟩⟩
theorem Hp.keep (H:Hp F0 g0 w0 g w (r::L)):∃ (g':Gh) (F:Nat->Prop),r.h g' w F/\(∀ k,F k->g' k)/\Hp F0 g0 w0 g' w L/\Mo g w g' w:=by
 obtain⟨F,h,hF,hL⟩:=H.sep;have m:Mo g w (fun k=>g k\/F k) w:=⟨aAH _,fun k hk=>⟨.inl hk,rfl⟩⟩;refine⟨fun k=>g k\/F k,F,r.st h m (fun _ _=>rfl),fun k hk=>.inr hk,⟨⟨H.sp.fr,fun k hk hn=>?_,H.sp.mo.t m,fun k hk=>hk.elim (H.lt k) (r.lt h)⟩,?_⟩,m⟩
 .rw[<-H.sp.gh k hk hn];exact⟨fun h=>h.elim id (fun h=>((hF k h).1.elim hn (fun h=>by omega)).elim),.inl⟩
 exact hL.step m fun k hk hA=>⟨rfl,fun h=>h.elim id (fun h=>(hA.2 h).elim),hA.1⟩
theorem qY (h:∀ k,g k->k<w.heap.size):Nw g w g w.drew:=⟨Fr.refl.drew,fun _ _ _=>Iff.rfl,⟨aAH _,fun k h=>⟨h,rfl⟩⟩,h⟩
theorem mN (h:∀ k,g k->k<w.heap.size) (o:Obj):Nw g w g (w.alloc o) :=
 ⟨Fr.refl.alloc o,fun _ _ _=>Iff.rfl,⟨by simp,fun k hk=>⟨hk,Go.heap_alloc_old w o (h k hk)⟩⟩,fun k hk=>by have:=h k hk;simp;omega⟩
theorem Hp.dr (H:Hp F0 g0 w0 g w L):∃ w',dr w=some w'/\Hp F0 g0 w0 g w' L/\Mo g w g w':=⟨_,rfl,H.nw (qY H.lt),(qY H.lt).mo⟩
theorem vQ (h:∀ k,g k->k<w.heap.size) (f:∀ S,Fr S w w'):Nw g w g w' :=
 ⟨f _,fun _ _ _=>Iff.rfl,⟨(f (fun _=>False)).size,fun k hk=>⟨hk,(f (fun _=>False)).block k (h k hk) id⟩⟩,fun k hk=>aAW (h k hk) (f (fun _=>False)).size⟩
theorem Hp.old (H:Hp F0 g0 w0 g w L) (f:∀ S,Fr S w w'):Hp F0 g0 w0 g w' L:=H.nw (vQ H.lt f)
end
def bxR (b:Nat) (cs:List Value) (T:TypeId):Rs where
 h g w F:=B w b=some (cs,T)/\∀ k,F k↔k=b
 st h m hk:=⟨by have:=hk _ ((h.2 _).2 rfl);unfold B at h ⊢;rw[this];exact h.1,h.2⟩
 lt h hk:=by have:=(h.2 _).1 hk;subst this;exact vB h.1
def owR (T:TypeId) (sz:Nat) (s:Sl) (cs:List Value):Rs where
 h g w F:=Own w T s sz cs/\∀ k,F k↔s.blk k
 st h m hk:=⟨⟨h.1.len,h.1.cap,h.1.max,h.1.h.elim .inl fun ⟨b,rest,hp,hb,hr⟩=>.inr ⟨b,rest,hp,by have:=hk b ((h.2 _).2 ⟨_,hp,rfl⟩);unfold B at hb ⊢;rw[this];exact hb,hr⟩⟩,h.2⟩
 lt h hk:=h.1.lt ((h.2 _).1 hk)
section
variable {F F' F0 A A' : Nat -> Prop} {g g' g'' g0 : Gh} {w w' w'' w0 : World} {L : List Rs} {r r' s q u v : Rs} {b : Nat} {cs ys : List Value} {T : TypeId} {sz : Nat} {z y : Sl}
theorem Hp.box (H:Hp F0 g0 w0 g w L):∃ b w',D.mk w T cs=some (⟨b,0,none⟩,w')/\Hp F0 g0 w0 g w' (bxR b cs T::L)/\Mo g w g w' :=
 ⟨_,_,rfl,H.add (mN H.lt _) (F:=fun k=>k=w.heap.size) ⟨vR,fun _=>Iff.rfl⟩ (fun k hk=>⟨fun hg=>by have:=H.lt k hg;omega,by omega⟩),(mN H.lt _).mo⟩
theorem Hp.bx (H:Hp F0 g0 w0 g w (bxR b cs T::L)):B w b=some (cs,T):=by obtain⟨F,h⟩:=H.hd;exact h.1
theorem Hp.ow (H:Hp F0 g0 w0 g w (owR T sz z cs::L)):Own w T z sz cs:=by obtain⟨F,h⟩:=H.hd;exact h.1
theorem tR {c:List Value} (h:B w b=some (c,T)) (hg:¬ g b) (hF:F b) (hl:∀ k,g k->k<w.heap.size):Sp F g w g (wr w b cs) :=
 ⟨Fr.refl.wr (.inl hF) _,fun _ _ _=>Iff.rfl,⟨by simp,fun k hk=>⟨hk,lX (fun e=>hg (e ▸ hk))⟩⟩,fun k hk=>by have:=hl k hk;simpa using this⟩
theorem Hp.stV (H:Hp F0 g0 w0 g w (bxR b cs T::L)) {o:Nat} {x:Value} (ho:o<cs.length) (hx:x.oneCell'=true):∃ w',stV w ⟨b,o,none⟩ x=some w'/\Hp F0 g0 w0 g w' (bxR b (cs.set o x) T::L)/\Mo g w g w':=by
 have hb:=H.bx;obtain⟨g',w',⟨rfl,e⟩,h2,m⟩:=H.up (r':=bxR b (cs.set o x) T) (Ψ:=fun g' w'=>g'=g/\D.stV w ⟨b,o,none⟩ x=some w') fun F h hF =>
  ⟨g,_,F,⟨rfl,tK hb ho hx⟩,⟨sN hb,h.2⟩,tR hb (hF _ ((h.2 _).2 rfl)) ((h.2 _).2 rfl) H.lt,fun k hk=>⟨hF k hk,.inl hk⟩⟩
 exact⟨w',e,h2,m⟩
theorem Hp.stA (H:Hp F0 g0 w0 g w (bxR b cs T::L)) {o:Nat} {vs:List Value} (ho:o+vs.length<=cs.length) (hx:∀ v∈vs,v.oneCell'=true):∃ w',stA w ⟨b,o,none⟩ 0 vs=some w'/\Hp F0 g0 w0 g w' (bxR b (pJ cs o vs) T::L)/\Mo g w g w':=by
 have hb:=H.bx;obtain⟨g',w',⟨rfl,e⟩,h2,m⟩:=H.up (r':=bxR b (pJ cs o vs) T) (Ψ:=fun g' w'=>g'=g/\D.stA w ⟨b,o,none⟩ 0 vs=some w') fun F h hF =>
  ⟨g,_,F,⟨rfl,vS vs 0 w cs hb (by omega) hx⟩,⟨sN hb,h.2⟩,tR hb (hF _ ((h.2 _).2 rfl)) ((h.2 _).2 rfl) H.lt,fun k hk=>⟨hF k hk,.inl hk⟩⟩
 exact⟨w',e,by simpa using h2,m⟩
structure PR (g:Gh) (w:World) (s:Sl) (sz:Nat) (cs:List Value):Prop where
 rd:Rd w s sz cs
 per:∀ a,s.p=some a->0<s.n->g a.block
theorem PR.mo (h:PR g w z sz cs) (m:Mo g w g' w'):PR g' w' z sz cs :=
 ⟨⟨h.rd.len,fun hn=>by
  obtain⟨a,e,hc⟩:=h.rd.at_ hn;have hb:∀ j,(a.add j).block=a.block:=fun j=>by unfold Addr.add;split<;>rfl
  exact⟨a,e,fun j v hv=>m.cell (by rw[hb];exact h.per a e hn) (hc j v hv)⟩⟩,fun a e hn=>(m.keep _ (h.per a e hn)).1⟩
theorem PR.nil (h:z.n=0):PR g w z sz []:=⟨Rd.nil h,fun a e hn=>by omega⟩
theorem Hp.keepO (H:Hp F0 g0 w0 g w (owR T sz z cs::L)):∃ g':Gh,PR g' w z sz cs/\Hp F0 g0 w0 g' w L/\Mo g w g' w:=by
 obtain⟨g',F,h1,h2,h3,h4⟩:=H.keep;exact⟨g',⟨h1.1.rd,fun a e hn=>h2 _ ((h1.2 _).2 ⟨a,e,rfl⟩)⟩,h3,h4⟩
theorem Hp.onil (H:Hp F0 g0 w0 g w L):Hp F0 g0 w0 g w (owR T sz Sl.nil []::L) :=
 H.add (Sp.rfl' H.lt) (F:=fun _=>False) ⟨Own.nil,fun k=>⟨fun h=>h.elim,fun ⟨a,ha,_⟩=>by cases ha⟩⟩ (fun k hk=>hk.elim)
variable {P : Program} {t' e : TypeId} {by_ : Nat} {Z : List Value}
theorem wO (h:Own w T z sz cs) (hF:∀ k,F k↔z.blk k) (hn:∀ k,F k->¬ g k) (hl:∀ k,g k->k<w.heap.size) (f:Fr z.blk w w'):Sp F g w g w' :=
 ⟨f.mono fun i hi=>.inl ((hF i).2 hi),fun _ _ _=>Iff.rfl,⟨f.size,fun k hk=>⟨hk,f.block k (hl k hk) (fun hb=>hn k ((hF k).2 hb) hk)⟩⟩,fun k hk=>aAW (hl k hk) f.size⟩
theorem Hp.apS (st:ST P t' e sz by_ Z) (H:Hp F0 g0 w0 g w (owR e sz z cs::L)) (hy:Rd w y sz ys) (h1:∀ v∈ys,v.oneCell'=true) (hb:(z.n+y.n)*by_<=140737488355328) :
  ∃ z' w',apS P t' z y w=some (z',w')/\z'.n=z.n+y.n/\Hp F0 g0 w0 g w' (owR e sz z' (cs++ys)::L)/\Mo g w g w':=by
 have ho:=H.ow;obtain⟨z',w',e1,o1,f1,n1,k1⟩:=uI st ho hy h1 hb;obtain⟨g',w'',⟨rfl,rfl⟩,h2,m⟩:=H.up (r':=owR e sz z' (cs++ys)) (Ψ:=fun g' w''=>g'=g/\w''=w') fun F h hF =>
  ⟨g,w',z'.blk,⟨rfl,rfl⟩,⟨o1,fun _=>Iff.rfl⟩,wO ho h.2 hF H.lt f1,fun k hk=>(k1 k hk).elim (fun h'=>⟨hF k ((h.2 k).2 h'),.inl ((h.2 k).2 h')⟩) (fun h'=>⟨fun hg=>by have:=H.lt k hg;omega,.inr h'⟩)⟩
 exact⟨z',w'',e1,n1,h2,m⟩
theorem Hp.new (H:Hp F0 g0 w0 g w L) {m:Nat} (h:New w w' cs e) (hl:cs.length=m*sz) (hm:m<=9223372036854775807) :
  Hp F0 g0 w0 g w' (owR e sz ⟨some ⟨w.heap.size,0,none⟩,m,m⟩ cs::L)/\Mo g w g w':=by
 have n:=vQ H.lt (fun S=>(h.fr _ S (aAH _)).fr);refine⟨H.add n (F:=fun k=>k=w.heap.size) ⟨Own.of_new h hl hm,fun k=>⟨fun hk=>⟨_,rfl,hk.symm⟩,fun ⟨a,ha,hk⟩=>by cases ha;exact hk.symm⟩⟩ (fun k hk=>⟨fun hg=>by have:=H.lt k hg;omega,by omega⟩),n.mo⟩
theorem Hp.bsl (H:Hp F0 g0 w0 g w L) {ps:List (List Value)} (h:∀ p∈ps,p.length=sz) (hm:ps.length<=9223372036854775807) :
  ∃ z w',bsl w T sz ps=some (z,w')/\z.n=ps.length/\z.c=ps.length/\Hp F0 g0 w0 g w' (owR T sz z ps.flatten::L)/\Mo g w g w':=by
 obtain⟨w',e,n⟩:=xL (w:=w) (T:=T) h;have hl:ps.flatten.length=ps.length*sz:=by
  have:=lQ (f:=fun c:List Value=>c) ps h;rwa[List.flatMap_id'] at this
 obtain⟨h1,h2⟩:=H.new n hl hm;exact⟨_,w',e,rfl,rfl,h1,h2⟩
theorem Hp.mkS (st:ST P t' e sz by_ Z) (H:Hp F0 g0 w0 g w L) {m:Int} (h0:0<=m) (hb:(by_:Int)*m<=281474976710656) :
  ∃ z w',mkS P t' m m w=some (z,w')/\z.n=m.toNat/\z.c=m.toNat/\Hp F0 g0 w0 g w' (owR e sz z (List.replicate m.toNat Z).flatten::L)/\Mo g w g w':=by
 obtain⟨w',e1,n⟩:=xP (w:=w) st h0 hb;have hl:(List.replicate m.toNat Z).flatten.length=m.toNat*sz:=by
  have:=lQ (f:=fun c:List Value=>c) (sz:=sz) (List.replicate m.toNat Z) (fun x hx=>by rw[(List.mem_replicate.1 hx).2];exact st.hZ);rw[List.flatMap_id',List.length_replicate] at this;exact this
 have hm:m.toNat<=9223372036854775807:=by
  have hp:=st.bpos;have:(1:Int)*m<=(by_:Int)*m:=aBo (by omega) h0;omega
 obtain⟨h1,h2⟩:=H.new n hl hm;exact⟨_,w',e1,rfl,rfl,h1,h2⟩
theorem Own.at_ (h:Own w T z sz cs) (hn:0<z.n):∃ b rest,z.p=some ⟨b,0,none⟩/\B w b=some (cs++rest,T)/\rest.length=(z.c-z.n)*sz:=by
 rcases h.h with⟨_,h0,_⟩ | h
 .omega
 exact h
theorem Hp.oset (H:Hp F0 g0 w0 g w (owR T sz z cs::L)) {b o:Nat} (hp:z.p=some ⟨b,0,none⟩) (hn:0<z.n) {x:Value} (ho:o<cs.length) (hx:x.oneCell'=true) :
  ∃ w',D.stV w ⟨b,o,none⟩ x=some w'/\Hp F0 g0 w0 g w' (owR T sz z (cs.set o x)::L)/\Mo g w g w':=by
 have h0:=H.ow;obtain⟨b',rest,hp',hB,hr⟩:=h0.at_ hn;rw[hp] at hp';cases hp';have e1:=tK (o:=o) (v:=x) hB (by rw[aAV];omega) hx;rw[aBr _ _ ho] at e1;have hB':=sN (cs:=cs.set o x++rest) hB;obtain⟨g',w'',⟨rfl,rfl⟩,h2,m⟩:=H.up (r':=owR T sz z (cs.set o x)) (Ψ:=fun g' w''=>g'=g/\w''=wr w b (cs.set o x++rest)) fun F h hF =>
  ⟨g,_,F,⟨rfl,rfl⟩,⟨⟨by simpa using h0.len,h0.cap,h0.max,.inr ⟨b,rest,hp,hB',hr⟩⟩,h.2⟩,tR hB (hF _ ((h.2 _).2 ⟨_,hp,rfl⟩)) ((h.2 _).2 ⟨_,hp,rfl⟩) H.lt,fun k hk=>⟨hF k hk,.inl hk⟩⟩
 exact⟨_,e1,h2,m⟩
end
def Ex {ρ:Type} (T:Option ρ) (Φ:ρ->Prop):Prop:=∃ r,T=some r/\Φ r
section
variable {α β γ δ ε ζ ρ : Type} {Φ : ρ -> Prop}
theorem Ex.ret {r:ρ} (h:Φ r):Ex (some r) Φ:=⟨r,rfl,h⟩
theorem Ex.b1 {o:Option α} {a:α} {f:α->Option ρ} (e:o=some a) (h:Ex (f a) Φ):Ex (o.bind f) Φ:=by subst e;exact h
theorem Ex.s1 {a:α} {f:α->Option ρ} (h:Ex (f a) Φ):Ex ((some a).bind f) Φ:=h
theorem Ex.b2 {o:Option (α×β)} {a:α} {b:β} {f:α->β->Option ρ} (e:o=some (a,b)) (h:Ex (f a b) Φ):Ex (aE o f) Φ:=by subst e;exact h
theorem Ex.b3 {o:Option (α×β×γ)} {a:α} {b:β} {c:γ} {f:α->β->γ->Option ρ} (e:o=some (a,b,c)) (h:Ex (f a b c) Φ):Ex (tU o f) Φ:=by subst e;exact h
theorem Ex.b4 {o:Option (α×β×γ×δ)} {a:α} {b:β} {c:γ} {d:δ} {f:α->β->γ->δ->Option ρ} (e:o=some (a,b,c,d)) (h:Ex (f a b c d) Φ):Ex (vF o f) Φ:=by subst e;exact h
theorem Ex.b5 {o:Option (α×β×γ×δ×ε)} {a:α} {b:β} {c:γ} {d:δ} {x:ε} {f:α->β->γ->δ->ε->Option ρ} (e:o=some (a,b,c,d,x)) (h:Ex (f a b c d x) Φ):Ex (vE o f) Φ:=by subst e;exact h
theorem Ex.ck {p:Prop} {o:Option ρ} (hp:p) (h:Ex o Φ):Ex (chk p o) Φ:=by rw[uT hp];exact h
theorem Ex.t {c:Prop} [Decidable c] {A B:Option ρ} (hc:c) (h:Ex A Φ):Ex (if c then A else B) Φ:=by rw[if_pos hc];exact h
theorem Ex.f {c:Prop} [Decidable c] {A B:Option ρ} (hc:¬ c) (h:Ex B Φ):Ex (if c then A else B) Φ:=by rw[if_neg hc];exact h
theorem Ex.c {b:Bool} {p:Prop} {A B:Option ρ} (hb:b=true↔p) (h1:p->Ex A Φ) (h2:¬ p->Ex B Φ):Ex (if b=true then A else B) Φ:=by
 by_cases h:p
 .exact Ex.t (hb.2 h) (h1 h)
 exact Ex.f (fun h'=>h (hb.1 h')) (h2 h)
theorem Ex.mono {T:Option ρ} {Ψ:ρ->Prop} (h:Ex T Ψ) (k:∀ r,Ψ r->Φ r):Ex T Φ:=by obtain⟨r,e,h⟩:=h;exact⟨r,e,k r h⟩
theorem Ex.j1 {o:Option α} {f:α->Option ρ} {Ψ:α->Prop} (h:Ex o Ψ) (k:∀ a,Ψ a->Ex (f a) Φ):Ex (o.bind f) Φ:=by obtain⟨a,e,h⟩:=h;subst e;exact k a h
theorem Ex.j2 {o:Option (α×β)} {f:α->β->Option ρ} {Ψ:α×β->Prop} (h:Ex o Ψ) (k:∀ a b,Ψ (a,b)->Ex (f a b) Φ):Ex (aE o f) Φ:=by obtain⟨⟨a,b⟩,e,h⟩:=h;subst e;exact k a b h
theorem Ex.j3 {o:Option (α×β×γ)} {f:α->β->γ->Option ρ} {Ψ:α×β×γ->Prop} (h:Ex o Ψ) (k:∀ a b c,Ψ (a,b,c)->Ex (f a b c) Φ):Ex (tU o f) Φ:=by obtain⟨⟨a,b,c⟩,e,h⟩:=h;subst e;exact k a b c h
theorem Ex.loop {S R:Type} {step:S->Option (S⊕R)} {Φ:R->Prop} (I:Nat->S->Prop) (hs:∀ m s,I m s->Ex (step s) fun o=>match o with | .inl s'=>∃ m',m'<m/\I m' s' | .inr r=>Φ r) :
  ∀ (m:Nat) (s:S),I m s->Ex (bB step s) Φ:=by
 intro m
 induction m using Nat.strongRecOn with
 | _ m ih =>
  intro s h;obtain⟨o,e,ho⟩:=hs m s h
  cases o with
  | inl s' =>
   obtain⟨m',hm,h'⟩:=ho;obtain⟨r,e',h⟩:=ih m' hm s' h';exact⟨r,(eO e).trans e',h⟩
  | inr r=>exact⟨r,cF e,ho⟩
end
abbrev rn:=List.range'
theorem nm {b c:Bool} (h:b≠true) (hc:c=true:=by rfl):b≠c:=by rw[hc];exact h
abbrev iV (x:Int):Value:=.int .i64 x
abbrev pV (x:Option Addr):Value:=.pointer x
abbrev bV (x:Bool):Value:=.bool x
theorem Has.sb {n:Nat} {L M:List (Nat×Value)} {a:Act} (h:Has n L a) (hm:(M.map fun p=>L.lookup p.1)=M.map fun p=>some p.2):Has n M a:=h.sub (by
 induction M with
 | nil=>exact trivial
 | cons p M ih=>exact⟨(List.cons.inj hm).1,ih (List.cons.inj hm).2⟩)
def ltb (n:Nat) (o:Option Nat):Bool:=o.all fun d=>decide (d<n)
section
variable {P : Program} {n : Nat} {L : List (Nat × Value)} {a : Act} {w w' : World} {Q : Exit -> Act -> World -> Prop} {ops : Array Oper} {rest : List Oper}
theorem q {o:Oper} {v:Value} (ha:Has n L a) (h:dE P o a w v w') (hr:∀ a',Has n (upd o.dst v L) a'->wpList P ops Q rest a' w') (hg:o.guard=none:=by rfl) (hd:ltb n o.dst=true:=by rfl):wpList P ops Q (o::rest) a w:=wM hg ha (ltd hd) h hr
theorem qm {d ty pos af x v} (ha:Has n L a) (hx:evO L x=some v) (hr:∀ a',Has n (upd d v L) a'->wpList P ops Q rest a' w) (hd:ltb n d=true:=by rfl):wpList P ops Q (⟨d,.move x,ty,pos,af,none⟩::rest) a w:=wM rfl ha (ltd hd) (aD ha hx) hr
theorem qa {d ty pos af x v} (ha:Has n L a) (hx:evO L x=some v) (hr:∀ a',Has n (upd d v L) a'->wpList P ops Q rest a' w) (hd:ltb n d=true:=by rfl):wpList P ops Q (⟨d,.assign x,ty,pos,af,none⟩::rest) a w:=wM rfl ha (ltd hd) (dZ ha hx) hr
theorem qg {o:Oper} {v:Value} {j:Nat} {b c:Bool} (ha:Has n L a) (t:Nat) (hbc:b=c) (h:dE P o a w v w') (hr:∀ a',Has n (upd o.dst v L) a'->wpList P ops Q rest a' w')
  (hg:o.guard=some (j,c):=by rfl) (hj:(ops[j]?).bind (·.dst)=some t:=by rfl) (ht:L.lookup t=some (.bool b):=by rfl) (hd:ltb n o.dst=true:=by rfl):wpList P ops Q (o::rest) a w:=uN hg hj ha ht hbc (ltd hd) h hr
theorem qn {o:Oper} {j:Nat} {b c:Bool} (ha:Has n L a) (t:Nat) (hbc:b≠c) (hr:∀ a',Has n (upd o.dst undef L) a'->wpList P ops Q rest a' w)
  (hg:o.guard=some (j,c):=by rfl) (hj:(ops[j]?).bind (·.dst)=some t:=by rfl) (ht:L.lookup t=some (.bool b):=by rfl) (hd:ltb n o.dst=true:=by rfl):wpList P ops Q (o::rest) a w:=wL hg hj ha ht hbc (ltd hd) hr
theorem qu {o:Oper} {j:Nat} {c:Bool} (ha:Has n L a) (t:Nat) (hr:∀ a',Has n (upd o.dst undef L) a'->wpList P ops Q rest a' w)
  (hg:o.guard=some (j,c):=by rfl) (hj:(ops[j]?).bind (·.dst)=some t:=by rfl) (ht:L.lookup t=some undef:=by rfl) (hd:ltb n o.dst=true:=by rfl):wpList P ops Q (o::rest) a w:=wV hg hj ha ht (ltd hd) hr
variable {W : Nat -> World} {lo hi : Nat} {o : Oper} {li : List (Nat × Value)} {v : Value} {e : Bool}
theorem oa (h:∀ {j a},Has n li a->dE P o a (W j) v (W j)) (hg:o.guard=none:=by rfl) (he:e=false:=by rfl):∀ j,lo<=j->j<=hi->jK P n ops o li v (W j) (W (j+if e=true then 1 else 0)):=fun j _ _=>by
 subst he;exact vT hg fun a ha=>h ha
theorem oag {k t:Nat} {b c:Bool} (t':Nat) (hbc:b=c) (h:∀ {j a},Has n li a->dE P o a (W j) v (W j)) (htt:t'=t:=by rfl) (hg:o.guard=some (k,c):=by rfl) (hj:(ops[k]?).bind (·.dst)=some t:=by rfl) (ht:li.lookup t=some (.bool b):=by rfl) (he:e=false:=by rfl):∀ j,lo<=j->j<=hi->jK P n ops o li v (W j) (W (j+if e=true then 1 else 0)):=fun j _ _=>by
 subst he;exact qS hg hj ht hbc fun a ha=>h ha
theorem on {k t:Nat} {b c:Bool} (t':Nat) (hbc:b≠c) (htt:t'=t:=by rfl) (hg:o.guard=some (k,c):=by rfl) (hj:(ops[k]?).bind (·.dst)=some t:=by rfl) (ht:li.lookup t=some (.bool b):=by rfl) (he:e=false:=by rfl):∀ j,lo<=j->j<=hi->jK P n ops o li undef (W j) (W (j+if e=true then 1 else 0)):=fun j _ _=>by
 subst he;exact uY hg hj ht hbc
theorem oc (c:Nat) (h:jK P n ops o li v (W c) (W (c+if e=true then 1 else 0))) (h1:lo=c:=by rfl) (h2:hi=c:=by rfl):∀ j,lo<=j->j<=hi->jK P n ops o li v (W j) (W (j+if e=true then 1 else 0)):=fun j hj1 hj2=>by
 obtain rfl:j=c:=by omega
 exact h
variable {w1 w2 : World}
theorem kd (h:∀ {a},Has n li a->dE P o a w1 v w2) (hg:o.guard=none:=by rfl):jK P n ops o li v w1 w2:=vT hg fun a ha=>h ha
theorem kg {k t:Nat} {b c:Bool} (t':Nat) (hbc:b=c) (h:∀ {a},Has n li a->dE P o a w1 v w2) (htt:t'=t:=by rfl) (hg:o.guard=some (k,c):=by rfl) (hj:(ops[k]?).bind (·.dst)=some t:=by rfl) (ht:li.lookup t=some (.bool b):=by rfl):jK P n ops o li v w1 w2:=qS hg hj ht hbc fun a ha=>h ha
variable {d : Option Nat} {ty : TypeId} {pos : String} {af : Array Edge} {g : Option (Nat × Bool)} {f : FuncId} {ts : Array TypeId} {x1 x2 x3 x4 : Operand} {v1 v2 v3 v4 : Value}
theorem dc1 (ha:Has n L a) (h1:evO L x1=some v1) (hf:∀ (args:Array Value) (w:World),(callFunc f args).run P w = .ok (.enter f args) w) (h:Calls P f #[v1] w fun e w''=>e = .returned v/\w''=w'):dE P ⟨d,.call { callee:=.value (.func f),args:=#[x1],argTypes:=ts },ty,pos,af,g⟩ a w v w':=fP (xs:=[x1]) (vs:=[v1]) ha ⟨h1,trivial⟩ hf h
theorem dc2 (ha:Has n L a) (h1:evO L x1=some v1) (h2:evO L x2=some v2) (hf:∀ (args:Array Value) (w:World),(callFunc f args).run P w = .ok (.enter f args) w) (h:Calls P f #[v1,v2] w fun e w''=>e = .returned v/\w''=w'):dE P ⟨d,.call { callee:=.value (.func f),args:=#[x1,x2],argTypes:=ts },ty,pos,af,g⟩ a w v w':=fP (xs:=[x1,x2]) (vs:=[v1,v2]) ha ⟨h1,h2,trivial⟩ hf h
end
section
variable {P : Program} {n : Nat} {L : List (Nat × Value)} {a : Act} {w w' : World} {Q : Exit -> Act -> World -> Prop}
theorem kY {d ty pos af g f} {xs:List Operand} {vs:List Value} (ha:Has n L a) (hx:evs L xs vs):dE P ⟨d,.makeFunc (.func f) #[] xs.toArray,ty,pos,af,g⟩ a w (.func (.func f) #[] vs.toArray) w:=by
 refine cB ?_;have e:=lK ha hx;simp only[execOp,Instr.makeFunc,Sem.run_bind,Sem.run_pure,Result.andThen_ok];simp[<-e]
theorem fD {d ty pos af g f} {fx:Operand} {xs:List Operand} {ts:Array TypeId} {vs cv:List Value} {v:Value} (ha:Has n L a) (hfx:evO L fx=some (.func (.func f) #[] cv.toArray)) (hx:evs L xs vs) (hf:∀ (args:Array Value) (w:World),(callFunc f args).run P w = .ok (.enter f args) w)
  (h:Calls P f (vs++cv).toArray w fun e w''=>e = .returned v/\w''=w'):dE P ⟨d,.call { callee:=.value fx,args:=xs.toArray,argTypes:=ts },ty,pos,af,g⟩ a w v w':=by
 refine sW (w1:=w) (f:=f) (args:=(vs++cv).toArray) ?_ h;have e:=lK ha hx;simp[execOp,resolve,Deferred.ofValue,invoke,ha.ev hfx,hf,<-e]
def uG (P:Program) (L:List (Nat×Value)) (w:World):List ResultVar->List Value->Prop
 | [],[]=>True
 | .tmp t::rs,v::vs=>L.lookup t=some v/\uG P L w rs vs
 | .cell t T::rs,v::vs=>(∃ ad,L.lookup t=some (.pointer (some ad))/\(loadVar T ad).run P w = .ok v w)/\uG P L w rs vs
 | _,_=>False
def qD (vs:List Value):Value:=match vs with | [v]=>v | _=>.tuple vs.toArray
theorem wD {T:TypeId} {ad:Addr} {cs:List Value} {sz:Nat} (ht:∀ w,(isAgg T).run P w = .ok true w) (hz:∀ w,(sizeOf T).run P w = .ok sz w) (h:ldA sz w ad 0=some cs):(loadVar T ad).run P w = .ok (.agg cs.toArray) w:=by
 obtain⟨h1,h2⟩:=jI h;have hl:=run_loadCells_list (P:=P) w ad cs (fun j v hv=>by simpa using h2 j v hv);rw[h1] at hl;simp[loadVar,ht,hz,hl]
def oX (tmps:Array Value):ResultVar->Sem Value
 | .tmp t=>pure (tmps.getD t undef)
 | .cell b t=>do loadVar t (<- asAddr (tmps.getD b undef))
theorem pH (ha:Has n L a):∀ (rs:List ResultVar) (vs:List Value),uG P L w rs vs->(rs.mapM (oX a.tmps)).run P w = .ok vs w
 | [],[],_=>by simp
 | [],_::_,h=>h.elim
 | _::_,[],h=>by rename_i r _;cases r<;>exact h.elim
 | .tmp t::rs,v::vs,h=>by
  have h1:(oX a.tmps (.tmp t)).run P w = .ok v w:=by
   have:=ha.l t v h.1;simp[oX,aAh,this]
  simp only[List.mapM_cons,Sem.run_bind,h1,Result.andThen_ok,pH ha rs vs h.2,Sem.run_pure]
 | .cell t T::rs,v::vs,h=>by
  obtain⟨⟨ad,h1,h3⟩,h2⟩:=h;have h1:(oX a.tmps (.cell t T)).run P w = .ok v w:=by
   have:=ha.l t _ h1;simp[oX,aAh,this,asAddr,h3]
  simp only[List.mapM_cons,Sem.run_bind,h1,Result.andThen_ok,pH ha rs vs h2,Sem.run_pure]
theorem wI {fn:Func} {R:Ending->World->Prop} {rs:List ResultVar} {vs:List Value} (hr:fn.results=rs.toArray) (ha:Has n L a) (hv:uG P L w rs vs) (hR:R (.returned (qD vs)) w):bodyPost P fn R .ret a w:=by
 refine⟨ha.d,qD vs,?_,hR⟩;have h2:=pH ha rs vs hv;have e:results fn a.tmps=(fn.results.mapM (oX a.tmps) >>= fun vs=>pure (if h:vs.size=1 then vs[0] else .tuple vs)):=rfl;rw[e,hr];simp only[List.mapM_toArray,Sem.run_bind,map_eq_pure_bind,h2,Result.andThen_ok,Sem.run_pure]
 match vs with
 | []=>simp[qD]
 | [v]=>simp[qD]
 | v::u::r=>simp[qD]
end
section
variable {F F' F0 A A' : Nat -> Prop} {g g' g'' g0 : Gh} {w w' w'' w0 : World} {L L' : List Rs} {r r' s q u v : Rs} {b : Nat} {cs ys : List Value} {T : TypeId} {sz : Nat} {z y : Sl}
theorem Sep.perm (p:L.Perm L'):∀ {A:Nat->Prop},Sep g w A L->Sep g w A L':=by
 induction p with
 | nil=>exact id
 | cons r _ ih=>intro A h;exact h.cons fun _ h=>ih h
 | swap r s L=>intro A h;exact h.sw
 | trans _ _ ih1 ih2=>intro A h;exact ih2 (ih1 h)
theorem Hp.perm (p:L.Perm L') (H:Hp F0 g0 w0 g w L):Hp F0 g0 w0 g w L':=⟨H.sp,H.sep.perm p⟩
theorem Hp.at_ {n i:Nat} {f:Nat->Rs} (hi:i<n) (H:Hp F0 g0 w0 g w ((List.range n).map f++L)):Hp F0 g0 w0 g w (f i::(((List.range n).erase i).map f++L)):=by
 refine H.perm ?_;have h:=(List.perm_cons_erase (aAu.2 hi)).map f;exact(h.append_right L)
theorem Hp.ta {n i:Nat} {f f':Nat->Rs} (hi:i<n) (hf:∀ k,k≠i->f' k=f k) (H:Hp F0 g0 w0 g w (f' i::(((List.range n).erase i).map f++L))):Hp F0 g0 w0 g w ((List.range n).map f'++L):=by
 refine H.perm ?_;have h:=(List.perm_cons_erase (aAu.2 hi)).map f';have e:((List.range n).erase i).map f=((List.range n).erase i).map f':=by
  refine List.map_congr_left fun k hk=>(hf k ?_).symm;exact((List.nodup_range (n:=n)).mem_erase_iff.1 hk).1
 rw[e];exact(h.append_right L).symm
theorem Hp.app_cons (H:Hp F0 g0 w0 g w (L++r::L')):Hp F0 g0 w0 g w (r::(L++L')):=H.perm List.perm_middle
def pW (g:Gh) (w:World):(Nat->Prop)->List Rs->Prop
 | F,[]=>∀ k,¬ F k
 | F,r::L=>∃ F1 F2:Nat->Prop,r.h g w F1/\(∀ k,F k↔F1 k\/F2 k)/\(∀ k,F1 k->¬ F2 k)/\pW g w F2 L
theorem pW.st:∀ {L:List Rs} {F:Nat->Prop},pW g w F L->Mo g w g' w'->(∀ k,F k->w'.heap[k]?=w.heap[k]?)->pW g' w' F L
 | [],_,h,_,_=>h
 | r::L,F,⟨F1,F2,h1,h2,h3,h4⟩,m,hk=>⟨F1,F2,r.st h1 m (fun k h=>hk k ((h2 k).2 (.inl h))),h2,h3,h4.st m (fun k h=>hk k ((h2 k).2 (.inr h)))⟩
theorem pW.lt:∀ {L:List Rs} {F:Nat->Prop} {k:Nat},pW g w F L->F k->k<w.heap.size
 | [],_,_,h,hk=>(h _ hk).elim
 | r::L,F,k,⟨F1,F2,h1,h2,h3,h4⟩,hk=>((h2 k).1 hk).elim (r.lt h1) h4.lt
theorem pW.sep:∀ {l:List Rs} {F A:Nat->Prop},pW g w F l->(∀ k,F k->A k/\¬ g k)->Sep g w (fun k=>A k/\¬ F k) L->Sep g w A (l++L)
 | [],F,A,h,hA,hL=>hL.mono fun k _ h=>h.1
 | r::l,F,A,⟨F1,F2,h1,h2,h3,h4⟩,hA,hL =>
  ⟨F1,h1,fun k hk=>hA k ((h2 k).2 (.inl hk)),h4.sep (fun k hk=>⟨⟨(hA k ((h2 k).2 (.inr hk))).1,fun h=>h3 k h hk⟩,(hA k ((h2 k).2 (.inr hk))).2⟩)
   (hL.mono fun k _ h=>⟨⟨h.1,fun h'=>h.2 ((h2 k).2 (.inl h'))⟩,fun h'=>h.2 ((h2 k).2 (.inr h'))⟩)⟩
def rg (n:Nat) (f:Nat->Value):List Value:=(List.range n).map f
@[simp] theorem yD {n:Nat} {f:Nat->Value}:(rg n f).length=n:=by simp[rg]
theorem Hp.ldI (H:Hp F0 g0 w0 g w (bxR b cs T::L)) {k:IntKind} {o:Nat} {x:Int} (h:cs[o]?=some (.int k x)):D.ldI k w ⟨b,o,none⟩=some x:=xT H.bx h
theorem Hp.ldB (H:Hp F0 g0 w0 g w (bxR b cs T::L)) {o:Nat} {x:Bool} (h:cs[o]?=some (.bool x)):D.ldB w ⟨b,o,none⟩=some x:=xO H.bx h
theorem Hp.ldL (H:Hp F0 g0 w0 g w (bxR b cs T::L)) {o:Nat} {x:Sl} (h:cs[o]?=some x.v):D.ldL w ⟨b,o,none⟩=some x:=xY H.bx h
theorem Hp.rd (H:Hp F0 g0 w0 g w (owR T sz z cs::L)):Rd w z sz cs:=H.ow.rd
theorem Own.ix (h:Own w T z 1 cs) {i:Nat} {x:Value} (hx:cs[i]?=some x):∃ a,D.ix z (i:Int) 1=some a/\w.cell? a=some x:=by
 have hi:i<z.n:=by have:=h.len;have h2:=(aAi.1 hx).1;omega
 obtain⟨a,ha,hc⟩:=h.rd.at_ (by omega);refine⟨a.add (i*1),?_,by rw[Nat.mul_one];exact hc i x hx⟩;unfold D.ix;rw[ha];simp only[aBN];rw[if_pos ⟨by omega,by omega⟩];simp
variable {P : Program} {t e : TypeId} {by_ : Nat} {Z : List Value}
end
structure Dc where
 x:Int
 y:Int
 r:Int
structure Sd where
 name:ByteArray
 kind:Int
 ab:Bool
 low:Int
 high:Int
 fr:ByteArray
 to:ByteArray
 op:Bool
 tr:Int
 ins:List Dc
 outs:List Dc
 no:Bool
def sZ (a b:Dc):Int:=(a.x-b.x)*(a.x-b.x)+(a.y-b.y)*(a.y-b.y)
def wiD (a b:Dc):Bool:=decide (a.r<=b.r)&&decide (sZ a b<=(b.r-a.r)*(b.r-a.r))
def apD (a b:Dc):Bool:=decide ((a.r+b.r)*(a.r+b.r)<sZ a b)
def okD (d:Dc):Bool:=decide (-1048576<=d.x)&&decide (d.x<=1048576)&&decide (-1048576<=d.y)&&decide (d.y<=1048576)&&decide (0<=d.r)&&decide (d.r<=1048576)
def sLe (s u:ByteArray):Bool:=sLt s u||sEq s u
def mH (s:Sd):Bool:=if s.kind=1 then decide (s.high<s.low) else if s.kind=2 then !s.op&&!sLt s.fr s.to else if s.kind=3 then decide (s.tr % 4=0) else s.no
def trL (a b:Int):Bool:=(decide (a % 2=0)||decide (b % 2=1))&&(decide (a / 2 % 2=0)||decide (b / 2 % 2=1))
def oV (a b:Sd):Bool :=
 if a.kind≠b.kind\/(a.ab=true/\b.ab=false) then false else if mH a=true then true else
 if a.kind=1 then decide (b.low<=a.low)&&decide (a.high<=b.high) else
 if a.kind=2 then sLe b.fr a.fr&&(b.op||(!a.op&&sLe a.to b.to)) else
 if a.kind=3 then trL a.tr b.tr else if b.no=true then false else
 b.ins.all (fun d=>a.ins.any fun x=>wiD x d)&&b.outs.all fun d=>(a.outs.any fun x=>wiD d x)||a.ins.any fun x=>apD x d
def jO (a b:List Sd):Bool:=b.all fun s=>match a.find? (fun x=>sEq x.name s.name) with | some x=>oV x s | none=>false
theorem tS (a:Int):0<=a*a:=by
 rcases Int.le_total 0 a with h | h
 .exact aBJ h h
 have:=aBJ (aBz h) (aBz h);rwa[Int.neg_mul_neg] at this
def okS (s:Sd):Prop:=s.kind≠1->s.kind≠2->s.kind≠3->(∀ d∈s.ins,okD d=true)/\(∀ d∈s.outs,okD d=true)/\s.ins.length<=4/\s.outs.length<=4
structure PL {α:Type} (R:Gh->World->List Value->α->Prop) (sz:Nat) (g:Gh) (w:World) (s:Sl) (xs:List α):Prop where
 len:s.n=xs.length
 at_:∀ (i:Nat) (x:α),xs[i]?=some x->∃ a cs,ix s (i:Int) sz=some a/\g a.block/\cs.length=sz/\R g w cs x/\∀ j v,cs[j]?=some v->w.cell? (a.add j)=some v
theorem PL.mo {α:Type} {R:Gh->World->List Value->α->Prop} (hR:∀ {g w g' w' cs x},R g w cs x->Mo g w g' w'->R g' w' cs x) {sz:Nat} {g g':Gh} {w w':World} {s:Sl} {xs:List α} (h:PL R sz g w s xs) (m:Mo g w g' w'):PL R sz g' w' s xs :=
 ⟨h.len,fun i x hx=>by
  obtain⟨a,cs,e,hg,hl,hr,hc⟩:=h.at_ i x hx;have hb:∀ j,(a.add j).block=a.block:=fun j=>by unfold Addr.add;split<;>rfl
  exact⟨a,cs,e,(m.keep _ hg).1,hl,hR hr m,fun j v hv=>m.cell (by rw[hb];exact hg) (hc j v hv)⟩⟩
theorem PL.nil {α:Type} {R:Gh->World->List Value->α->Prop} {sz:Nat} {g:Gh} {w:World} {s:Sl} (h:s.n=0):PL R sz g w s []:=⟨by simp[h],fun i x hx=>by simp at hx⟩
def old (w:World):Gh:=fun k=>k<w.heap.size
theorem wJ (w:World):∀ k,old w k->k<w.heap.size:=fun _ h=>h
theorem Hp.fin {g g0:Gh} {w w0:World} {L:List Rs} (H:Hp (fun _=>False) g0 w0 g w L) {S:Nat->Prop}:Fr S w0 w:=H.sp.fr.mono fun _ h=>h.elim
structure Bp (g:Gh) (w:World) (b:Nat) (cs:List Value) (T:TypeId):Prop where
 per:g b
 at_:B w b=some (cs,T)
theorem Bp.mo {g g':Gh} {w w':World} {b:Nat} {cs:List Value} {T:TypeId} (h:Bp g w b cs T) (m:Mo g w g' w'):Bp g' w' b cs T :=
 ⟨(m.keep _ h.per).1,by have:=(m.keep _ h.per).2;have h2:=h.at_;unfold B at h2 ⊢;rw[this];exact h2⟩
section
variable {H : Type} {enc : TypeId × Value -> H} {P : Program} {w : World} {base fuel : Nat} {spare : Nat -> Bool} {held : Bool} {t e : TypeId} {cs : List Value} {x : DataW H × List MemPlace} {Bd : Nat}
theorem uX {el:List (DataW H)} {y:DataW H} (hy:y∈el):∀ v∈y.weights P e,v∈DataW.weightsAll P e el:=by
 induction el with
 | nil=>cases hy
 | cons d el ih =>
  intro v hv;simp only[DataW.weightsAll,aBs];rcases aBD.1 hy with rfl | hy
  .exact .inl hv
  exact .inr (ih hy v hv)
theorem rL {el sp:List (DataW H)} (ht:P.underlying t=some (.slice e)) (h:∀ v∈(DataW.slice el sp).weights P t,v<=Bd):(el.length+sp.length)*P.bytesOf e<=Bd/\∀ y∈el,∀ v∈y.weights P e,v<=Bd:=by
 simp only[DataW.weights,ht] at h;exact⟨h _ (List.mem_cons_self ..),fun y hy v hv=>h v (List.mem_cons_of_mem _ (aBs.2 (.inl (uX hy v hv))))⟩
theorem nQ:∀ (ts:List TypeId) (l:List (DataW H)) (i:Nat) (t:TypeId) (d:DataW H),ts[i]?=some t->l[i]?=some d->∀ v∈d.weights P t,v∈DataW.weightsEach P ts l
 | [],_,_,_,_,h,_=>by simp at h
 | _::_,[],_,_,_,_,h=>by simp at h
 | t'::ts,d'::l,0,t,d,h,k=>by
  simp at h k;subst h;subst k;intro v hv;simp only[DataW.weightsEach,aBs];exact .inl hv
 | t'::ts,d'::l,i+1,t,d,h,k=>by
  intro v hv;simp only[DataW.weightsEach,aBs];exact .inr (nQ ts l i t d (by simpa using h) (by simpa using k) v hv)
theorem oA {parts:List (DataW H)} {fs:Array Field} (ht:P.underlying t=some (.struct fs)) (h:∀ v∈(DataW.agg parts).weights P t,v<=Bd) (i:Nat) (f:Field) (p:DataW H) (hf:fs[i]?=some f) (hp:parts[i]?=some p):∀ v∈p.weights P f.type,v<=Bd:=by
 simp only[DataW.weights,ht] at h;exact fun v hv=>h v (nQ _ _ i f.type p (by rw[aBm,Array.getElem?_toList,hf];rfl) hp v hv)
theorem sized_arg {ts:List TypeId} {l:List (DataW H)} (h:(DataW.weightsEach P ts l).all (·<=reachBytes)=true) {i:Nat} {t:TypeId} {d:DataW H} (ht:ts[i]?=some t) (hd:l[i]?=some d):∀ v∈d.weights P t,v<=140737488351232:=by
 intro v hv;have:=aAj.1 h v (nQ ts l i t d ht hd v hv);exact of_decide_eq_true this
theorem oP {α:Type} {R:Gh->World->List Value->α->Prop} {sz:Nat} (ht:P.underlying t=some (.slice e)) (hc:P.cellsOf e=sz) (hsz:0<sz)
  (hel:∀ (m:Nat) (c:List Value) (y:DataW H×List MemPlace),DataW.trod enc P w base spare held m e c=some y->(∀ v∈y.1.weights P e,v<=Bd)->∃ d:α,R (old w) w c d)
  (h:DataW.trod enc P w base spare held fuel t cs=some x) (hx:∀ v∈x.1.weights P t,v<=Bd):∃ (s:Sl) (ds:List α),cs=[Sl.v s]/\PL R sz (old w) w s ds:=by
 subst hc;rcases DataW.trod_slice ht h with⟨rfl,_⟩ | ⟨a,len,cap,elems,rest,m,hfu,rfl,hx1,hb,hl,hm,hlen,hee,_,_⟩
 .exact⟨Sl.nil,[],rfl,PL.nil rfl⟩
 rw[hx1] at hx;obtain⟨_,hxs⟩:=rL ht hx;have each:∀ i,i<len->∃ c d,c.length=P.cellsOf e/\R (old w) w c d/\∀ j v,c[j]?=some v->w.cell? (a.add (i*P.cellsOf e+j))=some v:=by
  intro i hi;have:=hee i hi;rw[aAk (by omega)] at this;obtain⟨c,hc,hy⟩:=Option.bind_eq_some_iff.1 this;have hk:=World.cells?_some hc;obtain⟨d,hd⟩:=hel _ c _ hy (hxs _ (List.mem_map_of_mem (List.getElem_mem _)));refine⟨c,d,hk.2.1,hd,fun j v hv=>?_⟩;have hj:j<P.cellsOf e:=by have:=(aAi.1 hv).1;rw[hk.2.1] at this;exact this
  rw[<-lI a (i*P.cellsOf e) j,hk.2.2 j hj];exact hv
 have main:∀ m',m'<=len->∃ ds:List α,ds.length=m'/\∀ (i:Nat) (d:α),ds[i]?=some d->∃ c,c.length=P.cellsOf e/\R (old w) w c d/\∀ j v,c[j]?=some v->w.cell? (a.add (i*P.cellsOf e+j))=some v:=by
  intro m'
  induction m' with
  | zero=>intro _;exact⟨[],rfl,fun i d h=>by simp at h⟩
  | succ m' ih =>
   intro hm';obtain⟨ds,l1,l2⟩:=ih (by omega);obtain⟨c,d,k1,k2,k3⟩:=each m' (by omega);refine⟨ds++[d],by simp[l1],fun i d' hd'=>?_⟩;rcases aBH i m' with hi | hi
   .rw[aAo (by omega)] at hd';exact l2 i d' hd'
   rw[aAQ (by omega)] at hd';have h0:i-ds.length=0:=by have:=(aAi.1 hd').1;simpa using this
   rw[h0] at hd';simp at hd';subst hd';have:i=m':=by omega
   subst this;exact⟨c,k1,k2,k3⟩
 obtain⟨ds,l1,l2⟩:=main len (aAH _);refine⟨⟨some a,len,cap⟩,ds,rfl,l1.symm,fun i d hd=>?_⟩;obtain⟨c,k1,k2,k3⟩:=l2 i d hd;have hi:i<len:=by have:=(aAi.1 hd).1;omega
 have hb':(a.add (i*P.cellsOf e)).block=a.block:=by unfold Addr.add;split<;>rfl
 refine⟨a.add (i*P.cellsOf e),c,?_,?_,k1,k2,fun j v hv=>by rw[lI];exact k3 j v hv⟩
 .unfold ix;simp only[aBN];rw[if_pos ⟨by omega,by omega⟩];simp
 show(a.add _).block<w.heap.size
 cases c with
 | nil=>simp at k1;omega
 | cons v c=>exact uP (k3 0 v rfl)
theorem uA {n:Int} (h:(Lit.int .u8 n).wf=true):0<=n/\n<256:=by
 simp[Lit.wf,IntKind.min,IntKind.max,IntKind.signed,IntKind.bits] at h;omega
end
def dX (a0:ByteArray) (x7:Int) (w8:World):Option ((Int×World)⊕((World)⊕(Bool×World))) :=
 if (decide (x7<(a0.size:Int)))=true then
 (hJ ((ixS a0 x7).bind fun v24 =>
 aE (if (decide (97<=v24))=true then
 (some ((decide (v24<=122)),w8))
 else
 (some (false,w8))) fun v26 w27 =>
 if v26=true then
 (some (.inr w27))
 else
 (aE (if (decide (0<x7))=true then
 (if (decide (48<=v24))=true then
 (if (decide (v24<=57))=true then
 (some (true,w27))
 else
 (some ((v24==45),w27)))
 else
 (some ((v24==45),w27)))
 else
 (some (false,w27))) fun v32 w33 =>
 if v32=true then
 (some (.inr w33))
 else
 ((some (.inr (.inr (false,w33)))).bind fun g23=>some (.inl g23)))) some fun (i:World)=>u1 i fun w18 =>
 some (.inl ((IntKind.wrap .i64 (x7+1)),w18)))
 else
 (some (.inr (.inl w8)))
noncomputable def iB (a0:ByteArray) (w:World):Option (Bool×World) :=
 aE (if (decide ((a0.size:Int)<1))=true then
 (some (true,w))
 else
 (some ((decide (16<(a0.size:Int))),w))) fun v1 w2 =>
 if v1=true then
 (some (false,w2))
 else
 ((bB (fun s:Int×World=>dX a0 s.1 s.2) (0,w2)).bind fun r9=>Sum.elim (fun (i:World)=>u1 i fun w11 =>
 some (true,w11)) (fun (i:Bool×World)=>u2 i fun v12 w13 =>
 some (v12,w13)) r9)
theorem jR {a0 w w' r0} (h:iB a0 w=some (r0,w')):Calls Try.prog 13 #[(.string a0)] w fun e w''=>e=.returned (.bool r0)/\w''=w':=by
 refine aG (n:=44) Try.func13 rfl Try.ntmps13 (by simp) fun a u=>?_;unfold iB at h;refine wp_seq<|aA<|qa u rfl fun a u=>aC<|t_n<|wp_seq<|wp_seq<|?_;have⟨v1,w2,e3,h⟩:=bs2 h;refine aW (n:=44) (L:=[(12,(bV v1)),(0,(.string a0))]) (w':=w2) (fun a u=>?_) (fun hk4=>?_)
 .refine t_n<|?_;refine aF u rfl h (fun b6 h=>?_) (fun b6 h=>?_)
  .refine wp_seq<|aA<|qa u rfl fun a u=>aC<|t_n<|wp_ret<|t_r<|?_;have y:=u;cases h;exact aX Try.results13 y rfl ⟨rfl,rfl⟩
  refine wp_skip<|t_n<|wp_seq<|wp_seq<|aA<|qm u rfl fun a u=>q u (lY u rfl yY) fun a u=>qm u rfl fun a u=>aC<|t_n<|wp_block<|?_;have⟨r9,e10,h⟩:=bs1 h;refine dH (n:=44) (L1:=fun i=>[]) (w1:=fun i=>i) (L2:=fun i=>[(2,(bV i.1))]) (w2:=fun i=>i.2) (e1:=.exit 0) (e2:=.ret) (I:=fun (s:Int×World) a w=>Has 44 [(15,(iV s.1)),(0,(.string a0)),(14,(iV (a0.size:Int)))] a/\w=s.2) ⟨u.sub ⟨rfl,rfl,rfl,aBP⟩,rfl⟩ e10 (fun i hi a u=>?_) (fun i hi a u=>?_) (fun hk14 hk15=>?_)
  .subst hi;obtain⟨w11,rfl⟩:∃ x,x=i:=⟨i,rfl⟩;dsimp only[Sum.elim_inl,Sum.elim_inr,u1,u2,u3,u4,u5,u6] at h;have u:Has 44 [] a:=u;refine eC<|t_n<|wp_seq<|aA<|qa u rfl fun a u=>aC<|t_n<|wp_ret<|?_;have y:=u;cases h;exact aX Try.results13 y rfl ⟨rfl,rfl⟩
  .subst hi;obtain⟨v12,w13⟩:=i;dsimp only[Sum.elim_inl,Sum.elim_inr,u1,u2,u3,u4,u5,u6] at h;have u:Has 44 [(2,(bV v12))] a:=u;refine b_r<|t_r<|?_;have y:=u;cases h;exact aX Try.results13 y rfl ⟨rfl,rfl⟩
  clear h;rintro⟨x7,w8⟩ a wq o ⟨u,hwq⟩ h hr16;obtain rfl:w8=wq:=hwq.symm;have u:Has 44 [(15,(iV x7)),(0,(.string a0)),(14,(iV (a0.size:Int)))] a:=u;have h:dX a0 x7 w8=some o:=h;unfold dX at h;refine wp_seq<|aA<|q u (eX u rfl rfl) fun a u=>aC<|t_n<|wp_seq<|?_;refine aF u rfl h (fun b17 h=>?_) (fun b17 h=>?_)
  .refine wp_skip<|t_n<|?_;obtain⟨o21,e19,h20⟩:=bsX h;clear h;refine iW (n:=44) (ι:=World) (Lf:=fun i=>[(0,(.string a0)),(14,(iV (a0.size:Int))),(15,(iV x7))]) (wf:=fun i=>i) (C:=fun i=>o21=.inr i) (fun i hi a u=>?_) (fun hk22=>?_)
   .subst hi;obtain⟨w18,rfl⟩:∃ x,x=i:=⟨i,rfl⟩;have h:=h20;dsimp only[hJ,u1,u2,u3,u4,u5,u6] at h;have u:Has 44 [(0,(.string a0)),(14,(iV (a0.size:Int))),(15,(iV x7))] a:=u;refine aA<|q u (dP u rfl rfl) fun a u=>qm u rfl fun a u=>aC<|?_;have y:=u;cases h;exact cP ⟨y.sb rfl,rfl⟩
   have h:=e19;refine wp_block<|wp_seq<|aA<|qm u rfl fun a u=>qa u rfl fun a u=>aC<|t_n<|wp_seq<|aA<|qm u rfl fun a u=>qm u rfl fun a u=>?_;have⟨v24,e25,h⟩:=bs1 h;refine q u (nM u rfl rfl yY e25) fun a u=>qa u rfl fun a u=>aC<|t_n<|wp_block<|wp_seq<|?_;have⟨v26,w27,e28,h⟩:=bs2 h;refine aW (n:=44) (L:=[(21,(bV v26)),(0,(.string a0)),(3,(iV x7)),(4,(.int .u8 v24)),(14,(iV (a0.size:Int))),(15,(iV x7))]) (w':=w27) (fun a u=>?_) (fun hk29=>?_)
   .refine t_n<|?_;refine aF u rfl h (fun b31 h=>?_) (fun b31 h=>?_)
    .refine wp_skip<|b_n<|b_n<|?_;have y:=u;cases h;exact hk22 _ rfl _ (y.sb rfl)
    refine wp_seq<|?_;have⟨v32,w33,e34,h⟩:=bs2 h;refine aW (n:=44) (L:=[(28,(bV v32)),(0,(.string a0)),(14,(iV (a0.size:Int))),(15,(iV x7))]) (w':=w33) (fun a u=>?_) (fun hk35=>?_)
    .refine t_n<|?_;refine aF u rfl h (fun b39 h=>?_) (fun b39 h=>?_)
     .refine wp_skip<|b_n<|b_n<|?_;have y:=u;cases h;exact hk22 _ rfl _ (y.sb rfl)
     refine wp_seq<|aA<|qa u rfl fun a u=>aC<|t_n<|wp_ret<|b_r<|b_r<|?_;have y:=u;have⟨g23,e40,h⟩:=bs1 h;cases h;cases h20;have h:=e40;have u:=y;refine t_r<|?_;have y:=u;cases h;cases hr16 _ rfl;refine gB<|?_;exact hk15 _ rfl _ (y.sb rfl)
    clear h;have h:=e34;refine aA<|qm u rfl fun a u=>q u (iM u rfl rfl) fun a u=>qm u rfl fun a u=>?_;refine bU h (fun b36 h=>?_) (fun b36 h=>?_)
    .refine qg u 31 b36 (aD u rfl) fun a u=>qg u 31 b36 (lU u rfl rfl) fun a u=>qg u 31 b36 (aD u rfl) fun a u=>?_;refine bU h (fun b37 h=>?_) (fun b37 h=>?_)
     .refine qg u 34 b37 (aD u rfl) fun a u=>qg u 34 b37 (mE u rfl rfl) fun a u=>qg u 31 b36 (aK u rfl b37 rfl) fun a u=>qg u 31 b36 (aD u rfl) fun a u=>?_;refine bU h (fun b38 h=>?_) (fun b38 h=>?_)
      .refine qn u 38 (tn b38) fun a u=>qn u 38 (tn b38) fun a u=>qg u 31 b36 (aK u rfl b38 rfl) fun a u=>q u (aK u rfl b36 rfl) fun a u=>qa u rfl fun a u=>aC<|?_;have y:=u;cases h;exact hk35 _ (y.sb rfl)
      refine qg u 38 (nt b38) (aD u rfl) fun a u=>qg u 38 (nt b38) (cA u rfl rfl) fun a u=>qg u 31 b36 (aJ u rfl b38 rfl) fun a u=>q u (aK u rfl b36 rfl) fun a u=>qa u rfl fun a u=>aC<|?_;have y:=u;cases h;exact hk35 _ (y.sb rfl)
     refine qn u 34 (nm b37) fun a u=>qn u 34 (nm b37) fun a u=>qg u 31 b36 (aJ u rfl b37 rfl) fun a u=>qg u 31 b36 (aD u rfl) fun a u=>qg u 38 (nt aAm) (aD u rfl) fun a u=>qg u 38 (nt aAm) (cA u rfl rfl) fun a u=>qg u 31 b36 (aJ u rfl aAm rfl) fun a u=>q u (aK u rfl b36 rfl) fun a u=>qa u rfl fun a u=>aC<|?_;have y:=u;cases h;exact hk35 _ (y.sb rfl)
    refine qn u 31 (nm b36) fun a u=>qn u 31 (nm b36) fun a u=>qn u 31 (nm b36) fun a u=>qu u 34 fun a u=>qu u 34 fun a u=>qn u 31 (nm b36) fun a u=>qn u 31 (nm b36) fun a u=>qu u 38 fun a u=>qu u 38 fun a u=>qn u 31 (nm b36) fun a u=>q u (aJ u rfl b36 rfl) fun a u=>qa u rfl fun a u=>aC<|?_;have y:=u;cases h;exact hk35 _ (y.sb rfl)
   clear h;have h:=e28;refine aA<|qm u rfl fun a u=>q u (lU u rfl rfl) fun a u=>qm u rfl fun a u=>?_;refine bU h (fun b30 h=>?_) (fun b30 h=>?_)
   .refine qg u 24 b30 (aD u rfl) fun a u=>qg u 24 b30 (mE u rfl rfl) fun a u=>q u (aK u rfl b30 rfl) fun a u=>qa u rfl fun a u=>aC<|?_;have y:=u;cases h;exact hk29 _ (y.sb rfl)
   refine qn u 24 (nm b30) fun a u=>qn u 24 (nm b30) fun a u=>q u (aJ u rfl b30 rfl) fun a u=>qa u rfl fun a u=>aC<|?_;have y:=u;cases h;exact hk29 _ (y.sb rfl)
  refine wp_exit<|t_x<|?_;have y:=u;cases h;cases hr16 _ rfl;refine iE<|?_;exact hk14 _ rfl _ (y.sb rfl)
 clear h;have h:=e3;refine aA<|qm u rfl fun a u=>q u (lY u rfl yY) fun a u=>q u (eX u rfl rfl) fun a u=>qm u rfl fun a u=>?_;refine bU h (fun b5 h=>?_) (fun b5 h=>?_)
 .refine qn u 8 (tn b5) fun a u=>qn u 8 (tn b5) fun a u=>qn u 8 (tn b5) fun a u=>q u (aK u rfl b5 rfl) fun a u=>aC<|?_;have y:=u;cases h;exact hk4 _ (y.sb rfl)
 refine qg u 8 (nt b5) (aD u rfl) fun a u=>qg u 8 (nt b5) (lY u rfl yY) fun a u=>qg u 8 (nt b5) (iM u rfl rfl) fun a u=>q u (aJ u rfl b5 rfl) fun a u=>aC<|?_;have y:=u;cases h;exact hk4 _ (y.sb rfl)
noncomputable def gV (a0:Int) (w:World):Option (Bool×World) :=
 aE (if (decide ((-1048576)<=a0))=true then
 (some ((decide (a0<=1048576)),w))
 else
 (some (false,w))) fun v1 w2 =>
 some (v1,w2)
theorem kQ {a0 w w' r0} (h:gV a0 w=some (r0,w')):Calls Try.prog 24 #[(.int .i64 a0)] w fun e w''=>e=.returned (.bool r0)/\w''=w':=by
 refine aG (n:=9) Try.func24 rfl Try.ntmps24 (by simp) fun a u=>?_;unfold gV at h;refine wp_seq<|aA<|qa u rfl fun a u=>aC<|t_n<|wp_seq<|?_;have⟨v1,w2,e3,h⟩:=bs2 h;refine aW (n:=9) (L:=[(2,(bV v1))]) (w':=w2) (fun a u=>?_) (fun hk4=>?_)
 .refine t_n<|wp_ret<|?_;have y:=u;cases h;exact aX Try.results24 y rfl ⟨rfl,rfl⟩
 clear h;have h:=e3;refine aA<|qm u rfl fun a u=>q u (lU u rfl rfl) fun a u=>qm u rfl fun a u=>?_;refine bU h (fun b5 h=>?_) (fun b5 h=>?_)
 .refine qg u 5 b5 (aD u rfl) fun a u=>qg u 5 b5 (mE u rfl rfl) fun a u=>q u (aK u rfl b5 rfl) fun a u=>qa u rfl fun a u=>aC<|?_;have y:=u;cases h;exact hk4 _ (y.sb rfl)
 refine qn u 5 (nm b5) fun a u=>qn u 5 (nm b5) fun a u=>q u (aJ u rfl b5 rfl) fun a u=>qa u rfl fun a u=>aC<|?_;have y:=u;cases h;exact hk4 _ (y.sb rfl)
noncomputable def jC (a0:List Value) (w:World):Option (Bool×World) :=
 aE (mk w 43 a0) fun p1 w2 =>
 aE ((ldI .i64 w2 (p1.add 0)).bind fun v8 =>
 aE (gV v8 w2) fun v10 w11 =>
 if v10=true then
 ((ldI .i64 w11 (p1.add 1)).bind fun v14 =>
 aE (gV v14 w11) fun v16 w17 =>
 if v16=true then
 ((ldI .i64 w17 (p1.add 2)).bind fun v20 =>
 if (decide (0<=v20))=true then
 ((ldI .i64 w17 (p1.add 2)).bind fun v23 =>
 some ((decide (v23<=1048576)),w17))
 else
 (some (false,w17)))
 else
 (some (false,w17)))
 else
 (some (false,w11))) fun v4 w5 =>
 some (v4,w5)
theorem oK {a0 w w' r0} (h:jC a0 w=some (r0,w')):Calls Try.prog 15 #[(.agg (List.toArray a0))] w fun e w''=>e=.returned (.bool r0)/\w''=w':=by
 refine aG (n:=24) Try.func15 rfl Try.ntmps15 (by simp) fun a u=>?_;unfold jC at h;refine wp_seq<|aA<|?_;have⟨p1,w2,e3,h⟩:=bs2 h;refine q u (dJ u rfl rfl e3) fun a u=>qa u rfl fun a u=>aC<|t_n<|wp_seq<|aA<|qa u rfl fun a u=>aC<|t_n<|wp_seq<|?_;have⟨v4,w5,e6,h⟩:=bs2 h;refine aW (n:=24) (L:=[(2,(bV v4))]) (w':=w5) (fun a u=>?_) (fun hk7=>?_)
 .refine t_n<|wp_ret<|?_;have y:=u;cases h;exact aX Try.results15 y rfl ⟨rfl,rfl⟩
 clear h;have h:=e6;refine aA<|qm u rfl fun a u=>q u (aI u rfl yK rfl rfl yU) fun a u=>?_;have⟨v8,e9,h⟩:=bs1 h;refine q u (aH u rfl yT (aL e9)) fun a u=>?_;have⟨v10,w11,e12,h⟩:=bs2 h;refine q u (fD (xs:=[_]) (vs:=[(iV v8)]) (cv:=[]) u rfl ⟨rfl,aBP⟩ Try.call24 (kQ e12)) fun a u=>qm u rfl fun a u=>?_;refine bU h (fun b13 h=>?_) (fun b13 h=>?_)
 .refine qg u 8 b13 (aD u rfl) fun a u=>qg u 8 b13 (aI u rfl yK rfl rfl yU) fun a u=>?_;have⟨v14,e15,h⟩:=bs1 h;refine qg u 8 b13 (aH u rfl yT (aL e15)) fun a u=>?_;have⟨v16,w17,e18,h⟩:=bs2 h;refine qg u 8 b13 (fD (xs:=[_]) (vs:=[(iV v14)]) (cv:=[]) u rfl ⟨rfl,aBP⟩ Try.call24 (kQ e18)) fun a u=>q u (aK u rfl b13 rfl) fun a u=>qm u rfl fun a u=>?_;refine bU h (fun b19 h=>?_) (fun b19 h=>?_)
  .refine qg u 14 b19 (aI u rfl yK rfl rfl yU) fun a u=>?_;have⟨v20,e21,h⟩:=bs1 h;refine qg u 14 b19 (aH u rfl yT (aL e21)) fun a u=>qg u 14 b19 (lU u rfl rfl) fun a u=>q u (aK u rfl b19 rfl) fun a u=>qm u rfl fun a u=>?_;refine bU h (fun b22 h=>?_) (fun b22 h=>?_)
   .refine qg u 19 b22 (aI u rfl yK rfl rfl yU) fun a u=>?_;have⟨v23,e24,h⟩:=bs1 h;refine qg u 19 b22 (aH u rfl yT (aL e24)) fun a u=>qg u 19 b22 (mE u rfl rfl) fun a u=>q u (aK u rfl b22 rfl) fun a u=>qa u rfl fun a u=>aC<|?_;have y:=u;cases h;exact hk7 _ (y.sb rfl)
   refine qn u 19 (nm b22) fun a u=>qn u 19 (nm b22) fun a u=>qn u 19 (nm b22) fun a u=>q u (aJ u rfl b22 rfl) fun a u=>qa u rfl fun a u=>aC<|?_;have y:=u;cases h;exact hk7 _ (y.sb rfl)
  refine qn u 14 (nm b19) fun a u=>qn u 14 (nm b19) fun a u=>qn u 14 (nm b19) fun a u=>q u (aJ u rfl b19 rfl) fun a u=>qm u rfl fun a u=>qn u 19 (nm aAm) fun a u=>qn u 19 (nm aAm) fun a u=>qn u 19 (nm aAm) fun a u=>q u (aJ u rfl aAm rfl) fun a u=>qa u rfl fun a u=>aC<|?_;have y:=u;cases h;exact hk7 _ (y.sb rfl)
 refine qn u 8 (nm b13) fun a u=>qn u 8 (nm b13) fun a u=>qn u 8 (nm b13) fun a u=>qn u 8 (nm b13) fun a u=>q u (aJ u rfl b13 rfl) fun a u=>qm u rfl fun a u=>qn u 14 (nm aAm) fun a u=>qn u 14 (nm aAm) fun a u=>qn u 14 (nm aAm) fun a u=>q u (aJ u rfl aAm rfl) fun a u=>qm u rfl fun a u=>qn u 19 (nm aAm) fun a u=>qn u 19 (nm aAm) fun a u=>qn u 19 (nm aAm) fun a u=>q u (aJ u rfl aAm rfl) fun a u=>qa u rfl fun a u=>aC<|?_;have y:=u;cases h;exact hk7 _ (y.sb rfl)
noncomputable def fH (a0:List Value) (w:World):Option (Bool×World) :=
 aE (mk w 43 a0) fun p1 w2 =>
 (ldA 3 w2 p1 0).bind fun c4 =>
 aE (jC c4 w2) fun v6 w7 =>
 some ((!v6),w7)
theorem lR {a0 w w' r0} (h:fH a0 w=some (r0,w')):Calls Try.prog 14 #[(.agg (List.toArray a0))] w fun e w''=>e=.returned (.bool r0)/\w''=w':=by
 refine aG (n:=6) Try.func14 rfl Try.ntmps14 (by simp) fun a u=>?_;unfold fH at h;refine wp_seq<|aA<|?_;have⟨p1,w2,e3,h⟩:=bs2 h;refine q u (dJ u rfl rfl e3) fun a u=>qa u rfl fun a u=>aC<|t_n<|wp_seq<|aA<|?_;have⟨c4,e5,h⟩:=bs1 h;refine q u (bE u rfl zB yO e5) fun a u=>?_;have⟨v6,w7,e8,h⟩:=bs2 h;refine q u (dc1 u rfl Try.call15 (oK e8)) fun a u=>q u (eP u rfl) fun a u=>qa u rfl fun a u=>aC<|t_n<|wp_ret<|?_;have y:=u;cases h;exact aX Try.results14 y rfl ⟨rfl,rfl⟩
noncomputable def aT (a0:Sl) (x1:Int) (w2:World):Option ((Int×World)⊕((World)⊕(Int×World))) :=
 if (decide (x1<(a0.n:Int)))=true then
 ((ix a0 x1 3).bind fun p12 =>
 (ldA 3 w2 p12 0).bind fun c14 =>
 aE (fH c14 w2) fun v16 w17 =>
 if v16=true then
 (some (.inr (.inr (x1,w17))))
 else
 (some (.inl ((IntKind.wrap .i64 (x1+1)),w17))))
 else
 (some (.inr (.inl w2)))
noncomputable def cC (a0:Sl) (w:World):Option (Int×World) :=
 (bB (fun s:Int×World=>aT a0 s.1 s.2) (0,w)).bind fun r3=>Sum.elim (fun (i:World)=>u1 i fun w5 =>
 some ((-1),w5)) (fun (i:Int×World)=>u2 i fun v6 w7 =>
 some (v6,w7)) r3
theorem gF {a0 w w' r0} (h:cC a0 w=some (r0,w')):Calls Try.prog 25 #[(Sl.v a0),(.func (.func 14) #[] #[])] w fun e w''=>e=.returned (.int .i64 r0)/\w''=w':=by
 refine aG (n:=19) Try.func25 rfl Try.ntmps25 (by simp) fun a u=>?_;unfold cC at h;refine wp_seq<|aA<|qa u rfl fun a u=>aC<|t_n<|wp_seq<|wp_seq<|aA<|qm u rfl fun a u=>q u (bZ u rfl yJ) fun a u=>qm u rfl fun a u=>aC<|t_n<|wp_block<|?_;have⟨r3,e4,h⟩:=bs1 h;refine dH (n:=19) (L1:=fun i=>[]) (w1:=fun i=>i) (L2:=fun i=>[(4,(iV i.1))]) (w2:=fun i=>i.2) (e1:=.exit 0) (e2:=.ret) (I:=fun (s:Int×World) a w=>Has 19 [(8,(iV s.1)),(0,(Sl.v a0)),(1,(.func (.func 14) #[] #[])),(7,(iV (a0.n:Int)))] a/\w=s.2) ⟨u.sub ⟨rfl,rfl,rfl,rfl,aBP⟩,rfl⟩ e4 (fun i hi a u=>?_) (fun i hi a u=>?_) (fun hk8 hk9=>?_)
 .subst hi;obtain⟨w5,rfl⟩:∃ x,x=i:=⟨i,rfl⟩;dsimp only[Sum.elim_inl,Sum.elim_inr,u1,u2,u3,u4,u5,u6] at h;have u:Has 19 [] a:=u;refine eC<|t_n<|wp_seq<|aA<|qa u rfl fun a u=>aC<|t_n<|wp_ret<|?_;have y:=u;cases h;exact aX Try.results25 y rfl ⟨rfl,rfl⟩
 .subst hi;obtain⟨v6,w7⟩:=i;dsimp only[Sum.elim_inl,Sum.elim_inr,u1,u2,u3,u4,u5,u6] at h;have u:Has 19 [(4,(iV v6))] a:=u;refine b_r<|t_r<|?_;have y:=u;cases h;exact aX Try.results25 y rfl ⟨rfl,rfl⟩
 clear h;rintro⟨x1,w2⟩ a wq o ⟨u,hwq⟩ h hr10;obtain rfl:w2=wq:=hwq.symm;have u:Has 19 [(8,(iV x1)),(0,(Sl.v a0)),(1,(.func (.func 14) #[] #[])),(7,(iV (a0.n:Int)))] a:=u;have h:aT a0 x1 w2=some o:=h;unfold aT at h;refine wp_seq<|aA<|q u (eX u rfl rfl) fun a u=>aC<|t_n<|wp_seq<|?_;refine aF u rfl h (fun b11 h=>?_) (fun b11 h=>?_)
 .refine wp_skip<|t_n<|wp_seq<|wp_block<|wp_seq<|aA<|qm u rfl fun a u=>qa u rfl fun a u=>aC<|t_n<|wp_seq<|aA<|qm u rfl fun a u=>qm u rfl fun a u=>qm u rfl fun a u=>?_;have⟨p12,e13,h⟩:=bs1 h;refine q u (dL u rfl rfl yJ yO e13) fun a u=>?_;have⟨c14,e15,h⟩:=bs1 h;refine q u (bE u rfl zB yO e15) fun a u=>?_;have⟨v16,w17,e18,h⟩:=bs2 h;refine q u (fD (xs:=[_]) (vs:=[(.agg (List.toArray c14))]) (cv:=[]) u rfl ⟨rfl,aBP⟩ Try.call14 (lR e18)) fun a u=>aC<|t_n<|?_;refine aF u rfl h (fun b19 h=>?_) (fun b19 h=>?_)
  .refine wp_seq<|aA<|qm u rfl fun a u=>qa u rfl fun a u=>aC<|t_n<|wp_ret<|b_r<|t_r<|?_;have y:=u;cases h;cases hr10 _ rfl;refine gB<|?_;exact hk9 _ rfl _ (y.sb rfl)
  refine wp_skip<|b_n<|t_n<|aA<|q u (dP u rfl rfl) fun a u=>qm u rfl fun a u=>aC<|?_;have y:=u;cases h;exact cP ⟨y.sb rfl,rfl⟩
 refine wp_exit<|t_x<|?_;have y:=u;cases h;cases hr10 _ rfl;refine iE<|?_;exact hk8 _ rfl _ (y.sb rfl)
noncomputable def aV (a0:Sl) (w:World):Option (Bool×World) :=
 aE (cC a0 w) fun v1 w2 =>
 some ((decide (0<=v1)),w2)
theorem dK {a0 w w' r0} (h:aV a0 w=some (r0,w')):Calls Try.prog 16 #[(Sl.v a0),(.func (.func 14) #[] #[])] w fun e w''=>e=.returned (.bool r0)/\w''=w':=by
 refine aG (n:=9) Try.func16 rfl Try.ntmps16 (by simp) fun a u=>?_;unfold aV at h;refine wp_seq<|aA<|qa u rfl fun a u=>aC<|t_n<|wp_seq<|aA<|qm u rfl fun a u=>qm u rfl fun a u=>?_;have⟨v1,w2,e3,h⟩:=bs2 h;refine q u (fP (xs:=[_,_]) (vs:=[(Sl.v a0),(.func (.func 14) #[] #[])]) u ⟨rfl,rfl,aBP⟩ Try.call25 (gF e3)) fun a u=>q u (lU u rfl rfl) fun a u=>qa u rfl fun a u=>aC<|t_n<|wp_ret<|?_;have y:=u;cases h;exact aX Try.results16 y rfl ⟨rfl,rfl⟩
noncomputable def dB (a0:Sl) (x2:ByteArray) (x3:Int) (w4:World):Option ((ByteArray×Int×World)⊕((World)⊕(Int×World))) :=
 if (decide (x3<(a0.n:Int)))=true then
 ((ix a0 x3 12).bind fun p14 =>
 (ldA 12 w4 p14 0).bind fun c16 =>
 aE (mk w4 40 ([.string ByteArray.empty,.int .i64 0,.bool false,.int .i64 0,.int .i64 0,.string ByteArray.empty,.string ByteArray.empty,.bool false,.int .u8 0,.bool false,.slice none 0 0,.slice none 0 0])) fun p18 w19 =>
 (stA w19 p18 0 c16).bind fun w21 =>
 (ldS w21 (p18.add 0)).bind fun v23 =>
 aE (iB v23 w21) fun v25 w26 =>
 if (!v25)=true then
 (some (.inr (.inr (11,w26))))
 else
 ((ldS w26 (p18.add 0)).bind fun v29 =>
 if (sLt v29 x2||sEq v29 x2)=true then
 (some (.inr (.inr (4,w26))))
 else
 (aE ((ldI .i64 w26 (p18.add 1)).bind fun v36 =>
 if (decide (v36<1))=true then
 (some (true,w26))
 else
 ((ldI .i64 w26 (p18.add 1)).bind fun v39 =>
 some ((decide (4<v39)),w26))) fun v32 w33 =>
 if v32=true then
 (some (.inr (.inr (12,w33))))
 else
 (hJ ((ldI .i64 w33 (p18.add 1)).bind fun v48 =>
 if (v48==4)=true then
 (aE ((ldL w33 (p18.add 10)).bind fun v55 =>
 if (decide (4<(v55.n:Int)))=true then
 (some (true,w33))
 else
 ((ldL w33 (p18.add 11)).bind fun v58 =>
 some ((decide (4<(v58.n:Int))),w33))) fun v51 w52 =>
 if v51=true then
 ((some (.inr (.inr (6,w52)))).bind fun g47=>some (.inl g47))
 else
 (aE ((ldL w52 (p18.add 10)).bind fun v66 =>
 aE (aV v66 w52) fun v68 w69 =>
 if v68=true then
 (some (true,w69))
 else
 ((ldL w69 (p18.add 11)).bind fun v72 =>
 aE (aV v72 w69) fun v74 w75 =>
 some (v74,w75))) fun v62 w63 =>
 if v62=true then
 ((some (.inr (.inr (2,w63)))).bind fun g47=>some (.inl g47))
 else
 (some (.inr w63))))
 else
 (some (.inr w33))) some fun (i:World)=>u1 i fun w42 =>
 (ldS w42 (p18.add 0)).bind fun v79 =>
 some (.inl (v79,(IntKind.wrap .i64 (x3+1)),w42))))))
 else
 (some (.inr (.inl w4)))
noncomputable def fF (a0:Sl) (w:World):Option (Int×World) :=
 if (decide (8<(a0.n:Int)))=true then
 (some (6,w))
 else
 ((bB (fun s:ByteArray×Int×World=>dB a0 s.1 s.2.1 s.2.2) ((ByteArray.mk #[]),0,w)).bind fun r5=>Sum.elim (fun (i:World)=>u1 i fun w7 =>
 some (0,w7)) (fun (i:Int×World)=>u2 i fun v8 w9 =>
 some (v8,w9)) r5)
theorem jN {a0 w w' r0} (h:fF a0 w=some (r0,w')):Calls Try.prog 7 #[(Sl.v a0)] w fun e w''=>e=.returned (.int .i64 r0)/\w''=w':=by
 refine aG (n:=61) Try.func7 rfl Try.ntmps7 (by simp) fun a u=>?_;unfold fF at h;refine wp_seq<|aA<|qa u rfl fun a u=>aC<|t_n<|wp_seq<|wp_seq<|aA<|qm u rfl fun a u=>q u (bZ u rfl yI) fun a u=>q u (iM u rfl rfl) fun a u=>aC<|t_n<|?_;refine aF u rfl h (fun b1 h=>?_) (fun b1 h=>?_)
 .refine wp_seq<|aA<|qa u rfl fun a u=>aC<|t_n<|wp_ret<|t_r<|?_;have y:=u;cases h;exact aX Try.results7 y rfl ⟨rfl,rfl⟩
 refine wp_skip<|t_n<|wp_seq<|aA<|qa u rfl fun a u=>aC<|t_n<|wp_seq<|wp_seq<|aA<|qm u rfl fun a u=>q u (bZ u rfl yI) fun a u=>qm u rfl fun a u=>aC<|t_n<|wp_block<|?_;have⟨r5,e6,h⟩:=bs1 h;refine dH (n:=61) (L1:=fun i=>[]) (w1:=fun i=>i) (L2:=fun i=>[(2,(iV i.1))]) (w2:=fun i=>i.2) (e1:=.exit 0) (e2:=.ret) (I:=fun (s:ByteArray×Int×World) a w=>Has 61 [(3,(.string s.1)),(12,(iV s.2.1)),(10,(Sl.v a0)),(11,(iV (a0.n:Int)))] a/\w=s.2.2) ⟨u.sub ⟨rfl,rfl,rfl,rfl,aBP⟩,rfl⟩ e6 (fun i hi a u=>?_) (fun i hi a u=>?_) (fun hk10 hk11=>?_)
 .subst hi;obtain⟨w7,rfl⟩:∃ x,x=i:=⟨i,rfl⟩;dsimp only[Sum.elim_inl,Sum.elim_inr,u1,u2,u3,u4,u5,u6] at h;have u:Has 61 [] a:=u;refine eC<|t_n<|wp_seq<|aA<|qa u rfl fun a u=>aC<|t_n<|wp_ret<|?_;have y:=u;cases h;exact aX Try.results7 y rfl ⟨rfl,rfl⟩
 .subst hi;obtain⟨v8,w9⟩:=i;dsimp only[Sum.elim_inl,Sum.elim_inr,u1,u2,u3,u4,u5,u6] at h;have u:Has 61 [(2,(iV v8))] a:=u;refine b_r<|t_r<|?_;have y:=u;cases h;exact aX Try.results7 y rfl ⟨rfl,rfl⟩
 clear h;rintro⟨x2,x3,w4⟩ a wq o ⟨u,hwq⟩ h hr12;obtain rfl:w4=wq:=hwq.symm;have u:Has 61 [(3,(.string x2)),(12,(iV x3)),(10,(Sl.v a0)),(11,(iV (a0.n:Int)))] a:=u;have h:dB a0 x2 x3 w4=some o:=h;unfold dB at h;refine wp_seq<|aA<|q u (eX u rfl rfl) fun a u=>aC<|t_n<|wp_seq<|?_;refine aF u rfl h (fun b13 h=>?_) (fun b13 h=>?_)
 .refine wp_skip<|t_n<|wp_seq<|wp_block<|wp_seq<|aA<|?_;have⟨p14,e15,h⟩:=bs1 h;refine q u (dL u rfl rfl yI yH e15) fun a u=>?_;have⟨c16,e17,h⟩:=bs1 h;refine q u (bE u rfl zC yH e17) fun a u=>?_;have⟨p18,w19,e20,h⟩:=bs2 h;refine q u (dG yZ (by kernel_rfl) e20) fun a u=>?_;have⟨w21,e22,h⟩:=bs1 h;refine q u (eU u rfl rfl yH ((jI e17).1) e22) fun a u=>aC<|t_n<|wp_seq<|wp_block<|wp_seq<|aA<|q u (aI u rfl yG rfl rfl yN) fun a u=>?_;have⟨v23,e24,h⟩:=bs1 h;refine q u (aH u rfl yP (cG e24)) fun a u=>?_;have⟨v25,w26,e27,h⟩:=bs2 h;refine q u (dc1 u rfl Try.call13 (jR e27)) fun a u=>q u (eP u rfl) fun a u=>qa u rfl fun a u=>aC<|t_n<|?_;refine aF u rfl h (fun b28 h=>?_) (fun b28 h=>?_)
  .refine wp_seq<|aA<|qa u rfl fun a u=>aC<|t_n<|wp_ret<|b_r<|t_r<|b_r<|t_r<|?_;have y:=u;cases h;cases hr12 _ rfl;refine gB<|?_;exact hk11 _ rfl _ (y.sb rfl)
  refine wp_seq<|aA<|q u (aI u rfl yG rfl rfl yN) fun a u=>?_;have⟨v29,e30,h⟩:=bs1 h;refine q u (aH u rfl yP (cG e30)) fun a u=>qm u rfl fun a u=>q u (oC u rfl rfl) fun a u=>qa u rfl fun a u=>aC<|t_n<|?_;refine aF u rfl h (fun b31 h=>?_) (fun b31 h=>?_)
  .refine wp_seq<|aA<|qa u rfl fun a u=>aC<|t_n<|wp_ret<|b_r<|t_r<|b_r<|t_r<|?_;have y:=u;cases h;cases hr12 _ rfl;refine gB<|?_;exact hk11 _ rfl _ (y.sb rfl)
  refine wp_seq<|?_;have⟨v32,w33,e34,h⟩:=bs2 h;refine aW (n:=61) (L:=[(26,(bV v32)),(5,(pV (some p18))),(10,(Sl.v a0)),(11,(iV (a0.n:Int))),(12,(iV x3))]) (w':=w33) (fun a u=>?_) (fun hk35=>?_)
  .refine t_n<|?_;refine aF u rfl h (fun b41 h=>?_) (fun b41 h=>?_)
   .refine wp_seq<|aA<|qa u rfl fun a u=>aC<|t_n<|wp_ret<|b_r<|t_r<|b_r<|t_r<|?_;have y:=u;cases h;cases hr12 _ rfl;refine gB<|?_;exact hk11 _ rfl _ (y.sb rfl)
   refine wp_skip<|b_n<|t_n<|?_;obtain⟨o45,e43,h44⟩:=bsX h;clear h;refine iW (n:=61) (ι:=World) (Lf:=fun i=>[(5,(pV (some p18))),(10,(Sl.v a0)),(11,(iV (a0.n:Int))),(12,(iV x3))]) (wf:=fun i=>i) (C:=fun i=>o45=.inr i) (fun i hi a u=>?_) (fun hk46=>?_)
   .subst hi;obtain⟨w42,rfl⟩:∃ x,x=i:=⟨i,rfl⟩;have h:=h44;dsimp only[hJ,u1,u2,u3,u4,u5,u6] at h;have u:Has 61 [(5,(pV (some p18))),(10,(Sl.v a0)),(11,(iV (a0.n:Int))),(12,(iV x3))] a:=u;refine aA<|q u (aI u rfl yG rfl rfl yN) fun a u=>?_;have⟨v79,e80,h⟩:=bs1 h;refine q u (aH u rfl yP (cG e80)) fun a u=>qa u rfl fun a u=>aC<|b_n<|t_n<|aA<|q u (dP u rfl rfl) fun a u=>qm u rfl fun a u=>aC<|?_;have y:=u;cases h;exact cP ⟨y.sb rfl,rfl⟩
   have h:=e43;refine wp_seq<|aA<|q u (aI u rfl yG rfl rfl yR) fun a u=>?_;have⟨v48,e49,h⟩:=bs1 h;refine q u (aH u rfl yS (aL e49)) fun a u=>q u (cA u rfl rfl) fun a u=>aC<|t_n<|?_;refine aF u rfl h (fun b50 h=>?_) (fun b50 h=>?_)
   .refine wp_seq<|wp_seq<|?_;have⟨v51,w52,e53,h⟩:=bs2 h;refine aW (n:=61) (L:=[(47,(bV v51)),(5,(pV (some p18))),(10,(Sl.v a0)),(11,(iV (a0.n:Int))),(12,(iV x3))]) (w':=w52) (fun a u=>?_) (fun hk54=>?_)
    .refine t_n<|?_;refine aF u rfl h (fun b60 h=>?_) (fun b60 h=>?_)
     .refine wp_seq<|aA<|qa u rfl fun a u=>aC<|t_n<|wp_ret<|t_r<|?_;have y:=u;have⟨g47,e61,h⟩:=bs1 h;cases h;cases h44;have h:=e61;have u:=y;refine t_r<|b_r<|t_r<|?_;have y:=u;cases h;cases hr12 _ rfl;refine gB<|?_;exact hk11 _ rfl _ (y.sb rfl)
     refine wp_skip<|t_n<|wp_seq<|aA<|qa u rfl fun a u=>aC<|t_n<|wp_seq<|?_;have⟨v62,w63,e64,h⟩:=bs2 h;refine aW (n:=61) (L:=[(57,(bV v62)),(5,(pV (some p18))),(10,(Sl.v a0)),(11,(iV (a0.n:Int))),(12,(iV x3))]) (w':=w63) (fun a u=>?_) (fun hk65=>?_)
     .refine t_n<|?_;refine aF u rfl h (fun b77 h=>?_) (fun b77 h=>?_)
      .refine wp_seq<|aA<|qa u rfl fun a u=>aC<|t_n<|wp_ret<|?_;have y:=u;have⟨g47,e78,h⟩:=bs1 h;cases h;cases h44;have h:=e78;have u:=y;refine t_r<|b_r<|t_r<|?_;have y:=u;cases h;cases hr12 _ rfl;refine gB<|?_;exact hk11 _ rfl _ (y.sb rfl)
      refine wp_skip<|?_;have y:=u;cases h;exact hk46 _ rfl _ (y.sb rfl)
     clear h;have h:=e64;refine aA<|q u (aI u rfl yG rfl rfl yV) fun a u=>?_;have⟨v66,e67,h⟩:=bs1 h;refine q u (aH u rfl yX (bG e67)) fun a u=>qm u rfl fun a u=>?_;have⟨v68,w69,e70,h⟩:=bs2 h;refine q u (fP (xs:=[_,_]) (vs:=[(Sl.v v66),(.func (.func 14) #[] #[])]) u ⟨rfl,rfl,aBP⟩ Try.call16 (dK e70)) fun a u=>qm u rfl fun a u=>?_;refine bU h (fun b71 h=>?_) (fun b71 h=>?_)
     .refine qn u 52 (tn b71) fun a u=>qn u 52 (tn b71) fun a u=>qn u 52 (tn b71) fun a u=>qn u 52 (tn b71) fun a u=>q u (aK u rfl b71 rfl) fun a u=>aC<|?_;have y:=u;cases h;exact hk65 _ (y.sb rfl)
     refine qg u 52 (nt b71) (aI u rfl yG rfl rfl yV) fun a u=>?_;have⟨v72,e73,h⟩:=bs1 h;refine qg u 52 (nt b71) (aH u rfl yX (bG e73)) fun a u=>qg u 52 (nt b71) (aD u rfl) fun a u=>?_;have⟨v74,w75,e76,h⟩:=bs2 h;refine qg u 52 (nt b71) (fP (xs:=[_,_]) (vs:=[(Sl.v v72),(.func (.func 14) #[] #[])]) u ⟨rfl,rfl,aBP⟩ Try.call16 (dK e76)) fun a u=>q u (aJ u rfl b71 rfl) fun a u=>aC<|?_;have y:=u;cases h;exact hk65 _ (y.sb rfl)
    clear h;have h:=e53;refine aA<|q u (aI u rfl yG rfl rfl yV) fun a u=>?_;have⟨v55,e56,h⟩:=bs1 h;refine q u (aH u rfl yX (bG e56)) fun a u=>q u (bZ u rfl yJ) fun a u=>q u (iM u rfl rfl) fun a u=>qm u rfl fun a u=>?_;refine bU h (fun b57 h=>?_) (fun b57 h=>?_)
    .refine qn u 42 (tn b57) fun a u=>qn u 42 (tn b57) fun a u=>qn u 42 (tn b57) fun a u=>qn u 42 (tn b57) fun a u=>q u (aK u rfl b57 rfl) fun a u=>aC<|?_;have y:=u;cases h;exact hk54 _ (y.sb rfl)
    refine qg u 42 (nt b57) (aI u rfl yG rfl rfl yV) fun a u=>?_;have⟨v58,e59,h⟩:=bs1 h;refine qg u 42 (nt b57) (aH u rfl yX (bG e59)) fun a u=>qg u 42 (nt b57) (bZ u rfl yJ) fun a u=>qg u 42 (nt b57) (iM u rfl rfl) fun a u=>q u (aJ u rfl b57 rfl) fun a u=>aC<|?_;have y:=u;cases h;exact hk54 _ (y.sb rfl)
   refine wp_skip<|?_;have y:=u;cases h;exact hk46 _ rfl _ (y.sb rfl)
  clear h;have h:=e34;refine aA<|q u (aI u rfl yG rfl rfl yR) fun a u=>?_;have⟨v36,e37,h⟩:=bs1 h;refine q u (aH u rfl yS (aL e37)) fun a u=>q u (eX u rfl rfl) fun a u=>qm u rfl fun a u=>?_;refine bU h (fun b38 h=>?_) (fun b38 h=>?_)
  .refine qn u 30 (tn b38) fun a u=>qn u 30 (tn b38) fun a u=>qn u 30 (tn b38) fun a u=>q u (aK u rfl b38 rfl) fun a u=>qa u rfl fun a u=>aC<|?_;have y:=u;cases h;exact hk35 _ (y.sb rfl)
  refine qg u 30 (nt b38) (aI u rfl yG rfl rfl yR) fun a u=>?_;have⟨v39,e40,h⟩:=bs1 h;refine qg u 30 (nt b38) (aH u rfl yS (aL e40)) fun a u=>qg u 30 (nt b38) (iM u rfl rfl) fun a u=>q u (aJ u rfl b38 rfl) fun a u=>qa u rfl fun a u=>aC<|?_;have y:=u;cases h;exact hk35 _ (y.sb rfl)
 refine wp_exit<|t_x<|?_;have y:=u;cases h;cases hr12 _ rfl;refine iE<|?_;exact hk10 _ rfl _ (y.sb rfl)
noncomputable def bJ (a0:ByteArray) (x7:Int) (w8:World):Option ((Int×World)⊕((World)⊕(Bool×World))) :=
 if (decide (x7<(a0.size:Int)))=true then
 (aE ((ixS a0 x7).bind fun v22 =>
 if (decide (97<=v22))=true then
 ((ixS a0 x7).bind fun v25 =>
 some ((decide (v25<=122)),w8))
 else
 (some (false,w8))) fun v18 w19 =>
 aE ((ixS a0 x7).bind fun v31 =>
 if (decide (48<=v31))=true then
 ((ixS a0 x7).bind fun v34 =>
 if (decide (v34<=57))=true then
 (some (true,w19))
 else
 ((ixS a0 x7).bind fun v37 =>
 some ((v37==45),w19)))
 else
 ((ixS a0 x7).bind fun v39 =>
 some ((v39==45),w19))) fun v27 w28 =>
 aE (if (!v18)=true then
 (if (x7==0)=true then
 (some (true,w28))
 else
 (some ((!v27),w28)))
 else
 (some (false,w28))) fun v41 w42 =>
 if v41=true then
 (some (.inr (.inr (false,w42))))
 else
 (some (.inl ((IntKind.wrap .i64 (x7+1)),w42))))
 else
 (some (.inr (.inl w8)))
noncomputable def eG (a0:ByteArray) (w:World):Option (Bool×World) :=
 aE (if ((a0.size:Int)==0)=true then
 (some (true,w))
 else
 (some ((decide (16<(a0.size:Int))),w))) fun v1 w2 =>
 if v1=true then
 (some (false,w2))
 else
 ((bB (fun s:Int×World=>bJ a0 s.1 s.2) (0,w2)).bind fun r9=>Sum.elim (fun (i:World)=>u1 i fun w11 =>
 some (true,w11)) (fun (i:Bool×World)=>u2 i fun v12 w13 =>
 some (v12,w13)) r9)
theorem kJ {a0 w w' r0} (h:eG a0 w=some (r0,w')):Calls Try.prog 17 #[(.string a0)] w fun e w''=>e=.returned (.bool r0)/\w''=w':=by
 refine aG (n:=56) Try.func17 rfl Try.ntmps17 (by simp) fun a u=>?_;unfold eG at h;refine wp_seq<|aA<|qa u rfl fun a u=>aC<|t_n<|wp_seq<|wp_seq<|?_;have⟨v1,w2,e3,h⟩:=bs2 h;refine aW (n:=56) (L:=[(13,(bV v1)),(0,(.string a0))]) (w':=w2) (fun a u=>?_) (fun hk4=>?_)
 .refine t_n<|?_;refine aF u rfl h (fun b6 h=>?_) (fun b6 h=>?_)
  .refine wp_seq<|aA<|qa u rfl fun a u=>aC<|t_n<|wp_ret<|t_r<|?_;have y:=u;cases h;exact aX Try.results17 y rfl ⟨rfl,rfl⟩
  refine wp_skip<|t_n<|wp_seq<|wp_seq<|aA<|qa u rfl fun a u=>aC<|t_n<|wp_block<|?_;have⟨r9,e10,h⟩:=bs1 h;refine dH (n:=56) (L1:=fun i=>[]) (w1:=fun i=>i) (L2:=fun i=>[(2,(bV i.1))]) (w2:=fun i=>i.2) (e1:=.exit 0) (e2:=.ret) (I:=fun (s:Int×World) a w=>Has 56 [(3,(iV s.1)),(0,(.string a0))] a/\w=s.2) ⟨u.sub ⟨rfl,rfl,aBP⟩,rfl⟩ e10 (fun i hi a u=>?_) (fun i hi a u=>?_) (fun hk14 hk15=>?_)
  .subst hi;obtain⟨w11,rfl⟩:∃ x,x=i:=⟨i,rfl⟩;dsimp only[Sum.elim_inl,Sum.elim_inr,u1,u2,u3,u4,u5,u6] at h;have u:Has 56 [] a:=u;refine eC<|t_n<|wp_seq<|aA<|qa u rfl fun a u=>aC<|t_n<|wp_ret<|?_;have y:=u;cases h;exact aX Try.results17 y rfl ⟨rfl,rfl⟩
  .subst hi;obtain⟨v12,w13⟩:=i;dsimp only[Sum.elim_inl,Sum.elim_inr,u1,u2,u3,u4,u5,u6] at h;have u:Has 56 [(2,(bV v12))] a:=u;refine b_r<|t_r<|?_;have y:=u;cases h;exact aX Try.results17 y rfl ⟨rfl,rfl⟩
  clear h;rintro⟨x7,w8⟩ a wq o ⟨u,hwq⟩ h hr16;obtain rfl:w8=wq:=hwq.symm;have u:Has 56 [(3,(iV x7)),(0,(.string a0))] a:=u;have h:bJ a0 x7 w8=some o:=h;unfold bJ at h;refine wp_seq<|wp_seq<|aA<|qm u rfl fun a u=>qm u rfl fun a u=>q u (lY u rfl yY) fun a u=>q u (eX u rfl rfl) fun a u=>aC<|t_n<|?_;refine aF u rfl h (fun b17 h=>?_) (fun b17 h=>?_)
  .refine wp_skip<|t_n<|wp_seq<|wp_block<|wp_seq<|?_;have⟨v18,w19,e20,h⟩:=bs2 h;refine aW (n:=56) (L:=[(4,(bV v18)),(0,(.string a0)),(3,(iV x7))]) (w':=w19) (fun a u=>?_) (fun hk21=>?_)
   .refine t_n<|wp_seq<|?_;have⟨v27,w28,e29,h⟩:=bs2 h;refine aW (n:=56) (L:=[(5,(bV v27)),(0,(.string a0)),(3,(iV x7)),(4,(bV v18))]) (w':=w28) (fun a u=>?_) (fun hk30=>?_)
    .refine t_n<|wp_seq<|?_;have⟨v41,w42,e43,h⟩:=bs2 h;refine aW (n:=56) (L:=[(55,(bV v41)),(0,(.string a0)),(3,(iV x7))]) (w':=w42) (fun a u=>?_) (fun hk44=>?_)
     .refine t_n<|?_;refine aF u rfl h (fun b47 h=>?_) (fun b47 h=>?_)
      .refine wp_seq<|aA<|qa u rfl fun a u=>aC<|t_n<|wp_ret<|b_r<|t_r<|?_;have y:=u;cases h;cases hr16 _ rfl;refine gB<|?_;exact hk15 _ rfl _ (y.sb rfl)
      refine wp_skip<|b_n<|t_n<|aA<|qm u rfl fun a u=>q u (dP u rfl rfl) fun a u=>qa u rfl fun a u=>aC<|?_;have y:=u;cases h;exact cP ⟨y.sb rfl,rfl⟩
     clear h;have h:=e43;refine aA<|qm u rfl fun a u=>q u (eP u rfl) fun a u=>qm u rfl fun a u=>?_;refine bU h (fun b45 h=>?_) (fun b45 h=>?_)
     .refine qg u 48 b45 (aD u rfl) fun a u=>qg u 48 b45 (cA u rfl rfl) fun a u=>qg u 48 b45 (aD u rfl) fun a u=>?_;refine bU h (fun b46 h=>?_) (fun b46 h=>?_)
      .refine qn u 51 (tn b46) fun a u=>qn u 51 (tn b46) fun a u=>qg u 48 b45 (aK u rfl b46 rfl) fun a u=>q u (aK u rfl b45 rfl) fun a u=>aC<|?_;have y:=u;cases h;exact hk44 _ (y.sb rfl)
      refine qg u 51 (nt b46) (aD u rfl) fun a u=>qg u 51 (nt b46) (eP u rfl) fun a u=>qg u 48 b45 (aJ u rfl b46 rfl) fun a u=>q u (aK u rfl b45 rfl) fun a u=>aC<|?_;have y:=u;cases h;exact hk44 _ (y.sb rfl)
     refine qn u 48 (nm b45) fun a u=>qn u 48 (nm b45) fun a u=>qn u 48 (nm b45) fun a u=>qu u 51 fun a u=>qu u 51 fun a u=>qn u 48 (nm b45) fun a u=>q u (aJ u rfl b45 rfl) fun a u=>aC<|?_;have y:=u;cases h;exact hk44 _ (y.sb rfl)
    clear h;have h:=e29;refine aA<|qm u rfl fun a u=>qm u rfl fun a u=>?_;have⟨v31,e32,h⟩:=bs1 h;refine q u (nM u rfl rfl yY e32) fun a u=>q u (lU u rfl rfl) fun a u=>qm u rfl fun a u=>?_;refine bU h (fun b33 h=>?_) (fun b33 h=>?_)
    .refine qg u 34 b33 (aD u rfl) fun a u=>qg u 34 b33 (aD u rfl) fun a u=>?_;have⟨v34,e35,h⟩:=bs1 h;refine qg u 34 b33 (nM u rfl rfl yY e35) fun a u=>qg u 34 b33 (mE u rfl rfl) fun a u=>q u (aK u rfl b33 rfl) fun a u=>qm u rfl fun a u=>?_;refine bU h (fun b36 h=>?_) (fun b36 h=>?_)
     .refine qn u 40 (tn b36) fun a u=>qn u 40 (tn b36) fun a u=>qn u 40 (tn b36) fun a u=>qn u 40 (tn b36) fun a u=>q u (aK u rfl b36 rfl) fun a u=>qa u rfl fun a u=>aC<|?_;have y:=u;cases h;exact hk30 _ (y.sb rfl)
     refine qg u 40 (nt b36) (aD u rfl) fun a u=>qg u 40 (nt b36) (aD u rfl) fun a u=>?_;have⟨v37,e38,h⟩:=bs1 h;refine qg u 40 (nt b36) (nM u rfl rfl yY e38) fun a u=>qg u 40 (nt b36) (cA u rfl rfl) fun a u=>q u (aJ u rfl b36 rfl) fun a u=>qa u rfl fun a u=>aC<|?_;have y:=u;cases h;exact hk30 _ (y.sb rfl)
    refine qn u 34 (nm b33) fun a u=>qn u 34 (nm b33) fun a u=>qn u 34 (nm b33) fun a u=>qn u 34 (nm b33) fun a u=>q u (aJ u rfl b33 rfl) fun a u=>qm u rfl fun a u=>qg u 40 (nt aAm) (aD u rfl) fun a u=>qg u 40 (nt aAm) (aD u rfl) fun a u=>?_;have⟨v39,e40,h⟩:=bs1 h;refine qg u 40 (nt aAm) (nM u rfl rfl yY e40) fun a u=>qg u 40 (nt aAm) (cA u rfl rfl) fun a u=>q u (aJ u rfl aAm rfl) fun a u=>qa u rfl fun a u=>aC<|?_;have y:=u;cases h;exact hk30 _ (y.sb rfl)
   clear h;have h:=e20;refine aA<|qm u rfl fun a u=>qm u rfl fun a u=>?_;have⟨v22,e23,h⟩:=bs1 h;refine q u (nM u rfl rfl yY e23) fun a u=>q u (lU u rfl rfl) fun a u=>qm u rfl fun a u=>?_;refine bU h (fun b24 h=>?_) (fun b24 h=>?_)
   .refine qg u 24 b24 (aD u rfl) fun a u=>qg u 24 b24 (aD u rfl) fun a u=>?_;have⟨v25,e26,h⟩:=bs1 h;refine qg u 24 b24 (nM u rfl rfl yY e26) fun a u=>qg u 24 b24 (mE u rfl rfl) fun a u=>q u (aK u rfl b24 rfl) fun a u=>qa u rfl fun a u=>aC<|?_;have y:=u;cases h;exact hk21 _ (y.sb rfl)
   refine qn u 24 (nm b24) fun a u=>qn u 24 (nm b24) fun a u=>qn u 24 (nm b24) fun a u=>qn u 24 (nm b24) fun a u=>q u (aJ u rfl b24 rfl) fun a u=>qa u rfl fun a u=>aC<|?_;have y:=u;cases h;exact hk21 _ (y.sb rfl)
  refine wp_exit<|t_x<|?_;have y:=u;cases h;cases hr16 _ rfl;refine iE<|?_;exact hk14 _ rfl _ (y.sb rfl)
 clear h;have h:=e3;refine aA<|qm u rfl fun a u=>q u (lY u rfl yY) fun a u=>q u (cA u rfl rfl) fun a u=>qm u rfl fun a u=>?_;refine bU h (fun b5 h=>?_) (fun b5 h=>?_)
 .refine qn u 9 (tn b5) fun a u=>qn u 9 (tn b5) fun a u=>qn u 9 (tn b5) fun a u=>q u (aK u rfl b5 rfl) fun a u=>aC<|?_;have y:=u;cases h;exact hk4 _ (y.sb rfl)
 refine qg u 9 (nt b5) (aD u rfl) fun a u=>qg u 9 (nt b5) (lY u rfl yY) fun a u=>qg u 9 (nt b5) (iM u rfl rfl) fun a u=>q u (aJ u rfl b5 rfl) fun a u=>aC<|?_;have y:=u;cases h;exact hk4 _ (y.sb rfl)
noncomputable def dA (a0:Int) (a1:Int) (w:World):Option (Bool×World) :=
 aE (if (decide (a1<=a0))=true then
 (some ((decide (a0<=1048576)),w))
 else
 (some (false,w))) fun v1 w2 =>
 some (v1,w2)
theorem fS {a0 a1 w w' r0} (h:dA a0 a1 w=some (r0,w')):Calls Try.prog 18 #[(.int .i64 a0),(.int .i64 a1)] w fun e w''=>e=.returned (.bool r0)/\w''=w':=by
 refine aG (n:=12) Try.func18 rfl Try.ntmps18 (by simp) fun a u=>?_;unfold dA at h;refine wp_seq<|aA<|qa u rfl fun a u=>aC<|t_n<|wp_seq<|?_;have⟨v1,w2,e3,h⟩:=bs2 h;refine aW (n:=12) (L:=[(4,(bV v1))]) (w':=w2) (fun a u=>?_) (fun hk4=>?_)
 .refine t_n<|wp_ret<|?_;have y:=u;cases h;exact aX Try.results18 y rfl ⟨rfl,rfl⟩
 clear h;have h:=e3;refine aA<|qm u rfl fun a u=>qm u rfl fun a u=>q u (lU u rfl rfl) fun a u=>qm u rfl fun a u=>?_;refine bU h (fun b5 h=>?_) (fun b5 h=>?_)
 .refine qg u 8 b5 (aD u rfl) fun a u=>qg u 8 b5 (mE u rfl rfl) fun a u=>q u (aK u rfl b5 rfl) fun a u=>qa u rfl fun a u=>aC<|?_;have y:=u;cases h;exact hk4 _ (y.sb rfl)
 refine qn u 8 (nm b5) fun a u=>qn u 8 (nm b5) fun a u=>q u (aJ u rfl b5 rfl) fun a u=>qa u rfl fun a u=>aC<|?_;have y:=u;cases h;exact hk4 _ (y.sb rfl)
noncomputable def aY (s96:Sl) (x102:Int) (w103:World):Option ((Int×World)⊕((World)⊕(Int×World))) :=
 if (decide (x102<(s96.n:Int)))=true then
 (aE ((ix s96 x102 3).bind fun p117 =>
 (ldI .i64 w103 (p117.add 0)).bind fun v119 =>
 aE (dA v119 (-1048576) w103) fun v121 w122 =>
 if (!v121)=true then
 (some (true,w122))
 else
 ((ix s96 x102 3).bind fun p125 =>
 (ldI .i64 w122 (p125.add 1)).bind fun v127 =>
 aE (dA v127 (-1048576) w122) fun v129 w130 =>
 if (!v129)=true then
 (some (true,w130))
 else
 ((ix s96 x102 3).bind fun p133 =>
 (ldI .i64 w130 (p133.add 2)).bind fun v135 =>
 aE (dA v135 0 w130) fun v137 w138 =>
 some ((!v137),w138)))) fun v113 w114 =>
 if v113=true then
 (some (.inr (.inr (2,w114))))
 else
 (some (.inl ((IntKind.wrap .i64 (x102+1)),w114))))
 else
 (some (.inr (.inl w103)))
noncomputable def bF (a0:Sl) (x2:Int) (w3:World):Option ((Int×World)⊕((World)⊕(Int×World))) :=
 if (decide (x2<(a0.n:Int)))=true then
 (hJ ((ix a0 x2 12).bind fun p19 =>
 (ldS w3 (p19.add 0)).bind fun v21 =>
 aE (eG v21 w3) fun v23 w24 =>
 if (!v23)=true then
 ((some (.inr (.inr (11,w24)))).bind fun g18=>some (.inl g18))
 else
 (aE ((dr w24).bind fun w32 =>
 if (decide (0<x2))=true then
 ((ix a0 x2 12).bind fun p35 =>
 (ldS w32 (p35.add 0)).bind fun v37 =>
 (ix a0 (IntKind.wrap .i64 (x2-1)) 12).bind fun p39 =>
 (ldS w32 (p39.add 0)).bind fun v41 =>
 some ((sLt v37 v41||sEq v37 v41),w32))
 else
 (some (false,w32))) fun v28 w29 =>
 if v28=true then
 ((some (.inr (.inr (4,w29)))).bind fun g18=>some (.inl g18))
 else
 (aE ((ix a0 x2 12).bind fun p49 =>
 (ldI .i64 w29 (p49.add 1)).bind fun v51 =>
 if (decide (v51<1))=true then
 (some (true,w29))
 else
 ((ix a0 x2 12).bind fun p54 =>
 (ldI .i64 w29 (p54.add 1)).bind fun v56 =>
 some ((decide (4<v56)),w29))) fun v45 w46 =>
 if v45=true then
 ((some (.inr (.inr (12,w46)))).bind fun g18=>some (.inl g18))
 else
 ((ix a0 x2 12).bind fun p60 =>
 (ldI .i64 w46 (p60.add 1)).bind fun v62 =>
 if (v62 !=4)=true then
 (some (.inr w46))
 else
 (aE ((ix a0 x2 12).bind fun p69 =>
 (ldL w46 (p69.add 10)).bind fun v71 =>
 if (decide (4<(v71.n:Int)))=true then
 (some (true,w46))
 else
 ((ix a0 x2 12).bind fun p74 =>
 (ldL w46 (p74.add 11)).bind fun v76 =>
 some ((decide (4<(v76.n:Int))),w46))) fun v65 w66 =>
 if v65=true then
 ((some (.inr (.inr (6,w66)))).bind fun g18=>some (.inl g18))
 else
 ((dr w66).bind fun w80 =>
 aE (bsl w80 43 3 []) fun s82 w83 =>
 (ix a0 x2 12).bind fun p85 =>
 (ldL w83 (p85.add 10)).bind fun v87 =>
 aE (apS Try.prog 38 s82 v87 w83) fun s89 w90 =>
 (ix a0 x2 12).bind fun p92 =>
 (ldL w90 (p92.add 11)).bind fun v94 =>
 aE (apS Try.prog 38 s89 v94 w90) fun s96 w97 =>
 chk (ldL w80 (p85.add 10)=some v87) <|
 chk (ldL w80 (p92.add 11)=some v94) <|
 chk (ldL w83 (p92.add 11)=some v94) <|
 (bB (fun s:Int×World=>aY s96 s.1 s.2) (0,w97)).bind fun r104=>Sum.elim (fun (i:World)=>u1 i fun w106 =>
 some (.inr w106)) (fun (i:Int×World)=>u2 i fun v107 w108 =>
 (some (.inr (.inr (v107,w108)))).bind fun g18=>some (.inl g18)) r104)))))) some fun (i:World)=>u1 i fun w13 =>
 some (.inl ((IntKind.wrap .i64 (x2+1)),w13)))
 else
 (some (.inr (.inl w3)))
noncomputable def cS (a0:Sl) (w:World):Option (Int×World) :=
 if (decide (8<(a0.n:Int)))=true then
 (some (6,w))
 else
 ((bB (fun s:Int×World=>bF a0 s.1 s.2) (0,w)).bind fun r4=>Sum.elim (fun (i:World)=>u1 i fun w6 =>
 some (0,w6)) (fun (i:Int×World)=>u2 i fun v7 w8 =>
 some (v7,w8)) r4)
theorem gL {a0 w w' r0} (h:cS a0 w=some (r0,w')):Calls Try.prog 8 #[(Sl.v a0)] w fun e w''=>e=.returned (.int .i64 r0)/\w''=w':=by
 refine aG (n:=118) Try.func8 rfl Try.ntmps8 (by simp) fun a u=>?_;unfold cS at h;refine wp_seq<|aA<|qa u rfl fun a u=>aC<|t_n<|wp_seq<|wp_seq<|aA<|qm u rfl fun a u=>q u (bZ u rfl yI) fun a u=>q u (iM u rfl rfl) fun a u=>aC<|t_n<|?_;refine aF u rfl h (fun b1 h=>?_) (fun b1 h=>?_)
 .refine wp_seq<|aA<|qa u rfl fun a u=>aC<|t_n<|wp_ret<|t_r<|?_;have y:=u;cases h;exact aX Try.results8 y rfl ⟨rfl,rfl⟩
 refine wp_skip<|t_n<|wp_seq<|wp_seq<|aA<|qa u rfl fun a u=>aC<|t_n<|wp_block<|?_;have⟨r4,e5,h⟩:=bs1 h;refine dH (n:=118) (L1:=fun i=>[]) (w1:=fun i=>i) (L2:=fun i=>[(2,(iV i.1))]) (w2:=fun i=>i.2) (e1:=.exit 0) (e2:=.ret) (I:=fun (s:Int×World) a w=>Has 118 [(3,(iV s.1)),(0,(Sl.v a0))] a/\w=s.2) ⟨u.sub ⟨rfl,rfl,aBP⟩,rfl⟩ e5 (fun i hi a u=>?_) (fun i hi a u=>?_) (fun hk9 hk10=>?_)
 .subst hi;obtain⟨w6,rfl⟩:∃ x,x=i:=⟨i,rfl⟩;dsimp only[Sum.elim_inl,Sum.elim_inr,u1,u2,u3,u4,u5,u6] at h;have u:Has 118 [] a:=u;refine eC<|t_n<|wp_seq<|aA<|qa u rfl fun a u=>aC<|t_n<|wp_ret<|?_;have y:=u;cases h;exact aX Try.results8 y rfl ⟨rfl,rfl⟩
 .subst hi;obtain⟨v7,w8⟩:=i;dsimp only[Sum.elim_inl,Sum.elim_inr,u1,u2,u3,u4,u5,u6] at h;have u:Has 118 [(2,(iV v7))] a:=u;refine b_r<|t_r<|?_;have y:=u;cases h;exact aX Try.results8 y rfl ⟨rfl,rfl⟩
 clear h;rintro⟨x2,w3⟩ a wq o ⟨u,hwq⟩ h hr11;obtain rfl:w3=wq:=hwq.symm;have u:Has 118 [(3,(iV x2)),(0,(Sl.v a0))] a:=u;have h:bF a0 x2 w3=some o:=h;unfold bF at h;refine wp_seq<|wp_seq<|aA<|qm u rfl fun a u=>qm u rfl fun a u=>q u (bZ u rfl yI) fun a u=>q u (eX u rfl rfl) fun a u=>aC<|t_n<|?_;refine aF u rfl h (fun b12 h=>?_) (fun b12 h=>?_)
 .refine wp_skip<|t_n<|?_;obtain⟨o16,e14,h15⟩:=bsX h;clear h;refine iW (n:=118) (ι:=World) (Lf:=fun i=>[(0,(Sl.v a0)),(3,(iV x2))]) (wf:=fun i=>i) (C:=fun i=>o16=.inr i) (fun i hi a u=>?_) (fun hk17=>?_)
  .subst hi;obtain⟨w13,rfl⟩:∃ x,x=i:=⟨i,rfl⟩;have h:=h15;dsimp only[hJ,u1,u2,u3,u4,u5,u6] at h;have u:Has 118 [(0,(Sl.v a0)),(3,(iV x2))] a:=u;refine aA<|qm u rfl fun a u=>q u (dP u rfl rfl) fun a u=>qa u rfl fun a u=>aC<|?_;have y:=u;cases h;exact cP ⟨y.sb rfl,rfl⟩
  have h:=e14;refine wp_block<|wp_seq<|wp_seq<|aA<|qm u rfl fun a u=>qm u rfl fun a u=>?_;have⟨p19,e20,h⟩:=bs1 h;refine q u (dL u rfl rfl yI yH e20) fun a u=>q u (aI u rfl yG rfl rfl yN) fun a u=>?_;have⟨v21,e22,h⟩:=bs1 h;refine q u (aH u rfl yP (cG e22)) fun a u=>?_;have⟨v23,w24,e25,h⟩:=bs2 h;refine q u (dc1 u rfl Try.call17 (kJ e25)) fun a u=>q u (eP u rfl) fun a u=>aC<|t_n<|?_;refine aF u rfl h (fun b26 h=>?_) (fun b26 h=>?_)
  .refine wp_seq<|aA<|qa u rfl fun a u=>aC<|t_n<|wp_ret<|t_r<|b_r<|?_;have y:=u;have⟨g18,e27,h⟩:=bs1 h;cases h;cases h15;have h:=e27;have u:=y;refine t_r<|?_;have y:=u;cases h;cases hr11 _ rfl;refine gB<|?_;exact hk10 _ rfl _ (y.sb rfl)
  refine wp_skip<|t_n<|wp_seq<|wp_seq<|?_;have⟨v28,w29,e30,h⟩:=bs2 h;refine aW (n:=118) (L:=[(37,(bV v28)),(0,(Sl.v a0)),(3,(iV x2))]) (w':=w29) (fun a u=>?_) (fun hk31=>?_)
  .refine t_n<|?_;refine aF u rfl h (fun b43 h=>?_) (fun b43 h=>?_)
   .refine wp_seq<|aA<|qa u rfl fun a u=>aC<|t_n<|wp_ret<|t_r<|b_r<|?_;have y:=u;have⟨g18,e44,h⟩:=bs1 h;cases h;cases h15;have h:=e44;have u:=y;refine t_r<|?_;have y:=u;cases h;cases hr11 _ rfl;refine gB<|?_;exact hk10 _ rfl _ (y.sb rfl)
   refine wp_skip<|t_n<|wp_seq<|wp_seq<|?_;have⟨v45,w46,e47,h⟩:=bs2 h;refine aW (n:=118) (L:=[(51,(bV v45)),(0,(Sl.v a0)),(3,(iV x2))]) (w':=w46) (fun a u=>?_) (fun hk48=>?_)
   .refine t_n<|?_;refine aF u rfl h (fun b58 h=>?_) (fun b58 h=>?_)
    .refine wp_seq<|aA<|qa u rfl fun a u=>aC<|t_n<|wp_ret<|t_r<|b_r<|?_;have y:=u;have⟨g18,e59,h⟩:=bs1 h;cases h;cases h15;have h:=e59;have u:=y;refine t_r<|?_;have y:=u;cases h;cases hr11 _ rfl;refine gB<|?_;exact hk10 _ rfl _ (y.sb rfl)
    refine wp_skip<|t_n<|wp_seq<|wp_seq<|aA<|qm u rfl fun a u=>qm u rfl fun a u=>?_;have⟨p60,e61,h⟩:=bs1 h;refine q u (dL u rfl rfl yI yH e61) fun a u=>q u (aI u rfl yG rfl rfl yR) fun a u=>?_;have⟨v62,e63,h⟩:=bs1 h;refine q u (aH u rfl yS (aL e63)) fun a u=>q u (kE u rfl rfl) fun a u=>aC<|t_n<|?_;refine aF u rfl h (fun b64 h=>?_) (fun b64 h=>?_)
    .refine wp_exit<|t_x<|eC<|?_;have y:=u;cases h;exact hk17 _ rfl _ (y.sb rfl)
    refine wp_skip<|t_n<|wp_seq<|wp_seq<|?_;have⟨v65,w66,e67,h⟩:=bs2 h;refine aW (n:=118) (L:=[(73,(bV v65)),(0,(Sl.v a0)),(3,(iV x2))]) (w':=w66) (fun a u=>?_) (fun hk68=>?_)
    .refine t_n<|?_;refine aF u rfl h (fun b78 h=>?_) (fun b78 h=>?_)
     .refine wp_seq<|aA<|qa u rfl fun a u=>aC<|t_n<|wp_ret<|t_r<|b_r<|?_;have y:=u;have⟨g18,e79,h⟩:=bs1 h;cases h;cases h15;have h:=e79;have u:=y;refine t_r<|?_;have y:=u;cases h;cases hr11 _ rfl;refine gB<|?_;exact hk10 _ rfl _ (y.sb rfl)
     refine wp_skip<|t_n<|wp_seq<|?_;have⟨w80,e81,h⟩:=bs1 h;have⟨s82,w83,e84,h⟩:=bs2 h;have⟨p85,e86,h⟩:=bs1 h;have⟨v87,e88,h⟩:=bs1 h;have⟨s89,w90,e91,h⟩:=bs2 h;have⟨p92,e93,h⟩:=bs1 h;have⟨v94,e95,h⟩:=bs1 h;have⟨s96,w97,e98,h⟩:=bs2 h;obtain⟨e99,h⟩:=dO h;obtain⟨e100,h⟩:=dO h;obtain⟨e101,h⟩:=dO h;have u:Has 118 [(0,(Sl.v a0)),(3,(iV x2))] a:=u.sb rfl;refine bC (n:=118) (ds:=(aN (Sl.v s82) true 0 0 [] []::aN (Sl.v a0) false 0 1 [] [(0,(Sl.v a0))]::aN (iV x2) false 0 1 [] [(3,(iV x2))]::aN (pV (some p85)) false 0 1 [1,2] [(75,(Sl.v a0)),(76,(iV x2))]::aN (pV (some (p85.add 10))) false 0 1 [1,2,3] [(77,(pV (some p85)))]::aN (Sl.v v87) false 0 1 (rn 1 4) [(78,(pV (some (p85.add 10))))]::aN (Sl.v s89) true 1 1 (rn 0 6) [(74,(Sl.v s82)),(79,(Sl.v v87))]::aN (Sl.v a0) false 0 2 [] [(0,(Sl.v a0))]::aN (iV x2) false 0 2 [] [(3,(iV x2))]::aN (pV (some p92)) false 0 2 [7,8] [(81,(Sl.v a0)),(82,(iV x2))]::aN (pV (some (p92.add 11))) false 0 2 [7,8,9] [(83,(pV (some p92)))]::aN (Sl.v v94) false 0 2 (rn 7 4) [(84,(pV (some (p92.add 11))))]::aN (Sl.v s96) true 2 2 (rn 0 12) [(80,(Sl.v s89)),(85,(Sl.v v94))]::dD (Sl.v s96) 3 (rn 0 13) 86::[])) (W:=(fun j=>match j with | 0=>w80 | 1=>w83 | 2=>w90 | 3=>w97 | _=>w97)) (by kernel_rfl) u (gN e81) (by kernel_rfl) ?_ (bA (by kernel_rfl)) (by kernel_rfl) (m:=3) (by kernel_rfl) (fun a u=>?_)
     .refine⟨oc 0 (kd (iJ (vs:=[]) (ps:=[]) · trivial trivial rfl yJ yO aAb (by decide) e84)),oa (aD · rfl),oa (aD · rfl),oa (dL · rfl rfl yI yH e86),oa (aI · rfl yG rfl rfl yV),?_,oc 1 (kd (lG · rfl rfl e91)),oa (aD · rfl),oa (aD · rfl),oa (dL · rfl rfl yI yH e93),oa (aI · rfl yG rfl rfl yV),?_,oc 2 (kd (lG · rfl rfl e98)),oa (dZ · rfl),aBP⟩
      .intro j h1 h2;have h1:0<=j:=h1;have h2:j<=1:=h2;rcases(by omega:j=0\/j=1) with rfl | rfl
       .exact kd (aH · rfl yX (bG e99))
       exact kd (aH · rfl yX (bG e88))
      intro j h1 h2;have h1:0<=j:=h1;have h2:j<=2:=h2;rcases(by omega:j=0\/j=1\/j=2) with rfl | rfl | rfl
      .exact kd (aH · rfl yX (bG e100))
      .exact kd (aH · rfl yX (bG e101))
      exact kd (aH · rfl yX (bG e95))
     have u:Has 118 [(0,(Sl.v a0)),(3,(iV x2)),(4,(Sl.v s96))] a:=u.sb rfl;refine t_n<|wp_seq<|aA<|qa u rfl fun a u=>aC<|t_n<|wp_block<|?_;have⟨r104,e105,h⟩:=bs1 h;refine dH (n:=118) (L1:=fun i=>[(0,(Sl.v a0)),(3,(iV x2))]) (w1:=fun i=>i) (L2:=fun i=>[(2,(iV i.1))]) (w2:=fun i=>i.2) (e1:=.exit 2) (e2:=.ret) (I:=fun (s:Int×World) a w=>Has 118 [(5,(iV s.1)),(0,(Sl.v a0)),(3,(iV x2)),(4,(Sl.v s96))] a/\w=s.2) ⟨u.sub ⟨rfl,rfl,rfl,rfl,aBP⟩,rfl⟩ e105 (fun i hi a u=>?_) (fun i hi a u=>?_) (fun hk109 hk110=>?_)
     .subst hi;obtain⟨w106,rfl⟩:∃ x,x=i:=⟨i,rfl⟩;dsimp only[Sum.elim_inl,Sum.elim_inr,u1,u2,u3,u4,u5,u6] at h;have u:Has 118 [(0,(Sl.v a0)),(3,(iV x2))] a:=u;refine eC<|b_n<|?_;have y:=u;cases h;exact hk17 _ rfl _ (y.sb rfl)
     .subst hi;obtain⟨v107,w108⟩:=i;dsimp only[Sum.elim_inl,Sum.elim_inr,u1,u2,u3,u4,u5,u6] at h;have u:Has 118 [(2,(iV v107))] a:=u;refine b_r<|b_r<|?_;have y:=u;have⟨g18,e141,h⟩:=bs1 h;cases h;cases h15;have h:=e141;have u:=y;refine t_r<|?_;have y:=u;cases h;cases hr11 _ rfl;refine gB<|?_;exact hk10 _ rfl _ (y.sb rfl)
     clear h;rintro⟨x102,w103⟩ a wq o ⟨u,hwq⟩ h hr111;obtain rfl:w103=wq:=hwq.symm;have u:Has 118 [(5,(iV x102)),(0,(Sl.v a0)),(3,(iV x2)),(4,(Sl.v s96))] a:=u;have h:aY s96 x102 w103=some o:=h;unfold aY at h;refine wp_seq<|wp_seq<|aA<|qm u rfl fun a u=>qm u rfl fun a u=>q u (bZ u rfl yJ) fun a u=>q u (eX u rfl rfl) fun a u=>aC<|t_n<|?_;refine aF u rfl h (fun b112 h=>?_) (fun b112 h=>?_)
     .refine wp_skip<|t_n<|wp_seq<|wp_block<|wp_seq<|?_;have⟨v113,w114,e115,h⟩:=bs2 h;refine aW (n:=118) (L:=[(117,(bV v113)),(0,(Sl.v a0)),(3,(iV x2)),(4,(Sl.v s96)),(5,(iV x102))]) (w':=w114) (fun a u=>?_) (fun hk116=>?_)
      .refine t_n<|?_;refine aF u rfl h (fun b140 h=>?_) (fun b140 h=>?_)
       .refine wp_seq<|aA<|qa u rfl fun a u=>aC<|t_n<|wp_ret<|b_r<|t_r<|?_;have y:=u;cases h;cases hr111 _ rfl;refine gB<|?_;exact hk110 _ rfl _ (y.sb rfl)
       refine wp_skip<|b_n<|t_n<|aA<|qm u rfl fun a u=>q u (dP u rfl rfl) fun a u=>qa u rfl fun a u=>aC<|?_;have y:=u;cases h;exact cP ⟨y.sb rfl,rfl⟩
      clear h;have h:=e115;refine aA<|qm u rfl fun a u=>qm u rfl fun a u=>?_;have⟨p117,e118,h⟩:=bs1 h;refine q u (dL u rfl rfl yJ yO e118) fun a u=>q u (aI u rfl yK rfl rfl yU) fun a u=>?_;have⟨v119,e120,h⟩:=bs1 h;refine q u (aH u rfl yT (aL e120)) fun a u=>?_;have⟨v121,w122,e123,h⟩:=bs2 h;refine q u (dc2 u rfl rfl Try.call18 (fS e123)) fun a u=>q u (eP u rfl) fun a u=>qm u rfl fun a u=>?_;refine bU h (fun b124 h=>?_) (fun b124 h=>?_)
      .refine qn u 100 (tn b124) fun a u=>qn u 100 (tn b124) fun a u=>qn u 100 (tn b124) fun a u=>qn u 100 (tn b124) fun a u=>qn u 100 (tn b124) fun a u=>qn u 100 (tn b124) fun a u=>qn u 100 (tn b124) fun a u=>q u (aK u rfl b124 rfl) fun a u=>qm u rfl fun a u=>qn u 109 (tn rfl) fun a u=>qn u 109 (tn rfl) fun a u=>qn u 109 (tn rfl) fun a u=>qn u 109 (tn rfl) fun a u=>qn u 109 (tn rfl) fun a u=>qn u 109 (tn rfl) fun a u=>qn u 109 (tn rfl) fun a u=>q u (aK u rfl rfl rfl) fun a u=>aC<|?_;have y:=u;cases h;exact hk116 _ (y.sb rfl)
      refine qg u 100 (nt b124) (aD u rfl) fun a u=>qg u 100 (nt b124) (aD u rfl) fun a u=>?_;have⟨p125,e126,h⟩:=bs1 h;refine qg u 100 (nt b124) (dL u rfl rfl yJ yO e126) fun a u=>qg u 100 (nt b124) (aI u rfl yK rfl rfl yU) fun a u=>?_;have⟨v127,e128,h⟩:=bs1 h;refine qg u 100 (nt b124) (aH u rfl yT (aL e128)) fun a u=>?_;have⟨v129,w130,e131,h⟩:=bs2 h;refine qg u 100 (nt b124) (dc2 u rfl rfl Try.call18 (fS e131)) fun a u=>qg u 100 (nt b124) (eP u rfl) fun a u=>q u (aJ u rfl b124 rfl) fun a u=>qm u rfl fun a u=>?_;refine bU h (fun b132 h=>?_) (fun b132 h=>?_)
      .refine qn u 109 (tn b132) fun a u=>qn u 109 (tn b132) fun a u=>qn u 109 (tn b132) fun a u=>qn u 109 (tn b132) fun a u=>qn u 109 (tn b132) fun a u=>qn u 109 (tn b132) fun a u=>qn u 109 (tn b132) fun a u=>q u (aK u rfl b132 rfl) fun a u=>aC<|?_;have y:=u;cases h;exact hk116 _ (y.sb rfl)
      refine qg u 109 (nt b132) (aD u rfl) fun a u=>qg u 109 (nt b132) (aD u rfl) fun a u=>?_;have⟨p133,e134,h⟩:=bs1 h;refine qg u 109 (nt b132) (dL u rfl rfl yJ yO e134) fun a u=>qg u 109 (nt b132) (aI u rfl yK rfl rfl yU) fun a u=>?_;have⟨v135,e136,h⟩:=bs1 h;refine qg u 109 (nt b132) (aH u rfl yT (aL e136)) fun a u=>?_;have⟨v137,w138,e139,h⟩:=bs2 h;refine qg u 109 (nt b132) (dc2 u rfl rfl Try.call18 (fS e139)) fun a u=>qg u 109 (nt b132) (eP u rfl) fun a u=>q u (aJ u rfl b132 rfl) fun a u=>aC<|?_;have y:=u;cases h;exact hk116 _ (y.sb rfl)
     refine wp_exit<|t_x<|?_;have y:=u;cases h;cases hr111 _ rfl;refine iE<|?_;exact hk109 _ rfl _ (y.sb rfl)
    clear h;have h:=e67;refine aA<|qm u rfl fun a u=>qm u rfl fun a u=>?_;have⟨p69,e70,h⟩:=bs1 h;refine q u (dL u rfl rfl yI yH e70) fun a u=>q u (aI u rfl yG rfl rfl yV) fun a u=>?_;have⟨v71,e72,h⟩:=bs1 h;refine q u (aH u rfl yX (bG e72)) fun a u=>q u (bZ u rfl yJ) fun a u=>q u (iM u rfl rfl) fun a u=>qm u rfl fun a u=>?_;refine bU h (fun b73 h=>?_) (fun b73 h=>?_)
    .refine qn u 65 (tn b73) fun a u=>qn u 65 (tn b73) fun a u=>qn u 65 (tn b73) fun a u=>qn u 65 (tn b73) fun a u=>qn u 65 (tn b73) fun a u=>qn u 65 (tn b73) fun a u=>qn u 65 (tn b73) fun a u=>q u (aK u rfl b73 rfl) fun a u=>aC<|?_;have y:=u;cases h;exact hk68 _ (y.sb rfl)
    refine qg u 65 (nt b73) (aD u rfl) fun a u=>qg u 65 (nt b73) (aD u rfl) fun a u=>?_;have⟨p74,e75,h⟩:=bs1 h;refine qg u 65 (nt b73) (dL u rfl rfl yI yH e75) fun a u=>qg u 65 (nt b73) (aI u rfl yG rfl rfl yV) fun a u=>?_;have⟨v76,e77,h⟩:=bs1 h;refine qg u 65 (nt b73) (aH u rfl yX (bG e77)) fun a u=>qg u 65 (nt b73) (bZ u rfl yJ) fun a u=>qg u 65 (nt b73) (iM u rfl rfl) fun a u=>q u (aJ u rfl b73 rfl) fun a u=>aC<|?_;have y:=u;cases h;exact hk68 _ (y.sb rfl)
   clear h;have h:=e47;refine aA<|qm u rfl fun a u=>qm u rfl fun a u=>?_;have⟨p49,e50,h⟩:=bs1 h;refine q u (dL u rfl rfl yI yH e50) fun a u=>q u (aI u rfl yG rfl rfl yR) fun a u=>?_;have⟨v51,e52,h⟩:=bs1 h;refine q u (aH u rfl yS (aL e52)) fun a u=>q u (eX u rfl rfl) fun a u=>qm u rfl fun a u=>?_;refine bU h (fun b53 h=>?_) (fun b53 h=>?_)
   .refine qn u 44 (tn b53) fun a u=>qn u 44 (tn b53) fun a u=>qn u 44 (tn b53) fun a u=>qn u 44 (tn b53) fun a u=>qn u 44 (tn b53) fun a u=>qn u 44 (tn b53) fun a u=>q u (aK u rfl b53 rfl) fun a u=>aC<|?_;have y:=u;cases h;exact hk48 _ (y.sb rfl)
   refine qg u 44 (nt b53) (aD u rfl) fun a u=>qg u 44 (nt b53) (aD u rfl) fun a u=>?_;have⟨p54,e55,h⟩:=bs1 h;refine qg u 44 (nt b53) (dL u rfl rfl yI yH e55) fun a u=>qg u 44 (nt b53) (aI u rfl yG rfl rfl yR) fun a u=>?_;have⟨v56,e57,h⟩:=bs1 h;refine qg u 44 (nt b53) (aH u rfl yS (aL e57)) fun a u=>qg u 44 (nt b53) (iM u rfl rfl) fun a u=>q u (aJ u rfl b53 rfl) fun a u=>aC<|?_;have y:=u;cases h;exact hk48 _ (y.sb rfl)
  clear h;have h:=e30;have⟨w32,e33,h⟩:=bs1 h;refine bU h (fun b34 h=>?_) (fun b34 h=>?_)
  .have⟨p35,e36,h⟩:=bs1 h;have⟨v37,e38,h⟩:=bs1 h;have⟨p39,e40,h⟩:=bs1 h;have⟨v41,e42,h⟩:=bs1 h;have u:Has 118 [(0,(Sl.v a0)),(3,(iV x2))] a:=u.sb rfl;refine bC (n:=118) (ds:=(dD (iV x2) 0 [] 3::aQ (bV (decide (0<x2))) 0 [0] 22 (iV x2)::dD (bV (decide (0<x2))) 0 [0,1] 23::bY (Sl.v a0) 0 [0,1,2] [(0,(Sl.v a0)),(24,(bV (decide (0<x2))))]::bY (iV x2) 0 [0,1,2] [(3,(iV x2)),(24,(bV (decide (0<x2))))]::bY (pV (some p35)) 0 (rn 0 5) [(25,(Sl.v a0)),(26,(iV x2)),(24,(bV (decide (0<x2))))]::bY (pV (some (p35.add 0))) 0 (rn 0 6) [(27,(pV (some p35))),(24,(bV (decide (0<x2))))]::bY (.string v37) 0 (rn 0 7) [(28,(pV (some (p35.add 0)))),(24,(bV (decide (0<x2))))]::bY (Sl.v a0) 0 [0,1,2] [(0,(Sl.v a0)),(24,(bV (decide (0<x2))))]::bY (iV x2) 0 [0,1,2] [(3,(iV x2)),(24,(bV (decide (0<x2))))]::bY (iV (IntKind.wrap .i64 (x2-1))) 0 [0,1,2,9] [(31,(iV x2)),(24,(bV (decide (0<x2))))]::bY (pV (some p39)) 0 [0,1,2,8,9,10] [(30,(Sl.v a0)),(32,(iV (IntKind.wrap .i64 (x2-1)))),(24,(bV (decide (0<x2))))]::bY (pV (some (p39.add 0))) 0 ([0,1,2]++rn 8 4) [(33,(pV (some p39))),(24,(bV (decide (0<x2))))]::bY (.string v41) 0 ([0,1,2]++rn 8 5) [(34,(pV (some (p39.add 0)))),(24,(bV (decide (0<x2))))]::bY (bV (sLt v37 v41||sEq v37 v41)) 0 (rn 0 14) [(29,(.string v37)),(35,(.string v41)),(24,(bV (decide (0<x2))))]::bY (bV (sLt v37 v41||sEq v37 v41)) 0 (rn 0 15) [(24,(bV (decide (0<x2)))),(36,(bV (sLt v37 v41||sEq v37 v41)))]::[])) (W:=(fun _=>w32)) (by kernel_rfl) u (gN e33) (by kernel_rfl) ?_ (bA (by kernel_rfl)) (by kernel_rfl) (m:=0) (by kernel_rfl) (fun a u=>?_)
   .exact⟨oa (aD · rfl),oa (iM · rfl rfl),oa (aD · rfl),oag 24 b34 (aD · rfl),oag 24 b34 (aD · rfl),oag 24 b34 (dL · rfl rfl yI yH e36),oag 24 b34 (aI · rfl yG rfl rfl yN),oc (e:=false) 0 (kg 24 b34 (aH · rfl yP (cG e38))),oag 24 b34 (aD · rfl),oag 24 b34 (aD · rfl),oag 24 b34 (jM · rfl rfl),oag 24 b34 (dL · rfl rfl yI yH e40),oag 24 b34 (aI · rfl yG rfl rfl yN),oc (e:=false) 0 (kg 24 b34 (aH · rfl yP (cG e42))),oag 24 b34 (oC · rfl rfl),oa (aK · rfl b34 rfl),aBP⟩
   have u:Has 118 [(0,(Sl.v a0)),(3,(iV x2)),(37,(bV (sLt v37 v41||sEq v37 v41)))] a:=u.sb rfl;have y:=u;cases h;exact hk31 _ (y.sb rfl)
  have u:Has 118 [(0,(Sl.v a0)),(3,(iV x2))] a:=u.sb rfl;refine bC (n:=118) (ds:=(dD (iV x2) 0 [] 3::aQ (bV (decide (0<x2))) 0 [0] 22 (iV x2)::dD (bV (decide (0<x2))) 0 [0,1] 23::aQ (undef) 0 [0,1,2] 24 (bV (decide (0<x2)))::aQ (undef) 0 [0,1,2] 24 (bV (decide (0<x2)))::aQ (undef) 0 (rn 0 5) 24 (bV (decide (0<x2)))::aQ (undef) 0 (rn 0 6) 24 (bV (decide (0<x2)))::aQ (undef) 0 (rn 0 7) 24 (bV (decide (0<x2)))::aQ (undef) 0 [0,1,2] 24 (bV (decide (0<x2)))::aQ (undef) 0 [0,1,2] 24 (bV (decide (0<x2)))::aQ (undef) 0 [0,1,2,9] 24 (bV (decide (0<x2)))::aQ (undef) 0 [0,1,2,8,9,10] 24 (bV (decide (0<x2)))::aQ (undef) 0 ([0,1,2]++rn 8 4) 24 (bV (decide (0<x2)))::aQ (undef) 0 ([0,1,2]++rn 8 5) 24 (bV (decide (0<x2)))::aQ (undef) 0 (rn 0 14) 24 (bV (decide (0<x2)))::bY (bV false) 0 (rn 0 15) [(24,(bV (decide (0<x2)))),(36,undef)]::[])) (W:=(fun _=>w32)) (by kernel_rfl) u (gN e33) (by kernel_rfl) ?_ (bA (by kernel_rfl)) (by kernel_rfl) (m:=0) (by kernel_rfl) (fun a u=>?_)
  .exact⟨oa (aD · rfl),oa (iM · rfl rfl),oa (aD · rfl),on 24 (nm b34),on 24 (nm b34),on 24 (nm b34),on 24 (nm b34),on 24 (nm b34),on 24 (nm b34),on 24 (nm b34),on 24 (nm b34),on 24 (nm b34),on 24 (nm b34),on 24 (nm b34),on 24 (nm b34),oa (aJ · rfl b34 rfl),aBP⟩
  have u:Has 118 [(0,(Sl.v a0)),(3,(iV x2)),(37,(bV false))] a:=u.sb rfl;have y:=u;cases h;exact hk31 _ (y.sb rfl)
 refine wp_exit<|t_x<|?_;have y:=u;cases h;cases hr11 _ rfl;refine iE<|?_;exact hk9 _ rfl _ (y.sb rfl)
def mF (s:ByteArray) (i:Nat):Int:=(((s[i]?).map fun b=>b.toNat).getD 0:Nat)
def chN (s:ByteArray) (i:Nat):Bool:=(decide (97<=mF s i)&&decide (mF s i<=122))||(decide (0<i)&&((decide (48<=mF s i)&&decide (mF s i<=57))||(mF s i==45)))
def lH (s:ByteArray):Bool:=decide (1<=s.size)&&decide (s.size<=16)&&(List.range s.size).all (chN s)
theorem vG {s:ByteArray} {i:Nat} (h:i<s.size):ixS s (i:Int)=some (mF s i):=by
 unfold ixS mF;have:((i:Int).toNat)=i:=by omega
 rw[if_pos (by omega),this,getElem?_pos s i h];rfl
theorem fB {i:Nat} (h:i<1000000):IntKind.wrap .i64 ((i:Int)+1)=((i+1:Nat):Int):=by rw[aBG];omega
theorem nT {s:ByteArray} (hs:s.size<=16) {w:World}:∀ (m i:Nat),m+i=s.size->bB (fun r:Int×World=>dX s r.1 r.2) ((i:Int),w)=some (if ((List.range' i m).all (chN s))=true then .inl w else .inr (false,w))
 | 0,i,h=>by
  refine cF ?_;unfold dX;rw[if_neg (by simp;omega)];simp
 | m+1,i,h=>by
  have hi:i<s.size:=by omega
  have hw:=fB (i:=i) (by omega);obtain⟨c,hc⟩:∃ c,mF s i=c:=⟨_,rfl⟩;have e:dX s (i:Int) w=some (if chN s i=true then .inl (((i+1:Nat):Int),w) else .inr (.inr (false,w))):=by
   unfold dX;rw[if_pos (by simp;omega),vG hi,hw];unfold chN;rw[hc];by_cases c1:97<=c<;>by_cases c2:c<=122<;>by_cases c3:0<i<;>by_cases c4:48<=c<;>by_cases c5:c<=57<;>by_cases c6:c=45<;>simp[c1,c2,c3,c4,c5,c6,hJ,aE,u1,Option.bind]
  rw[List.range'_succ,aBE];by_cases h1:chN s i=true
  .rw[h1,aBd,<-nT hs m (i+1) (by omega)];exact eO (by show dX s (i:Int) w=_;rw[e,if_pos h1])
  refine cF ?_;show dX s (i:Int) w=_;rw[e,if_neg h1];simp[h1]
theorem nK (s:ByteArray) (w:World):iB s w=some (lH s,w):=by
 unfold iB lH;by_cases h1:(s.size:Int)<1
 .rw[if_pos (by simpa using h1)];simp[aE,show ¬ (1<=s.size) by omega]
 rw[if_neg (by simpa using h1)];by_cases h2:16<(s.size:Int)
 .simp[aE,h2,show ¬ (s.size<=16) by omega]
 have hl:=nT (s:=s) (by omega) (w:=w) s.size 0 (by omega);rw[show((0:Nat):Int)=0 from rfl,<-List.range_eq_range'] at hl;rw[cZ,if_neg (by simpa using h2),hl];by_cases h3:(List.range s.size).all (chN s)=true
 .rw[if_pos h3,h3];simp[u1,show 1<=s.size by omega,show s.size<=16 by omega]
 rw[if_neg h3];simp[u2,h3]
theorem nN {s:ByteArray} (hs:s.size<=16) {w:World}:∀ (m i:Nat),m+i=s.size->bB (fun r:Int×World=>bJ s r.1 r.2) ((i:Int),w)=some (if ((List.range' i m).all (chN s))=true then .inl w else .inr (false,w))
 | 0,i,h=>by
  refine cF ?_;unfold bJ;rw[if_neg (by simp;omega)];simp
 | m+1,i,h=>by
  have hi:i<s.size:=by omega
  have hw:=fB (i:=i) (by omega);obtain⟨c,hc⟩:∃ c,mF s i=c:=⟨_,rfl⟩;have e:bJ s (i:Int) w=some (if chN s i=true then .inl (((i+1:Nat):Int),w) else .inr (.inr (false,w))):=by
   unfold bJ;rw[if_pos (by simp;omega),vG hi,hw];unfold chN;rw[hc];by_cases c1:97<=c<;>by_cases c2:c<=122<;>by_cases c3:i=0<;>by_cases c4:48<=c<;>by_cases c5:c<=57<;>by_cases c6:c=45<;>simp[c1,c2,c3,c4,c5,c6,hJ,aE,u1,Option.bind]<;>omega
  rw[List.range'_succ,aBE];by_cases h1:chN s i=true
  .rw[h1,aBd,<-nN hs m (i+1) (by omega)];exact eO (by show bJ s (i:Int) w=_;rw[e,if_pos h1])
  refine cF ?_;show bJ s (i:Int) w=_;rw[e,if_neg h1];simp[h1]
theorem sT (s:ByteArray) (w:World):eG s w=some (lH s,w):=by
 unfold eG lH;by_cases h1:(s.size:Int)=0
 .rw[if_pos (by simpa using h1)];simp[aE,show ¬ (1<=s.size) by omega]
 rw[if_neg (by simpa using h1)];by_cases h2:16<(s.size:Int)
 .simp[aE,h2,show ¬ (s.size<=16) by omega]
 have hl:=nN (s:=s) (by omega) (w:=w) s.size 0 (by omega);rw[show((0:Nat):Int)=0 from rfl,<-List.range_eq_range'] at hl;rw[cZ,if_neg (by simpa using h2),hl];by_cases h3:(List.range s.size).all (chN s)=true
 .rw[if_pos h3,h3];simp[u1,show 1<=s.size by omega,show s.size<=16 by omega]
 rw[if_neg h3];simp[u2,h3]
def dcC (d:Dc):List Value:=[.int .i64 d.x,.int .i64 d.y,.int .i64 d.r]
def dcR (g:Gh) (w:World) (cs:List Value) (d:Dc):Prop:=cs=dcC d
def sdC (s:Sd) (z y:Sl):List Value:=[.string s.name,.int .i64 s.kind,.bool s.ab,.int .i64 s.low,.int .i64 s.high,.string s.fr,.string s.to,.bool s.op,.int .u8 s.tr,.bool s.no,z.v,y.v]
def sdR (g:Gh) (w:World) (cs:List Value) (s:Sd):Prop:=∃ z y:Sl,cs=sdC s z y/\PL dcR 3 g w z s.ins/\PL dcR 3 g w y s.outs/\0<=s.tr/\s.tr<256
theorem dI {g g':Gh} {w w':World} {cs:List Value} {d:Dc} (h:dcR g w cs d) (m:Mo g w g' w'):dcR g' w' cs d:=h
theorem fE {g g':Gh} {w w':World} {cs:List Value} {s:Sd} (h:sdR g w cs s) (m:Mo g w g' w'):sdR g' w' cs s:=by
 obtain⟨z,y,e,h1,h2,h3⟩:=h;exact⟨z,y,e,PL.mo (R:=dcR) dI h1 m,PL.mo (R:=dcR) dI h2 m,h3⟩
theorem lN {s:Sd} {z y:Sl}:∀ v∈sdC s z y,v.oneCell'=true:=by intro v hv;simp[sdC] at hv;rcases hv with rfl | rfl | rfl | rfl | rfl | rfl | rfl | rfl | rfl | rfl | rfl | rfl<;>rfl
theorem pA {d:Dc}:∀ v∈dcC d,v.oneCell'=true:=by intro v hv;simp[dcC] at hv;rcases hv with rfl | rfl | rfl<;>rfl
def jQ (s:Sd) (ah:ByteArray):Int:=if lH s.name=false then 11 else if sLe s.name ah=true then 4 else if s.kind<1\/4<s.kind then 12 else
 if s.kind=4 then (if 4<s.ins.length\/4<s.outs.length then 6 else if (s.ins.any fun d=>!okD d)=true\/(s.outs.any fun d=>!okD d)=true then 2 else 0) else 0
def iT:List Sd->ByteArray->Int
 | [],_=>0
 | s::l,ah=>if jQ s ah=0 then iT l s.name else jQ s ah
def fG (b:List Sd):Int:=if 8<b.length then 6 else iT b ByteArray.empty
section
variable {F0 : Nat -> Prop} {g g0 : Gh} {w w0 : World} {L : List Rs} {z : Sl} {α : Type} {R : Gh -> World -> List Value -> α -> Prop} {sz : Nat} {xs : List α} {d : Dc} {ds : List Dc} {b cs : List Value}
theorem PL.el {g1:Gh} {w1:World} (hR:∀ {g w g' w' cs x},R g w cs x->Mo g w g' w'->R g' w' cs x) (h:PL R sz g w z xs) (m:Mo g w g1 w1) {i:Nat} {x:α} (hx:xs[i]?=some x) :
  ∃ a cs,D.ix z (i:Int) sz=some a/\ldA sz w1 a 0=some cs/\R g1 w1 cs x/\∀ j v,cs[j]?=some v->w1.cell? (a.add j)=some v:=by
 obtain⟨a,cs,ea,ga,hl,hr,hc⟩:=h.at_ i x hx;have hcell:∀ j v,cs[j]?=some v->w1.cell? (a.add j)=some v:=fun j v hv=>by
  have hb':(a.add j).block=a.block:=by unfold Addr.add;split<;>rfl
  exact m.cell (by rw[hb'];exact ga) (hc j v hv)
 exact⟨a,cs,ea,lM sz w1 a 0 cs hl fun j v hv=>by rw[aBO];exact hcell j v hv,hR hr m,hcell⟩
theorem Hp.stF {p:Nat} {T:TypeId} {cs vs:List Value} (H:Hp F0 g0 w0 g w (bxR p cs T::L)) (hl:vs.length=cs.length) (h1:∀ v∈vs,v.oneCell'=true) :
  ∃ w',D.stA w ⟨p,0,none⟩ 0 vs=some w'/\Hp F0 g0 w0 g w' (bxR p vs T::L)/\Mo g w g w':=by
 obtain⟨w',e,H',m⟩:=H.stA (o:=0) (vs:=vs) (by omega) h1;have:pJ cs 0 vs=vs:=by
  unfold pJ;rw[aBK,List.nil_append,aBO,aAB (by omega),List.append_nil]
 rw[this] at H';exact⟨w',e,H',m⟩
theorem Hp.ldS {p o:Nat} {T:TypeId} {cs:List Value} {x:ByteArray} (H:Hp F0 g0 w0 g w (bxR p cs T::L)) (h:cs[o]?=some (.string x)):D.ldS w ⟨p,o,none⟩=some x:=lE ((jE H.bx).trans h)
theorem Hp.ldF {p:Nat} {T:TypeId} {cs:List Value} {n:Nat} (H:Hp F0 g0 w0 g w (bxR p cs T::L)) (h:cs.length=n):D.ldA n w ⟨p,0,none⟩ 0=some cs:=by
 rw[sJ H.bx (by omega),aAs,aBh (by omega)]
theorem iZ {Pd:α->Bool} {step:Int->World->Option ((Int×World)⊕(World⊕(Int×World)))} (hn:xs.length<=1000)
  (hstep:∀ (i:Nat) (x:α) (w1:World),xs[i]?=some x->Hp F0 g0 w0 g w1 L->Mo g w g w1->Ex (step (i:Int) w1) fun o=>∃ w2,o=(if Pd x=true then .inr (.inr ((i:Int),w2)) else .inl (((i+1:Nat):Int),w2))/\Hp F0 g0 w0 g w2 L/\Mo g w1 g w2)
  (hend:∀ w1,step (xs.length:Int) w1=some (.inr (.inl w1))):∀ (m i:Nat) (w1:World),m+i=xs.length->Hp F0 g0 w0 g w1 L->Mo g w g w1 ->
  Ex (bB (fun s:Int×World=>step s.1 s.2) ((i:Int),w1)) fun o=>∃ w2,o=(match (xs.drop i).findIdx? Pd with | some j=>.inr (((i+j:Nat):Int),w2) | none=>.inl w2)/\Hp F0 g0 w0 g w2 L/\Mo g w1 g w2
 | 0,i,w1,hm,H,mo=>by
  have:i=xs.length:=by omega
  subst this;refine⟨.inl w1,cF (hend w1),w1,?_,H,Mo.r⟩;rw[aAB (aAH _)];rfl
 | m+1,i,w1,hm,H,mo=>by
  have hi:i<xs.length:=by omega
  obtain⟨o,eo,w2,rfl,H2,m2⟩:=hstep i xs[i] w1 (aAk hi) H mo;rw[aAD hi,aBe];by_cases hp:Pd xs[i]=true
  .rw[if_pos hp] at eo;refine⟨.inr ((i:Int),w2),cF eo,w2,?_,H2,m2⟩;rw[hp];rfl
  rw[if_neg hp] at eo;obtain⟨o,e3,w3,rfl,H3,m3⟩:=iZ hn hstep hend m (i+1) w2 (by omega) H2 (mo.t m2);refine⟨_,(eO eo).trans e3,w3,?_,H3,m2.t m3⟩;have:Pd xs[i]=false:=by simpa using hp
  rw[this];simp only[aBf,if_false];cases(List.drop (i+1) xs).findIdx? Pd with
  | none=>rfl
  | some j=>simp only[aAq];congr 2;omega
theorem qB (a:Int) (w:World):gV a w=some (decide (-1048576<=a)&&decide (a<=1048576),w):=by
 unfold gV;by_cases h : -1048576<=a<;>simp[h,aE]
theorem uW (H:Hp F0 g0 w0 g w L):Ex (jC (dcC d) w) fun r=>r.1=okD d/\Hp F0 g0 w0 g r.2 L/\Mo g w g r.2:=by
 obtain⟨p,w2,e1,H1,m1⟩:=H.box (T:=43) (cs:=dcC d);have l0:ldI .i64 w2 ((⟨p,0,none⟩:Addr).add 0)=some d.x:=by rw[aO];exact H1.ldI rfl
 have l1:ldI .i64 w2 ((⟨p,0,none⟩:Addr).add 1)=some d.y:=by rw[aO];exact H1.ldI rfl
 have l2:ldI .i64 w2 ((⟨p,0,none⟩:Addr).add 2)=some d.r:=by rw[aO];exact H1.ldI rfl
 refine⟨(okD d,w2),?_,rfl,H1.tl,m1⟩;unfold jC okD;rw[e1,cZ,l0,aBN,qB,cZ];simp only[l1,aBN,qB,cZ,l2];by_cases h1 : -1048576<=d.x<;>by_cases h2:d.x<=1048576<;>by_cases h3 : -1048576<=d.y<;>by_cases h4:d.y<=1048576<;>by_cases h5:0<=d.r<;>simp[h1,h2,h3,h4,h5,aE]
theorem vY (H:Hp F0 g0 w0 g w L):Ex (fH (dcC d) w) fun r=>r.1=(!okD d)/\Hp F0 g0 w0 g r.2 L/\Mo g w g r.2:=by
 obtain⟨p,w2,e1,H1,m1⟩:=H.box (T:=43) (cs:=dcC d);obtain⟨⟨v,w3⟩,e3,rfl,H3,m3⟩:=uW (d:=d) H1;unfold fH;exact Ex.b2 e1 (Ex.b1 (H1.ldF rfl) (Ex.b2 e3 (Ex.ret ⟨rfl,H3.tl,m1.t m3⟩)))
theorem oY (hs:PL dcR 3 g w z ds) (hn:ds.length<=1000) (H:Hp F0 g0 w0 g w L):Ex (aV z w) fun r=>r.1=(ds.any fun d=>!okD d)/\Hp F0 g0 w0 g r.2 L/\Mo g w g r.2:=by
 have hln:=hs.len;obtain⟨o,e,w2,rfl,H2,m2⟩:=iZ (xs:=ds) (Pd:=fun d=>!okD d) (step:=aT z) hn (fun i x w1 hx H1 m1=>by
  obtain⟨a,cs,ea,la,rfl,-⟩:=hs.el (R:=dcR) dI m1 hx;have hi:=(aAi.1 hx).1;obtain⟨⟨v,w3⟩,e3,hv,H3,m3⟩:=vY (d:=x) H1;simp only at hv H3 m3;unfold aT;refine Ex.t (by simp;omega) (Ex.b1 ea (Ex.b1 la (Ex.b2 e3 ?_)));subst hv;rw[fB (by omega)];by_cases hp:(!okD x)=true
  .exact Ex.t hp (Ex.ret ⟨w3,by rw[if_pos hp],H3,m3⟩)
  .exact Ex.f hp (Ex.ret ⟨w3,by rw[if_neg hp],H3,m3⟩)) (fun w1=>by
  unfold aT;rw[if_neg (by simp;omega)]) ds.length 0 w (by omega) H Mo.r
 have e':bB (fun s:Int×World=>aT z s.1 s.2) (0,w)=_:=e;unfold aV cC;rw[e',aBN,aAs];have ha:(ds.any fun d=>!okD d)=(ds.findIdx? fun d=>!okD d).isSome:=List.findIdx?_isSome.symm;rw[ha]
 cases ds.findIdx? fun d=>!okD d with
 | none=>exact⟨(false,w2),rfl,rfl,H2,m2⟩
 | some j=>exact⟨(true,w2),by simp[u2,aE],rfl,H2,m2⟩
end
section
variable {H : Type} {enc : TypeId × Value -> H} {w : World} {base fuel : Nat} {spare : Nat -> Bool} {held : Bool} {cs : List Value} {x : DataW H × List MemPlace}
theorem xV {α:Type} {l:List α} (h:l.length=3):∃ a b c,l=[a,b,c]:=by
 match l,h with
 | [a,b,c],_=>exact⟨a,b,c,rfl⟩
theorem vO {α:Type} {l:List α} (h:l.length=12):∃ v0 v1 v2 v3 v4 v5 v6 v7 v8 v9 v10 v11,l=[v0,v1,v2,v3,v4,v5,v6,v7,v8,v9,v10,v11]:=by
 match l,h with
 | [v0,v1,v2,v3,v4,v5,v6,v7,v8,v9,v10,v11],_=>exact⟨v0,v1,v2,v3,v4,v5,v6,v7,v8,v9,v10,v11,rfl⟩
theorem uM {m:Nat} {c:List Value} {y:DataW H×List MemPlace} (h:DataW.trod enc Try.prog w base spare held m 43 c=some y) (hx:∀ v∈y.1.weights Try.prog 43,v<=140737488351232):∃ d,dcR (old w) w c d:=by
 obtain⟨xs,m',_,hy,hl,hlen,hf⟩:=DataW.trod_struct Try.underlying43 h;have hl4:c.length=3:=hl.trans (by kernel_rfl);have c0:Try.prog.cellsOf 3=1:=by kernel_rfl
 have hlen4:xs.length=3:=hlen;clear hlen hl;obtain⟨v0,v1,v2,rfl⟩:=xV hl4;obtain⟨y0,y1,y2,rfl⟩:=xV hlen4;have h0:DataW.trod enc Try.prog w base spare held m' 3 (([v0,v1,v2].drop 0).take (Try.prog.cellsOf 3))=some y0:=hf 0 _ rfl;have h1:DataW.trod enc Try.prog w base spare held m' 3 (([v0,v1,v2].drop 1).take (Try.prog.cellsOf 3))=some y1:=hf 1 _ rfl;have h2:DataW.trod enc Try.prog w base spare held m' 3 (([v0,v1,v2].drop 2).take (Try.prog.cellsOf 3))=some y2:=hf 2 _ rfl;simp only[c0,aAs,List.take_succ_cons,aBK,List.drop_succ_cons,aAI,aAG] at h0 h1 h2;obtain⟨a0,e0,_,_⟩:=DataW.trod_int Try.underlying3 h0;obtain⟨a1,e1,_,_⟩:=DataW.trod_int Try.underlying3 h1;obtain⟨a2,e2,_,_⟩:=DataW.trod_int Try.underlying3 h2;obtain rfl:=(List.cons.inj e0).1;obtain rfl:=(List.cons.inj e1).1;obtain rfl:=(List.cons.inj e2).1;exact⟨⟨a0,a1,a2⟩,rfl⟩
theorem qF (h:DataW.trod enc Try.prog w base spare held fuel 38 cs=some x) (hx:∀ v∈x.1.weights Try.prog 38,v<=140737488351232):∃ (s:Sl) (ds:List Dc),cs=[Sl.v s]/\PL dcR 3 (old w) w s ds :=
 oP Try.underlying38 (by kernel_rfl) (by decide) (fun m c y h hx=>uM h hx) h hx
theorem uF {m:Nat} {c:List Value} {y:DataW H×List MemPlace} (h:DataW.trod enc Try.prog w base spare held m 40 c=some y) (hx:∀ v∈y.1.weights Try.prog 40,v<=140737488351232):∃ d,sdR (old w) w c d:=by
 obtain⟨xs,m',_,hy,hl,hlen,hf⟩:=DataW.trod_struct Try.underlying40 h;have hl4:c.length=12:=hl.trans (by kernel_rfl);have c0:Try.prog.cellsOf 9=1:=by kernel_rfl
 have c1:Try.prog.cellsOf 31=1:=by kernel_rfl
 have c2:Try.prog.cellsOf 4=1:=by kernel_rfl
 have c3:Try.prog.cellsOf 2=1:=by kernel_rfl
 have c4:Try.prog.cellsOf 5=1:=by kernel_rfl
 have c5:Try.prog.cellsOf 38=1:=by kernel_rfl
 have hlen4:xs.length=12:=hlen;clear hlen hl;obtain⟨v0,v1,v2,v3,v4,v5,v6,v7,v8,v9,v10,v11,rfl⟩:=vO hl4;obtain⟨y0,y1,y2,y3,y4,y5,y6,y7,y8,y9,y10,y11,rfl⟩:=vO hlen4;have h0:DataW.trod enc Try.prog w base spare held m' 9 (([v0,v1,v2,v3,v4,v5,v6,v7,v8,v9,v10,v11].drop 0).take (Try.prog.cellsOf 9))=some y0:=hf 0 _ rfl;have h1:DataW.trod enc Try.prog w base spare held m' 31 (([v0,v1,v2,v3,v4,v5,v6,v7,v8,v9,v10,v11].drop 1).take (Try.prog.cellsOf 31))=some y1:=hf 1 _ rfl;have h2:DataW.trod enc Try.prog w base spare held m' 4 (([v0,v1,v2,v3,v4,v5,v6,v7,v8,v9,v10,v11].drop 2).take (Try.prog.cellsOf 4))=some y2:=hf 2 _ rfl;have h3:DataW.trod enc Try.prog w base spare held m' 2 (([v0,v1,v2,v3,v4,v5,v6,v7,v8,v9,v10,v11].drop 3).take (Try.prog.cellsOf 2))=some y3:=hf 3 _ rfl;have h4:DataW.trod enc Try.prog w base spare held m' 2 (([v0,v1,v2,v3,v4,v5,v6,v7,v8,v9,v10,v11].drop 4).take (Try.prog.cellsOf 2))=some y4:=hf 4 _ rfl;have h5:DataW.trod enc Try.prog w base spare held m' 9 (([v0,v1,v2,v3,v4,v5,v6,v7,v8,v9,v10,v11].drop 5).take (Try.prog.cellsOf 9))=some y5:=hf 5 _ rfl;have h6:DataW.trod enc Try.prog w base spare held m' 9 (([v0,v1,v2,v3,v4,v5,v6,v7,v8,v9,v10,v11].drop 6).take (Try.prog.cellsOf 9))=some y6:=hf 6 _ rfl;have h7:DataW.trod enc Try.prog w base spare held m' 4 (([v0,v1,v2,v3,v4,v5,v6,v7,v8,v9,v10,v11].drop 7).take (Try.prog.cellsOf 4))=some y7:=hf 7 _ rfl;have h8:DataW.trod enc Try.prog w base spare held m' 5 (([v0,v1,v2,v3,v4,v5,v6,v7,v8,v9,v10,v11].drop 8).take (Try.prog.cellsOf 5))=some y8:=hf 8 _ rfl;have h9:DataW.trod enc Try.prog w base spare held m' 4 (([v0,v1,v2,v3,v4,v5,v6,v7,v8,v9,v10,v11].drop 9).take (Try.prog.cellsOf 4))=some y9:=hf 9 _ rfl;have h10:DataW.trod enc Try.prog w base spare held m' 38 (([v0,v1,v2,v3,v4,v5,v6,v7,v8,v9,v10,v11].drop 10).take (Try.prog.cellsOf 38))=some y10:=hf 10 _ rfl;have h11:DataW.trod enc Try.prog w base spare held m' 38 (([v0,v1,v2,v3,v4,v5,v6,v7,v8,v9,v10,v11].drop 11).take (Try.prog.cellsOf 38))=some y11:=hf 11 _ rfl;simp only[c0,c1,c2,c3,c4,c5,aAs,List.take_succ_cons,aBK,List.drop_succ_cons,aAI,aAG] at h0 h1 h2 h3 h4 h5 h6 h7 h8 h9 h10 h11;obtain⟨a0,e0,_⟩:=DataW.trod_string Try.underlying9 h0;obtain⟨a1,e1,_,w1⟩:=DataW.trod_int Try.underlying31 h1;obtain⟨a2,e2,_⟩:=DataW.trod_bool Try.underlying4 h2;obtain⟨a3,e3,_,w3⟩:=DataW.trod_int Try.underlying2 h3;obtain⟨a4,e4,_,w4⟩:=DataW.trod_int Try.underlying2 h4;obtain⟨a5,e5,_⟩:=DataW.trod_string Try.underlying9 h5;obtain⟨a6,e6,_⟩:=DataW.trod_string Try.underlying9 h6;obtain⟨a7,e7,_⟩:=DataW.trod_bool Try.underlying4 h7;obtain⟨a8,e8,_,w8⟩:=DataW.trod_int Try.underlying5 h8;obtain⟨a9,e9,_⟩:=DataW.trod_bool Try.underlying4 h9;rw[hy] at hx;have x10:∀ v∈y10.1.weights Try.prog 38,v<=140737488351232:=oA Try.underlying40 hx 10 _ y10.1 rfl rfl;obtain⟨a10,d10,e10,r10⟩:=qF h10 x10;have x11:∀ v∈y11.1.weights Try.prog 38,v<=140737488351232:=oA Try.underlying40 hx 11 _ y11.1 rfl rfl;obtain⟨a11,d11,e11,r11⟩:=qF h11 x11;obtain rfl:=(List.cons.inj e0).1;obtain rfl:=(List.cons.inj e1).1;obtain rfl:=(List.cons.inj e2).1;obtain rfl:=(List.cons.inj e3).1;obtain rfl:=(List.cons.inj e4).1;obtain rfl:=(List.cons.inj e5).1;obtain rfl:=(List.cons.inj e6).1;obtain rfl:=(List.cons.inj e7).1;obtain rfl:=(List.cons.inj e8).1;obtain rfl:=(List.cons.inj e9).1;obtain rfl:=(List.cons.inj e10).1;obtain rfl:=(List.cons.inj e11).1;exact⟨{ name:=a0,kind:=a1,ab:=a2,low:=a3,high:=a4,fr:=a5,to:=a6,op:=a7,tr:=a8,no:=a9,ins:=d10,outs:=d11 },a10,a11,rfl,r10,r11,uA w8⟩
theorem open_sds (h:DataW.trod enc Try.prog w base spare held fuel 22 cs=some x) (hx:∀ v∈x.1.weights Try.prog 22,v<=140737488351232):∃ (s:Sl) (bs:List Sd),cs=[Sl.v s]/\PL sdR 12 (old w) w s bs :=
 oP Try.underlying22 (by kernel_rfl) (by decide) (fun m c y h hx=>uF h hx) h hx
end
theorem Ex.xX {ρ α γ:Type} {Φ:γ->Prop} {o:Option (ρ⊕α)} {G:ρ->Option γ} {f:α->Option γ} {Ψ:ρ⊕α->Prop} (h:Ex o Ψ) (kl:∀ r,Ψ (.inl r)->Ex (G r) Φ) (kr:∀ a,Ψ (.inr a)->Ex (f a) Φ):Ex (hJ o G f) Φ:=by
 obtain⟨x,e,h⟩:=h;subst e
 cases x with
 | inl r=>exact kl r h
 | inr a=>exact kr a h
def nW:List Value:=[.string ByteArray.empty,.int .i64 0,.bool false,.int .i64 0,.int .i64 0,.string ByteArray.empty,.string ByteArray.empty,.bool false,.int .u8 0,.bool false,.slice none 0 0,.slice none 0 0]
section
variable {F0 : Nat -> Prop} {g g0 : Gh} {w w0 : World} {L : List Rs} {z y : Sl} {s : Sd} {bs : List Sd} {ah : ByteArray}
theorem pS {i:Nat} (hs:PL sdR 12 g w z bs) (hn:bs.length<=8) (hx:bs[i]?=some s) {w1:World} (H:Hp F0 g0 w0 g w1 L) (mo:Mo g w g w1) :
  Ex (dB z ah (i:Int) w1) fun o=>∃ w2,o=(if jQ s ah=0 then .inl (s.name,((i+1:Nat):Int),w2) else .inr (.inr (jQ s ah,w2)))/\Hp F0 g0 w0 g w2 L/\Mo g w1 g w2:=by
 have hln:=hs.len;have hi:=(aAi.1 hx).1;obtain⟨a,cs,ea,la,⟨zi,yo,rfl,pi,po,-,-⟩,-⟩:=hs.el (R:=sdR) fE mo hx;have lpi:=pi.len;have lpo:=po.len;obtain⟨p,w2,e2,H2,m2⟩:=H.box (T:=40) (cs:=nW);obtain⟨w3,e3,H3,m3⟩:=H2.stF (vs:=sdC s zi yo) rfl lN;have l0:∀ {w'},Hp F0 g0 w0 g w' (bxR p (sdC s zi yo) 40::L)->ldS w' ((⟨p,0,none⟩:Addr).add 0)=some s.name:=fun H=>by rw[aO];exact H.ldS rfl
 have l1:ldI .i64 w3 ((⟨p,0,none⟩:Addr).add 1)=some s.kind:=by rw[aO];exact H3.ldI rfl
 have l10:ldL w3 ((⟨p,0,none⟩:Addr).add 10)=some zi:=by rw[aO];exact H3.ldL rfl
 have l11:∀ {w'},Hp F0 g0 w0 g w' (bxR p (sdC s zi yo) 40::L)->ldL w' ((⟨p,0,none⟩:Addr).add 11)=some yo:=fun H=>by rw[aO];exact H.ldL rfl
 have m13:=m2.t m3;unfold dB;refine Ex.t (by simp;omega) (Ex.b1 ea (Ex.b1 la (Ex.b2 e2 (Ex.b1 e3 (Ex.b1 (l0 H3) (Ex.b2 (nK _ _) ?_))))));unfold jQ;by_cases h1:lH s.name=false
 .rw[if_pos h1];exact Ex.t (by simp[h1]) (Ex.ret ⟨w3,by rw[if_neg (by decide)],H3.tl,m13⟩)
 rw[if_neg h1];refine Ex.f (by simpa using h1) (Ex.b1 (l0 H3) ?_);by_cases h2:sLe s.name ah=true
 .rw[if_pos h2];exact Ex.t h2 (Ex.ret ⟨w3,by rw[if_neg (by decide)],H3.tl,m13⟩)
 rw[if_neg h2];refine Ex.f h2 (Ex.j2 (Ψ:=fun r=>r=(decide (s.kind<1\/4<s.kind),w3)) (Ex.b1 l1 ?_) ?_)
 .by_cases h3:s.kind<1
  .exact Ex.t (by simpa using h3) (Ex.ret (by simp[h3]))
  exact Ex.f (by simpa using h3) (Ex.b1 l1 (Ex.ret (by simp[h3])))
 rintro _ _ he;cases he;by_cases h3:s.kind<1\/4<s.kind
 .rw[if_pos h3];exact Ex.t (by simpa using h3) (Ex.ret ⟨w3,by rw[if_neg (by decide)],H3.tl,m13⟩)
 rw[if_neg h3];refine Ex.f (by simpa using h3) ?_;have fin:∀ w',Hp F0 g0 w0 g w' (bxR p (sdC s zi yo) 40::L)->Mo g w3 g w'->∃ w2,(.inl (s.name,((i+1:Nat):Int),w'):(ByteArray×Int×World)⊕((World)⊕(Int×World)))=(if (0:Int)=0 then .inl (s.name,((i+1:Nat):Int),w2) else .inr (.inr ((0:Int),w2)))/\Hp F0 g0 w0 g w2 L/\Mo g w1 g w2 :=
  fun w' H' m'=>⟨w',by rw[if_pos rfl],H'.tl,m13.t m'⟩
 by_cases h4:s.kind=4
 .rw[if_pos h4];refine Ex.xX (Ψ:=fun o=>(o = .inl (.inr (.inr ((if 4<s.ins.length\/4<s.outs.length then 6 else 2),(match o with | .inl (.inr (.inr (_,w')))=>w' | _=>w3))))/\((4<s.ins.length\/4<s.outs.length)\/(s.ins.any fun d=>!okD d)=true\/(s.outs.any fun d=>!okD d)=true)/\∃ w',o = .inl (.inr (.inr ((if 4<s.ins.length\/4<s.outs.length then 6 else 2),w')))/\Hp F0 g0 w0 g w' (bxR p (sdC s zi yo) 40::L)/\Mo g w3 g w') \/
   (¬ (4<s.ins.length\/4<s.outs.length)/\¬ ((s.ins.any fun d=>!okD d)=true\/(s.outs.any fun d=>!okD d)=true)/\∃ w',o = .inr w'/\Hp F0 g0 w0 g w' (bxR p (sdC s zi yo) 40::L)/\Mo g w3 g w')) (Ex.b1 l1 (Ex.t (by simpa using h4) (Ex.j2 (Ψ:=fun r=>r=(decide (4<s.ins.length\/4<s.outs.length),w3)) (Ex.b1 l10 ?_) ?_))) ?_ ?_
  .by_cases h5:4<s.ins.length
   .exact Ex.t (by simp;omega) (Ex.ret (by simp[h5]))
   exact Ex.f (by simp;omega) (Ex.b1 (l11 H3) (Ex.ret (by simp[h5,lpo];omega)))
  .rintro _ _ he;cases he;by_cases h5:4<s.ins.length\/4<s.outs.length
   .exact Ex.t (by simpa using h5) (Ex.s1 (Ex.ret (.inl ⟨by rw[if_pos h5],.inl h5,w3,by rw[if_pos h5],H3,Mo.r⟩)))
   refine Ex.f (by simpa using h5) (Ex.j2 (Ψ:=fun r=>r.1=decide ((s.ins.any fun d=>!okD d)=true\/(s.outs.any fun d=>!okD d)=true)/\Hp F0 g0 w0 g r.2 (bxR p (sdC s zi yo) 40::L)/\Mo g w3 g r.2) (Ex.b1 l10 ?_) ?_)
   .obtain⟨⟨v4,w4⟩,e4,hv4,H4,m4⟩:=oY (PL.mo (R:=dcR) dI pi m13) (by omega) H3;simp only at hv4 H4 m4;refine Ex.b2 e4 ?_;by_cases h6:v4=true
    .exact Ex.t h6 (Ex.ret ⟨by rw[hv4] at h6;simp[h6],H4,m4⟩)
    obtain⟨⟨v5,w5⟩,e5,hv5,H5,m5⟩:=oY (PL.mo (R:=dcR) dI po (m13.t m4)) (by omega) H4;simp only at hv5 H5 m5;refine Ex.f h6 (Ex.b1 (l11 H4) (Ex.b2 e5 (Ex.ret ⟨?_,H5,m4.t m5⟩)));rw[hv4] at h6;show v5=_;rw[hv5];have h6':(s.ins.any fun d=>!okD d)=false:=(aAR _).mp h6;rw[h6'];cases(s.outs.any fun d=>!okD d)<;>rfl
   rintro v w4 ⟨rfl,H4,m4⟩;simp only at H4 m4;by_cases h6:(s.ins.any fun d=>!okD d)=true\/(s.outs.any fun d=>!okD d)=true
   .exact Ex.t (decide_eq_true h6) (Ex.s1 (Ex.ret (.inl ⟨by rw[if_neg h5],.inr h6,w4,by rw[if_neg h5],H4,m4⟩)))
   exact Ex.f (by simpa using h6) (Ex.ret (.inr ⟨h5,h6,w4,rfl,H4,m4⟩))
  .rintro r (⟨-,hc,w4,hr,H4,m4⟩ | ⟨-,-,w4,hr,-,-⟩)
   .cases hr;refine Ex.ret ⟨w4,?_,H4.tl,m13.t m4⟩;by_cases h5:4<s.ins.length\/4<s.outs.length
    .simp only[if_pos h5];rw[if_neg (by decide)]
    have h6:=hc.resolve_left h5;simp only[if_neg h5,if_pos h6];rw[if_neg (by decide)]
   cases hr
  rintro r (⟨-,-,w4,hr,-,-⟩ | ⟨h5,h6,w4,hr,H4,m4⟩)
  .cases hr
  obtain rfl:r=w4:=by injection hr
  rw[if_neg h5,if_neg h6];simp only[u1];refine Ex.b1 (l0 H4) ?_;rw[fB (by omega)];exact Ex.ret (fin r H4 m4)
 rw[if_neg h4];refine Ex.xX (Ψ:=fun o=>o = .inr w3) (Ex.b1 l1 (Ex.f (by simpa using h4) (Ex.ret rfl))) (fun r hr=>by cases hr) (fun r hr=>?_);cases hr;simp only[u1];refine Ex.b1 (l0 H3) ?_;rw[fB (by omega)];exact Ex.ret (fin w3 H3 Mo.r)
theorem mW (hs:PL sdR 12 g w z bs) (hn:bs.length<=8):∀ (m i:Nat) (ah:ByteArray) (w1:World),m+i=bs.length->Hp F0 g0 w0 g w1 L->Mo g w g w1 ->
  Ex (bB (fun s:ByteArray×Int×World=>dB z s.1 s.2.1 s.2.2) (ah,(i:Int),w1)) fun o=>∃ w2,o=(if iT (bs.drop i) ah=0 then .inl w2 else .inr (iT (bs.drop i) ah,w2))/\Hp F0 g0 w0 g w2 L/\Mo g w1 g w2
 | 0,i,ah,w1,hm,H,mo=>by
  have hln:=hs.len;refine⟨.inl w1,cF ?_,w1,?_,H,Mo.r⟩
  .unfold dB;rw[if_neg (by simp;omega)]
  rw[aAB (by omega)];rfl
 | m+1,i,ah,w1,hm,H,mo=>by
  have hi:i<bs.length:=by omega
  obtain⟨o,eo,w2,rfl,H2,m2⟩:=pS (ah:=ah) hs hn (aAk hi) H mo;rw[aAD hi];unfold iT;by_cases hb:jQ bs[i] ah=0
  .rw[if_pos hb] at eo ⊢;obtain⟨o,e3,w3,ho,H3,m3⟩:=mW hs hn m (i+1) bs[i].name w2 (by omega) H2 (mo.t m2);exact⟨o,(eO eo).trans e3,w3,ho,H3,m2.t m3⟩
  rw[if_neg hb] at eo ⊢;exact⟨_,cF eo,w2,by rw[if_neg hb],H2,m2⟩
theorem oQ (hs:PL sdR 12 g w z bs) (H:Hp F0 g0 w0 g w L):Ex (fF z w) fun r=>r.1=fG bs/\Hp F0 g0 w0 g r.2 L/\Mo g w g r.2:=by
 have hln:=hs.len;unfold fF fG;by_cases h8:8<bs.length
 .rw[if_pos h8];exact Ex.t (by simp;omega) (Ex.ret ⟨rfl,H,Mo.r⟩)
 rw[if_neg h8];obtain⟨o,e,w2,ho,H2,m2⟩:=mW hs (by omega) bs.length 0 ByteArray.empty w (by omega) H Mo.r;have e':bB (fun s:ByteArray×Int×World=>dB z s.1 s.2.1 s.2.2) (ByteArray.mk #[],0,w)=some o:=e;rw[aAs] at ho;refine Ex.f (by simp;omega) (Ex.b1 e' ?_);by_cases hc:iT bs ByteArray.empty=0
 .rw[if_pos hc] at ho;subst ho;exact Ex.ret ⟨hc.symm,H2,m2⟩
 rw[if_neg hc] at ho;subst ho;exact Ex.ret ⟨rfl,H2,m2⟩
end
theorem vI {s:ByteArray}:∀ (m i:Nat) (r:List UInt8),m=s.size-i->r≠[]->ByteArray.toList.loop s i r≠[]
 | 0,i,r,hm,hr=>by
  rw[ByteArray.toList.loop,if_neg (by omega)];intro h;exact hr (by simpa using h)
 | m+1,i,r,hm,hr=>by
  rw[ByteArray.toList.loop,if_pos (by omega)];exact vI m (i+1) _ (by omega) (by simp)
theorem oO {s:ByteArray} (h:lH s=true):sLe s ByteArray.empty=false:=by
 have h1:1<=s.size:=by unfold lH at h;simp only[aAl,decide_eq_true_eq] at h;exact h.1.1
 have h2:s.toList≠[]:=by
  unfold ByteArray.toList;rw[ByteArray.toList.loop,if_pos (by omega)];exact vI (s.size-1) 1 _ rfl (by simp)
 have h3:ByteArray.empty.toList=[]:=by
  unfold ByteArray.toList;rw[ByteArray.toList.loop,if_neg (by decide)];rfl
 unfold sLe sLt sEq;rw[h3]
 cases hl:s.toList with
 | nil=>exact(h2 hl).elim
 | cons a l=>rfl
theorem xU:ST Try.prog 38 43 3 24 [.int .i64 0,.int .i64 0,.int .i64 0]:=⟨Try.underlying38,⟨Try.t43,.agg #[.int .i64 0,.int .i64 0,.int .i64 0],by kernel_rfl,by kernel_rfl,rfl,rfl,rfl⟩,rfl,by decide,by decide⟩
section
variable {F0 : Nat -> Prop} {g g0 : Gh} {w w0 : World} {L : List Rs} {z y : Sl} {s : Sd} {bs : List Sd} {ds : List Dc}
theorem sP {α:Type} {f:α->List Value} {sz:Nat} (hf:∀ x,(f x).length=sz):∀ {xs:List α} {j:Nat} {v:Value},(xs.flatMap f)[j]?=some v->∃ i k x,xs[i]?=some x/\(f x)[k]?=some v/\j=i*sz+k
 | [],j,v,h=>by simp at h
 | x::xs,j,v,h=>by
  rw[aBl] at h;by_cases hj:j<(f x).length
  .rw[aAo hj] at h;exact⟨0,j,x,rfl,h,by omega⟩
  rw[aAQ (by omega),hf] at h;obtain⟨i,k,y,h1,h2,h3⟩:=sP hf h;rw[hf] at hj;exact⟨i+1,k,y,h1,h2,by rw[aBb];omega⟩
theorem PL.rd {g:Gh} {w:World} (h:PL dcR 3 g w z ds):Rd w z 3 (ds.flatMap dcC):=by
 have hln:=h.len;refine⟨by rw[lQ (f:=dcC) (sz:=3) ds (fun _ _=>rfl),hln],fun hn=>?_⟩;obtain⟨a0,cs0,e0,-⟩:=h.at_ 0 ds[0] (aAk (by omega))
 cases hp:z.p with
 | none=>unfold D.ix at e0;rw[hp] at e0;cases e0
 | some a =>
  refine⟨a,rfl,fun j v hv=>?_⟩;obtain⟨i,k,x,h1,h2,rfl⟩:=sP (sz:=3) (fun _=>rfl) hv;have hi:=(aAi.1 h1).1;obtain⟨b,cs,eb,-,-,rfl,hc⟩:=h.at_ i x h1;unfold D.ix at eb;rw[hp,aBN,if_pos ⟨by omega,by omega⟩] at eb;cases eb;have:=hc k v h2;rw[lI] at this;simpa using this
theorem tB {α:Type} {f:α->List Value} {sz:Nat} (hf:∀ x,(f x).length=sz):∀ {xs:List α} {i k:Nat} {x:α},xs[i]?=some x->k<sz->(xs.flatMap f)[i*sz+k]?=(f x)[k]?
 | [],i,k,x,h,_=>by simp at h
 | a::xs,0,k,x,h,hk=>by
  cases h;rw[aBl,Nat.zero_mul,aBO,aAo (by rw[hf];exact hk)]
 | a::xs,i+1,k,x,h,hk=>by
  rw[aBl,aAQ (by rw[hf,aBb];omega),hf,<-tB hf (xs:=xs) (i:=i) (by simpa using h) hk];congr 1;rw[aBb];omega
theorem Rd.dc {d:Dc} {i:Nat} (h:Rd w z 3 (ds.flatMap dcC)) (hd:ds[i]?=some d):∃ a,D.ix z (i:Int) 3=some a/\ldI .i64 w (a.add 0)=some d.x/\ldI .i64 w (a.add 1)=some d.y/\ldI .i64 w (a.add 2)=some d.r:=by
 have hi:=(aAi.1 hd).1;have hl:ds.length=z.n:=by have:=h.len;rw[lQ (f:=dcC) (sz:=3) ds (fun _ _=>rfl)] at this;omega
 obtain⟨a,e,hc⟩:=h.at_ (by omega);have cell:∀ k v,k<3->(dcC d)[k]?=some v->w.cell? ((a.add (i*3)).add k)=some v:=fun k v hk hv=>by
  rw[lI];exact hc _ _ (by rw[tB (sz:=3) (fun _=>rfl) hd hk];exact hv)
 refine⟨a.add (i*3),?_,jZ (cell 0 _ (by decide) rfl),jZ (cell 1 _ (by decide) rfl),jZ (cell 2 _ (by decide) rfl)⟩;unfold D.ix;rw[e,aBN,if_pos ⟨by omega,by omega⟩];simp
theorem vD (a b:Int) (w:World):dA a b w=some (decide (b<=a)&&decide (a<=1048576),w):=by
 unfold dA;by_cases h:b<=a<;>simp[h,aE]
theorem oM (h:Rd w z 3 (ds.flatMap dcC)) (hn:ds.length<=100):∀ (m i:Nat),m+i=ds.length->bB (fun s:Int×World=>aY z s.1 s.2) ((i:Int),w)=some (if ((ds.drop i).all okD)=true then .inl w else .inr (2,w))
 | 0,i,hm=>by
  have hl:ds.length=z.n:=by have:=h.len;rw[lQ (f:=dcC) (sz:=3) ds (fun _ _=>rfl)] at this;omega
  refine cF ?_;unfold aY;rw[if_neg (by simp;omega),aAB (by omega)];rfl
 | m+1,i,hm=>by
  have hl:ds.length=z.n:=by have:=h.len;rw[lQ (f:=dcC) (sz:=3) ds (fun _ _=>rfl)] at this;omega
  have hi:i<ds.length:=by omega
  obtain⟨d,hd⟩:∃ d,ds[i]=d:=⟨_,rfl⟩;have hdi:ds[i]?=some d:=by rw[aAk hi,hd]
  obtain⟨a,ea,l0,l1,l2⟩:=h.dc hdi;have e:aY z (i:Int) w=some (if okD d=true then .inl (((i+1:Nat):Int),w) else .inr (.inr (2,w))):=by
   unfold aY okD;rw[if_pos (by simp;omega),fB (by omega)];simp only[ea,aBN,l0,l1,l2,vD,cZ];by_cases h1 : -1048576<=d.x<;>by_cases h2:d.x<=1048576<;>by_cases h3 : -1048576<=d.y<;>by_cases h4:d.y<=1048576<;>by_cases h5:0<=d.r<;>by_cases h6:d.r<=1048576<;>simp[h1,h2,h3,h4,h5,h6,aE]
  rw[aAD hi,hd,aBE];by_cases hk:okD d=true
  .rw[hk,aBd,<-oM h hn m (i+1) (by omega)];exact eO (by show aY z (i:Int) w=_;rw[e,if_pos hk])
  refine cF ?_;show aY z (i:Int) w=_;rw[e,if_neg hk];simp[hk]
def ahL (bs:List Sd) (i:Nat):ByteArray:=if i=0 then ByteArray.empty else (bs.getD (i-1) ⟨ByteArray.empty,0,false,0,0,ByteArray.empty,ByteArray.empty,false,0,[],[],false⟩).name
theorem pY {i:Nat} (hs:PL sdR 12 g w z bs) (hn:bs.length<=8) (hx:bs[i]?=some s) {w1:World} (H:Hp F0 g0 w0 g w1 L) (mo:Mo g w g w1) :
  Ex (bF z (i:Int) w1) fun o=>∃ w2,o=(if jQ s (ahL bs i)=0 then .inl (((i+1:Nat):Int),w2) else .inr (.inr (jQ s (ahL bs i),w2)))/\Hp F0 g0 w0 g w2 L/\Mo g w1 g w2:=by
 have hln:=hs.len;have hi:=(aAi.1 hx).1;obtain⟨a,cs,ea,ga,hl,⟨zi,yo,rfl,pi,po,-,-⟩,hc⟩:=hs.at_ i s hx;have lpi:=pi.len;have lpo:=po.len;have cell:∀ {w'} j v,Mo g w g w'->(sdC s zi yo)[j]?=some v->w'.cell? (a.add j)=some v:=fun j v m hv=>by
  have hb':(a.add j).block=a.block:=by unfold Addr.add;split<;>rfl
  exact m.cell (by rw[hb'];exact ga) (hc j v hv)
 have l0:∀ {w'},Mo g w g w'->ldS w' (a.add 0)=some s.name:=fun m=>lE (cell 0 _ m rfl);have l1:∀ {w'},Mo g w g w'->ldI .i64 w' (a.add 1)=some s.kind:=fun m=>jZ (cell 1 _ m rfl);have l10:∀ {w'},Mo g w g w'->ldL w' (a.add 10)=some zi:=fun m=>gP (cell 10 _ m rfl);have l11:∀ {w'},Mo g w g w'->ldL w' (a.add 11)=some yo:=fun m=>gP (cell 11 _ m rfl);have out:∀ (c:Int) (w':World),jQ s (ahL bs i)=c->c≠0->Hp F0 g0 w0 g w' L->Mo g w1 g w'->∃ w2,(.inr (.inr (c,w')):(Int×World)⊕(World⊕(Int×World)))=(if jQ s (ahL bs i)=0 then .inl (((i+1:Nat):Int),w2) else .inr (.inr (jQ s (ahL bs i),w2)))/\Hp F0 g0 w0 g w2 L/\Mo g w1 g w2 :=
  fun c w' hb h0 H' m'=>⟨w',by rw[hb,if_neg h0],H',m'⟩
 have inn:∀ (w':World),jQ s (ahL bs i)=0->Hp F0 g0 w0 g w' L->Mo g w1 g w'->∃ w2,(.inl (((i+1:Nat):Int),w'):(Int×World)⊕(World⊕(Int×World)))=(if jQ s (ahL bs i)=0 then .inl (((i+1:Nat):Int),w2) else .inr (.inr (jQ s (ahL bs i),w2)))/\Hp F0 g0 w0 g w2 L/\Mo g w1 g w2 :=
  fun w' hb H' m'=>⟨w',by rw[if_pos hb],H',m'⟩
 -- an error is told,or the round ends
 have lft:∀ {Φ:(Int×World)⊕(World⊕(Int×World))->Prop} (c:Int) (w':World),Φ (.inr (.inr (c,w')))->Ex (hJ ((some (.inr (.inr (c,w'))):Option ((Int×World)⊕(World⊕(Int×World)))).bind fun g18=>(some (.inl g18):Option (((Int×World)⊕(World⊕(Int×World)))⊕World))) some fun (i1:World)=>u1 i1 fun w13=>some (.inl ((IntKind.wrap .i64 ((i:Int)+1)),w13))) Φ:=fun c w' h=>⟨_,rfl,h⟩;have jb:∀ {o:Option (((Int×World)⊕(World⊕(Int×World)))⊕World)},Ex o (fun x=>(∃ c w',x = .inl (.inr (.inr (c,w')))/\jQ s (ahL bs i)=c/\c≠0/\Hp F0 g0 w0 g w' L/\Mo g w1 g w')\/∃ w',x = .inr w'/\jQ s (ahL bs i)=0/\Hp F0 g0 w0 g w' L/\Mo g w1 g w') ->
   Ex (hJ o some fun (i1:World)=>u1 i1 fun w13=>some (.inl ((IntKind.wrap .i64 ((i:Int)+1)),w13))) fun o=>∃ w2,o=(if jQ s (ahL bs i)=0 then .inl (((i+1:Nat):Int),w2) else .inr (.inr (jQ s (ahL bs i),w2)))/\Hp F0 g0 w0 g w2 L/\Mo g w1 g w2:=fun h=>by
  refine Ex.xX h (fun r hr=>?_) (fun r hr=>?_)
  .rcases hr with⟨c,w',hr,hb,h0,H',m'⟩ | ⟨w',hr,-⟩
   .cases hr;exact Ex.ret (out c w' hb h0 H' m')
   cases hr
  rcases hr with⟨c,w',hr,-⟩ | ⟨w',hr,hb,H',m'⟩
  .cases hr
  cases hr;simp only[u1];rw[fB (by omega)];exact Ex.ret (inn r hb H' m')
 unfold bF;refine Ex.t (by simp;omega) (jb (Ex.b1 ea (Ex.b1 (l0 mo) (Ex.b2 (sT _ _) ?_))));unfold jQ;by_cases h1:lH s.name=false
 .exact Ex.t (by simp[h1]) (Ex.s1 (Ex.ret (.inl ⟨11,w1,rfl,by rw[if_pos h1],by decide,H,Mo.r⟩)))
 have h1t:lH s.name=true:=by simpa using h1
 rw[if_neg h1];obtain⟨w2,e2,H2,m2⟩:=H.dr;have mo2:=mo.t m2;refine Ex.f (by simpa using h1) (Ex.j2 (Ψ:=fun r=>r=(sLe s.name (ahL bs i),w2)) (Ex.b1 e2 ?_) ?_)
 .by_cases h0:i=0
  .refine Ex.f (by simp[h0]) (Ex.ret ?_);unfold ahL;rw[if_pos h0,oO h1t]
  obtain⟨k,rfl⟩:∃ k,i=k+1:=⟨i-1,by omega⟩;obtain⟨u,hu⟩:∃ u,bs[k]?=some u:=⟨_,aAk (by omega)⟩;obtain⟨b,cs',eb,-,⟨zi',yo',rfl,-⟩,hcb⟩:=hs.el (R:=sdR) fE mo2 hu;refine Ex.t (by simp) (Ex.b1 ea (Ex.b1 (l0 mo2) (Ex.b1 (by rw[show((k+1:Nat):Int)-1=(k:Int) by omega,aBG,show((k:Int)+9223372036854775808) % 18446744073709551616-9223372036854775808=(k:Int) by omega];exact eb) (Ex.b1 (lE (hcb 0 _ rfl)) (Ex.ret ?_)))));unfold ahL;rw[if_neg (by omega),show k+1-1=k by omega,aBu,hu];rfl
 rintro _ _ he;cases he;by_cases h2:sLe s.name (ahL bs i)=true
 .simp only[if_pos h2];exact(Ex.s1 (Ex.ret (.inl ⟨4,w2,rfl,rfl,by decide,H2,m2⟩)))
 simp only[if_neg h2];refine(Ex.j2 (Ψ:=fun r=>r=(decide (s.kind<1\/4<s.kind),w2)) (Ex.b1 ea (Ex.b1 (l1 mo2) ?_)) ?_)
 .by_cases h3:s.kind<1
  .exact Ex.t (by simpa using h3) (Ex.ret (by simp[h3]))
  exact Ex.f (by simpa using h3) (Ex.b1 ea (Ex.b1 (l1 mo2) (Ex.ret (by simp[h3]))))
 rintro _ _ he;cases he;by_cases h3:s.kind<1\/4<s.kind
 .rw[if_pos h3];exact Ex.t (by simpa using h3) (Ex.s1 (Ex.ret (.inl ⟨12,w2,rfl,rfl,by decide,H2,m2⟩)))
 rw[if_neg h3];refine Ex.f (by simpa using h3) (Ex.b1 ea (Ex.b1 (l1 mo2) ?_));by_cases h4:s.kind=4
 .rw[if_pos h4];refine Ex.f (by simp[h4]) (Ex.j2 (Ψ:=fun r=>r=(decide (4<s.ins.length\/4<s.outs.length),w2)) (Ex.b1 ea (Ex.b1 (l10 mo2) ?_)) ?_)
  .by_cases h5:4<s.ins.length
   .exact Ex.t (by simp;omega) (Ex.ret (by simp[h5]))
   exact Ex.f (by simp;omega) (Ex.b1 ea (Ex.b1 (l11 mo2) (Ex.ret (by simp[h5,lpo];omega))))
  rintro _ _ he;cases he;by_cases h5:4<s.ins.length\/4<s.outs.length
  .rw[if_pos h5];exact Ex.t (by simpa using h5) (Ex.s1 (Ex.ret (.inl ⟨6,w2,rfl,rfl,by decide,H2,m2⟩)))
  rw[if_neg h5];obtain⟨w3,e3,H3,m3⟩:=H2.dr;obtain⟨s4,w4,e4,n4,-,H4,m4⟩:=H3.bsl (T:=43) (sz:=3) (ps:=[]) (by intro p hp;cases hp) (by simp);have mo3:=mo2.t m3;have mo4:=mo3.t m4;have dcF:∀ {l:List Dc},∀ v∈l.flatMap dcC,v.oneCell'=true:=fun v hv=>by obtain⟨d,-,hd⟩:=List.mem_flatMap.1 hv;exact pA v hd
  obtain⟨s5,w5,e5,n5,H5,m5⟩:=H4.apS xU (PL.mo (R:=dcR) dI pi mo4).rd dcF (by rw[n4];simp;omega);obtain⟨s6,w6,e6,n6,H6,m6⟩:=H5.apS xU (PL.mo (R:=dcR) dI po (mo4.t m5)).rd dcF (by rw[n5,n4];simp;omega);have mo5:=mo4.t m5;have hr6:=H6.ow.rd;rw[show[].flatten++s.ins.flatMap dcC++s.outs.flatMap dcC=(s.ins++s.outs).flatMap dcC by simp] at hr6;have hloop:=oM hr6 (by simp;omega) (s.ins++s.outs).length 0 (by omega);rw[aAs] at hloop;refine Ex.f (by simpa using h5) (Ex.b1 e3 (Ex.b2 e4 (Ex.b1 ea (Ex.b1 (l10 mo4) (Ex.b2 e5 (Ex.b1 ea (Ex.b1 (l11 mo5) (Ex.b2 e6 (Ex.ck (l10 mo3) (Ex.ck (l11 mo3) (Ex.ck (l11 mo4) (Ex.b1 hloop ?_))))))))))));have key:(s.ins++s.outs).all okD=true↔¬ ((s.ins.any fun d=>!okD d)=true\/(s.outs.any fun d=>!okD d)=true):=by
   rw[List.all_append,aBF,aBF];simp
  by_cases h6:(s.ins.any fun d=>!okD d)=true\/(s.outs.any fun d=>!okD d)=true
  .rw[if_pos h6,if_neg (fun h=>key.1 h h6)];simp only[Sum.elim_inr,u2];exact Ex.s1 (Ex.ret (.inl ⟨2,w6,rfl,rfl,by decide,H6.tl,m2.t (m3.t (m4.t (m5.t m6)))⟩))
  rw[if_neg h6,if_pos (key.2 h6)];simp only[Sum.elim_inl,u1];exact Ex.ret (.inr ⟨w6,rfl,trivial,H6.tl,m2.t (m3.t (m4.t (m5.t m6)))⟩)
 rw[if_neg h4];exact Ex.t (by simpa using h4) (Ex.ret (.inr ⟨w2,rfl,rfl,H2,m2⟩))
theorem mX (hs:PL sdR 12 g w z bs) (hn:bs.length<=8):∀ (m i:Nat) (w1:World),m+i=bs.length->Hp F0 g0 w0 g w1 L->Mo g w g w1 ->
  Ex (bB (fun s:Int×World=>bF z s.1 s.2) ((i:Int),w1)) fun o=>∃ w2,o=(if iT (bs.drop i) (ahL bs i)=0 then .inl w2 else .inr (iT (bs.drop i) (ahL bs i),w2))/\Hp F0 g0 w0 g w2 L/\Mo g w1 g w2
 | 0,i,w1,hm,H,mo=>by
  have hln:=hs.len;refine⟨.inl w1,cF ?_,w1,?_,H,Mo.r⟩
  .unfold bF;rw[if_neg (by simp;omega)]
  rw[aAB (by omega)];rfl
 | m+1,i,w1,hm,H,mo=>by
  have hi:i<bs.length:=by omega
  obtain⟨o,eo,w2,rfl,H2,m2⟩:=pY hs hn (aAk hi) H mo;rw[aAD hi];unfold iT;by_cases hb:jQ bs[i] (ahL bs i)=0
  .rw[if_pos hb] at eo ⊢;obtain⟨o,e3,w3,ho,H3,m3⟩:=mX hs hn m (i+1) w2 (by omega) H2 (mo.t m2);have:ahL bs (i+1)=bs[i].name:=by
    unfold ahL;rw[if_neg (by omega),show i+1-1=i by omega,aBu,aAk hi];rfl
   rw[this] at ho;exact⟨o,(eO eo).trans e3,w3,ho,H3,m2.t m3⟩
  rw[if_neg hb] at eo ⊢;exact⟨_,cF eo,w2,by rw[if_neg hb],H2,m2⟩
theorem oN (hs:PL sdR 12 g w z bs) (H:Hp F0 g0 w0 g w L):Ex (cS z w) fun r=>r.1=fG bs/\Hp F0 g0 w0 g r.2 L/\Mo g w g r.2:=by
 have hln:=hs.len;unfold cS fG;by_cases h8:8<bs.length
 .rw[if_pos h8];exact Ex.t (by simp;omega) (Ex.ret ⟨rfl,H,Mo.r⟩)
 rw[if_neg h8];obtain⟨o,e,w2,ho,H2,m2⟩:=mX hs (by omega) bs.length 0 w (by omega) H Mo.r;have e':bB (fun s:Int×World=>bF z s.1 s.2) (0,w)=some o:=e;rw[aAs,show ahL bs 0=ByteArray.empty from rfl] at ho;refine Ex.f (by simp;omega) (Ex.b1 e' ?_);by_cases hc:iT bs ByteArray.empty=0
 .rw[if_pos hc] at ho;subst ho;exact Ex.ret ⟨hc.symm,H2,m2⟩
 rw[if_neg hc] at ho;subst ho;exact Ex.ret ⟨rfl,H2,m2⟩
end
def gQ (a0:List Value) (a1:Addr) (w:World):Option (Bool×World) :=
 aE (mk w 40 a0) fun p1 w2 =>
 (ldS w2 (p1.add 0)).bind fun v4 =>
 (ldS w2 (a1.add 0)).bind fun v6 =>
 some ((sEq v4 v6),w2)
theorem mO {a0 a1 w w' r0} (h:gQ a0 a1 w=some (r0,w')):Calls Try.prog 27 #[(.agg (List.toArray a0)),(.pointer (some a1))] w fun e w''=>e=.returned (.bool r0)/\w''=w':=by
 refine aG (n:=9) Try.func27 rfl Try.ntmps27 (by simp) fun a u=>?_;unfold gQ at h;refine wp_seq<|aA<|?_;have⟨p1,w2,e3,h⟩:=bs2 h;refine q u (dJ u rfl rfl e3) fun a u=>qa u rfl fun a u=>aC<|t_n<|wp_seq<|aA<|q u (aI u rfl yG rfl rfl yN) fun a u=>?_;have⟨v4,e5,h⟩:=bs1 h;refine q u (aH u rfl yP (cG e5)) fun a u=>q u (aI u rfl yG rfl rfl yN) fun a u=>?_;have⟨v6,e7,h⟩:=bs1 h;refine q u (aH u rfl yP (cG e7)) fun a u=>q u (tM u rfl rfl) fun a u=>qa u rfl fun a u=>aC<|t_n<|wp_ret<|?_;have y:=u;cases h;exact aX Try.results27 y rfl ⟨rfl,rfl⟩
noncomputable def aS (a0:Sl) (a1_0:Addr) (x1:Int) (w2:World):Option ((Int×World)⊕((World)⊕(Int×World))) :=
 if (decide (x1<(a0.n:Int)))=true then
 ((ix a0 x1 12).bind fun p12 =>
 (ldA 12 w2 p12 0).bind fun c14 =>
 aE (gQ c14 a1_0 w2) fun v16 w17 =>
 if v16=true then
 (some (.inr (.inr (x1,w17))))
 else
 (some (.inl ((IntKind.wrap .i64 (x1+1)),w17))))
 else
 (some (.inr (.inl w2)))
noncomputable def bH (a0:Sl) (a1_0:Addr) (w:World):Option (Int×World) :=
 (bB (fun s:Int×World=>aS a0 a1_0 s.1 s.2) (0,w)).bind fun r3=>Sum.elim (fun (i:World)=>u1 i fun w5 =>
 some ((-1),w5)) (fun (i:Int×World)=>u2 i fun v6 w7 =>
 some (v6,w7)) r3
theorem gG {a0 a1_0 w w' r0} (h:bH a0 a1_0 w=some (r0,w')):Calls Try.prog 26 #[(Sl.v a0),(.func (.func 27) #[] #[(.pointer (some a1_0))])] w fun e w''=>e=.returned (.int .i64 r0)/\w''=w':=by
 refine aG (n:=19) Try.func26 rfl Try.ntmps26 (by simp) fun a u=>?_;unfold bH at h;refine wp_seq<|aA<|qa u rfl fun a u=>aC<|t_n<|wp_seq<|wp_seq<|aA<|qm u rfl fun a u=>q u (bZ u rfl yI) fun a u=>qm u rfl fun a u=>aC<|t_n<|wp_block<|?_;have⟨r3,e4,h⟩:=bs1 h;refine dH (n:=19) (L1:=fun i=>[]) (w1:=fun i=>i) (L2:=fun i=>[(4,(iV i.1))]) (w2:=fun i=>i.2) (e1:=.exit 0) (e2:=.ret) (I:=fun (s:Int×World) a w=>Has 19 [(8,(iV s.1)),(0,(Sl.v a0)),(1,(.func (.func 27) #[] #[(pV (some a1_0))])),(7,(iV (a0.n:Int)))] a/\w=s.2) ⟨u.sub ⟨rfl,rfl,rfl,rfl,aBP⟩,rfl⟩ e4 (fun i hi a u=>?_) (fun i hi a u=>?_) (fun hk8 hk9=>?_)
 .subst hi;obtain⟨w5,rfl⟩:∃ x,x=i:=⟨i,rfl⟩;dsimp only[Sum.elim_inl,Sum.elim_inr,u1,u2,u3,u4,u5,u6] at h;have u:Has 19 [] a:=u;refine eC<|t_n<|wp_seq<|aA<|qa u rfl fun a u=>aC<|t_n<|wp_ret<|?_;have y:=u;cases h;exact aX Try.results26 y rfl ⟨rfl,rfl⟩
 .subst hi;obtain⟨v6,w7⟩:=i;dsimp only[Sum.elim_inl,Sum.elim_inr,u1,u2,u3,u4,u5,u6] at h;have u:Has 19 [(4,(iV v6))] a:=u;refine b_r<|t_r<|?_;have y:=u;cases h;exact aX Try.results26 y rfl ⟨rfl,rfl⟩
 clear h;rintro⟨x1,w2⟩ a wq o ⟨u,hwq⟩ h hr10;obtain rfl:w2=wq:=hwq.symm;have u:Has 19 [(8,(iV x1)),(0,(Sl.v a0)),(1,(.func (.func 27) #[] #[(pV (some a1_0))])),(7,(iV (a0.n:Int)))] a:=u;have h:aS a0 a1_0 x1 w2=some o:=h;unfold aS at h;refine wp_seq<|aA<|q u (eX u rfl rfl) fun a u=>aC<|t_n<|wp_seq<|?_;refine aF u rfl h (fun b11 h=>?_) (fun b11 h=>?_)
 .refine wp_skip<|t_n<|wp_seq<|wp_block<|wp_seq<|aA<|qm u rfl fun a u=>qa u rfl fun a u=>aC<|t_n<|wp_seq<|aA<|qm u rfl fun a u=>qm u rfl fun a u=>qm u rfl fun a u=>?_;have⟨p12,e13,h⟩:=bs1 h;refine q u (dL u rfl rfl yI yH e13) fun a u=>?_;have⟨c14,e15,h⟩:=bs1 h;refine q u (bE u rfl zC yH e15) fun a u=>?_;have⟨v16,w17,e18,h⟩:=bs2 h;refine q u (fD (xs:=[_]) (vs:=[(.agg (List.toArray c14))]) (cv:=[(pV (some a1_0))]) u rfl ⟨rfl,aBP⟩ Try.call27 (mO e18)) fun a u=>aC<|t_n<|?_;refine aF u rfl h (fun b19 h=>?_) (fun b19 h=>?_)
  .refine wp_seq<|aA<|qm u rfl fun a u=>qa u rfl fun a u=>aC<|t_n<|wp_ret<|b_r<|t_r<|?_;have y:=u;cases h;cases hr10 _ rfl;refine gB<|?_;exact hk9 _ rfl _ (y.sb rfl)
  refine wp_skip<|b_n<|t_n<|aA<|q u (dP u rfl rfl) fun a u=>qm u rfl fun a u=>aC<|?_;have y:=u;cases h;exact cP ⟨y.sb rfl,rfl⟩
 refine wp_exit<|t_x<|?_;have y:=u;cases h;cases hr10 _ rfl;refine iE<|?_;exact hk8 _ rfl _ (y.sb rfl)
noncomputable def dM (a0:List Value) (w:World):Option (Bool×World) :=
 aE (mk w 40 a0) fun p1 w2 =>
 (ldI .i64 w2 (p1.add 1)).bind fun v4 =>
 if (v4==1)=true then
 ((ldI .i64 w2 (p1.add 3)).bind fun v7 =>
 (ldI .i64 w2 (p1.add 4)).bind fun v9 =>
 some ((decide (v9<v7)),w2))
 else
 (if (v4==2)=true then
 (aE ((ldB w2 (p1.add 7)).bind fun v16 =>
 if (!v16)=true then
 ((ldS w2 (p1.add 5)).bind fun v19 =>
 (ldS w2 (p1.add 6)).bind fun v21 =>
 some ((!sLt v19 v21),w2))
 else
 (some (false,w2))) fun v12 w13 =>
 some (v12,w13))
 else
 (if (v4==3)=true then
 ((ldI .u8 w2 (p1.add 8)).bind fun v24 =>
 some (((pP .u8 v24 3)==0),w2))
 else
 ((ldB w2 (p1.add 9)).bind fun v26 =>
 some (v26,w2))))
theorem fJ {a0 w w' r0} (h:dM a0 w=some (r0,w')):Calls Try.prog 41 #[(.agg (List.toArray a0))] w fun e w''=>e=.returned (.bool r0)/\w''=w':=by
 refine aG (n:=32) Try.func41 rfl Try.ntmps41 (by simp) fun a u=>?_;unfold dM at h;refine wp_seq<|aA<|?_;have⟨p1,w2,e3,h⟩:=bs2 h;refine q u (dJ u rfl rfl e3) fun a u=>qa u rfl fun a u=>aC<|t_n<|wp_seq<|wp_seq<|aA<|q u (aI u rfl yG rfl rfl yR) fun a u=>?_;have⟨v4,e5,h⟩:=bs1 h;refine q u (aH u rfl yS (aL e5)) fun a u=>aC<|t_n<|wp_block<|wp_seq<|aA<|q u (cA u rfl rfl) fun a u=>qa u rfl fun a u=>aC<|t_n<|?_;refine aF u rfl h (fun b6 h=>?_) (fun b6 h=>?_)
 .refine wp_seq<|aA<|q u (aI u rfl yG rfl rfl yW) fun a u=>?_;have⟨v7,e8,h⟩:=bs1 h;refine q u (aH u rfl zG (aL e8)) fun a u=>q u (aI u rfl yG rfl rfl yW) fun a u=>?_;have⟨v9,e10,h⟩:=bs1 h;refine q u (aH u rfl zG (aL e10)) fun a u=>q u (iM u rfl rfl) fun a u=>qa u rfl fun a u=>aC<|t_n<|wp_ret<|b_r<|t_r<|?_;have y:=u;cases h;exact aX Try.results41 y rfl ⟨rfl,rfl⟩
 refine wp_seq<|aA<|q u (cA u rfl rfl) fun a u=>qa u rfl fun a u=>aC<|t_n<|?_;refine aF u rfl h (fun b11 h=>?_) (fun b11 h=>?_)
 .refine wp_seq<|?_;have⟨v12,w13,e14,h⟩:=bs2 h;refine aW (n:=32) (L:=[(2,(bV v12))]) (w':=w13) (fun a u=>?_) (fun hk15=>?_)
  .refine t_n<|wp_ret<|b_r<|t_r<|?_;have y:=u;cases h;exact aX Try.results41 y rfl ⟨rfl,rfl⟩
  clear h;have h:=e14;refine aA<|q u (aI u rfl yG rfl rfl zA) fun a u=>?_;have⟨v16,e17,h⟩:=bs1 h;refine q u (aH u rfl zT (iU e17)) fun a u=>q u (eP u rfl) fun a u=>qm u rfl fun a u=>?_;refine bU h (fun b18 h=>?_) (fun b18 h=>?_)
  .refine qg u 17 b18 (aI u rfl yG rfl rfl yN) fun a u=>?_;have⟨v19,e20,h⟩:=bs1 h;refine qg u 17 b18 (aH u rfl yP (cG e20)) fun a u=>qg u 17 b18 (aI u rfl yG rfl rfl yN) fun a u=>?_;have⟨v21,e22,h⟩:=bs1 h;refine qg u 17 b18 (aH u rfl yP (cG e22)) fun a u=>qg u 17 b18 (vL u rfl rfl) fun a u=>q u (aK u rfl b18 rfl) fun a u=>qa u rfl fun a u=>aC<|?_;have y:=u;cases h;exact hk15 _ (y.sb rfl)
  refine qn u 17 (nm b18) fun a u=>qn u 17 (nm b18) fun a u=>qn u 17 (nm b18) fun a u=>qn u 17 (nm b18) fun a u=>qn u 17 (nm b18) fun a u=>q u (aJ u rfl b18 rfl) fun a u=>qa u rfl fun a u=>aC<|?_;have y:=u;cases h;exact hk15 _ (y.sb rfl)
 refine wp_seq<|aA<|q u (cA u rfl rfl) fun a u=>qa u rfl fun a u=>aC<|t_n<|?_;refine aF u rfl h (fun b23 h=>?_) (fun b23 h=>?_)
 .refine wp_seq<|aA<|q u (aI u rfl yG rfl rfl zX) fun a u=>?_;have⟨v24,e25,h⟩:=bs1 h;refine q u (aH u rfl zZ (aL e25)) fun a u=>q u (vU u rfl rfl) fun a u=>q u (cA u rfl rfl) fun a u=>qa u rfl fun a u=>aC<|t_n<|wp_ret<|b_r<|t_r<|?_;have y:=u;cases h;exact aX Try.results41 y rfl ⟨rfl,rfl⟩
 refine wp_skip<|b_n<|t_n<|wp_seq<|aA<|q u (aI u rfl yG rfl rfl zA) fun a u=>?_;have⟨v26,e27,h⟩:=bs1 h;refine q u (aH u rfl zT (iU e27)) fun a u=>qa u rfl fun a u=>aC<|t_n<|wp_ret<|?_;have y:=u;cases h;exact aX Try.results41 y rfl ⟨rfl,rfl⟩
noncomputable def iX (a0:List Value) (a1:List Value) (w:World):Option (Int×World) :=
 aE (mk w 43 a0) fun p1 w2 =>
 aE (mk w2 43 a1) fun p4 w5 =>
 (ldI .i64 w5 (p1.add 0)).bind fun v7 =>
 (ldI .i64 w5 (p4.add 0)).bind fun v9 =>
 (ldI .i64 w5 (p1.add 0)).bind fun v11 =>
 (ldI .i64 w5 (p4.add 0)).bind fun v13 =>
 (ldI .i64 w5 (p1.add 1)).bind fun v15 =>
 (ldI .i64 w5 (p4.add 1)).bind fun v17 =>
 (ldI .i64 w5 (p1.add 1)).bind fun v19 =>
 (ldI .i64 w5 (p4.add 1)).bind fun v21 =>
 some ((IntKind.wrap .i64 ((IntKind.wrap .i64 ((IntKind.wrap .i64 (v7-v9))*(IntKind.wrap .i64 (v11-v13))))+(IntKind.wrap .i64 ((IntKind.wrap .i64 (v15-v17))*(IntKind.wrap .i64 (v19-v21)))))),w5)
theorem mG {a0 a1 w w' r0} (h:iX a0 a1 w=some (r0,w')):Calls Try.prog 74 #[(.agg (List.toArray a0)),(.agg (List.toArray a1))] w fun e w''=>e=.returned (.int .i64 r0)/\w''=w':=by
 refine aG (n:=28) Try.func74 rfl Try.ntmps74 (by simp) fun a u=>?_;unfold iX at h;refine wp_seq<|aA<|?_;have⟨p1,w2,e3,h⟩:=bs2 h;refine q u (dJ u rfl rfl e3) fun a u=>?_;have⟨p4,w5,e6,h⟩:=bs2 h;refine q u (dJ u rfl rfl e6) fun a u=>qa u rfl fun a u=>aC<|t_n<|wp_seq<|aA<|q u (aI u rfl yK rfl rfl yU) fun a u=>?_;have⟨v7,e8,h⟩:=bs1 h;refine q u (aH u rfl yT (aL e8)) fun a u=>q u (aI u rfl yK rfl rfl yU) fun a u=>?_;have⟨v9,e10,h⟩:=bs1 h;refine q u (aH u rfl yT (aL e10)) fun a u=>q u (jM u rfl rfl) fun a u=>q u (aI u rfl yK rfl rfl yU) fun a u=>?_;have⟨v11,e12,h⟩:=bs1 h;refine q u (aH u rfl yT (aL e12)) fun a u=>q u (aI u rfl yK rfl rfl yU) fun a u=>?_;have⟨v13,e14,h⟩:=bs1 h;refine q u (aH u rfl yT (aL e14)) fun a u=>q u (jM u rfl rfl) fun a u=>q u (lC u rfl rfl) fun a u=>q u (aI u rfl yK rfl rfl yU) fun a u=>?_;have⟨v15,e16,h⟩:=bs1 h;refine q u (aH u rfl yT (aL e16)) fun a u=>q u (aI u rfl yK rfl rfl yU) fun a u=>?_;have⟨v17,e18,h⟩:=bs1 h;refine q u (aH u rfl yT (aL e18)) fun a u=>q u (jM u rfl rfl) fun a u=>q u (aI u rfl yK rfl rfl yU) fun a u=>?_;have⟨v19,e20,h⟩:=bs1 h;refine q u (aH u rfl yT (aL e20)) fun a u=>q u (aI u rfl yK rfl rfl yU) fun a u=>?_;have⟨v21,e22,h⟩:=bs1 h;refine q u (aH u rfl yT (aL e22)) fun a u=>q u (jM u rfl rfl) fun a u=>q u (lC u rfl rfl) fun a u=>q u (dP u rfl rfl) fun a u=>qa u rfl fun a u=>aC<|t_n<|wp_ret<|?_;have y:=u;cases h;exact aX Try.results74 y rfl ⟨rfl,rfl⟩
noncomputable def gX (a0:List Value) (a1:List Value) (w:World):Option (Bool×World) :=
 aE (mk w 43 a0) fun p1 w2 =>
 aE (mk w2 43 a1) fun p4 w5 =>
 aE ((dr w5).bind fun w11 =>
 (ldI .i64 w11 (p1.add 2)).bind fun v13 =>
 (ldI .i64 w11 (p4.add 2)).bind fun v15 =>
 if (decide (v13<=v15))=true then
 ((ldA 3 w11 p1 0).bind fun c18 =>
 (ldA 3 w11 p4 0).bind fun c20 =>
 aE (iX c18 c20 w11) fun v22 w23 =>
 (ldI .i64 w23 (p4.add 2)).bind fun v25 =>
 (ldI .i64 w23 (p1.add 2)).bind fun v27 =>
 (ldI .i64 w23 (p4.add 2)).bind fun v29 =>
 (ldI .i64 w23 (p1.add 2)).bind fun v31 =>
 chk (ldI .i64 w11 (p4.add 2)=some v25) <|
 chk (ldI .i64 w11 (p1.add 2)=some v27) <|
 chk (ldI .i64 w11 (p4.add 2)=some v29) <|
 chk (ldI .i64 w11 (p1.add 2)=some v31) <|
 some ((decide (v22<=(IntKind.wrap .i64 ((IntKind.wrap .i64 (v25-v27))*(IntKind.wrap .i64 (v29-v31)))))),w23))
 else
 (some (false,w11))) fun v7 w8 =>
 some (v7,w8)
theorem kR {a0 a1 w w' r0} (h:gX a0 a1 w=some (r0,w')):Calls Try.prog 43 #[(.agg (List.toArray a0)),(.agg (List.toArray a1))] w fun e w''=>e=.returned (.bool r0)/\w''=w':=by
 refine aG (n:=27) Try.func43 rfl Try.ntmps43 (by simp) fun a u=>?_;unfold gX at h;refine wp_seq<|aA<|?_;have⟨p1,w2,e3,h⟩:=bs2 h;refine q u (dJ u rfl rfl e3) fun a u=>?_;have⟨p4,w5,e6,h⟩:=bs2 h;refine q u (dJ u rfl rfl e6) fun a u=>qa u rfl fun a u=>aC<|t_n<|wp_seq<|?_;have⟨v7,w8,e9,h⟩:=bs2 h;refine aW (n:=27) (L:=[(4,(bV v7))]) (w':=w8) (fun a u=>?_) (fun hk10=>?_)
 .refine t_n<|wp_ret<|?_;have y:=u;cases h;exact aX Try.results43 y rfl ⟨rfl,rfl⟩
 clear h;have h:=e9;have⟨w11,e12,h⟩:=bs1 h;have⟨v13,e14,h⟩:=bs1 h;have⟨v15,e16,h⟩:=bs1 h;refine bU h (fun b17 h=>?_) (fun b17 h=>?_)
 .have⟨c18,e19,h⟩:=bs1 h;have⟨c20,e21,h⟩:=bs1 h;have⟨v22,w23,e24,h⟩:=bs2 h;have⟨v25,e26,h⟩:=bs1 h;have⟨v27,e28,h⟩:=bs1 h;have⟨v29,e30,h⟩:=bs1 h;have⟨v31,e32,h⟩:=bs1 h;obtain⟨e33,h⟩:=dO h;obtain⟨e34,h⟩:=dO h;obtain⟨e35,h⟩:=dO h;obtain⟨e36,h⟩:=dO h;have u:Has 27 [(2,(pV (some p1))),(3,(pV (some p4)))] a:=u.sb rfl;refine bC (n:=27) (ds:=(aQ (pV (some (p1.add 2))) 0 [] 2 (pV (some p1))::aQ (iV v13) 0 [0] 5 (pV (some (p1.add 2)))::aQ (pV (some (p4.add 2))) 0 [] 3 (pV (some p4))::aQ (iV v15) 0 [2] 7 (pV (some (p4.add 2)))::bY (bV (decide (v13<=v15))) 0 (rn 0 4) [(6,(iV v13)),(8,(iV v15))]::dD (bV (decide (v13<=v15))) 0 (rn 0 5) 9::bY (.agg (List.toArray c18)) 0 (rn 0 6) [(2,(pV (some p1))),(10,(bV (decide (v13<=v15))))]::bY (.agg (List.toArray c20)) 0 (rn 0 6) [(3,(pV (some p4))),(10,(bV (decide (v13<=v15))))]::aN (iV v22) true 0 0 (rn 0 8) [(11,(.agg (List.toArray c18))),(12,(.agg (List.toArray c20))),(10,(bV (decide (v13<=v15))))]::aN (pV (some (p4.add 2))) false 0 1 (rn 0 6) [(3,(pV (some p4))),(10,(bV (decide (v13<=v15))))]::aN (iV v25) false 0 1 (rn 0 6++[9]) [(14,(pV (some (p4.add 2)))),(10,(bV (decide (v13<=v15))))]::aN (pV (some (p1.add 2))) false 0 1 (rn 0 6) [(2,(pV (some p1))),(10,(bV (decide (v13<=v15))))]::aN (iV v27) false 0 1 (rn 0 6++[11]) [(16,(pV (some (p1.add 2)))),(10,(bV (decide (v13<=v15))))]::aN (iV (IntKind.wrap .i64 (v25-v27))) false 0 1 (rn 0 6++rn 9 4) [(15,(iV v25)),(17,(iV v27)),(10,(bV (decide (v13<=v15))))]::aN (pV (some (p4.add 2))) false 0 1 (rn 0 6) [(3,(pV (some p4))),(10,(bV (decide (v13<=v15))))]::aN (iV v29) false 0 1 (rn 0 6++[14]) [(19,(pV (some (p4.add 2)))),(10,(bV (decide (v13<=v15))))]::aN (pV (some (p1.add 2))) false 0 1 (rn 0 6) [(2,(pV (some p1))),(10,(bV (decide (v13<=v15))))]::aN (iV v31) false 0 1 (rn 0 6++[16]) [(21,(pV (some (p1.add 2)))),(10,(bV (decide (v13<=v15))))]::aN (iV (IntKind.wrap .i64 (v29-v31))) false 0 1 (rn 0 6++rn 14 4) [(20,(iV v29)),(22,(iV v31)),(10,(bV (decide (v13<=v15))))]::aN (iV (IntKind.wrap .i64 ((IntKind.wrap .i64 (v25-v27))*(IntKind.wrap .i64 (v29-v31))))) false 0 1 (rn 0 6++rn 9 10) [(18,(iV (IntKind.wrap .i64 (v25-v27)))),(23,(iV (IntKind.wrap .i64 (v29-v31)))),(10,(bV (decide (v13<=v15))))]::bY (bV (decide (v22<=(IntKind.wrap .i64 ((IntKind.wrap .i64 (v25-v27))*(IntKind.wrap .i64 (v29-v31))))))) 1 (rn 0 20) [(13,(iV v22)),(24,(iV (IntKind.wrap .i64 ((IntKind.wrap .i64 (v25-v27))*(IntKind.wrap .i64 (v29-v31)))))),(10,(bV (decide (v13<=v15))))]::bY (bV (decide (v22<=(IntKind.wrap .i64 ((IntKind.wrap .i64 (v25-v27))*(IntKind.wrap .i64 (v29-v31))))))) 1 (rn 0 21) [(10,(bV (decide (v13<=v15)))),(25,(bV (decide (v22<=(IntKind.wrap .i64 ((IntKind.wrap .i64 (v25-v27))*(IntKind.wrap .i64 (v29-v31))))))))]::dD (bV (decide (v22<=(IntKind.wrap .i64 ((IntKind.wrap .i64 (v25-v27))*(IntKind.wrap .i64 (v29-v31))))))) 1 (rn 0 22) 26::[])) (W:=(fun j=>match j with | 0=>w11 | 1=>w23 | _=>w23)) (by kernel_rfl) u (gN e12) (by kernel_rfl) ?_ (bA (by kernel_rfl)) (by kernel_rfl) (m:=1) (by kernel_rfl) (fun a u=>?_)
  .refine⟨oa (aI · rfl yK rfl rfl yU),oc 0 (kd (aH · rfl yT (aL e14))),oa (aI · rfl yK rfl rfl yU),oc 0 (kd (aH · rfl yT (aL e16))),oa (mE · rfl rfl),oa (aD · rfl),oc 0 (kg 10 b17 (bE · rfl zB yO e19)),oc 0 (kg 10 b17 (bE · rfl zB yO e21)),oc 0 (kg 10 b17 (dc2 · rfl rfl Try.call74 (mG e24))),oag 10 b17 (aI · rfl yK rfl rfl yU),?_,oag 10 b17 (aI · rfl yK rfl rfl yU),?_,oag 10 b17 (jM · rfl rfl),oag 10 b17 (aI · rfl yK rfl rfl yU),?_,oag 10 b17 (aI · rfl yK rfl rfl yU),?_,oag 10 b17 (jM · rfl rfl),oag 10 b17 (lC · rfl rfl),oag 10 b17 (mE · rfl rfl),oa (aK · rfl b17 rfl),oa (dZ · rfl),aBP⟩
   .intro j h1 h2;have h1:0<=j:=h1;have h2:j<=1:=h2;rcases(by omega:j=0\/j=1) with rfl | rfl
    .exact kg 10 b17 (aH · rfl yT (aL e33))
    exact kg 10 b17 (aH · rfl yT (aL e26))
   .intro j h1 h2;have h1:0<=j:=h1;have h2:j<=1:=h2;rcases(by omega:j=0\/j=1) with rfl | rfl
    .exact kg 10 b17 (aH · rfl yT (aL e34))
    exact kg 10 b17 (aH · rfl yT (aL e28))
   .intro j h1 h2;have h1:0<=j:=h1;have h2:j<=1:=h2;rcases(by omega:j=0\/j=1) with rfl | rfl
    .exact kg 10 b17 (aH · rfl yT (aL e35))
    exact kg 10 b17 (aH · rfl yT (aL e30))
   intro j h1 h2;have h1:0<=j:=h1;have h2:j<=1:=h2;rcases(by omega:j=0\/j=1) with rfl | rfl
   .exact kg 10 b17 (aH · rfl yT (aL e36))
   exact kg 10 b17 (aH · rfl yT (aL e32))
  have u:Has 27 [(4,(bV (decide (v22<=(IntKind.wrap .i64 ((IntKind.wrap .i64 (v25-v27))*(IntKind.wrap .i64 (v29-v31))))))))] a:=u.sb rfl;have y:=u;cases h;exact hk10 _ (y.sb rfl)
 have u:Has 27 [(2,(pV (some p1))),(3,(pV (some p4)))] a:=u.sb rfl;refine bC (n:=27) (ds:=(aQ (pV (some (p1.add 2))) 0 [] 2 (pV (some p1))::aQ (iV v13) 0 [0] 5 (pV (some (p1.add 2)))::aQ (pV (some (p4.add 2))) 0 [] 3 (pV (some p4))::aQ (iV v15) 0 [2] 7 (pV (some (p4.add 2)))::bY (bV (decide (v13<=v15))) 0 (rn 0 4) [(6,(iV v13)),(8,(iV v15))]::dD (bV (decide (v13<=v15))) 0 (rn 0 5) 9::aQ (undef) 0 (rn 0 6) 10 (bV (decide (v13<=v15)))::aQ (undef) 0 (rn 0 6) 10 (bV (decide (v13<=v15)))::aQ (undef) 0 (rn 0 8) 10 (bV (decide (v13<=v15)))::aQ (undef) 0 (rn 0 6) 10 (bV (decide (v13<=v15)))::aQ (undef) 0 (rn 0 6++[9]) 10 (bV (decide (v13<=v15)))::aQ (undef) 0 (rn 0 6) 10 (bV (decide (v13<=v15)))::aQ (undef) 0 (rn 0 6++[11]) 10 (bV (decide (v13<=v15)))::aQ (undef) 0 (rn 0 6++rn 9 4) 10 (bV (decide (v13<=v15)))::aQ (undef) 0 (rn 0 6) 10 (bV (decide (v13<=v15)))::aQ (undef) 0 (rn 0 6++[14]) 10 (bV (decide (v13<=v15)))::aQ (undef) 0 (rn 0 6) 10 (bV (decide (v13<=v15)))::aQ (undef) 0 (rn 0 6++[16]) 10 (bV (decide (v13<=v15)))::aQ (undef) 0 (rn 0 6++rn 14 4) 10 (bV (decide (v13<=v15)))::aQ (undef) 0 (rn 0 6++rn 9 10) 10 (bV (decide (v13<=v15)))::aQ (undef) 0 (rn 0 20) 10 (bV (decide (v13<=v15)))::bY (bV false) 0 (rn 0 21) [(10,(bV (decide (v13<=v15)))),(25,undef)]::dD (bV false) 0 (rn 0 22) 26::[])) (W:=(fun _=>w11)) (by kernel_rfl) u (gN e12) (by kernel_rfl) ?_ (bA (by kernel_rfl)) (by kernel_rfl) (m:=0) (by kernel_rfl) (fun a u=>?_)
 .exact⟨oa (aI · rfl yK rfl rfl yU),oc (e:=false) 0 (kd (aH · rfl yT (aL e14))),oa (aI · rfl yK rfl rfl yU),oc (e:=false) 0 (kd (aH · rfl yT (aL e16))),oa (mE · rfl rfl),oa (aD · rfl),on 10 (nm b17),on 10 (nm b17),on 10 (nm b17),on 10 (nm b17),on 10 (nm b17),on 10 (nm b17),on 10 (nm b17),on 10 (nm b17),on 10 (nm b17),on 10 (nm b17),on 10 (nm b17),on 10 (nm b17),on 10 (nm b17),on 10 (nm b17),on 10 (nm b17),oa (aJ · rfl b17 rfl),oa (dZ · rfl),aBP⟩
 have u:Has 27 [(4,(bV false))] a:=u.sb rfl;have y:=u;cases h;exact hk10 _ (y.sb rfl)
noncomputable def gS (a0:List Value) (a1:Addr) (w:World):Option (Bool×World) :=
 aE (mk w 43 a0) fun p1 w2 =>
 (ldA 3 w2 p1 0).bind fun c4 =>
 (ldA 3 w2 a1 0).bind fun c6 =>
 aE (gX c4 c6 w2) fun v8 w9 =>
 some (v8,w9)
theorem nB {a0 a1 w w' r0} (h:gS a0 a1 w=some (r0,w')):Calls Try.prog 42 #[(.agg (List.toArray a0)),(.pointer (some a1))] w fun e w''=>e=.returned (.bool r0)/\w''=w':=by
 refine aG (n:=7) Try.func42 rfl Try.ntmps42 (by simp) fun a u=>?_;unfold gS at h;refine wp_seq<|aA<|?_;have⟨p1,w2,e3,h⟩:=bs2 h;refine q u (dJ u rfl rfl e3) fun a u=>qa u rfl fun a u=>aC<|t_n<|wp_seq<|aA<|?_;have⟨c4,e5,h⟩:=bs1 h;refine q u (bE u rfl zB yO e5) fun a u=>?_;have⟨c6,e7,h⟩:=bs1 h;refine q u (bE u rfl zB yO e7) fun a u=>?_;have⟨v8,w9,e10,h⟩:=bs2 h;refine q u (dc2 u rfl rfl Try.call43 (kR e10)) fun a u=>qa u rfl fun a u=>aC<|t_n<|wp_ret<|?_;have y:=u;cases h;exact aX Try.results42 y rfl ⟨rfl,rfl⟩
noncomputable def bR (a0:Sl) (a1_0:Addr) (x1:Int) (w2:World):Option ((Int×World)⊕((World)⊕(Int×World))) :=
 if (decide (x1<(a0.n:Int)))=true then
 ((ix a0 x1 3).bind fun p12 =>
 (ldA 3 w2 p12 0).bind fun c14 =>
 aE (gS c14 a1_0 w2) fun v16 w17 =>
 if v16=true then
 (some (.inr (.inr (x1,w17))))
 else
 (some (.inl ((IntKind.wrap .i64 (x1+1)),w17))))
 else
 (some (.inr (.inl w2)))
noncomputable def cX (a0:Sl) (a1_0:Addr) (w:World):Option (Int×World) :=
 (bB (fun s:Int×World=>bR a0 a1_0 s.1 s.2) (0,w)).bind fun r3=>Sum.elim (fun (i:World)=>u1 i fun w5 =>
 some ((-1),w5)) (fun (i:Int×World)=>u2 i fun v6 w7 =>
 some (v6,w7)) r3
theorem gD {a0 a1_0 w w' r0} (h:cX a0 a1_0 w=some (r0,w')):Calls Try.prog 25 #[(Sl.v a0),(.func (.func 42) #[] #[(.pointer (some a1_0))])] w fun e w''=>e=.returned (.int .i64 r0)/\w''=w':=by
 refine aG (n:=19) Try.func25 rfl Try.ntmps25 (by simp) fun a u=>?_;unfold cX at h;refine wp_seq<|aA<|qa u rfl fun a u=>aC<|t_n<|wp_seq<|wp_seq<|aA<|qm u rfl fun a u=>q u (bZ u rfl yJ) fun a u=>qm u rfl fun a u=>aC<|t_n<|wp_block<|?_;have⟨r3,e4,h⟩:=bs1 h;refine dH (n:=19) (L1:=fun i=>[]) (w1:=fun i=>i) (L2:=fun i=>[(4,(iV i.1))]) (w2:=fun i=>i.2) (e1:=.exit 0) (e2:=.ret) (I:=fun (s:Int×World) a w=>Has 19 [(8,(iV s.1)),(0,(Sl.v a0)),(1,(.func (.func 42) #[] #[(pV (some a1_0))])),(7,(iV (a0.n:Int)))] a/\w=s.2) ⟨u.sub ⟨rfl,rfl,rfl,rfl,aBP⟩,rfl⟩ e4 (fun i hi a u=>?_) (fun i hi a u=>?_) (fun hk8 hk9=>?_)
 .subst hi;obtain⟨w5,rfl⟩:∃ x,x=i:=⟨i,rfl⟩;dsimp only[Sum.elim_inl,Sum.elim_inr,u1,u2,u3,u4,u5,u6] at h;have u:Has 19 [] a:=u;refine eC<|t_n<|wp_seq<|aA<|qa u rfl fun a u=>aC<|t_n<|wp_ret<|?_;have y:=u;cases h;exact aX Try.results25 y rfl ⟨rfl,rfl⟩
 .subst hi;obtain⟨v6,w7⟩:=i;dsimp only[Sum.elim_inl,Sum.elim_inr,u1,u2,u3,u4,u5,u6] at h;have u:Has 19 [(4,(iV v6))] a:=u;refine b_r<|t_r<|?_;have y:=u;cases h;exact aX Try.results25 y rfl ⟨rfl,rfl⟩
 clear h;rintro⟨x1,w2⟩ a wq o ⟨u,hwq⟩ h hr10;obtain rfl:w2=wq:=hwq.symm;have u:Has 19 [(8,(iV x1)),(0,(Sl.v a0)),(1,(.func (.func 42) #[] #[(pV (some a1_0))])),(7,(iV (a0.n:Int)))] a:=u;have h:bR a0 a1_0 x1 w2=some o:=h;unfold bR at h;refine wp_seq<|aA<|q u (eX u rfl rfl) fun a u=>aC<|t_n<|wp_seq<|?_;refine aF u rfl h (fun b11 h=>?_) (fun b11 h=>?_)
 .refine wp_skip<|t_n<|wp_seq<|wp_block<|wp_seq<|aA<|qm u rfl fun a u=>qa u rfl fun a u=>aC<|t_n<|wp_seq<|aA<|qm u rfl fun a u=>qm u rfl fun a u=>qm u rfl fun a u=>?_;have⟨p12,e13,h⟩:=bs1 h;refine q u (dL u rfl rfl yJ yO e13) fun a u=>?_;have⟨c14,e15,h⟩:=bs1 h;refine q u (bE u rfl zB yO e15) fun a u=>?_;have⟨v16,w17,e18,h⟩:=bs2 h;refine q u (fD (xs:=[_]) (vs:=[(.agg (List.toArray c14))]) (cv:=[(pV (some a1_0))]) u rfl ⟨rfl,aBP⟩ Try.call42 (nB e18)) fun a u=>aC<|t_n<|?_;refine aF u rfl h (fun b19 h=>?_) (fun b19 h=>?_)
  .refine wp_seq<|aA<|qm u rfl fun a u=>qa u rfl fun a u=>aC<|t_n<|wp_ret<|b_r<|t_r<|?_;have y:=u;cases h;cases hr10 _ rfl;refine gB<|?_;exact hk9 _ rfl _ (y.sb rfl)
  refine wp_skip<|b_n<|t_n<|aA<|q u (dP u rfl rfl) fun a u=>qm u rfl fun a u=>aC<|?_;have y:=u;cases h;exact cP ⟨y.sb rfl,rfl⟩
 refine wp_exit<|t_x<|?_;have y:=u;cases h;cases hr10 _ rfl;refine iE<|?_;exact hk8 _ rfl _ (y.sb rfl)
noncomputable def bS (a0:Sl) (a1_0:Addr) (w:World):Option (Bool×World) :=
 aE (cX a0 a1_0 w) fun v1 w2 =>
 some ((decide (0<=v1)),w2)
theorem fO {a0 a1_0 w w' r0} (h:bS a0 a1_0 w=some (r0,w')):Calls Try.prog 16 #[(Sl.v a0),(.func (.func 42) #[] #[(.pointer (some a1_0))])] w fun e w''=>e=.returned (.bool r0)/\w''=w':=by
 refine aG (n:=9) Try.func16 rfl Try.ntmps16 (by simp) fun a u=>?_;unfold bS at h;refine wp_seq<|aA<|qa u rfl fun a u=>aC<|t_n<|wp_seq<|aA<|qm u rfl fun a u=>qm u rfl fun a u=>?_;have⟨v1,w2,e3,h⟩:=bs2 h;refine q u (fP (xs:=[_,_]) (vs:=[(Sl.v a0),(.func (.func 42) #[] #[(pV (some a1_0))])]) u ⟨rfl,rfl,aBP⟩ Try.call25 (gD e3)) fun a u=>q u (lU u rfl rfl) fun a u=>qa u rfl fun a u=>aC<|t_n<|wp_ret<|?_;have y:=u;cases h;exact aX Try.results16 y rfl ⟨rfl,rfl⟩
noncomputable def gY (a0:List Value) (a1:Addr) (w:World):Option (Bool×World) :=
 aE (mk w 43 a0) fun p1 w2 =>
 (ldA 3 w2 a1 0).bind fun c4 =>
 (ldA 3 w2 p1 0).bind fun c6 =>
 aE (gX c4 c6 w2) fun v8 w9 =>
 some (v8,w9)
theorem nG {a0 a1 w w' r0} (h:gY a0 a1 w=some (r0,w')):Calls Try.prog 44 #[(.agg (List.toArray a0)),(.pointer (some a1))] w fun e w''=>e=.returned (.bool r0)/\w''=w':=by
 refine aG (n:=7) Try.func44 rfl Try.ntmps44 (by simp) fun a u=>?_;unfold gY at h;refine wp_seq<|aA<|?_;have⟨p1,w2,e3,h⟩:=bs2 h;refine q u (dJ u rfl rfl e3) fun a u=>qa u rfl fun a u=>aC<|t_n<|wp_seq<|aA<|?_;have⟨c4,e5,h⟩:=bs1 h;refine q u (bE u rfl zB yO e5) fun a u=>?_;have⟨c6,e7,h⟩:=bs1 h;refine q u (bE u rfl zB yO e7) fun a u=>?_;have⟨v8,w9,e10,h⟩:=bs2 h;refine q u (dc2 u rfl rfl Try.call43 (kR e10)) fun a u=>qa u rfl fun a u=>aC<|t_n<|wp_ret<|?_;have y:=u;cases h;exact aX Try.results44 y rfl ⟨rfl,rfl⟩
noncomputable def bM (a0:Sl) (a1_0:Addr) (x1:Int) (w2:World):Option ((Int×World)⊕((World)⊕(Int×World))) :=
 if (decide (x1<(a0.n:Int)))=true then
 ((ix a0 x1 3).bind fun p12 =>
 (ldA 3 w2 p12 0).bind fun c14 =>
 aE (gY c14 a1_0 w2) fun v16 w17 =>
 if v16=true then
 (some (.inr (.inr (x1,w17))))
 else
 (some (.inl ((IntKind.wrap .i64 (x1+1)),w17))))
 else
 (some (.inr (.inl w2)))
noncomputable def cW (a0:Sl) (a1_0:Addr) (w:World):Option (Int×World) :=
 (bB (fun s:Int×World=>bM a0 a1_0 s.1 s.2) (0,w)).bind fun r3=>Sum.elim (fun (i:World)=>u1 i fun w5 =>
 some ((-1),w5)) (fun (i:Int×World)=>u2 i fun v6 w7 =>
 some (v6,w7)) r3
theorem gC {a0 a1_0 w w' r0} (h:cW a0 a1_0 w=some (r0,w')):Calls Try.prog 25 #[(Sl.v a0),(.func (.func 44) #[] #[(.pointer (some a1_0))])] w fun e w''=>e=.returned (.int .i64 r0)/\w''=w':=by
 refine aG (n:=19) Try.func25 rfl Try.ntmps25 (by simp) fun a u=>?_;unfold cW at h;refine wp_seq<|aA<|qa u rfl fun a u=>aC<|t_n<|wp_seq<|wp_seq<|aA<|qm u rfl fun a u=>q u (bZ u rfl yJ) fun a u=>qm u rfl fun a u=>aC<|t_n<|wp_block<|?_;have⟨r3,e4,h⟩:=bs1 h;refine dH (n:=19) (L1:=fun i=>[]) (w1:=fun i=>i) (L2:=fun i=>[(4,(iV i.1))]) (w2:=fun i=>i.2) (e1:=.exit 0) (e2:=.ret) (I:=fun (s:Int×World) a w=>Has 19 [(8,(iV s.1)),(0,(Sl.v a0)),(1,(.func (.func 44) #[] #[(pV (some a1_0))])),(7,(iV (a0.n:Int)))] a/\w=s.2) ⟨u.sub ⟨rfl,rfl,rfl,rfl,aBP⟩,rfl⟩ e4 (fun i hi a u=>?_) (fun i hi a u=>?_) (fun hk8 hk9=>?_)
 .subst hi;obtain⟨w5,rfl⟩:∃ x,x=i:=⟨i,rfl⟩;dsimp only[Sum.elim_inl,Sum.elim_inr,u1,u2,u3,u4,u5,u6] at h;have u:Has 19 [] a:=u;refine eC<|t_n<|wp_seq<|aA<|qa u rfl fun a u=>aC<|t_n<|wp_ret<|?_;have y:=u;cases h;exact aX Try.results25 y rfl ⟨rfl,rfl⟩
 .subst hi;obtain⟨v6,w7⟩:=i;dsimp only[Sum.elim_inl,Sum.elim_inr,u1,u2,u3,u4,u5,u6] at h;have u:Has 19 [(4,(iV v6))] a:=u;refine b_r<|t_r<|?_;have y:=u;cases h;exact aX Try.results25 y rfl ⟨rfl,rfl⟩
 clear h;rintro⟨x1,w2⟩ a wq o ⟨u,hwq⟩ h hr10;obtain rfl:w2=wq:=hwq.symm;have u:Has 19 [(8,(iV x1)),(0,(Sl.v a0)),(1,(.func (.func 44) #[] #[(pV (some a1_0))])),(7,(iV (a0.n:Int)))] a:=u;have h:bM a0 a1_0 x1 w2=some o:=h;unfold bM at h;refine wp_seq<|aA<|q u (eX u rfl rfl) fun a u=>aC<|t_n<|wp_seq<|?_;refine aF u rfl h (fun b11 h=>?_) (fun b11 h=>?_)
 .refine wp_skip<|t_n<|wp_seq<|wp_block<|wp_seq<|aA<|qm u rfl fun a u=>qa u rfl fun a u=>aC<|t_n<|wp_seq<|aA<|qm u rfl fun a u=>qm u rfl fun a u=>qm u rfl fun a u=>?_;have⟨p12,e13,h⟩:=bs1 h;refine q u (dL u rfl rfl yJ yO e13) fun a u=>?_;have⟨c14,e15,h⟩:=bs1 h;refine q u (bE u rfl zB yO e15) fun a u=>?_;have⟨v16,w17,e18,h⟩:=bs2 h;refine q u (fD (xs:=[_]) (vs:=[(.agg (List.toArray c14))]) (cv:=[(pV (some a1_0))]) u rfl ⟨rfl,aBP⟩ Try.call44 (nG e18)) fun a u=>aC<|t_n<|?_;refine aF u rfl h (fun b19 h=>?_) (fun b19 h=>?_)
  .refine wp_seq<|aA<|qm u rfl fun a u=>qa u rfl fun a u=>aC<|t_n<|wp_ret<|b_r<|t_r<|?_;have y:=u;cases h;cases hr10 _ rfl;refine gB<|?_;exact hk9 _ rfl _ (y.sb rfl)
  refine wp_skip<|b_n<|t_n<|aA<|q u (dP u rfl rfl) fun a u=>qm u rfl fun a u=>aC<|?_;have y:=u;cases h;exact cP ⟨y.sb rfl,rfl⟩
 refine wp_exit<|t_x<|?_;have y:=u;cases h;cases hr10 _ rfl;refine iE<|?_;exact hk8 _ rfl _ (y.sb rfl)
noncomputable def bP (a0:Sl) (a1_0:Addr) (w:World):Option (Bool×World) :=
 aE (cW a0 a1_0 w) fun v1 w2 =>
 some ((decide (0<=v1)),w2)
theorem fM {a0 a1_0 w w' r0} (h:bP a0 a1_0 w=some (r0,w')):Calls Try.prog 16 #[(Sl.v a0),(.func (.func 44) #[] #[(.pointer (some a1_0))])] w fun e w''=>e=.returned (.bool r0)/\w''=w':=by
 refine aG (n:=9) Try.func16 rfl Try.ntmps16 (by simp) fun a u=>?_;unfold bP at h;refine wp_seq<|aA<|qa u rfl fun a u=>aC<|t_n<|wp_seq<|aA<|qm u rfl fun a u=>qm u rfl fun a u=>?_;have⟨v1,w2,e3,h⟩:=bs2 h;refine q u (fP (xs:=[_,_]) (vs:=[(Sl.v a0),(.func (.func 44) #[] #[(pV (some a1_0))])]) u ⟨rfl,rfl,aBP⟩ Try.call25 (gC e3)) fun a u=>q u (lU u rfl rfl) fun a u=>qa u rfl fun a u=>aC<|t_n<|wp_ret<|?_;have y:=u;cases h;exact aX Try.results16 y rfl ⟨rfl,rfl⟩
noncomputable def iQ (a0:List Value) (a1:List Value) (w:World):Option (Bool×World) :=
 aE (mk w 43 a0) fun p1 w2 =>
 aE (mk w2 43 a1) fun p4 w5 =>
 (dr w5).bind fun w7 =>
 (ldA 3 w7 p1 0).bind fun c9 =>
 (ldA 3 w7 p4 0).bind fun c11 =>
 aE (iX c9 c11 w7) fun v13 w14 =>
 (ldI .i64 w14 (p1.add 2)).bind fun v16 =>
 (ldI .i64 w14 (p4.add 2)).bind fun v18 =>
 (ldI .i64 w14 (p1.add 2)).bind fun v20 =>
 (ldI .i64 w14 (p4.add 2)).bind fun v22 =>
 chk (ldI .i64 w7 (p1.add 2)=some v16) <|
 chk (ldI .i64 w7 (p4.add 2)=some v18) <|
 chk (ldI .i64 w7 (p1.add 2)=some v20) <|
 chk (ldI .i64 w7 (p4.add 2)=some v22) <|
 some ((decide ((IntKind.wrap .i64 ((IntKind.wrap .i64 (v16+v18))*(IntKind.wrap .i64 (v20+v22))))<v13)),w14)
theorem oB {a0 a1 w w' r0} (h:iQ a0 a1 w=some (r0,w')):Calls Try.prog 46 #[(.agg (List.toArray a0)),(.agg (List.toArray a1))] w fun e w''=>e=.returned (.bool r0)/\w''=w':=by
 refine aG (n:=20) Try.func46 rfl Try.ntmps46 (by simp) fun a u=>?_;unfold iQ at h;refine wp_seq<|aA<|?_;have⟨p1,w2,e3,h⟩:=bs2 h;refine q u (dJ u rfl rfl e3) fun a u=>?_;have⟨p4,w5,e6,h⟩:=bs2 h;refine q u (dJ u rfl rfl e6) fun a u=>qa u rfl fun a u=>aC<|t_n<|wp_seq<|?_;have⟨w7,e8,h⟩:=bs1 h;have⟨c9,e10,h⟩:=bs1 h;have⟨c11,e12,h⟩:=bs1 h;have⟨v13,w14,e15,h⟩:=bs2 h;have⟨v16,e17,h⟩:=bs1 h;have⟨v18,e19,h⟩:=bs1 h;have⟨v20,e21,h⟩:=bs1 h;have⟨v22,e23,h⟩:=bs1 h;obtain⟨e24,h⟩:=dO h;obtain⟨e25,h⟩:=dO h;obtain⟨e26,h⟩:=dO h;obtain⟨e27,h⟩:=dO h;have u:Has 20 [(2,(pV (some p1))),(3,(pV (some p4)))] a:=u.sb rfl;refine bC (n:=20) (ds:=(aQ (.agg (List.toArray c9)) 0 [] 2 (pV (some p1))::aQ (.agg (List.toArray c11)) 0 [] 3 (pV (some p4))::aN (iV v13) true 0 0 [0,1] [(5,(.agg (List.toArray c9))),(6,(.agg (List.toArray c11)))]::aN (pV (some (p1.add 2))) false 0 1 [] [(2,(pV (some p1)))]::aN (iV v16) false 0 1 [3] [(8,(pV (some (p1.add 2))))]::aN (pV (some (p4.add 2))) false 0 1 [] [(3,(pV (some p4)))]::aN (iV v18) false 0 1 [5] [(10,(pV (some (p4.add 2))))]::aN (iV (IntKind.wrap .i64 (v16+v18))) false 0 1 (rn 3 4) [(9,(iV v16)),(11,(iV v18))]::aN (pV (some (p1.add 2))) false 0 1 [] [(2,(pV (some p1)))]::aN (iV v20) false 0 1 [8] [(13,(pV (some (p1.add 2))))]::aN (pV (some (p4.add 2))) false 0 1 [] [(3,(pV (some p4)))]::aN (iV v22) false 0 1 [10] [(15,(pV (some (p4.add 2))))]::aN (iV (IntKind.wrap .i64 (v20+v22))) false 0 1 (rn 8 4) [(14,(iV v20)),(16,(iV v22))]::aN (iV (IntKind.wrap .i64 ((IntKind.wrap .i64 (v16+v18))*(IntKind.wrap .i64 (v20+v22))))) false 0 1 (rn 3 10) [(12,(iV (IntKind.wrap .i64 (v16+v18)))),(17,(iV (IntKind.wrap .i64 (v20+v22))))]::bY (bV (decide ((IntKind.wrap .i64 ((IntKind.wrap .i64 (v16+v18))*(IntKind.wrap .i64 (v20+v22))))<v13))) 1 (rn 0 14) [(7,(iV v13)),(18,(iV (IntKind.wrap .i64 ((IntKind.wrap .i64 (v16+v18))*(IntKind.wrap .i64 (v20+v22))))))]::dD (bV (decide ((IntKind.wrap .i64 ((IntKind.wrap .i64 (v16+v18))*(IntKind.wrap .i64 (v20+v22))))<v13))) 1 (rn 0 15) 19::[])) (W:=(fun j=>match j with | 0=>w7 | 1=>w14 | _=>w14)) (by kernel_rfl) u (gN e8) (by kernel_rfl) ?_ (bA (by kernel_rfl)) (by kernel_rfl) (m:=1) (by kernel_rfl) (fun a u=>?_)
 .refine⟨oc 0 (kd (bE · rfl zB yO e10)),oc 0 (kd (bE · rfl zB yO e12)),oc 0 (kd (dc2 · rfl rfl Try.call74 (mG e15))),oa (aI · rfl yK rfl rfl yU),?_,oa (aI · rfl yK rfl rfl yU),?_,oa (dP · rfl rfl),oa (aI · rfl yK rfl rfl yU),?_,oa (aI · rfl yK rfl rfl yU),?_,oa (dP · rfl rfl),oa (lC · rfl rfl),oa (iM · rfl rfl),oa (dZ · rfl),aBP⟩
  .intro j h1 h2;have h1:0<=j:=h1;have h2:j<=1:=h2;rcases(by omega:j=0\/j=1) with rfl | rfl
   .exact kd (aH · rfl yT (aL e24))
   exact kd (aH · rfl yT (aL e17))
  .intro j h1 h2;have h1:0<=j:=h1;have h2:j<=1:=h2;rcases(by omega:j=0\/j=1) with rfl | rfl
   .exact kd (aH · rfl yT (aL e25))
   exact kd (aH · rfl yT (aL e19))
  .intro j h1 h2;have h1:0<=j:=h1;have h2:j<=1:=h2;rcases(by omega:j=0\/j=1) with rfl | rfl
   .exact kd (aH · rfl yT (aL e26))
   exact kd (aH · rfl yT (aL e21))
  intro j h1 h2;have h1:0<=j:=h1;have h2:j<=1:=h2;rcases(by omega:j=0\/j=1) with rfl | rfl
  .exact kd (aH · rfl yT (aL e27))
  exact kd (aH · rfl yT (aL e23))
 have u:Has 20 [(4,(bV (decide ((IntKind.wrap .i64 ((IntKind.wrap .i64 (v16+v18))*(IntKind.wrap .i64 (v20+v22))))<v13))))] a:=u.sb rfl;refine t_n<|wp_ret<|?_;have y:=u;cases h;exact aX Try.results46 y rfl ⟨rfl,rfl⟩
noncomputable def gZ (a0:List Value) (a1:Addr) (w:World):Option (Bool×World) :=
 aE (mk w 43 a0) fun p1 w2 =>
 (ldA 3 w2 p1 0).bind fun c4 =>
 (ldA 3 w2 a1 0).bind fun c6 =>
 aE (iQ c4 c6 w2) fun v8 w9 =>
 some (v8,w9)
theorem nC {a0 a1 w w' r0} (h:gZ a0 a1 w=some (r0,w')):Calls Try.prog 45 #[(.agg (List.toArray a0)),(.pointer (some a1))] w fun e w''=>e=.returned (.bool r0)/\w''=w':=by
 refine aG (n:=7) Try.func45 rfl Try.ntmps45 (by simp) fun a u=>?_;unfold gZ at h;refine wp_seq<|aA<|?_;have⟨p1,w2,e3,h⟩:=bs2 h;refine q u (dJ u rfl rfl e3) fun a u=>qa u rfl fun a u=>aC<|t_n<|wp_seq<|aA<|?_;have⟨c4,e5,h⟩:=bs1 h;refine q u (bE u rfl zB yO e5) fun a u=>?_;have⟨c6,e7,h⟩:=bs1 h;refine q u (bE u rfl zB yO e7) fun a u=>?_;have⟨v8,w9,e10,h⟩:=bs2 h;refine q u (dc2 u rfl rfl Try.call46 (oB e10)) fun a u=>qa u rfl fun a u=>aC<|t_n<|wp_ret<|?_;have y:=u;cases h;exact aX Try.results45 y rfl ⟨rfl,rfl⟩
noncomputable def bQ (a0:Sl) (a1_0:Addr) (x1:Int) (w2:World):Option ((Int×World)⊕((World)⊕(Int×World))) :=
 if (decide (x1<(a0.n:Int)))=true then
 ((ix a0 x1 3).bind fun p12 =>
 (ldA 3 w2 p12 0).bind fun c14 =>
 aE (gZ c14 a1_0 w2) fun v16 w17 =>
 if v16=true then
 (some (.inr (.inr (x1,w17))))
 else
 (some (.inl ((IntKind.wrap .i64 (x1+1)),w17))))
 else
 (some (.inr (.inl w2)))
noncomputable def cY (a0:Sl) (a1_0:Addr) (w:World):Option (Int×World) :=
 (bB (fun s:Int×World=>bQ a0 a1_0 s.1 s.2) (0,w)).bind fun r3=>Sum.elim (fun (i:World)=>u1 i fun w5 =>
 some ((-1),w5)) (fun (i:Int×World)=>u2 i fun v6 w7 =>
 some (v6,w7)) r3
theorem gA {a0 a1_0 w w' r0} (h:cY a0 a1_0 w=some (r0,w')):Calls Try.prog 25 #[(Sl.v a0),(.func (.func 45) #[] #[(.pointer (some a1_0))])] w fun e w''=>e=.returned (.int .i64 r0)/\w''=w':=by
 refine aG (n:=19) Try.func25 rfl Try.ntmps25 (by simp) fun a u=>?_;unfold cY at h;refine wp_seq<|aA<|qa u rfl fun a u=>aC<|t_n<|wp_seq<|wp_seq<|aA<|qm u rfl fun a u=>q u (bZ u rfl yJ) fun a u=>qm u rfl fun a u=>aC<|t_n<|wp_block<|?_;have⟨r3,e4,h⟩:=bs1 h;refine dH (n:=19) (L1:=fun i=>[]) (w1:=fun i=>i) (L2:=fun i=>[(4,(iV i.1))]) (w2:=fun i=>i.2) (e1:=.exit 0) (e2:=.ret) (I:=fun (s:Int×World) a w=>Has 19 [(8,(iV s.1)),(0,(Sl.v a0)),(1,(.func (.func 45) #[] #[(pV (some a1_0))])),(7,(iV (a0.n:Int)))] a/\w=s.2) ⟨u.sub ⟨rfl,rfl,rfl,rfl,aBP⟩,rfl⟩ e4 (fun i hi a u=>?_) (fun i hi a u=>?_) (fun hk8 hk9=>?_)
 .subst hi;obtain⟨w5,rfl⟩:∃ x,x=i:=⟨i,rfl⟩;dsimp only[Sum.elim_inl,Sum.elim_inr,u1,u2,u3,u4,u5,u6] at h;have u:Has 19 [] a:=u;refine eC<|t_n<|wp_seq<|aA<|qa u rfl fun a u=>aC<|t_n<|wp_ret<|?_;have y:=u;cases h;exact aX Try.results25 y rfl ⟨rfl,rfl⟩
 .subst hi;obtain⟨v6,w7⟩:=i;dsimp only[Sum.elim_inl,Sum.elim_inr,u1,u2,u3,u4,u5,u6] at h;have u:Has 19 [(4,(iV v6))] a:=u;refine b_r<|t_r<|?_;have y:=u;cases h;exact aX Try.results25 y rfl ⟨rfl,rfl⟩
 clear h;rintro⟨x1,w2⟩ a wq o ⟨u,hwq⟩ h hr10;obtain rfl:w2=wq:=hwq.symm;have u:Has 19 [(8,(iV x1)),(0,(Sl.v a0)),(1,(.func (.func 45) #[] #[(pV (some a1_0))])),(7,(iV (a0.n:Int)))] a:=u;have h:bQ a0 a1_0 x1 w2=some o:=h;unfold bQ at h;refine wp_seq<|aA<|q u (eX u rfl rfl) fun a u=>aC<|t_n<|wp_seq<|?_;refine aF u rfl h (fun b11 h=>?_) (fun b11 h=>?_)
 .refine wp_skip<|t_n<|wp_seq<|wp_block<|wp_seq<|aA<|qm u rfl fun a u=>qa u rfl fun a u=>aC<|t_n<|wp_seq<|aA<|qm u rfl fun a u=>qm u rfl fun a u=>qm u rfl fun a u=>?_;have⟨p12,e13,h⟩:=bs1 h;refine q u (dL u rfl rfl yJ yO e13) fun a u=>?_;have⟨c14,e15,h⟩:=bs1 h;refine q u (bE u rfl zB yO e15) fun a u=>?_;have⟨v16,w17,e18,h⟩:=bs2 h;refine q u (fD (xs:=[_]) (vs:=[(.agg (List.toArray c14))]) (cv:=[(pV (some a1_0))]) u rfl ⟨rfl,aBP⟩ Try.call45 (nC e18)) fun a u=>aC<|t_n<|?_;refine aF u rfl h (fun b19 h=>?_) (fun b19 h=>?_)
  .refine wp_seq<|aA<|qm u rfl fun a u=>qa u rfl fun a u=>aC<|t_n<|wp_ret<|b_r<|t_r<|?_;have y:=u;cases h;cases hr10 _ rfl;refine gB<|?_;exact hk9 _ rfl _ (y.sb rfl)
  refine wp_skip<|b_n<|t_n<|aA<|q u (dP u rfl rfl) fun a u=>qm u rfl fun a u=>aC<|?_;have y:=u;cases h;exact cP ⟨y.sb rfl,rfl⟩
 refine wp_exit<|t_x<|?_;have y:=u;cases h;cases hr10 _ rfl;refine iE<|?_;exact hk8 _ rfl _ (y.sb rfl)
end
end Go.Proofs.Ytggheaclnklhaaa.D
