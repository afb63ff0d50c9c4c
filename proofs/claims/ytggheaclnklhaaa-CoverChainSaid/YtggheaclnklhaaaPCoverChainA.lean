/- CoverChain -/
import Derived.Test.YtggheaclnklhaaaProg
import Derived.WalkKit
import Derived.Laws.OwnMore
import Derived.Laws.IdiomCopy
import Derived.Orders
import Derived.KernelRfl
import Derived.ChangeSlices
import Derived.Scope
import Derived.ChangeArms
import GoSem.ClaimJoined
namespace Go.Proofs.Ytggheaclnklhaaa.D
open Go
set_option linter.unusedVariables false
set_option linter.unusedSimpArgs false
set_option maxHeartbeats 1000000
set_option maxRecDepth 100000
noncomputable section
theorem aAP:True:=trivial
theorem aAN {α β:Type} (a:α) (f:α->Option β):(some a).bind f=f a:=rfl
theorem aAO (n:Nat):0+n=n:=Nat.zero_add n
abbrev wM:=@Try.runUnderlying40
abbrev wN:=@Try.runUnderlying57
abbrev wO:=@Try.sizeOf40
abbrev wP:=@Try.runUnderlying83
abbrev wQ:=@Try.runUnderlying43
abbrev wR:=@Try.sizeOf9
abbrev wS:=@Try.runUnderlying22
abbrev wT:=@Try.runUnderlying47
abbrev wU:=@Try.isAgg9
abbrev wV:=@Try.runUnderlying38
abbrev wW:=@Try.zeroValue40
abbrev wX:=@Try.isAgg31
abbrev wY:=@Try.sizeOf2
abbrev wZ:=@Try.isAgg3
abbrev xA:=@Try.sizeOf43
abbrev xB:=@Try.sizeOf31
abbrev xC:=@Try.sizeOf3
abbrev xD:=@Try.runUnderlying55
abbrev xE:=@Try.isAgg40
abbrev xF:=@Try.sizeOf47
abbrev xG:=@Try.sizeOf4
abbrev xH:=@Try.runUnderlying68
abbrev xI:=@Try.sizeOf38
abbrev xJ:=@Try.sizeOf52
abbrev xK:=@Try.sizeOf55
abbrev xL:=@Try.sizeOf22
abbrev xM:=@Try.isAgg47
abbrev xN:=@Try.runUnderlying34
abbrev xO:=@Try.runUnderlying33
abbrev xP:=@Try.runUnderlying70
abbrev xQ:=@Try.isAgg43
abbrev xR:=@Try.isAgg52
abbrev xS:=@Try.runUnderlying36
abbrev xT:=@Try.runUnderlying9
abbrev xU:=@Try.isAgg22
abbrev xV:=@Try.sizeOf57
abbrev xW:=@Try.sizeOf70
abbrev xY:=@Try.isAgg38
abbrev xZ:=@Try.isAgg2
abbrev yA:=@Try.zeroValue70
abbrev yB:=@Try.isAgg55
abbrev yC:=@Try.sizeOf33
abbrev yD:=@Try.zeroValue22
abbrev yE:=@Try.isAgg4
abbrev yF:=@Try.zeroValue57
abbrev yG:=@Try.zeroValue33
abbrev yH:=@Try.isAgg57
abbrev yI:=@Try.zeroValue83
abbrev yJ:=@Try.runUnderlying79
abbrev yK:=@Try.zeroValue43
abbrev yL:=@Try.isAgg34
abbrev yM:=@Array.getD_eq_getD_getElem?
abbrev yN:=@List.all_eq_true
abbrev yO:=@Bool.and_eq_true
abbrev yP:=@List.getElem?_eq_some_iff
abbrev yQ:=@List.getElem?_eq_getElem
abbrev yR:=@Bool.false_ne_true
abbrev yS:=@Array.getElem?_setIfInBounds_ne
abbrev yT:=@Bool.or_eq_true
abbrev yU:=@Bool.not_eq_true'
abbrev yV:=@Option.map_some
abbrev yW:=@List.mem_zipIdx_iff_getElem?
abbrev yX:=@List.getElem?_append_left
abbrev yY:=@List.mem_range
abbrev yZ:=@List.eq_nil_of_length_eq_zero
abbrev zA:=@List.mem_filter
abbrev zB:=@Option.getD_some
abbrev zC:=@List.mem_of_getElem?
abbrev zD:=@List.contains_iff_mem
abbrev zE:=@Array.getElem?_eq_getElem
abbrev zF:=@List.exists_mem_of_ne_nil
abbrev zG:=@List.drop_zero
abbrev zH:=@List.length_cons
abbrev zI:=@Array.getElem?_replicate
abbrev zJ:=@List.getElem?_cons_succ
abbrev zK:=@List.getElem?_cons_zero
abbrev zL:=@Array.all_eq_true'
abbrev zM:=@List.any_eq_true
abbrev zN:=@Nat.le_refl
abbrev zO:=@Array.getElem?_modify
abbrev zP:=@List.getElem?_toArray
abbrev zQ:=@Nat.add_zero
abbrev zR:=@Nat.le_trans
abbrev zS:=@Array.getElem?_eq_some_iff
abbrev zT:=@List.getElem?_eq_none_iff
abbrev zU:=@List.lookup_cons
abbrev zV:=@Array.all_toList
abbrev zW:=@List.drop_of_length_le
abbrev zX:=@List.length_append
abbrev zY:=@Nat.lt_of_lt_of_le
abbrev zZ:=@Array.toList_setIfInBounds
abbrev aAa:=@List.getElem?_append_right
abbrev aAb:=@Array.getElem?_append_left
abbrev aAc:=@List.drop_eq_getElem_cons
abbrev aAd:=@List.filter_cons
abbrev aAe:=@List.filter_eq_self
abbrev aAf:=@List.length_erase_of_mem
abbrev aAg:=@List.findIdx?_cons
abbrev aAh:=@Bool.false_eq_true
abbrev aAi:=@List.take_succ_eq_append_getElem
abbrev aAj:=@List.take_of_length_le
abbrev aAk:=@List.filter_eq_nil_iff
abbrev aAl:=@Option.map_eq_some_iff
abbrev aAm:=@List.filter_congr
abbrev aAn:=@List.getElem?_map
abbrev aAo:=@Int.mul_nonneg
abbrev aAp:=@List.getElem?_eq_none
abbrev aAq:=@Int.mul_le_mul_of_nonneg_right
abbrev aAr:=@List.getElem?_zipWith
abbrev aAs:=@Bool.not_eq_true
abbrev aAt:=@Nat.mul_le_mul_right
abbrev aAu:=@List.set_append_left
abbrev aAv:=@List.mem_append
abbrev aAw:=@Array.getElem?_append_right
abbrev aAx:=@Nat.succ_mul
abbrev aAy:=@Option.any_eq_true
abbrev aAz:=@List.filter_filter
abbrev aAA:=@Array.ext_getElem?
abbrev aAB:=@Nat.eq_zero_or_pos
abbrev aAC:=@List.mem_of_find?_eq_some
abbrev aAD:=@Int.neg_nonneg_of_nonpos
abbrev aAE:=@Array.setIfInBounds_comm
abbrev aAF:=@List.map_cons
abbrev aAG:=@List.mem_cons
abbrev aAH:=@Nat.lt_or_ge
abbrev aAI:=@Option.all_some
abbrev aAJ:=@List.take_zero
abbrev aAK:=@Bool.or_false
abbrev aAL:=@Nat.add_assoc
abbrev aAM:=@Bool.true_and
structure Sl where
 p:Option Addr
 n:Nat
 c:Nat
def Sl.v (s:Sl):Value:=.slice s.p s.n s.c
def Sl.nil:Sl:=⟨none,0,0⟩
def aE {α β γ:Type} (o:Option (α×β)) (f:α->β->Option γ):Option γ:=match o with | some (a,b)=>f a b | none=>none
def rO {α β γ δ:Type} (o:Option (α×β×γ)) (f:α->β->γ->Option δ):Option δ:=match o with | some (a,b,c)=>f a b c | none=>none
def tO {α β γ δ ε:Type} (o:Option (α×β×γ×δ)) (f:α->β->γ->δ->Option ε):Option ε:=match o with | some (a,b,c,d)=>f a b c d | none=>none
def tJ {α β γ δ ε ζ:Type} (o:Option (α×β×γ×δ×ε)) (f:α->β->γ->δ->ε->Option ζ):Option ζ:=match o with | some (a,b,c,d,e)=>f a b c d e | none=>none
def wE {α β γ δ ε ζ η:Type} (o:Option (α×β×γ×δ×ε×ζ)) (f:α->β->γ->δ->ε->ζ->Option η):Option η:=match o with | some (a,b,c,d,e,g)=>f a b c d e g | none=>none
def vQ {α β γ δ ε ζ η θ:Type} (o:Option (α×β×γ×δ×ε×ζ×η)) (f:α->β->γ->δ->ε->ζ->η->Option θ):Option θ:=match o with | some (a,b,c,d,e,g,i)=>f a b c d e g i | none=>none
def gX {ρ α γ:Type} (o:Option (ρ⊕α)) (g:ρ->Option γ) (f:α->Option γ):Option γ:=match o with | some (.inl r)=>g r | some (.inr a)=>f a | none=>none
@[simp] theorem cQ {α β γ:Type} (a:α) (b:β) (f:α->β->Option γ):aE (some (a,b)) f=f a b:=rfl
@[simp] theorem uX {α β γ δ:Type} (a:α) (b:β) (c:γ) (f:α->β->γ->Option δ):rO (some (a,b,c)) f=f a b c:=rfl
@[simp] theorem tU {α β γ δ ε:Type} (a:α) (b:β) (c:γ) (d:δ) (f:α->β->γ->δ->Option ε):tO (some (a,b,c,d)) f=f a b c d:=rfl
@[simp] theorem uM {α β γ δ ε ζ:Type} (a:α) (b:β) (c:γ) (d:δ) (e:ε) (f:α->β->γ->δ->ε->Option ζ):tJ (some (a,b,c,d,e)) f=f a b c d e:=rfl
@[simp] theorem uB {α β γ δ ε ζ η:Type} (a:α) (b:β) (c:γ) (d:δ) (e:ε) (g:ζ) (f:α->β->γ->δ->ε->ζ->Option η):wE (some (a,b,c,d,e,g)) f=f a b c d e g:=rfl
@[simp] theorem uY {α β γ δ ε ζ η θ:Type} (a:α) (b:β) (c:γ) (d:δ) (e:ε) (g:ζ) (i:η) (f:α->β->γ->δ->ε->ζ->η->Option θ):vQ (some (a,b,c,d,e,g,i)) f=f a b c d e g i:=rfl
@[simp] theorem vA {ρ α γ:Type} (r:ρ) (g:ρ->Option γ) (f:α->Option γ):gX (some (.inl r)) g f=g r:=rfl
@[simp] theorem vB {ρ α γ:Type} (a:α) (g:ρ->Option γ) (f:α->Option γ):gX (some (.inr a)) g f=f a:=rfl
theorem bs1 {α γ:Type} {o:Option α} {f:α->Option γ} {r:γ} (h:o.bind f=some r):∃ a,o=some a/\f a=some r:=by
 cases o with
 | none=>cases h
 | some a=>exact⟨a,rfl,h⟩
theorem bs2 {α β γ:Type} {o:Option (α×β)} {f:α->β->Option γ} {r:γ} (h:aE o f=some r):∃ a b,o=some (a,b)/\f a b=some r:=by
 cases o with
 | none=>cases h
 | some a=>exact⟨_,_,rfl,h⟩
theorem bsX {ρ α γ:Type} {o:Option (ρ⊕α)} {g:ρ->Option γ} {f:α->Option γ} {r:γ} (h:gX o g f=some r):∃ x,o=some x/\gX (some x) g f=some r:=by
 cases o with
 | none=>cases h
 | some x=>exact⟨x,rfl,h⟩
def chk {α:Type} (p:Prop) (o:Option α):Option α:=open Classical in if p then o else none
theorem sI {α:Type} {p:Prop} (h:p) (o:Option α):chk p o=o:=by unfold chk;rw[if_pos h]
theorem dC {α:Type} {p:Prop} {o:Option α} {r:α} (h:chk p o=some r):p/\o=some r:=by
 unfold chk at h;split at h
 .exact⟨‹_›,h⟩
 cases h
def kF {S R:Type} (step:S->Option (S⊕R)):Nat->S->Option R
 | 0,_=>none
 | k+1,s=>match step s with
  | some (.inl s')=>kF step k s'
  | some (.inr r)=>some r
  | none=>none
theorem mT {S R:Type} {step:S->Option (S⊕R)}:∀ (k:Nat) (s:S) (r:R),kF step k s=some r->kF step (k+1) s=some r
 | 0,_,_,h=>by cases h
 | k+1,s,r,h=>by
  unfold kF at h ⊢;split
  .rename_i s' e;simp only[e] at h;exact mT k s' r h
  .rename_i r' e;simp only[e] at h;exact h
  rename_i e;simp only[e] at h;cases h
theorem pJ {S R:Type} {step:S->Option (S⊕R)} {k m:Nat} {s:S} {r:R} (h:kF step k s=some r) (hm:k<=m):kF step m s=some r:=by
 induction hm with
 | refl=>exact h
 | step _ ih=>exact mT _ _ _ ih
theorem rN {S R:Type} {step:S->Option (S⊕R)} {k m:Nat} {s:S} {r r':R} (h:kF step k s=some r) (h':kF step m s=some r'):r=r':=by
 have a:=pJ h (Nat.le_max_left k m);have b:=pJ h' (Nat.le_max_right k m);rw[a] at b;exact Option.some.inj b
open Classical in
def bU {S R:Type} (step:S->Option (S⊕R)) (s:S):Option R :=
 if h:∃ k r,kF step k s=some r then some (Classical.choose (Classical.choose_spec h)) else none
theorem gN {S R:Type} {step:S->Option (S⊕R)} {s:S} {r:R}:bU step s=some r↔∃ k,kF step k s=some r:=by
 unfold bU;constructor
 .intro h;split at h
  .rename_i hx;exact⟨_,(Classical.choose_spec (Classical.choose_spec hx)).trans h⟩
  cases h
 rintro⟨k,hk⟩;have hx:∃ k r,kF step k s=some r:=⟨k,r,hk⟩;rw[dif_pos hx];exact congrArg some (rN (Classical.choose_spec (Classical.choose_spec hx)) hk)
theorem gA {S R:Type} {step:S->Option (S⊕R)} {s s':S} (h:step s=some (.inl s')):bU step s=bU step s':=by
 cases e:bU step s' with
 | some r =>
  obtain⟨k,hk⟩:=gN.1 e;exact gN.2 ⟨k+1,by unfold kF;simp only[h];exact hk⟩
 | none =>
  cases e':bU step s with
  | none=>rfl
  | some r =>
   obtain⟨k,hk⟩:=gN.1 e'
   cases k with
   | zero=>cases hk
   | succ k =>
    unfold kF at hk;simp only[h] at hk;rw[gN.2 ⟨k,hk⟩] at e;cases e
theorem cW {S R:Type} {step:S->Option (S⊕R)} {s:S} {r:R} (h:step s=some (.inr r)):bU step s=some r :=
 gN.2 ⟨1,by unfold kF;simp only[h]⟩
def lM:Nat->List Value->List (Nat×Value)
 | _,[]=>[]
 | i,v::l=>(i,v)::lM (i+1) l
structure Has (n:Nat) (L:List (Nat×Value)) (a:Act):Prop where
 d:a.defers=[]
 z:a.tmps.size=n
 l:∀ i v,L.lookup i=some v->a.tmps[i]?=some v
def evO (L:List (Nat×Value)):Operand->Option Value
 | .tmp i=>L.lookup i
 | .const v=>some v
 | .global g=>some (.pointer (some ⟨g,0,none⟩))
 | .func f=>some (.func (.func f) #[] #[])
def upd (dst:Option Nat) (v:Value) (L:List (Nat×Value)):List (Nat×Value):=match dst with | some d=>(d,v)::L | none=>L
section
variable {P : Program} {n : Nat} {L : List (Nat × Value)} {a : Act}
theorem Has.ev (h:Has n L a) {x:Operand} {v:Value} (hx:evO L x=some v):a.eval x=v:=by
 cases x with
 | tmp i =>
  have:=h.l i v hx;simp[Act.eval,yM,this]
 | const u=>simpa[evO,Act.eval] using hx
 | global g=>simpa[evO,Act.eval] using hx
 | func f=>simpa[evO,Act.eval] using hx
theorem Has.put (h:Has n L a) (dst:Option Nat) (hd:∀ d,dst=some d->d<n) (v:Value):Has n (upd dst v L) (a.put dst v):=by
 cases dst with
 | none=>exact h
 | some d =>
  refine⟨h.d,by simpa[Act.put] using h.z,fun i u hu=>?_⟩;simp only[Act.put,upd,zU] at hu ⊢;have hdn:d<a.tmps.size:=h.z ▸ hd d rfl;by_cases e:i=d
  .subst e;simp at hu;subst hu;simp[hdn]
  have e1:(i==d)=false:=by simpa using e
  rw[e1] at hu;rw[yS (Ne.symm e)];exact h.l i u hu
def oU (L:List (Nat×Value)):List (Nat×Value)->Prop
 | []=>True
 | (i,v)::M=>L.lookup i=some v/\oU L M
theorem Has.sub (h:Has n L a) {M:List (Nat×Value)} (hm:oU L M):Has n M a:=by
 refine⟨h.d,h.z,fun i v hv=>h.l i v ?_⟩
 induction M with
 | nil=>cases hv
 | cons p M ih =>
  obtain⟨j,u⟩:=p;obtain⟨h1,h2⟩:=hm;rw[zU] at hv;by_cases e:i=j
  .subst e;simp at hv;subst hv;exact h1
  have e1:(i==j)=false:=by simpa using e
  rw[e1] at hv;exact ih h2 hv
theorem pL {args:Array Value} (hs:args.size<=n):Has n (lM 0 args.toList) { tmps:=args++Array.replicate (n-args.size) undef,defers:=[] }:=by
 refine⟨rfl,by simp;omega,fun i v hv=>?_⟩;have key:∀ (l:List Value) (k i:Nat) (v:Value),(lM k l).lookup i=some v->k<=i/\l[i-k]?=some v:=by
  intro l
  induction l with
  | nil=>intro k i v h;cases h
  | cons x l ih =>
   intro k i v h;simp only[lM,zU] at h;by_cases e:i=k
   .subst e;simp at h;subst h;simp
   have e1:(i==k)=false:=by simpa using e
   rw[e1] at h;obtain⟨h1,h2⟩:=ih _ _ _ h;refine⟨by omega,?_⟩;obtain⟨m,hm⟩:∃ m,i-k=m+1:=⟨i-k-1,by omega⟩;rw[hm,zJ];rwa[show i-(k+1)=m by omega] at h2
 obtain⟨_,h2⟩:=key _ _ _ _ hv;simp only[Nat.sub_zero] at h2;have hi:i<args.size:=by
  rcases aAH i args.size with h | h
  .exact h
  rw[aAp (by simpa using h)] at h2;cases h2
 simp only[Array.getElem?_append,hi,if_true];simpa using h2
theorem aD {f:FuncId} {fn:Func} {c:Code} {args:Array Value} {w:World} {R:Ending->World->Prop} {n:Nat}
  (hf:P.funcs[f]?=some fn) (hb:fn.body=some c) (hn:fn.ntmps=n) (hs:args.size<=n)
  (h:∀ a,Has n (lM 0 args.toList) a->c.wp P (bodyPost P fn R) a w):Calls P f args w R:=by
 refine calls_of_wp hf hb ?_;rw[hn];exact h _ (pL hs)
def cK (P:Program) (o:Oper) (a:Act) (w:World) (v:Value) (w':World):Prop :=
 ∀ (K:Act->World->Prop) (Q:Exit->Act->World->Prop),K (a.put o.dst v) w'->o.wp P a w K Q
theorem bQ {o:Oper} {w w':World} {v:Value} (h:(execOp a.eval o).run P w = .ok (.value v) w'):cK P o a w v w':=fun K Q hk=>by
 unfold Oper.wp;rw[h];exact hk
theorem oN {o:Oper} {w w':World} (h:(execOp a.eval o).run P w = .ok .skip w'):cK P o a w undef w':=fun K Q hk=>by
 unfold Oper.wp;rw[h];exact hk
theorem qV {o:Oper} {w w1 w':World} {v:Value} {f:FuncId} {args:Array Value} (h:(execOp a.eval o).run P w = .ok (.enter f args) w1)
  (hc:Calls P f args w1 fun e w''=>e = .returned v/\w''=w'):cK P o a w v w':=fun K Q hk=>by
 unfold Oper.wp;rw[h];exact hc.mono fun e w'' ⟨he,hw⟩=>by subst he;subst hw;exact hk
section
variable {ops : Array Oper} {Q : Exit -> Act -> World -> Prop} {w : World} {rest : List Oper}
theorem aC (h:Q .normal a w):wpList P ops Q [] a w:=h
theorem uK {o:Oper} {v:Value} {w':World} (hg:o.guard=none) (ha:Has n L a) (hd:∀ d,o.dst=some d->d<n) (h:cK P o a w v w')
  (hr:∀ a',Has n (upd o.dst v L) a'->wpList P ops Q rest a' w'):wpList P ops Q (o::rest) a w:=by
 unfold wpList;rw[if_pos (by simp[Region.wanted,hg])];exact .inl (h _ _ (hr _ (ha.put _ hd v)))
theorem iK {j t:Nat} {b:Bool} (hj:(ops[j]?).bind (·.dst)=some t) (ha:Has n L a) (ht:L.lookup t=some (.bool b)):yielded ops a.tmps j=some b:=by
 unfold yielded;rw[hj];simp[ha.l t _ ht]
theorem uE {o:Oper} {v:Value} {w':World} {j t:Nat} {b:Bool} (hg:o.guard=some (j,b)) (hj:(ops[j]?).bind (·.dst)=some t) (ha:Has n L a) (ht:L.lookup t=some (.bool b))
  (hd:∀ d,o.dst=some d->d<n) (h:cK P o a w v w')
  (hr:∀ a',Has n (upd o.dst v L) a'->wpList P ops Q rest a' w'):wpList P ops Q (o::rest) a w:=by
 unfold wpList;rw[if_pos (by simp[Region.wanted,hg,iK hj ha ht])];exact .inl (h _ _ (hr _ (ha.put _ hd v)))
theorem uG {o:Oper} {j t:Nat} {b c:Bool} (hg:o.guard=some (j,c)) (hj:(ops[j]?).bind (·.dst)=some t) (ha:Has n L a) (ht:L.lookup t=some (.bool b)) (hbc:b≠c)
  (hd:∀ d,o.dst=some d->d<n)
  (hr:∀ a',Has n (upd o.dst undef L) a'->wpList P ops Q rest a' w):wpList P ops Q (o::rest) a w:=by
 unfold wpList;rw[if_neg (by simp[Region.wanted,hg,iK hj ha ht,hbc])];exact hr _ (ha.put _ hd _)
end
section
variable {Q : Exit -> Act -> World -> Prop} {w : World} {K : Act -> World -> Prop}
theorem t_n (h:K a w):Exit.then K Q .normal a w:=h
theorem t_x {i:Nat} (h:Q (.exit i) a w):Exit.then K Q (.exit i) a w:=h
theorem t_r (h:Q .ret a w):Exit.then K Q .ret a w:=h
theorem b_n {i:Nat} (h:Q .normal a w):Exit.inBlock i Q .normal a w:=h
theorem fD {i:Nat} (h:Q .normal a w):Exit.inBlock i Q (.exit i) a w:=by unfold Exit.inBlock;simpa using h
theorem b_r {i:Nat} (h:Q .ret a w):Exit.inBlock i Q .ret a w:=h
theorem aF {c:Operand} {x y:Code} {b:Bool} {γ:Type} {A B:Option γ} {r:γ} (ha:Has n L a) (hc:evO L c=some (.bool b)) (h:(if b=true then A else B)=some r)
  (ht:b=true->A=some r->x.wp P Q a w) (hf:b=false->B=some r->y.wp P Q a w):(Code.cond c x y).wp P Q a w:=by
 refine wp_cond_split (ha.ev hc) (fun e=>ht e ?_) (fun e=>hf e ?_)
 .rwa[if_pos e] at h
 rwa[if_neg (by simp[e])] at h
def LP {S R:Type} (I:S->Act->World->Prop) (Q:Exit->Act->World->Prop):(S⊕R)->Exit->Act->World->Prop
 | .inl s,.normal,a,w=>I s a w
 | .inl _,_,_,_=>False
 | .inr _,.normal,_,_=>False
 | .inr _,e,a,w=>Q e a w
theorem cZ {S R:Type} {I:S->Act->World->Prop} {Q:Exit->Act->World->Prop} {s:S} (h:I s a w):LP (R:=R) I Q (.inl s) .normal a w:=h
theorem iL {S R:Type} {I:S->Act->World->Prop} {Q:Exit->Act->World->Prop} {r:R} {i:Nat} (h:Q (.exit i) a w):LP (S:=S) I Q (.inr r) (.exit i) a w:=h
theorem gR {S R:Type} {I:S->Act->World->Prop} {Q:Exit->Act->World->Prop} {r:R} (h:Q .ret a w):LP (S:=S) I Q (.inr r) .ret a w:=h
theorem rE {S R:Type} {step:S->Option (S⊕R)} {I:S->Act->World->Prop} {body:Code} {r0:R} {s0:S}
  (hI:I s0 a w) (h:bU step s0=some r0)
  (hb:∀ s a w o,I s a w->step s=some o->(∀ r,o = .inr r->r=r0)->body.wp P (LP I Q o) a w):(Code.loop body).wp P Q a w:=by
 obtain⟨k,hk⟩:=gN.1 h;refine wp_loop_rounds k ?_;clear h
 induction k generalizing s0 a w with
 | zero=>cases hk
 | succ k ih =>
  rw[rounds_succ];unfold kF at hk;split at hk
  .rename_i s' e;refine wp_mono (hb s0 a w _ hI e (fun r hr=>by cases hr)) fun x a' w' hx=>?_;cases x<;>first | exact ih hx hk | exact hx.elim
  .rename_i r' e;cases hk;refine wp_mono (hb s0 a w _ hI e (fun r hr=>by cases hr;rfl)) fun x a' w' hx=>?_;cases x<;>first | exact hx | exact hx.elim
  cases hk
end
end
def ldI (k:IntKind) (w:World) (a:Addr):Option Int:=match w.cell? a with | some (.int k' x)=>if k'=k then some x else none | _=>none
def ldB (w:World) (a:Addr):Option Bool:=match w.cell? a with | some (.bool b)=>some b | _=>none
def ldS (w:World) (a:Addr):Option ByteArray:=match w.cell? a with | some (.string s)=>some s | _=>none
def ldL (w:World) (a:Addr):Option Sl:=match w.cell? a with | some (.slice p n c)=>some ⟨p,n,c⟩ | _=>none
def ldA:Nat->World->Addr->Nat->Option (List Value)
 | 0,_,_,_=>some []
 | n+1,w,a,i=>(w.cell? (a.add i)).bind fun v=>(ldA n w a (i+1)).bind fun l=>some (v::l)
theorem aO {k:IntKind} {w:World} {a:Addr} {x:Int} (h:ldI k w a=some x):w.cell? a=some (.int k x):=by
 unfold ldI at h;split at h
 .rename_i k' y e;split at h
  .rename_i hk;subst hk;cases h;exact e
  cases h
 cases h
theorem kO {w:World} {a:Addr} {x:Bool} (h:ldB w a=some x):w.cell? a=some (.bool x):=by
 unfold ldB at h;split at h<;>cases h;assumption
theorem cH {w:World} {a:Addr} {x:ByteArray} (h:ldS w a=some x):w.cell? a=some (.string x):=by
 unfold ldS at h;split at h<;>cases h;assumption
theorem bW {w:World} {a:Addr} {x:Sl} (h:ldL w a=some x):w.cell? a=some (x.v):=by
 unfold ldL at h;split at h<;>cases h;assumption
theorem hT:∀ {n:Nat} {w:World} {a:Addr} {i:Nat} {l:List Value},ldA n w a i=some l->l.length=n/\∀ j v,l[j]?=some v->w.cell? (a.add (i+j))=some v
 | 0,_,_,_,_,h=>by cases h;simp
 | n+1,w,a,i,l,h=>by
  unfold ldA at h;obtain⟨v,e1,h⟩:=bs1 h;obtain⟨m,e2,h⟩:=bs1 h;cases h;obtain⟨h1,h2⟩:=hT e2;refine⟨by simp[h1],fun j u hu=>?_⟩
  cases j with
  | zero=>simp at hu;subst hu;exact e1
  | succ j =>
   have:=h2 j u (by simpa using hu);rwa[show i+(j+1)=i+1+j by omega]
def stV (w:World) (a:Addr) (v:Value):Option World:=if v.oneCell'=true/\(w.cell? a).isSome=true/\w.frozen? a=false then some (w.setCell a v) else none
def stA:World->Addr->Nat->List Value->Option World
 | w,_,_,[]=>some w
 | w,a,i,v::l=>(stV w (a.add i) v).bind fun w'=>stA w' a (i+1) l
def mk (w:World) (t:TypeId) (cs:List Value):Option (Addr×World):=some (⟨w.heap.size,0,none⟩,w.alloc (.cells cs.toArray t))
section
variable {P : Program} {n : Nat} {L : List (Nat × Value)} {a : Act} {w w' : World}
theorem pD {ad:Addr} {v:Value} (h:stV w ad v=some w'):v.oneCell'=true/\(store ad v).run P w = .ok () w':=by
 unfold stV at h;split at h
 .rename_i hc;obtain⟨h1,h2,h3⟩:=hc;cases h;refine⟨h1,?_⟩;rw[run_store _ _ _ _ _ h1];obtain⟨u,hu⟩:=Option.isSome_iff_exists.1 h2;simp[hu,h3]
 cases h
theorem pC:∀ {l:List Value} {ad:Addr} {i:Nat} {w w':World},stA w ad i l=some w'->(storeCells ad l i).run P w = .ok () w'
 | [],_,_,_,_,h=>by cases h;rfl
 | v::l,ad,i,w,w',h=>by
  unfold stA at h;obtain⟨w1,e1,h⟩:=bs1 h;have:=(pD (P:=P) e1).2;simp only[storeCells,Sem.run_bind,this,Result.andThen_ok,pC h]
theorem pZ {v:Value} (h:v.oneCell'=true):v.cells=#[v]:=by
 cases v<;>simp_all [Value.oneCell',Value.cells]
theorem aI {d ty pos af g x v} (ha:Has n L a) (hx:evO L x=some v):cK P ⟨d,.move x,ty,pos,af,g⟩ a w v w :=
 bQ (by simp[execOp,ha.ev hx])
theorem fW {d ty pos af g x v} (ha:Has n L a) (hx:evO L x=some v):cK P ⟨d,.assign x,ty,pos,af,g⟩ a w v w :=
 bQ (by simp[execOp,ha.ev hx])
theorem aK {d ty pos af g c x y u} {b:Bool} (ha:Has n L a) (hc:evO L c=some (.bool b)) (hb:b=true) (hx:evO L x=some u) :
  cK P ⟨d,.pick c x y,ty,pos,af,g⟩ a w u w:=by
 subst hb;exact bQ (by simp[execOp,ha.ev hc,ha.ev hx,asBool])
theorem aM {d ty pos af g c x y v} {b:Bool} (ha:Has n L a) (hc:evO L c=some (.bool b)) (hb:b≠true) (hy:evO L y=some v) :
  cK P ⟨d,.pick c x y,ty,pos,af,g⟩ a w v w:=by
 have:b=false:=by simpa using hb
 subst this;exact bQ (by simp[execOp,ha.ev hc,ha.ev hy,asBool])
theorem aG {d ty pos af g t x} {ad:Addr} {v:Value} (ha:Has n L a) (hx:evO L x=some (.pointer (some ad))) (ht:∀ w,(isAgg t).run P w = .ok false w) (h:w.cell? ad=some v) :
  cK P ⟨d,.load t x,ty,pos,af,g⟩ a w v w :=
 bQ (by simp[execOp,ha.ev hx,Instr.loadAt,Instr.sureAddr,loadVar,ht,run_load,h])
theorem bK {d ty pos af g t x sz} {ad:Addr} {cs:List Value} (ha:Has n L a) (hx:evO L x=some (.pointer (some ad))) (ht:∀ w,(isAgg t).run P w = .ok true w) (hz:∀ w,(sizeOf t).run P w = .ok sz w)
  (h:ldA sz w ad 0=some cs):cK P ⟨d,.load t x,ty,pos,af,g⟩ a w (.agg cs.toArray) w:=by
 obtain⟨h1,h2⟩:=hT h;have hl:=run_loadCells_list (P:=P) w ad cs (fun j v hv=>by simpa using h2 j v hv);rw[h1] at hl;exact bQ (by simp[execOp,ha.ev hx,Instr.loadAt,Instr.sureAddr,loadVar,ht,hz,hl])
theorem gK {d ty pos af g t x y} {ad:Addr} {v:Value} (ha:Has n L a) (hx:evO L x=some (.pointer (some ad))) (hy:evO L y=some v) (hz:∀ w,(sizeOf t).run P w = .ok 1 w) (h:stV w ad v=some w') :
  cK P ⟨d,.store t x y,ty,pos,af,g⟩ a w undef w':=by
 obtain⟨h1,h2⟩:=pD (P:=P) h;refine oN ?_;have hadd:ad.add 0=ad:=by simp[Addr.add]
 simp[execOp,ha.ev hx,ha.ev hy,Instr.storeAt,Instr.sureAddr,storeVar,pZ h1,hz,storeCells,hadd,h2]
theorem dQ {d ty pos af g t x y sz} {ad:Addr} {cs:List Value} (ha:Has n L a) (hx:evO L x=some (.pointer (some ad))) (hy:evO L y=some (.agg cs.toArray)) (hz:∀ w,(sizeOf t).run P w = .ok sz w) (hl:cs.length=sz)
  (h:stA w ad 0 cs=some w'):cK P ⟨d,.store t x y,ty,pos,af,g⟩ a w undef w':=by
 refine oN ?_;simp[execOp,ha.ev hx,ha.ev hy,Instr.storeAt,Instr.sureAddr,storeVar,Value.cells,hz,hl,pC (P:=P) h]
theorem cM {d ty pos af g t} {z:Value} {cs:List Value} {ad:Addr} (hz:∀ w,(zeroValue t).run P w = .ok z w) (hc:z.cells=cs.toArray) (h:mk w t cs=some (ad,w')) :
  cK P ⟨d,.alloc t,ty,pos,af,g⟩ a w (.pointer (some ad)) w':=by
 cases h;exact bQ (by simp[execOp,Instr.alloc,hz,newVar,newRow,hc])
theorem dI {d ty pos af g t x} {v:Value} {cs:List Value} {ad:Addr} (ha:Has n L a) (hx:evO L x=some v) (hc:v.cells=cs.toArray) (h:mk w t cs=some (ad,w')) :
  cK P ⟨d,.box t x,ty,pos,af,g⟩ a w (.pointer (some ad)) w':=by
 cases h;exact bQ (by simp[execOp,ha.ev hx,Instr.box,newVar,newRow,hc])
theorem qU {d ty pos af g x} {ad:Addr} (ha:Has n L a) (hx:evO L x=some (.pointer (some ad))):cK P ⟨d,.nilCheck x,ty,pos,af,g⟩ a w (.pointer (some ad)) w :=
 bQ (by simp[execOp,ha.ev hx])
theorem bI {d ty pos af g x} {p:Option Addr} {ad:Addr} (ha:Has n L a) (hx:evO L x=some (.pointer p)) (hp:p=some ad):cK P ⟨d,.nilCheck x,ty,pos,af,g⟩ a w (.pointer (some ad)) w:=by
 subst hp;exact qU ha hx
theorem aJ {d ty pos af g t x k} {ad:Addr} {fs:Array Field} {f:Field} {off sz:Nat} (ha:Has n L a) (hx:evO L x=some (.pointer (some ad))) (ht:∀ w,(underlying t).run P w = .ok (.struct fs) w)
  (hf:fs[k]?=some f) (ho:f.offset=off) (hz:∀ w,(sizeOf f.type).run P w = .ok sz w) (h0:sz≠0:=by decide):cK P ⟨d,.fieldAddr t x k,ty,pos,af,g⟩ a w (.pointer (some (ad.add off))) w:=by
 subst ho;exact bQ (by simp[execOp,ha.ev hx,Instr.fieldAt,ht,hf,Instr.sureAddr,fieldPlace,hz,h0])
def ix (s:Sl) (i:Int) (sz:Nat):Option Addr:=s.p.bind fun ad=>if 0<=i/\i<s.n then some (ad.add (i.toNat*sz)) else none
theorem eY {d ty pos af g t x y k e sz} {s:Sl} {i:Int} {ad:Addr} (ha:Has n L a) (hx:evO L x=some s.v) (hy:evO L y=some (.int k i)) (ht:∀ w,(underlying t).run P w = .ok (.slice e) w)
  (hz:∀ w,(sizeOf e).run P w = .ok sz w) (h:ix s i sz=some ad):cK P ⟨d,.indexAddr t x y,ty,pos,af,g⟩ a w (.pointer (some ad)) w:=by
 obtain⟨b,hb,h⟩:=bs1 h;split at h
 .rename_i hi;cases h;obtain⟨p,n',c⟩:=s;simp only at hb hi;subst hb;exact bQ (by simp[execOp,ha.ev hx,ha.ev hy,Sl.v,Instr.indexAt,asIntOf,ht,hi,hz])
 cases h
def ixS (s:ByteArray) (i:Int):Option Int:=if 0<=i then (s[i.toNat]?).map fun b=>(b.toNat:Int) else none
theorem vS {d ty pos af g t x y k} {s:ByteArray} {i v:Int} (ha:Has n L a) (hx:evO L x=some (.string s)) (hy:evO L y=some (.int k i)) (ht:∀ w,(underlying t).run P w = .ok .string w) (h:ixS s i=some v) :
  cK P ⟨d,.index t x y,ty,pos,af,g⟩ a w (.int .u8 v) w:=by
 unfold ixS at h;split at h
 .rename_i hi
  cases e:s[i.toNat]? with
  | none=>rw[e] at h;cases h
  | some b =>
   rw[e] at h;cases h;exact bQ (by simp[execOp,ha.ev hx,ha.ev hy,Instr.index,asIntOf,ht,hi,e])
 cases h
def mkS (P:Program) (t:TypeId) (x y:Int) (w:World):Option (Sl×World):=match (Instr.makeSlice t (.int .i64 x) (.int .i64 y)).run P w with | .ok (.slice p n c) w'=>some (⟨p,n,c⟩,w') | _=>none
theorem vP {d ty pos af g t x y} {i j:Int} {s:Sl} (ha:Has n L a) (hx:evO L x=some (.int .i64 i)) (hy:evO L y=some (.int .i64 j)) (h:mkS P t i j w=some (s,w')) :
  cK P ⟨d,.makeSlice t x y,ty,pos,af,g⟩ a w s.v w':=by
 unfold mkS at h;split at h
 .rename_i p m c w1 e;cases h;exact bQ (by simp[execOp,ha.ev hx,ha.ev hy,e,Sl.v])
 cases h
def apS (P:Program) (t:TypeId) (x y:Sl) (w:World):Option (Sl×World):=match (Builtin.append_ #[t,t] t #[x.v,y.v]).run P w with | .ok (.slice p n c) w'=>some (⟨p,n,c⟩,w') | _=>none
theorem kJ {d ty pos af g t x y} {p q s:Sl} (ha:Has n L a) (hx:evO L x=some p.v) (hy:evO L y=some q.v) (h:apS P t p q w=some (s,w')) :
  cK P ⟨d,.call { callee:=.builtin .append,args:=#[x,y],argTypes:=#[t,t] },ty,pos,af,g⟩ a w s.v w':=by
 unfold apS at h;split at h
 .rename_i r m c w1 e;cases h;have e':(Builtin.append_ #[t,t] ty #[p.v,q.v]).run P w = .ok (.slice r m c) w':=e;exact bQ (by simp[execOp,resolve,invoke,builtin,ha.ev hx,ha.ev hy,e'];rfl)
 cases h
theorem uJ {d ty pos af g t u x k k'} {i:Int} {dt:TypeDesc} (ha:Has n L a) (hx:evO L x=some (.int k i)) (ht:∀ w,(underlying t).run P w = .ok dt w) (hu:∀ w,(underlying u).run P w = .ok (.int k') w) :
  cK P ⟨d,.convert t u x,ty,pos,af,g⟩ a w (.int k' (k'.wrap i)) w:=by
 refine bQ ?_;simp only[execOp,ha.ev hx,convert,Sem.run_bind,ht,hu,Result.andThen_ok,Conv.intToInt,Sem.run_pure]
theorem cI {d ty pos af g t x e} {s:Sl} (ha:Has n L a) (hx:evO L x=some s.v) (ht:∀ w,(underlying t).run P w = .ok (.slice e) w) :
  cK P ⟨d,.call { callee:=.builtin .len,args:=#[x],argTypes:=#[t] },ty,pos,af,g⟩ a w (.int .i64 s.n) w :=
 bQ (by simp[execOp,resolve,invoke,builtin,ha.ev hx,Builtin.len_,ht,Sl.v,goInt])
theorem nC {d ty pos af g t x} {s:ByteArray} (ha:Has n L a) (hx:evO L x=some (.string s)) (ht:∀ w,(underlying t).run P w = .ok .string w) :
  cK P ⟨d,.call { callee:=.builtin .len,args:=#[x],argTypes:=#[t] },ty,pos,af,g⟩ a w (.int .i64 s.size) w :=
 bQ (by simp[execOp,resolve,invoke,builtin,ha.ev hx,Builtin.len_,ht,goInt])
def oJ (k:IntKind) (x y:Int):Int:=k.wrap (BitVec.ofInt k.bits x &&& BitVec.ofInt k.bits y).toNat
def oK (k:IntKind) (x y:Int):Int:=k.wrap (BitVec.ofInt k.bits x &&& ~~~BitVec.ofInt k.bits y).toNat
section
variable {d : Option Nat} {ty t t2 : TypeId} {pos : String} {af : Array Edge} {g : Option (Nat × Bool)} {x y : Operand} {k k2 : IntKind} {i j r : Int}
theorem dY (ha:Has n L a) (hx:evO L x=some (.int k i)) (hy:evO L y=some (.int k j)):cK P ⟨d,.binOp .add t x y t2,ty,pos,af,g⟩ a w (.int k (k.wrap (i+j))) w :=
 bQ (by simp[execOp,ha.ev hx,ha.ev hy,eqGuard,binOp,Op.intArith])
theorem jZ (ha:Has n L a) (hx:evO L x=some (.int k i)) (hy:evO L y=some (.int k j)):cK P ⟨d,.binOp .sub t x y t2,ty,pos,af,g⟩ a w (.int k (k.wrap (i-j))) w :=
 bQ (by simp[execOp,ha.ev hx,ha.ev hy,eqGuard,binOp,Op.intArith])
theorem lS (ha:Has n L a) (hx:evO L x=some (.int k i)) (hy:evO L y=some (.int k j)):cK P ⟨d,.binOp .mul t x y t2,ty,pos,af,g⟩ a w (.int k (k.wrap (i*j))) w :=
 bQ (by simp[execOp,ha.ev hx,ha.ev hy,eqGuard,binOp,Op.intArith])
theorem tB (ha:Has n L a) (hx:evO L x=some (.int k i)) (hy:evO L y=some (.int k j)):cK P ⟨d,.binOp .and t x y t2,ty,pos,af,g⟩ a w (.int k (oJ k i j)) w :=
 bQ (by simp[execOp,ha.ev hx,ha.ev hy,eqGuard,binOp,Op.intBits,oJ])
theorem rQ (ha:Has n L a) (hx:evO L x=some (.int k i)) (hy:evO L y=some (.int k j)):cK P ⟨d,.binOp .andNot t x y t2,ty,pos,af,g⟩ a w (.int k (oK k i j)) w :=
 bQ (by simp[execOp,ha.ev hx,ha.ev hy,eqGuard,binOp,Op.intBits,oK])
theorem cC (ha:Has n L a) (hx:evO L x=some (.int k i)) (hy:evO L y=some (.int k j)):cK P ⟨d,.binOp .eql t x y t2,ty,pos,af,g⟩ a w (.bool (i==j)) w :=
 bQ (by simp[execOp,ha.ev hx,ha.ev hy,eqGuard,binOp,Op.intCmp])
theorem jH (ha:Has n L a) (hx:evO L x=some (.int k i)) (hy:evO L y=some (.int k j)):cK P ⟨d,.binOp .neq t x y t2,ty,pos,af,g⟩ a w (.bool (i !=j)) w :=
 bQ (by simp[execOp,ha.ev hx,ha.ev hy,eqGuard,binOp,Op.intCmp])
theorem gG (ha:Has n L a) (hx:evO L x=some (.int k i)) (hy:evO L y=some (.int k j)):cK P ⟨d,.binOp .lss t x y t2,ty,pos,af,g⟩ a w (.bool (decide (i<j))) w :=
 bQ (by simp[execOp,ha.ev hx,ha.ev hy,eqGuard,binOp,Op.intCmp])
theorem nE (ha:Has n L a) (hx:evO L x=some (.int k i)) (hy:evO L y=some (.int k j)):cK P ⟨d,.binOp .leq t x y t2,ty,pos,af,g⟩ a w (.bool (decide (i<=j))) w :=
 bQ (by simp[execOp,ha.ev hx,ha.ev hy,eqGuard,binOp,Op.intCmp])
theorem jF (ha:Has n L a) (hx:evO L x=some (.int k i)) (hy:evO L y=some (.int k j)):cK P ⟨d,.binOp .gtr t x y t2,ty,pos,af,g⟩ a w (.bool (decide (j<i))) w :=
 bQ (by simp[execOp,ha.ev hx,ha.ev hy,eqGuard,binOp,Op.intCmp])
theorem lW (ha:Has n L a) (hx:evO L x=some (.int k i)) (hy:evO L y=some (.int k j)):cK P ⟨d,.binOp .geq t x y t2,ty,pos,af,g⟩ a w (.bool (decide (j<=i))) w :=
 bQ (by simp[execOp,ha.ev hx,ha.ev hy,eqGuard,binOp,Op.intCmp])
theorem sP {m:Nat} {s:Sl} {e:TypeId} (ht:∀ w,(underlying t).run P w = .ok (.slice e) w):(Op.equalIn (m+1) t s.v (.slice none 0 0)).run P w = .ok s.p.isNone w:=by
 obtain⟨p,q,c⟩:=s;cases p<;>simp[Op.equalIn,ht,Sl.v]
theorem pQ {m:Nat} {b c:Bool} (ht:∀ w,(underlying t).run P w = .ok .bool w):(Op.equalIn (m+1) t (.bool b) (.bool c)).run P w = .ok (b==c) w:=by
 simp[Op.equalIn,ht]
theorem vD {s:Sl} {e:TypeId} (ht:∀ w,(underlying t).run P w = .ok (.slice e) w):(Op.equal t s.v (.slice none 0 0)).run P w = .ok s.p.isNone w:=sP (m:=9999) ht
theorem sG {b c:Bool} (ht:∀ w,(underlying t).run P w = .ok .bool w):(Op.equal t (.bool b) (.bool c)).run P w = .ok (b==c) w:=pQ (m:=9999) ht
theorem vJ {b c:Bool} (ha:Has n L a) (hx:evO L x=some (.bool b)) (hy:evO L y=some (.bool c)) (ht:∀ w,(underlying t).run P w = .ok .bool w):cK P ⟨d,.binOp .eql t x y t2,ty,pos,af,g⟩ a w (.bool (b==c)) w:=by
 refine bQ ?_;simp only[execOp,ha.ev hx,ha.ev hy,eqGuard,binOp,Sem.run_bind,sG ht];rfl
theorem tL {s:Sl} {e:TypeId} (ha:Has n L a) (hx:evO L x=some s.v) (hy:evO L y=some (.slice none 0 0)) (ht:∀ w,(underlying t).run P w = .ok (.slice e) w):cK P ⟨d,.binOp .eql t x y t2,ty,pos,af,g⟩ a w (.bool s.p.isNone) w:=by
 refine bQ ?_;have h:=vD (P:=P) (w:=w) (s:=s) ht;simp only[Sl.v] at h;simp only[execOp,ha.ev hx,ha.ev hy,Sl.v,eqGuard,binOp];simp[h]
def sEq (s u:ByteArray):Bool:=s.toList==u.toList
def sLt (s u:ByteArray):Bool:=Op.bytesLess s.toList u.toList
theorem tK {s u:ByteArray} (ha:Has n L a) (hx:evO L x=some (.string s)) (hy:evO L y=some (.string u)):cK P ⟨d,.binOp .eql t x y t2,ty,pos,af,g⟩ a w (.bool (sEq s u)) w :=
 bQ (by simp[execOp,ha.ev hx,ha.ev hy,eqGuard,binOp,Op.stringOp,sEq])
theorem pF {s u:ByteArray} (ha:Has n L a) (hx:evO L x=some (.string s)) (hy:evO L y=some (.string u)):cK P ⟨d,.binOp .leq t x y t2,ty,pos,af,g⟩ a w (.bool (sLt s u||sEq s u)) w :=
 bQ (by simp[execOp,ha.ev hx,ha.ev hy,eqGuard,binOp,Op.stringOp,sLt,sEq])
theorem vC {s u:ByteArray} (ha:Has n L a) (hx:evO L x=some (.string s)) (hy:evO L y=some (.string u)):cK P ⟨d,.binOp .geq t x y t2,ty,pos,af,g⟩ a w (.bool (!sLt s u)) w :=
 bQ (by simp[execOp,ha.ev hx,ha.ev hy,eqGuard,binOp,Op.stringOp,sLt])
def sC (s u:ByteArray):Option ByteArray:=if ((s.size+u.size:Nat):Int)>IntKind.i64.max then none else some (s++u)
theorem qH {s u v:ByteArray} (ha:Has n L a) (hx:evO L x=some (.string s)) (hy:evO L y=some (.string u)) (h:sC s u=some v):cK P ⟨d,.binOp .add t x y t2,ty,pos,af,g⟩ a w (.string v) w:=by
 unfold sC at h;split at h
 .cases h
 rename_i hn;cases h;refine bQ ?_;simp only[execOp,ha.ev hx,ha.ev hy,eqGuard,binOp,Op.stringOp,Sem.run_bind];rw[if_neg hn];simp
theorem fT {b:Bool} (ha:Has n L a) (hx:evO L x=some (.bool b)):cK P ⟨d,.unOp .not t x,ty,pos,af,g⟩ a w (.bool (!b)) w :=
 bQ (by simp[execOp,ha.ev hx,Op.unary])
theorem iF {vs:Array Value} {v:Value} {q:Nat} (ha:Has n L a) (hx:evO L x=some (.tuple vs)) (hv:vs[q]?=some v):cK P ⟨d,.extract x q,ty,pos,af,g⟩ a w v w :=
 bQ (by simp[execOp,ha.ev hx,Instr.extract,hv])
end
def evs (L:List (Nat×Value)):List Operand->List Value->Prop
 | [],[]=>True
 | x::xs,v::vs=>evO L x=some v/\evs L xs vs
 | _,_=>False
theorem jT (ha:Has n L a):∀ {xs:List Operand} {vs:List Value},evs L xs vs->xs.map a.eval=vs
 | [],[],_=>rfl
 | x::xs,v::vs,h=>by simp[ha.ev h.1,jT ha h.2]
theorem eG {d ty pos af g f} {xs:List Operand} {ts:Array TypeId} {vs:List Value} {v:Value} (ha:Has n L a) (hx:evs L xs vs) (hf:∀ (args:Array Value) (w:World),(callFunc f args).run P w = .ok (.enter f args) w)
  (h:Calls P f vs.toArray w fun e w''=>e = .returned v/\w''=w'):cK P ⟨d,.call { callee:=.value (.func f),args:=xs.toArray,argTypes:=ts },ty,pos,af,g⟩ a w v w':=by
 refine qV (w1:=w) (f:=f) (args:=vs.toArray) ?_ h;simp[execOp,resolve,Deferred.ofValue,invoke,Act.eval,hf];have:=jT ha hx;exact this
section
variable {fn : Func} {R : Ending -> World -> Prop} {e : Exit}
theorem oC (hr:fn.results=#[]) (ha:Has n L a) (hR:R (.returned (.tuple #[])) w):bodyPost P fn R .ret a w :=
 ⟨ha.d,_,by simp[results,hr],hR⟩
theorem mI (hr:fn.results=#[]) (ha:Has n L a) (hR:R (.returned (.tuple #[])) w):bodyPost P fn R .normal a w :=
 ⟨ha.d,_,by simp[results,hr],hR⟩
theorem aY {t:Nat} {v:Value} (hr:fn.results=#[.tmp t]) (ha:Has n L a) (hv:L.lookup t=some v) (hR:R (.returned v) w):bodyPost P fn R .ret a w :=
 ⟨ha.d,_,by simp[results,hr,ha.l t v hv],hR⟩
theorem mP {t u:Nat} {v v2:Value} (hr:fn.results=#[.tmp t,.tmp u]) (ha:Has n L a) (hv:L.lookup t=some v) (hv2:L.lookup u=some v2) (hR:R (.returned (.tuple #[v,v2])) w):bodyPost P fn R .ret a w :=
 ⟨ha.d,_,by simp[results,hr,ha.l t v hv,ha.l u v2 hv2],hR⟩
end
end
section
variable {P : Program} {n : Nat} {L : List (Nat × Value)} {a : Act} {w w' : World}
def evp (L:List (Nat×Value)):List (Nat×Operand)->List (Nat×Value)->Prop
 | [],[]=>True
 | (i,x)::xs,(j,v)::vs=>i=j/\evO L x=some v/\evp L xs vs
 | _,_=>False
theorem nF (ha:Has n L a):∀ {xs:List (Nat×Operand)} {vs:List (Nat×Value)},evp L xs vs->(xs.map fun (i,x)=>(i,a.eval x))=vs
 | [],[],_=>rfl
 | (i,x)::xs,(j,v)::vs,h=>by
  obtain⟨rfl,h1,h2⟩:=h;simp[ha.ev h1,nF ha h2]
theorem fN {d ty pos af g t} {xs:List (Nat×Operand)} {vs:List (Nat×Value)} {z:Value} {fs:Array Field} {pl:Array (Nat×Nat)} {cs:List Value} (ha:Has n L a) (hx:evp L xs vs) (hz:∀ w,(zeroValue t).run P w = .ok z w) (ht:∀ w,(underlying t).run P w = .ok (.struct fs) w)
  (hp:∀ w,((fs.mapM fun f=>do pure (f.offset,<-sizeOf f.type)):Sem (Array (Nat×Nat))).run P w = .ok pl w) (hf:Instr.fill (pl[·]?) z.cells vs=some cs.toArray) :
  cK P ⟨d,.build t xs.toArray,ty,pos,af,g⟩ a w (.agg cs.toArray) w:=by
 refine bQ ?_;have e:(xs.toArray.map fun (i,x)=>(i,a.eval x))=vs.toArray:=by rw[<-nF ha hx];simp
 simp only[execOp,e,Instr.build,Sem.run_bind,hz,Result.andThen_ok,ht,hp,hf,Sem.run_pure]
def bsl (w:World) (e:TypeId) (sz:Nat) (ps:List (List Value)):Option (Sl×World) :=
 if (ps.all fun p=>p.length==sz)=true then some (⟨some ⟨w.heap.size,0,none⟩,ps.length,ps.length⟩,w.alloc (.cells ps.flatten.toArray e)) else none
def oT:Nat->List (List Value)->List (Nat×Value)->Prop
 | _,[],[]=>True
 | i,p::ps,(j,v)::vs=>i=j/\v.cells=p.toArray/\oT (i+1) ps vs
 | _,_,_=>False
theorem pY (p:List Value):∀ (k:Nat) (c:Array Value) (off:Nat),off+k+p.length<=c.size ->
  ((p.zipIdx k).foldl (fun cs (x,j)=>cs.setIfInBounds (off+j) x) c).toList=c.toList.take (off+k)++p++c.toList.drop (off+k+p.length):=by
 induction p with
 | nil=>intro k c off h;simp
 | cons x p ih =>
  intro k c off h;simp only[zH] at h;simp only[List.zipIdx_cons,List.foldl_cons];rw[ih (k+1) _ off (by simp;omega)];simp only[zZ,zH];have h1:off+k<c.toList.length:=by simp;omega
  rw[show off+(k+1)=off+k+1 by omega,aAi (by simpa using h1),List.take_set_of_le (by omega)];rw[List.drop_set_of_lt (by omega)];simp[List.getElem_set];omega
theorem mD (sz:Nat):∀ (ps:List (List Value)) (vs:List (Nat×Value)) (i:Nat) (c:Array Value),oT i ps vs->(∀ p∈ps,p.length=sz)->c.size=(i+ps.length)*sz ->
  ∃ c',Instr.fill (fun i=>some (i*sz,sz)) c vs=some c'/\c'.toList=c.toList.take (i*sz)++ps.flatten
 | [],[],i,c,_,_,hc=>⟨c,rfl,by simp at hc;simp[aAj (show c.toList.length<=i*sz by simp;omega)]⟩
 | p::ps,(j,v)::vs,i,c,h,hl,hc=>by
  obtain⟨rfl,h1,h2⟩:=h;have hp:=hl p (by simp);have hs:i*sz+sz<=c.size:=by
   rw[hc,<-aAx];exact aAt _ (by simp)
  have hvs:v.cells.size=sz:=by rw[h1];simpa using hp
  simp only[Instr.fill];rw[if_neg (by rw[hvs];simp only[ne_eq,not_true_eq_false,decide_false,Bool.false_or,decide_eq_true_eq,Nat.not_lt,gt_iff_lt];first | omega | (simp;omega))];have hfold:=pY p 0 c (i*sz) (by omega);have e:v.cells.zipIdx.foldl (fun cs (x,j)=>cs.setIfInBounds (i*sz+j) x) c=(p.zipIdx 0).foldl (fun cs (x,j)=>cs.setIfInBounds (i*sz+j) x) c:=by
   rw[h1];simp
  rw[e];obtain⟨c',h3,h4⟩:=mD sz ps vs (i+1) _ h2 (fun q hq=>hl q (by simp[hq])) (by
   rw[<-Array.length_toList,hfold];simp only[zX,List.length_take,List.length_drop,Array.length_toList,hp,zQ];have h5:c.size=(i+1+ps.length)*sz:=by rw[hc,zH];congr 1;omega
   omega)
  refine⟨c',h3,?_⟩;rw[h4,hfold,aAx];simp only[zQ,hp,List.flatten_cons];rw[List.take_append_of_le_length (by simp;omega),aAj (by simp;omega)];simp
 | [],_::_,_,_,h,_,_=>h.elim
 | _::_,[],_,_,h,_,_=>h.elim
theorem gU {d ty pos af g t e sz len} {xs:List (Nat×Operand)} {vs:List (Nat×Value)} {ps:List (List Value)} {s:Sl} {z:Value} (ha:Has n L a) (hx:evp L xs vs) (hp:oT 0 ps vs) (hl:len=ps.length) (ht:∀ w,(underlying t).run P w = .ok (.slice e) w)
  (hz:∀ w,(sizeOf e).run P w = .ok sz w) (hzv:∀ w,(zeroValue e).run P w = .ok z w) (hsm:len*sz<=16777216) (h:bsl w e sz ps=some (s,w')) :
  cK P ⟨d,.buildSlice t len xs.toArray,ty,pos,af,g⟩ a w s.v w':=by
 subst hl;unfold bsl at h;split at h
 .rename_i hc;cases h;have hps:∀ p∈ps,p.length=sz:=fun p hp'=>by simpa using yN.1 hc p hp'
  obtain⟨c',h1,h2⟩:=mD sz ps vs 0 ((Array.range (ps.length*sz)).map ((if ps.length*sz=0 then #[] else z.cells)[· % (if ps.length*sz=0 then #[] else z.cells).size]!)) hp hps (by simp);have e':(xs.toArray.map fun (i,x)=>(i,a.eval x)).toList=vs:=by rw[<-nF ha hx];simp
  have hc':c'=ps.flatten.toArray:=by apply Array.ext';rw[h2];simp
  refine bQ ?_;have hb:¬ ps.length*sz>2 ^ 24:=by omega
  simp only[execOp,Instr.buildSlice,Sem.run_bind,ht,Result.andThen_ok,hz,e',Sl.v];rw[if_neg hb];by_cases h0:ps.length*sz=0
  .simp only[h0,if_true] at h1 ⊢;simp only[Sem.run_pure,Result.andThen_ok,h1,Sem.run_bind,newRow,run_newObj,World.alloc_eq,hc']
  simp only[h0,if_false] at h1 ⊢;simp only[Sem.run_bind,hzv,Sem.run_pure,Result.andThen_ok,h1,newRow,run_newObj,World.alloc_eq,hc']
 cases h
end
structure OpD where
 o:Oper
 v:Value
 e:Bool
 lo:Nat
 hi:Nat
 cl:List Nat
 li:List (Nat×Value)
abbrev eN {o:Oper} (v:Value) (w:Nat) (k:List Nat) (n:Nat):OpD:=⟨o,v,false,w,w,k,[(n,v)]⟩
abbrev bJ {o:Oper} (v:Value) (w:Nat) (k:List Nat) (n:Nat) (x:Value):OpD:=⟨o,v,false,w,w,k,[(n,x)]⟩
abbrev gL {o:Oper} (v:Value) (w:Nat) (k:List Nat) (r:List (Nat×Value)):OpD:=⟨o,v,false,w,w,k,r⟩
abbrev aL {o:Oper} (v:Value) (e:Bool) (a b:Nat) (k:List Nat) (r:List (Nat×Value)):OpD:=⟨o,v,e,a,b,k,r⟩
def dJ:List OpD->Nat->(Nat->Bool)->List (Nat×Value)->List (Nat×Value)
 | [],_,_,L=>L
 | d::ds,i,S,L=>dJ ds (i+1) S (if S i=true then upd d.o.dst d.v L else L)
def gT:List OpD->Nat->(Nat->Bool)->Nat->Option Value
 | [],_,_,_=>none
 | d::ds,i,S,t=>match gT ds (i+1) S t with
  | some v=>some v
  | none=>if S i=true/\d.o.dst=some t then some d.v else none
theorem iY {dst:Option Nat} {v:Value} {L:List (Nat×Value)} {t:Nat}:(upd dst v L).lookup t=if dst=some t then some v else L.lookup t:=by
 cases dst with
 | none=>simp[upd]
 | some d =>
  simp only[upd,zU];by_cases h:t=d
  .subst h;simp
  have e:(t==d)=false:=by simpa using h
  rw[e];simp[Ne.symm h]
theorem fH {t:Nat}:∀ (ds:List OpD) (i:Nat) (S:Nat->Bool) (L:List (Nat×Value)),(dJ ds i S L).lookup t=(gT ds i S t).or (L.lookup t)
 | [],_,_,_=>by simp[dJ,gT]
 | d::ds,i,S,L=>by
  rw[dJ,fH ds (i+1) S,gT]
  cases h:gT ds (i+1) S t with
  | some v=>simp
  | none =>
   simp only[Option.none_or];by_cases hs:S i=true
   .rw[if_pos hs,iY];by_cases hd:d.o.dst=some t<;>simp[hs,hd]
   rw[if_neg hs];simp[hs]
theorem fB {t:Nat} {S S':Nat->Bool}:∀ (ds:List OpD) (i:Nat),(∀ k d,ds[k]?=some d->d.o.dst=some t->S (i+k)=S' (i+k))->gT ds i S t=gT ds i S' t
 | [],_,_=>rfl
 | d::ds,i,h=>by
  have h1:gT ds (i+1) S t=gT ds (i+1) S' t:=fB ds (i+1) (fun k d' hk hd=>by have:=h (k+1) d' (by simpa using hk) hd;rwa[show i+(k+1)=i+1+k by omega] at this);simp only[gT,h1];by_cases hd:d.o.dst=some t
  .have:=h 0 d rfl hd;simp only[zQ] at this;rw[this]
  simp[hd]
theorem kL {t:Nat} {S:Nat->Bool}:∀ (ds:List OpD) (i k:Nat) (d:OpD),ds[k]?=some d->d.o.dst=some t->S (i+k)=true->(∀ k' d',k<k'->ds[k']?=some d'->d'.o.dst=some t->S (i+k')=false)->gT ds i S t=some d.v
 | [],_,_,_,h,_,_,_=>by simp at h
 | d0::ds,i,0,d,hk,hd,hs,hn=>by
  simp at hk;subst hk;have h1:gT ds (i+1) S t=none:=by
   have:gT ds (i+1) S t=gT ds (i+1) (fun _=>false) t:=fB ds (i+1) fun k' d' h1 h2=>by
    have:=hn (k'+1) d' (by omega) (by simpa using h1) h2;rwa[show i+(k'+1)=i+1+k' by omega] at this
   rw[this];clear this hn hd hs;generalize i+1=m
   induction ds generalizing m with
   | nil=>rfl
   | cons x xs ih=>simp[gT,ih]
  simp only[zQ] at hs;simp[gT,h1,hd,hs]
 | d0::ds,i,k+1,d,hk,hd,hs,hn=>by
  have h1:=kL (t:=t) (S:=S) ds (i+1) k d (by simpa using hk) hd (by rwa[show i+(k+1)=i+1+k by omega] at hs) (fun k' d' h1 h2 h3=>by
   have:=hn (k'+1) d' (by omega) (by simpa using h2) h3;rwa[show i+(k'+1)=i+1+k' by omega] at this)
  simp[gT,h1]
def cnt:List OpD->Nat->(Nat->Bool)->Nat
 | [],_,_=>0
 | d::ds,i,S=>(if S i=true/\d.e=true then 1 else 0)+cnt ds (i+1) S
theorem iS {S S':Nat->Bool}:∀ (ds:List OpD) (i:Nat),(∀ k d,ds[k]?=some d->d.e=true->S (i+k)=true->S' (i+k)=true)->cnt ds i S<=cnt ds i S'
 | [],_,_=>zN _
 | d::ds,i,h=>by
  have h1:=iS ds (i+1) (fun k d' hk hd hs=>by have:=h (k+1) d' (by simpa using hk) hd (by rwa[show i+(k+1)=i+1+k by omega]);rwa[show i+(k+1)=i+1+k by omega] at this);simp only[cnt];have h0:=h 0 d rfl;simp only[zQ] at h0;by_cases hs:S i=true/\d.e=true
  .rw[if_pos hs,if_pos ⟨h0 hs.2 hs.1,hs.2⟩];omega
  rw[if_neg hs];omega
def dR (S:Nat->Bool) (i:Nat):Nat->Bool:=fun k=>if k=i then true else S k
theorem lL {S:Nat->Bool} {j:Nat}:∀ (ds:List OpD) (i k:Nat) (d:OpD),ds[k]?=some d->j=i+k->S j=false->cnt ds i (dR S j)=cnt ds i S+(if d.e=true then 1 else 0)
 | [],_,_,_,h,_,_=>by simp at h
 | d0::ds,i,0,d,hk,hj,hs=>by
  simp at hk;subst hk;simp only[zQ] at hj;subst hj;have:cnt ds (j+1) (dR S j)=cnt ds (j+1) S:=by
   apply Nat.le_antisymm
   .exact iS ds (j+1) fun k d h1 h2 h3=>by simp only[dR] at h3;rwa[if_neg (by omega)] at h3
   exact iS ds (j+1) fun k d h1 h2 h3=>by simp only[dR];rwa[if_neg (by omega)]
  simp only[cnt,this];simp[dR,hs];omega
 | d0::ds,i,k+1,d,hk,hj,hs=>by
  have:=lL (S:=S) ds (i+1) k d (by simpa using hk) (by omega) hs;have e:dR S j i=S i:=by simp only[dR];rw[if_neg (by omega)]
  simp only[cnt,this,e];omega
theorem rL {S S':Nat->Bool} (ds:List OpD) (i:Nat) (h:∀ k,k<ds.length->S (i+k)=S' (i+k)):cnt ds i S=cnt ds i S':=by
 have hk:∀ (k:Nat) (d:OpD),ds[k]?=some d->k<ds.length:=fun k d h=>(yP.1 h).1;apply Nat.le_antisymm
 .exact iS ds i fun k d h1 _ h3=>(h k (hk k d h1)) ▸ h3
 exact iS ds i fun k d h1 _ h3=>(h k (hk k d h1)).symm ▸ h3
def uL (ds:List OpD):Bool:=ds.zipIdx.all fun (d,i)=>d.cl.all fun k=>d.o.after.toList.any fun e=>Region.binds .any e&&decide (e.on<i)&&(k==e.on||((ds[e.on]?).any fun d'=>d'.cl.contains k))
def nW (ds:List OpD):Bool:=ds.zipIdx.all fun (d,i)=>d.o.dst.all fun t=>ds.zipIdx.all fun (d',k)=>!(decide (i<k))||d'.o.dst !=some t||d'.cl.contains i
def sJ (ds:List OpD):Bool:=ds.zipIdx.all fun (d,i)=>d.li.all fun (t,_)=>ds.zipIdx.all fun (d',k)=>k==i||d'.o.dst !=some t||(decide (k<i)&&d.cl.contains k)||(decide (i<k)&&d'.cl.contains i)
def tQ (ds:List OpD):Bool:=ds.zipIdx.all fun (d,i) =>
 decide (d.lo<=cnt ds 0 fun k=>d.cl.contains k)&&decide ((cnt ds 0 fun k=>k !=i&&!((ds[k]?).any fun d'=>d'.cl.contains i))<=d.hi)
def nR (ds:List OpD):Bool:=ds.zipIdx.all fun (d,i)=>d.o.after.toList.all fun e=>!Region.binds .any e||decide (e.on<i)
def qR (ds:List OpD):Bool:=uL ds&&nW ds&&sJ ds&&tQ ds&&nR ds
section
variable {P : Program} {n : Nat} {L0 : List (Nat × Value)} {Q : Exit -> Act -> World -> Prop}
def iD (P:Program) (n:Nat) (ops:Array Oper) (o:Oper) (li:List (Nat×Value)) (v:Value) (w w':World):Prop :=
 ∀ a,Has n li a->∀ (K:Act->World->Prop) (Q:Exit->Act->World->Prop),K (a.put o.dst v) w'->if Region.wanted o (yielded ops a.tmps) then o.wp P a w K Q else K (a.put o.dst undef) w
theorem tS {ops:Array Oper} {o:Oper} {li:List (Nat×Value)} {v:Value} {w w':World} (hg:o.guard=none) (h:∀ a,Has n li a->cK P o a w v w'):iD P n ops o li v w w':=fun a ha K Q hk=>by
 rw[if_pos (by simp[Region.wanted,hg])];exact h a ha K Q hk
theorem oY {ops:Array Oper} {o:Oper} {li:List (Nat×Value)} {v:Value} {w w':World} {j t:Nat} {b c:Bool} (hg:o.guard=some (j,c)) (hj:(ops[j]?).bind (·.dst)=some t) (ht:li.lookup t=some (.bool b)) (hbc:b=c)
  (h:∀ a,Has n li a->cK P o a w v w'):iD P n ops o li v w w':=fun a ha K Q hk=>by
 rw[if_pos (by simp[Region.wanted,hg,iK hj ha ht,hbc])];exact h a ha K Q hk
theorem sB {ops:Array Oper} {o:Oper} {li:List (Nat×Value)} {w:World} {j t:Nat} {b c:Bool} (hg:o.guard=some (j,c)) (hj:(ops[j]?).bind (·.dst)=some t) (ht:li.lookup t=some (.bool b)) (hbc:b≠c) :
  iD P n ops o li undef w w:=fun a ha K Q hk=>by
 rw[if_neg (by simp[Region.wanted,hg,iK hj ha ht,hbc])];exact hk
def Obl (P:Program) (n:Nat) (ops:Array Oper) (W:Nat->World):List OpD->Prop
 | []=>True
 | d::ds=>(∀ j,d.lo<=j->j<=d.hi->iD P n ops d.o d.li d.v (W j) (W (j+if d.e=true then 1 else 0)))/\Obl P n ops W ds
theorem Obl.get {ops:Array Oper} {W:Nat->World}:∀ {ds:List OpD},Obl P n ops W ds->∀ {i:Nat} {d:OpD},ds[i]?=some d->∀ j,d.lo<=j->j<=d.hi->iD P n ops d.o d.li d.v (W j) (W (j+if d.e=true then 1 else 0))
 | [],_,_,_,h=>by simp at h
 | _::_,h,0,_,hd=>by simp at hd;subst hd;exact h.1
 | _::_,h,i+1,_,hd=>h.2.get (by simpa using hd)
def fR:List OpD->List (Nat×Value)->Prop
 | [],_=>True
 | d::ds,L=>oU L d.li/\fR ds (upd d.o.dst d.v L)
theorem oU.look {L M:List (Nat×Value)} (h:oU L M) {t:Nat} {v:Value} (hv:M.lookup t=some v):L.lookup t=some v:=by
 induction M with
 | nil=>cases hv
 | cons p M ih =>
  obtain⟨j,u⟩:=p;rw[zU] at hv;by_cases e:t=j
  .subst e;simp at hv;subst hv;exact h.1
  have e1:(t==j)=false:=by simpa using e
  rw[e1] at hv;exact ih h.2 hv
theorem kE {M:List (Nat×Value)} {t:Nat} {v:Value} (hv:M.lookup t=some v):∃ u,(t,u)∈M:=by
 induction M with
 | nil=>cases hv
 | cons p M ih =>
  obtain⟨j,u⟩:=p;rw[zU] at hv;by_cases e:t=j
  .subst e;exact⟨u,by simp⟩
  have e1:(t==j)=false:=by simpa using e
  rw[e1] at hv;obtain⟨u',hu⟩:=ih hv;exact⟨u',by simp[hu]⟩
theorem fR.get:∀ {ds:List OpD} {L:List (Nat×Value)} (b:Nat),fR ds L->∀ {i:Nat} {d:OpD},ds[i]?=some d->oU (dJ ds b (fun k=>decide (k<b+i)) L) d.li
 | [],_,_,_,_,_,h=>by simp at h
 | d0::ds,L,b,h,0,d,hd=>by
  simp at hd;subst hd;have:dJ (d0::ds) b (fun k=>decide (k<b+0)) L=L:=by
   have key:∀ (ds:List OpD) (m:Nat),b<=m->dJ ds m (fun k=>decide (k<b+0)) L=L:=by
    intro ds
    induction ds with
    | nil=>intro m _;rfl
    | cons x xs ih=>intro m hm;simp only[dJ];rw[if_neg (by simp;omega)];exact ih _ (by omega)
   exact key _ _ (zN _)
  rw[this];exact h.1
 | d0::ds,L,b,h,i+1,d,hd=>by
  have:=fR.get (b+1) h.2 (i:=i) (d:=d) (by simpa using hd);rw[dJ,if_pos (by simp)];rwa[show b+1+i=b+(i+1) by omega] at this
theorem oV {ds:List OpD} {W:Nat->World} (hok:qR ds=true) (hO:Obl P n (ds.map (·.o)).toArray W ds) (hR:fR ds L0) (hd:∀ (i:Nat) (d:OpD) (t:Nat),ds[i]?=some d->d.o.dst=some t->t<n)
  (hQ:∀ a,Has n (dJ ds 0 (fun _=>true) L0) a->Q .normal a (W (cnt ds 0 fun _=>true))) :
  ∀ (fuel:Nat) (listed:Array Bool) (a:Act),listed.size=ds.length ->
   (∀ (i:Nat) (d:OpD),ds[i]?=some d->listed.getD i false=true->∀ e∈d.o.after.toList,Region.binds .any e=true->listed.getD e.on false=true) ->
   Has n (dJ ds 0 (fun k=>listed.getD k false) L0) a->fuel=((List.range ds.length).filter fun i=>!listed.getD i false).length ->
   wpAny P .any (ds.map (·.o)).toArray Q fuel listed a (W (cnt ds 0 fun k=>listed.getD k false)):=by
 simp only[qR,yO] at hok;obtain⟨⟨⟨⟨hcl,hds⟩,hli⟩,hrg⟩,hed⟩:=hok;have zi:∀ (i:Nat) (d:OpD),ds[i]?=some d->(d,i)∈ds.zipIdx:=fun i d h=>yW.2 h;have hed':∀ (i:Nat) (d:OpD),ds[i]?=some d->∀ e∈d.o.after.toList,Region.binds .any e=true->e.on<i:=fun i d h e he hb=>by
  have:=yN.1 (yN.1 hed _ (zi i d h)) e he;simpa[hb] using this
 have hcl':∀ (i:Nat) (d:OpD),ds[i]?=some d->∀ k∈d.cl,∃ e∈d.o.after.toList,Region.binds .any e=true/\e.on<i/\(k=e.on\/∃ d',ds[e.on]?=some d'/\k∈d'.cl):=fun i d h k hk=>by
  have:=yN.1 (yN.1 hcl _ (zi i d h)) k hk;obtain⟨e,he,hx⟩:=zM.1 this;simp only[yO,decide_eq_true_eq,yT,beq_iff_eq,aAy,zD] at hx;exact⟨e,he,hx.1.1,hx.1.2,hx.2⟩
 have hds':∀ (i k:Nat) (d d':OpD) (t:Nat),ds[i]?=some d->ds[k]?=some d'->i<k->d.o.dst=some t->d'.o.dst=some t->i∈d'.cl:=fun i k d d' t h h' hik ht ht'=>by
  have:=yN.1 hds _ (zi i d h);simp only[ht,aAI] at this;have:=yN.1 this _ (zi k d' h');simpa[hik,ht'] using this
 have hli':∀ (i k:Nat) (d d':OpD) (t:Nat) (u:Value),ds[i]?=some d->ds[k]?=some d'->(t,u)∈d.li->d'.o.dst=some t->k=i\/(k<i/\k∈d.cl)\/(i<k/\i∈d'.cl):=fun i k d d' t u h h' ht ht'=>by
  have:=yN.1 (yN.1 (yN.1 hli _ (zi i d h)) _ ht) _ (zi k d' h');simp only[ht',bne_self_eq_false,aAK,yT,beq_iff_eq,yO,decide_eq_true_eq,zD] at this;rcases this with(h1 | h1) | h1
  .exact .inl h1
  .exact .inr (.inl h1)
  exact .inr (.inr h1)
 have hrg':∀ (i:Nat) (d:OpD),ds[i]?=some d->d.lo<=(cnt ds 0 fun k=>d.cl.contains k)/\(cnt ds 0 fun k=>k !=i&&!((ds[k]?).any fun d'=>d'.cl.contains i))<=d.hi:=fun i d h=>by
  have:=yN.1 hrg _ (zi i d h);simpa using this
 -- what lies ahead of a listed one is listed
 have closed:∀ (listed:Array Bool),(∀ (i:Nat) (d:OpD),ds[i]?=some d->listed.getD i false=true->∀ e∈d.o.after.toList,Region.binds .any e=true->listed.getD e.on false=true) ->
   ∀ (i:Nat) (d:OpD),ds[i]?=some d->(∀ e∈d.o.after.toList,Region.binds .any e=true->listed.getD e.on false=true)->∀ k∈d.cl,listed.getD k false=true:=by
  intro listed hc i
  induction i using Nat.strongRecOn with
  | _ i ih =>
   intro d hd0 he k hk;obtain⟨e,he1,he2,he3,he4⟩:=hcl' i d hd0 k hk;rcases he4 with rfl | ⟨d',hd',hk'⟩
   .exact he e he1 he2
   exact ih e.on he3 d' hd' (hc e.on d' hd' (he e he1 he2)) k hk'
 have opsAt:∀ (i:Nat),(ds.map fun d=>d.o).toArray[i]?=(ds[i]?).map (fun d:OpD=>d.o):=fun i=>by simp
 intro fuel
 induction fuel with
 | zero =>
  intro listed a hsz hc ha hf;have hall:∀ k,k<ds.length->listed.getD k false=true:=fun k hk=>by
   cases h:listed.getD k false with
   | true=>rfl
   | false =>
    have:k∈(List.range ds.length).filter fun i=>!listed.getD i false:=by simp[hk];simpa using h
    rw[yZ hf.symm] at this;cases this
  have e1:dJ ds 0 (fun k=>listed.getD k false) L0=dJ ds 0 (fun _=>true) L0:=by
   have key:∀ (l:List OpD) (m:Nat) (L:List (Nat×Value)),m+l.length<=ds.length->dJ l m (fun k=>listed.getD k false) L=dJ l m (fun _=>true) L:=by
    intro l
    induction l with
    | nil=>intro m L _;rfl
    | cons x xs ih=>intro m L hm;simp only[dJ];simp only[zH] at hm;rw[if_pos (hall m (by omega)),if_pos trivial];exact ih _ _ (by omega)
   exact key ds 0 L0 (by omega)
  have e2:(cnt ds 0 fun k=>listed.getD k false)=cnt ds 0 fun _=>true:=rL ds 0 fun k hk=>by simpa using hall k hk
  rw[e2];refine⟨?_,hQ a (e1 ▸ ha)⟩;unfold Region.ready;rw[aAk];intro i hi;simp at hi;have:=hall i hi;simp only[yM] at this ⊢;have h3:listed[i]?=some true:=by
   cases h4:listed[i]? with
   | none=>simp[h4] at this
   | some b=>simpa[h4] using this
  simp[h3]
 | succ fuel ih =>
  intro listed a hsz hc ha hf;have some_ready:Region.ready .any (ds.map (·.o)).toArray listed≠[]:=by
   have hne:((List.range ds.length).filter fun i=>!listed.getD i false)≠[]:=fun h=>by rw[h] at hf;cases hf
   obtain⟨x,hx⟩:=zF _ hne;have hx':x<ds.length/\listed.getD x false=false:=by simpa using hx
   have hmin:∃ m,(m<ds.length/\listed.getD m false=false)/\∀ k,k<m->¬ (k<ds.length/\listed.getD k false=false):=by
    clear hx hf hne
    induction x using Nat.strongRecOn with
    | _ x ihx =>
     by_cases h:∃ k,k<x/\(k<ds.length/\listed.getD k false=false)
     .obtain⟨k,hk,hk'⟩:=h;exact ihx k hk hk'
     exact⟨x,hx',fun k hk hk'=>h ⟨k,hk,hk'⟩⟩
   obtain⟨m,⟨hm1,hm2⟩,hm3⟩:=hmin;intro hr;have:m∈Region.ready .any (ds.map (·.o)).toArray listed:=by
    unfold Region.ready;simp only[zA,yY,yO,yU];have hl:listed[m]?=some false:=by
     have h4:m<listed.size:=by omega
     simp only[yM] at hm2;simpa[h4] using hm2
    refine⟨by simpa using hm1,by simp[hl],?_⟩;rw[opsAt];obtain⟨d,hd0⟩:∃ d,ds[m]?=some d:=⟨_,yQ hm1⟩;rw[hd0];simp only[yV,zB];rw[<-zV,yN];intro e he;by_cases hb:Region.binds .any e=true
    .have h5:=hed' m d hd0 e he hb;have h6:listed.getD e.on false=true:=by
      cases h7:listed.getD e.on false with
      | true=>rfl
      | false=>exact(hm3 e.on h5 ⟨by omega,h7⟩).elim
     simp[h6]
    simp at hb;simp[hb]
   rw[hr] at this;cases this
  refine⟨fun h=>(some_ready h).elim,fun i hi=>?_⟩;unfold Region.ready at hi;simp only[zA,yY,yO,yU] at hi;obtain⟨hi1,hi2,hi3⟩:=hi;have hi1':i<ds.length:=by simpa using hi1
  obtain⟨d,hd0⟩:∃ d,ds[i]?=some d:=⟨_,yQ hi1'⟩;have hun:listed.getD i false=false:=by
   have h4:i<listed.size:=by omega
   simp only[yM] at hi2 ⊢;simpa[h4] using hi2
  rw[opsAt,hd0] at hi3;simp only[yV,zB] at hi3;rw[<-zV,yN] at hi3;have hed2:∀ e∈d.o.after.toList,Region.binds .any e=true->listed.getD e.on false=true:=fun e he hb=>by
   have:=hi3 e he;simpa[hb] using this
  have hcl2:=closed listed hc i d hd0 hed2;have notl:∀ k (d':OpD),ds[k]?=some d'->i∈d'.cl->listed.getD k false=false:=fun k d' hk hik=>by
   cases h:listed.getD k false with
   | false=>rfl
   | true =>
    have:=closed listed hc k d' hk (hc k d' hk h) i hik;rw[hun] at this;cases this
  have hj1:d.lo<=cnt ds 0 fun k=>listed.getD k false:=zR (hrg' i d hd0).1 (iS ds 0 fun k d' h1 h2 h3=>by
   simp only[aAO] at h3 ⊢;exact hcl2 k (by simpa using h3))
  have hj2:(cnt ds 0 fun k=>listed.getD k false)<=d.hi:=zR (iS ds 0 fun k d' h1 h2 h3=>by
   simp only[aAO] at h3 ⊢;simp only[yO,bne_iff_ne,yU,Option.any_eq_false];refine⟨fun e=>?_,fun d'' h4=>?_⟩
   .subst e;rw[hun] at h3;cases h3
   rw[h1] at h4;cases h4;simp only[List.contains_eq_mem,decide_eq_false_iff_not];intro h5;rw[notl k d' h1 h5] at h3;cases h3) (hrg' i d hd0).2
  have hop:=hO.get hd0 _ hj1 hj2;have hLi:Has n d.li a:=by
   have hs:=fR.get 0 hR hd0;refine⟨ha.d,ha.z,fun t v hv=>ha.l t v ?_⟩;have h1:=hs.look hv;obtain⟨u,hu⟩:=kE hv;rw[fH] at h1 ⊢;rw[<-h1];congr 1;refine fB ds 0 fun k d' hk hkd=>?_;simp only[aAO];rcases hli' i k d d' t u hd0 hk hu hkd with rfl | ⟨h2,h3⟩ | ⟨h2,h3⟩
   .rw[hun];simp
   .rw[hcl2 k h3];simp[h2]
   rw[notl k d' hk h3];simp;omega
  have goal:=fun K hk=>hop a hLi K Q hk;unfold wpOp;rw[opsAt,hd0];simp only[yV];have hK:=goal (wpAny P .any (ds.map (·.o)).toArray Q fuel (listed.setIfInBounds i true)) ?_
  .split
   .rename_i hw;rw[if_pos hw] at hK;exact .inl hK
   rename_i hw;rw[if_neg hw] at hK;exact hK
  have hset:∀ k,(listed.setIfInBounds i true).getD k false=dR (fun k=>listed.getD k false) i k:=fun k=>by
   simp only[dR,yM];by_cases h:k=i
   .subst h;have:k<listed.size:=by omega
    simp[this]
   rw[yS (Ne.symm h),if_neg h]
  have hset':(fun k=>(listed.setIfInBounds i true).getD k false)=dR (fun k=>listed.getD k false) i:=funext hset;have hcnt:=lL (S:=fun k=>listed.getD k false) (j:=i) ds 0 i d hd0 (by omega) hun;have hfin:=ih (listed.setIfInBounds i true) (a.put d.o.dst d.v) (by simpa using hsz) ?_ ?_ ?_
  .rw[hset',hcnt] at hfin;exact hfin
  .intro k d' hk hl e he hb;rw[hset] at hl ⊢;simp only[dR] at hl ⊢;split
   .rfl
   split at hl
   .rename_i h1 h2;subst h2;rw[hd0] at hk;cases hk;exact hed2 e he hb
   exact hc k d' hk hl e he hb
  .have hput:=ha.put d.o.dst (fun t ht=>hd i d t hd0 ht) d.v;refine⟨hput.d,hput.z,fun t v hv=>hput.l t v ?_⟩;rw[hset'] at hv;rw[iY];rw[fH] at hv ⊢;by_cases ht:d.o.dst=some t
   .rw[if_pos ht];rw[kL ds 0 i d hd0 ht (by simp[dR]) (fun k' d' h1 h2 h3=>by
     simp only[aAO,dR];rw[if_neg (by omega)];exact notl k' d' h2 (hds' i k' d d' t hd0 h2 h1 ht h3))] at hv
    simpa using hv
   rw[if_neg ht];rw[<-hv];congr 1;refine fB ds 0 fun k d' hk hkd=>?_;simp only[aAO,dR];split
   .rename_i h1;subst h1;rw[hd0] at hk;cases hk;exact(ht hkd).elim
   rfl
  have h1:(List.range ds.length).filter (fun k=>!(listed.setIfInBounds i true).getD k false)=((List.range ds.length).filter fun k=>!listed.getD k false).filter (fun k=>k !=i):=by
   rw[aAz];apply aAm;intro k _;rw[hset];simp only[dR];by_cases h:k=i<;>simp[h]
  rw[h1];have hmem:i∈(List.range ds.length).filter fun k=>!listed.getD k false:=by
   simp only[zA,yY];exact⟨hi1',by rw[hun];rfl⟩
  have hnd:((List.range ds.length).filter fun k=>!listed.getD k false).Nodup:=List.nodup_range.filter _;have:=hnd.erase_eq_filter i;rw[<-this,aAf hmem,<-hf];rfl
theorem cL {ds:List OpD} {W:Nat->World} {id:Nat} {w:World} {a:Act} (hm:P.follows .mixedOrders=true) (ha:Has n L0 a) (h0:W 0=w.drew) (hok:qR ds=true) (hO:Obl P n (ds.map (·.o)).toArray W ds) (hR:fR ds L0)
  (hd:(ds.all fun d=>d.o.dst.all fun t=>decide (t<n))=true) {m:Nat} (hcm:cnt ds 0 (fun _=>true)=m)
  (hQ:∀ a,Has n (dJ ds 0 (fun _=>true) L0) a->Q .normal a (W m)):(Code.region id (ds.map (·.o)).toArray true).wp P Q a w:=by
 subst hcm;refine wp_region_any hm ?_;have hz:∀ k,(Array.replicate ds.length false).getD k false=false:=fun k=>by
  simp only[yM,zI];split<;>rfl
 have hS:(fun k=>(Array.replicate ds.length false).getD k false)=fun _=>false:=funext hz;have key:∀ (l:List OpD) (i:Nat) (L:List (Nat×Value)),dJ l i (fun _=>false) L=L:=by
  intro l;induction l with
  | nil=>intro i L;rfl
  | cons x xs ih=>intro i L;simp only[dJ];rw[if_neg (by simp)];exact ih _ _
 have key2:∀ (l:List OpD) (i:Nat),cnt l i (fun _=>false)=0:=by
  intro l;induction l with
  | nil=>intro i;rfl
  | cons x xs ih=>intro i;simp[cnt,ih]
 have h:=oV (P:=P) (n:=n) (L0:=L0) (Q:=Q) hok hO hR (fun i d t hi ht=>by
  have h1:=yN.1 hd d (zC hi);simpa[ht] using h1) hQ ds.length (Array.replicate ds.length false) a (by simp) (fun i d _ hl=>by rw[hz] at hl;cases hl) (by rw[hS,key];exact ha) (by
   have:((List.range ds.length).filter fun i=>!(Array.replicate ds.length false).getD i false)=List.range ds.length:=by
    rw[aAe];intro k _;rw[hz];rfl
   rw[this,List.length_range])
 rw[hS,key2,h0] at h;have e:(ds.map (·.o)).toArray.size=ds.length:=by simp
 rw[e];exact h
end
def u1 {α γ:Type} (i:α) (f:α->γ):γ:=f i
def u2 {α β γ:Type} (i:α×β) (f:α->β->γ):γ:=f i.1 i.2
def u3 {α β δ γ:Type} (i:α×β×δ) (f:α->β->δ->γ):γ:=f i.1 i.2.1 i.2.2
def u4 {α β δ ε γ:Type} (i:α×β×δ×ε) (f:α->β->δ->ε->γ):γ:=f i.1 i.2.1 i.2.2.1 i.2.2.2
def u5 {α β δ ε ζ γ:Type} (i:α×β×δ×ε×ζ) (f:α->β->δ->ε->ζ->γ):γ:=f i.1 i.2.1 i.2.2.1 i.2.2.2.1 i.2.2.2.2
def u6 {α β δ ε ζ η γ:Type} (i:α×β×δ×ε×ζ×η) (f:α->β->δ->ε->ζ->η->γ):γ:=f i.1 i.2.1 i.2.2.1 i.2.2.2.1 i.2.2.2.2.1 i.2.2.2.2.2
def rS:List OpD->List (Nat×Value)->List (List (Option Value))
 | [],_=>[]
 | d::ds,L=>(d.li.map fun p=>L.lookup p.1)::rS ds (upd d.o.dst d.v L)
theorem bS:∀ {ds:List OpD} {L:List (Nat×Value)},rS ds L=ds.map (fun d=>d.li.map fun p=>some p.2)->fR ds L
 | [],_,_=>trivial
 | d::ds,L,h=>by
  simp only[rS,aAF,List.cons.injEq] at h;refine⟨?_,bS h.2⟩;have key:∀ (M:List (Nat×Value)),(M.map fun p=>L.lookup p.1)=(M.map fun p=>some p.2)->oU L M:=by
   intro M
   induction M with
   | nil=>intro _;trivial
   | cons p M ih=>intro h;simp only[aAF,List.cons.injEq] at h;exact⟨h.1,ih h.2⟩
  exact key _ h.1
section
variable {P : Program} {n : Nat} {L : List (Nat × Value)} {a : Act} {w w' : World} {Q : Exit -> Act -> World -> Prop}
theorem ltd {o:Option Nat} {n:Nat} (h:(o.all fun d=>decide (d<n))=true):∀ d,o=some d->d<n:=fun d hd=>by
 subst hd;simpa using h
theorem nt {b:Bool} (h:b≠true):b=false:=by simpa using h
theorem tn {b:Bool} (h:b=true):b≠false:=by rw[h];decide
theorem dG {b:Bool} {γ:Type} {A B:Option γ} {r:γ} {G:Prop} (h:(if b=true then A else B)=some r) (ht:b=true->A=some r->G) (hf:b≠true->B=some r->G):G:=by
 by_cases e:b=true
 .exact ht e (by rwa[if_pos e] at h)
 exact hf e (by rwa[if_neg e] at h)
theorem sX {ops:Array Oper} {rest:List Oper} {o:Oper} {v:Value} {j t:Nat} {b c:Bool} (hg:o.guard=some (j,c)) (hj:(ops[j]?).bind (·.dst)=some t) (ha:Has n L a) (ht:L.lookup t=some (.bool b)) (hbc:b=c)
  (hd:∀ d,o.dst=some d->d<n) (h:cK P o a w v w')
  (hr:∀ a',Has n (upd o.dst v L) a'->wpList P ops Q rest a' w'):wpList P ops Q (o::rest) a w:=by
 subst hbc;exact uE hg hj ha ht hd h hr
theorem rU {ops:Array Oper} {j t:Nat} (hj:(ops[j]?).bind (·.dst)=some t) (ha:Has n L a) (ht:L.lookup t=some undef):yielded ops a.tmps j=none:=by
 unfold yielded;rw[hj];simp[ha.l t _ ht,undef]
theorem uO {ops:Array Oper} {rest:List Oper} {o:Oper} {j t:Nat} {c:Bool} (hg:o.guard=some (j,c)) (hj:(ops[j]?).bind (·.dst)=some t) (ha:Has n L a) (ht:L.lookup t=some undef)
  (hd:∀ d,o.dst=some d->d<n)
  (hr:∀ a',Has n (upd o.dst undef L) a'->wpList P ops Q rest a' w):wpList P ops Q (o::rest) a w:=by
 unfold wpList;rw[if_neg (by simp[Region.wanted,hg,rU hj ha ht])];exact hr _ (ha.put _ hd _)
theorem iB {x y:Code} {L:List (Nat×Value)} {w':World} (hk:∀ a,Has n L a->y.wp P Q a w')
  (hx:(∀ a,Has n L a->Exit.then (y.wp P Q) Q .normal a w')->x.wp P (Exit.then (y.wp P Q) Q) a w):(Code.seq x y).wp P Q a w :=
 wp_seq (hx hk)
theorem iP {x y:Code} {ι:Type} {Lf:ι->List (Nat×Value)} {wf:ι->World} {C:ι->Prop} (hk:∀ i,C i->∀ a,Has n (Lf i) a->y.wp P Q a (wf i))
  (hx:(∀ i,C i->∀ a,Has n (Lf i) a->Exit.then (y.wp P Q) Q .normal a (wf i))->x.wp P (Exit.then (y.wp P Q) Q) a w):(Code.seq x y).wp P Q a w :=
 wp_seq (hx hk)
theorem bY {c:Code} {L:List (Nat×Value)} {w':World} (hk:∀ a,Has n L a->Q .normal a w') (hx:(∀ a,Has n L a->Q .normal a w')->c.wp P Q a w):c.wp P Q a w:=hx hk
theorem nD {S R:Type} {step:S->Option (S⊕R)} {I:S->Act->World->Prop} {body:Code} {r0:R} {s0:S} {e:Exit} {L:List (Nat×Value)} {w':World}
  (hI:I s0 a w) (h:bU step s0=some r0) (hk:∀ a,Has n L a->Q e a w')
  (hb:(∀ a,Has n L a->Q e a w')->∀ s a w o,I s a w->step s=some o->(∀ r,o = .inr r->r=r0)->body.wp P (LP I Q o) a w):(Code.loop body).wp P Q a w :=
 rE hI h (hb hk)
theorem dN {S R1 R2:Type} {step:S->Option (S⊕(R1⊕R2))} {I:S->Act->World->Prop} {body:Code} {r0:R1⊕R2} {s0:S} {e1 e2:Exit} {L1:R1->List (Nat×Value)} {w1:R1->World} {L2:R2->List (Nat×Value)} {w2:R2->World}
  (hI:I s0 a w) (h:bU step s0=some r0) (hk1:∀ i,r0 = .inl i->∀ a,Has n (L1 i) a->Q e1 a (w1 i)) (hk2:∀ i,r0 = .inr i->∀ a,Has n (L2 i) a->Q e2 a (w2 i))
  (hb:(∀ i,r0 = .inl i->∀ a,Has n (L1 i) a->Q e1 a (w1 i))->(∀ i,r0 = .inr i->∀ a,Has n (L2 i) a->Q e2 a (w2 i)) ->
   ∀ s a w o,I s a w->step s=some o->(∀ r,o = .inr r->r=r0)->body.wp P (LP I Q o) a w):(Code.loop body).wp P Q a w :=
 rE hI h (hb hk1 hk2)
def dr (w:World):Option World:=some w.drew
theorem gY {w w':World} (h:dr w=some w'):w'=w.drew:=(Option.some.inj h).symm
theorem aA {id:Nat} {l:List Oper} (h:wpList P l.toArray Q l a w):(Code.region id l.toArray false).wp P Q a w:=wp_region_lit h
end
def B (w:World) (b:Nat):Option (List Value×TypeId):=match w.heap[b]? with | some (.cells c T fz)=>if fz=(0,0) then some (c.toList,T) else none | _=>none
def wr (w:World) (b:Nat) (cs:List Value):World:={ w with heap:=w.heap.modify b fun | .cells _ T fz=>.cells cs.toArray T fz | o=>o }
theorem iH {w:World} {b:Nat} {cs:List Value} {T:TypeId}:B w b=some (cs,T)↔w.heap[b]?=some (.cells cs.toArray T (0,0)):=by
 unfold B;constructor
 .intro h;split at h
  .rename_i c T' fz e;split at h
   .rename_i hf;subst hf;cases h;simpa using e
   cases h
  cases h
 intro h;rw[h];simp
theorem sA {w:World} {b:Nat} {x:List Value×TypeId} (h:B w b=some x):b<w.heap.size:=by
 obtain⟨cs,T⟩:=x;exact(zS.1 (iH.1 h)).1
theorem mE {w:World} {b k:Nat} {f:Obj->Obj} (h:k≠b):(w.heap.modify b f)[k]?=w.heap[k]?:=by
 rw[zO,if_neg (Ne.symm h)]
@[simp] theorem wG {w:World} {b:Nat} {cs:List Value}:(wr w b cs).heap.size=w.heap.size:=by simp[wr]
theorem kD {w:World} {b k:Nat} {cs:List Value} (h:k≠b):(wr w b cs).heap[k]?=w.heap[k]?:=mE h
theorem qP {w:World} {b:Nat} {c cs:List Value} {T:TypeId} (h:B w b=some (c,T)):B (wr w b cs) b=some (cs,T):=by
 rw[iH] at h ⊢;simp[wr,zO,h]
@[simp] theorem tA {w:World} {cs:List Value} {T:TypeId}:B (w.alloc (.cells cs.toArray T)) w.heap.size=some (cs,T):=by
 rw[iH];exact heap_alloc_new w _
theorem sM {w:World} {o:Obj} {k:Nat} (h:k<w.heap.size):B (w.alloc o) k=B w k:=by
 unfold B;rw[Go.heap_alloc_old w o h]
@[simp] theorem wK {w:World} {k:Nat}:B w.drew k=B w k:=rfl
@[simp] theorem wF {w:World} {b:Nat} {cs:List Value}:wr w.drew b cs=(wr w b cs).drew:=rfl
@[simp] theorem aS (b o n:Nat):(⟨b,o,none⟩:Addr).add n=⟨b,o+n,none⟩:=by
 unfold Addr.add;split<;>simp_all
theorem iA {w:World} {b o:Nat} {cs:List Value} {T:TypeId} (h:B w b=some (cs,T)):w.cell? ⟨b,o,none⟩=cs[o]?:=by
 simp[World.cell?,iH.1 h]
theorem rY {w:World} {b o:Nat} {cs:List Value} {T:TypeId} (h:B w b=some (cs,T)):w.frozen? ⟨b,o,none⟩=false:=by
 simp[World.frozen?,iH.1 h]
section
variable {w : World} {b o : Nat} {cs : List Value} {T : TypeId}
theorem oM {k:IntKind} {a:Addr} {x:Int} (h:w.cell? a=some (.int k x)):ldI k w a=some x:=by simp[ldI,h]
theorem qQ {a:Addr} {x:Bool} (h:w.cell? a=some (.bool x)):ldB w a=some x:=by simp[ldB,h]
theorem rD {a:Addr} {x:ByteArray} (h:w.cell? a=some (.string x)):ldS w a=some x:=by simp[ldS,h]
theorem gH {a:Addr} {s:Sl} (h:w.cell? a=some s.v):ldL w a=some s:=by simp[ldL,h,Sl.v]
theorem vZ {k:IntKind} {x:Int} (h:B w b=some (cs,T)) (hx:cs[o]?=some (.int k x)):ldI k w ⟨b,o,none⟩=some x:=oM ((iA h).trans hx)
theorem wC {x:Bool} (h:B w b=some (cs,T)) (hx:cs[o]?=some (.bool x)):ldB w ⟨b,o,none⟩=some x:=qQ ((iA h).trans hx)
theorem vI {s:Sl} (h:B w b=some (cs,T)) (hx:cs[o]?=some s.v):ldL w ⟨b,o,none⟩=some s:=gH ((iA h).trans hx)
theorem jV:∀ (n:Nat) (w:World) (a:Addr) (i:Nat) (l:List Value),l.length=n->(∀ j v,l[j]?=some v->w.cell? (a.add (i+j))=some v)->ldA n w a i=some l
 | 0,_,_,_,l,h,_=>by rw[yZ h];rfl
 | n+1,w,a,i,[],h,_=>by simp at h
 | n+1,w,a,i,v::l,h,hc=>by
  have h0:=hc 0 v rfl;simp only[zQ] at h0;simp only[ldA,h0,aAN];rw[jV n w a (i+1) l (by simpa using h) (fun j u hu=>by have:=hc (j+1) u (by simpa using hu);rwa[show i+(j+1)=i+1+j by omega] at this)];rfl
theorem qM {n:Nat} (h:B w b=some (cs,T)) (hn:o+n<=cs.length):ldA n w ⟨b,o,none⟩ 0=some ((cs.drop o).take n):=by
 refine jV n w _ 0 _ (by simp;omega) fun j v hv=>?_;rw[List.getElem?_take] at hv;split at hv
 .simp only[aAO,aS];rw[iA h,<-hv,List.getElem?_drop]
 cases hv
theorem oX {v:Value} (h:B w b=some (cs,T)):w.setCell ⟨b,o,none⟩ v=wr w b (cs.set o v):=by
 have hh:=iH.1 h;have hb:=sA h;have e:w.heap.modify b (fun | .cells c elem frozen=>.cells (if (none:Option Nat).isSome then c else c.setIfInBounds o v) elem frozen | o=>o)=w.heap.modify b (fun | .cells _ T fz=>.cells (cs.set o v).toArray T fz | o=>o):=by
  apply aAA;intro i;rw[zO,zO];by_cases hi:b=i
  .subst hi;simp only[if_true,hh,yV];simp
  simp[hi]
 simp only[World.setCell,wr];rw[<-e];rfl
theorem qI {v:Value} (h:B w b=some (cs,T)) (ho:o<cs.length) (hv:v.oneCell'=true):stV w ⟨b,o,none⟩ v=some (wr w b (cs.set o v)):=by
 unfold stV;rw[if_pos ⟨hv,by rw[iA h,yQ ho];rfl,rY h⟩,oX h]
theorem vX {c d:List Value}:wr (wr w b c) b d=wr w b d:=by
 simp only[wr];congr 1;apply aAA;intro i;simp only[zO];by_cases hi:b=i
 .subst hi;simp only[if_true,Option.map_map];congr 1
  funext x
  cases x<;>rfl
 simp[hi]
theorem sT (h:B w b=some (cs,T)):wr w b cs=w:=by
 have hh:=iH.1 h;simp only[wr];have:(w.heap.modify b fun | .cells _ T fz=>.cells cs.toArray T fz | o=>o)=w.heap:=by
  apply aAA;intro i;rw[zO];by_cases hi:b=i
  .subst hi;simp[hh]
  simp[hi]
 rw[this]
def nP (cs:List Value) (o:Nat) (vs:List Value):List Value:=cs.take o++vs++cs.drop (o+vs.length)
theorem pK {v:Value} {vs:List Value} (ho:o+(vs.length+1)<=cs.length):nP (cs.set o v) (o+1) vs=nP cs o (v::vs):=by
 simp only[nP,zH];have h1:o<cs.length:=by omega
 rw[aAi (by simpa using h1),List.take_set_of_le (zN _),List.drop_set_of_lt (by omega),List.getElem_set_self];simp[aAL,Nat.add_comm 1]
theorem tG:∀ (vs:List Value) (i:Nat) (w:World) (cs:List Value),B w b=some (cs,T)->o+i+vs.length<=cs.length->(∀ v∈vs,v.oneCell'=true)->stA w ⟨b,o,none⟩ i vs=some (wr w b (nP cs (o+i) vs))
 | [],i,w,cs,h,ho,_=>by simp only[stA,nP];simp[sT h]
 | v::vs,i,w,cs,h,ho,hv=>by
  simp only[zH] at ho;simp only[stA,aS];rw[qI h (by omega) (hv v (by simp)),aAN,tG vs (i+1) _ _ (qP h) (by simp;omega) (fun u hu=>hv u (by simp[hu])),vX];rw[show o+(i+1)=o+i+1 by omega,pK (by omega)]
end
structure Fr (S:Nat->Prop) (w w':World):Prop where
 os:w'.os=w.os
 tape:w'.tape=w.tape
 output:w'.output=w.output
 size:w.heap.size<=w'.heap.size
 block:∀ k,k<w.heap.size->¬ S k->w'.heap[k]?=w.heap[k]?
section
variable {S : Nat -> Prop} {w w' w'' : World}
theorem Fr.refl:Fr S w w:=⟨rfl,rfl,rfl,zN _,fun _ _ _=>rfl⟩
theorem Fr.trans (h:Fr S w w') (k:Fr S w' w''):Fr S w w'' :=
 ⟨k.os.trans h.os,k.tape.trans h.tape,k.output.trans h.output,zR h.size k.size,fun i hi hs=>(k.block i (zY hi h.size) hs).trans (h.block i hi hs)⟩
theorem Fr.trans_new {S':Nat->Prop} (h:Fr S w w') (k:Fr S' w' w'') (hs:∀ i,S' i->S i\/w.heap.size<=i):Fr S w w'' :=
 ⟨k.os.trans h.os,k.tape.trans h.tape,k.output.trans h.output,zR h.size k.size,fun i hi hn=>(k.block i (zY hi h.size) fun h'=>(hs i h').elim hn (fun h2=>by omega)).trans (h.block i hi hn)⟩
theorem Fr.mono {S':Nat->Prop} (h:Fr S w w') (hs:∀ i,S i->S' i\/w.heap.size<=i):Fr S' w w' :=
 ⟨h.os,h.tape,h.output,h.size,fun i hi hn=>h.block i hi fun h'=>(hs i h').elim hn (fun h2=>by omega)⟩
theorem Fr.alloc (h:Fr S w w') (o:Obj):Fr S w (w'.alloc o) :=
 h.trans ⟨rfl,rfl,rfl,by simp,fun k hk _=>Go.heap_alloc_old w' o hk⟩
theorem Fr.drew (h:Fr S w w'):Fr S w w'.drew:=⟨h.os,h.tape,h.output,h.size,h.block⟩
theorem Fr.wr (h:Fr S w w') {b:Nat} (hb:S b\/w.heap.size<=b) (cs:List Value):Fr S w (wr w' b cs) :=
 h.trans_new (S':=fun k=>k=b) ⟨rfl,rfl,rfl,by simp,fun k _ hk=>kD hk⟩ (fun i hi=>by subst hi;exact hb)
theorem Fr.B (h:Fr S w w') {k:Nat} {x:List Value×TypeId} (hk:B w k=some x) (hs:¬ S k):D.B w' k=some x:=by
 have:=h.block k (sA hk) hs;unfold D.B at hk ⊢;rwa[this]
theorem Fr.cell (h:Fr S w w') {a:Addr} {v:Value} (hc:w.cell? a=some v) (hs:¬ S a.block):w'.cell? a=some v:=by
 have hb:=World.block_lt_of_cell? w a hc;exact(World.cell?_of_block (h.block a.block hb hs)).trans hc
theorem Fr.below {n:Nat} (h:Fr S w w') (hn:n<=w.heap.size) (hs:∀ i,S i->n<=i):Go.RowKit.Below n w w' :=
 ⟨h.os,h.tape,h.output,h.size,fun k hk=>h.block k (by omega) fun h'=>by have:=hs k h';omega⟩
end
structure Rd (w:World) (s:Sl) (sz:Nat) (cs:List Value):Prop where
 len:cs.length=s.n*sz
 at_:0<s.n->∃ a,s.p=some a/\∀ j v,cs[j]?=some v->w.cell? (a.add j)=some v
theorem Rd.fr {S : Nat -> Prop} {w w' : World} {s : Sl} {sz : Nat} {cs : List Value} (h : Rd w s sz cs) (hf : Fr S w w') (hs : ∀ a, s.p = some a -> 0 < s.n -> ¬ S a.block) : Rd w' s sz cs :=
  ⟨h.len, fun hn => by
    obtain ⟨a, e, hc⟩ := h.at_ hn
    exact ⟨a, e, fun j v hv => hf.cell (hc j v hv) (by have : (a.add j).block = a.block := by unfold Addr.add; split <;> rfl
                                                       rw [this]; exact hs a e hn)⟩⟩
theorem Rd.nil {w:World} {s:Sl} {sz:Nat} (h:s.n=0):Rd w s sz []:=⟨by simp[h],fun h'=>by omega⟩
theorem Rd.ix {w:World} {s:Sl} {sz:Nat} {cs:List Value} (h:Rd w s sz cs) {i:Nat} (hi:i<s.n):∃ a,ix s i sz=some a/\∀ j v,j<sz->cs[i*sz+j]?=some v->w.cell? (a.add j)=some v:=by
 obtain⟨a,e,hc⟩:=h.at_ (by omega);refine⟨a.add (i*sz),by unfold D.ix;rw[e,aAN,if_pos ⟨by omega,by omega⟩];simp,fun j v hj hv=>?_⟩;have:=hc _ _ hv;have e2:(a.add (i*sz)).add j=a.add (i*sz+j):=by
  unfold Addr.add;split
  .split<;>simp_all
  split
  .simp_all
  rw[if_neg (by omega)];simp[aAL]
 rwa[e2]
def nums (k:IntKind) (xs:List Int):List Value:=xs.map fun x=>.int k x
@[simp] theorem tD {k:IntKind} {xs:List Int}:(nums k xs).length=xs.length:=by simp[nums]
structure ST (P:Program) (t e:TypeId) (sz by_:Nat) (Z:List Value):Prop where
 ht:P.underlying t=some (.slice e)
 hi:∃ (i:TypeInfo) (z:Value),P.info? e=some i/\i.zero=some z/\z.cells=Z.toArray/\i.size=sz/\i.bytes=by_
 hZ:Z.length=sz
 pos:0<sz
 bpos:0<by_
def Sl.blk (s:Sl) (k:Nat):Prop:=∃ a,s.p=some a/\a.block=k
structure Own (w:World) (T:TypeId) (s:Sl) (sz:Nat) (cs:List Value):Prop where
 len:cs.length=s.n*sz
 cap:s.n<=s.c
 max:s.c<=9223372036854775807
 h:(s.p=none/\s.n=0/\s.c=0)\/∃ g rest,s.p=some ⟨g,0,none⟩/\B w g=some (cs++rest,T)/\rest.length=(s.c-s.n)*sz
section
variable {P : Program} {t e T : TypeId} {sz by_ : Nat} {Z : List Value} {w w' : World} {s y : Sl} {cs ys : List Value}
theorem Own.nil:Own w T Sl.nil sz []:=⟨by simp[Sl.nil],zN _,by simp[Sl.nil],.inl ⟨rfl,rfl,rfl⟩⟩
theorem Own.rd (h:Own w T s sz cs):Rd w s sz cs:=⟨h.len,fun hn=>by
 rcases h.h with⟨_,h0,_⟩ | ⟨g,rest,hp,hb,_⟩
 .omega
 refine⟨_,hp,fun j v hv=>?_⟩;rw[aS,iA hb,yX (by simpa using(yP.1 hv).1)];simpa using hv⟩
theorem Own.fr {S:Nat->Prop} (h:Own w T s sz cs) (hf:Fr S w w') (hs:∀ k,s.blk k->¬ S k):Own w' T s sz cs :=
 ⟨h.len,h.cap,h.max,by
  rcases h.h with h0 | ⟨g,rest,hp,hb,hr⟩
  .exact .inl h0
  exact .inr ⟨g,rest,hp,hf.B hb (hs g ⟨_,hp,rfl⟩),hr⟩⟩
theorem Own.lt (h:Own w T s sz cs) {k:Nat} (hk:s.blk k):k<w.heap.size:=by
 obtain⟨a,ha,rfl⟩:=hk;rcases h.h with⟨hp,_⟩ | ⟨g,rest,hp,hb,_⟩
 .rw[hp] at ha;cases ha
 rw[hp] at ha;cases ha;exact sA hb
theorem Own.ty (h:Own w T s sz cs) {k:Nat} (hk:s.blk k):∃ c,B w k=some (c,T):=by
 obtain⟨a,ha,rfl⟩:=hk;rcases h.h with⟨hp,_⟩ | ⟨g,rest,hp,hb,_⟩
 .rw[hp] at ha;cases ha
 rw[hp] at ha;cases ha;exact⟨_,hb⟩
theorem kY (Z:List Value) (n sz:Nat) (hZ:Z.length=sz) (hp:0<sz):(madeCells Z.toArray (n*sz)).toList=(List.replicate n Z).flatten:=by
 apply List.ext_getElem?;intro i;by_cases hi:i<n*sz
 .have h1:(madeCells Z.toArray (n*sz)).toList[i]?=some (Z[i % sz]'(by rw[hZ];exact Nat.mod_lt _ hp)):=by
   simp[madeCells,hi,hZ];rw[yQ (by rw[hZ];exact Nat.mod_lt _ hp)];rfl
  rw[h1];clear h1
  induction n generalizing i with
  | zero=>simp at hi
  | succ n ih =>
   rw[List.replicate_succ,List.flatten_cons];by_cases h2:i<sz
   .rw[yX (by omega),yQ (by omega)];congr 1;congr 1;exact Nat.mod_eq_of_lt h2
   rw[aAa (by omega),show i-Z.length=i-sz by rw[hZ]];have h3:i-sz<n*sz:=by rw[aAx] at hi;omega
   rw[<-ih (i-sz) h3];congr 1;congr 1;exact Nat.mod_eq_sub_mod (by omega)
 rw[aAp (by simp[madeCells];omega),aAp (by simp[hZ];omega)]
theorem uF (st:ST P t e sz by_ Z) {n:Int} (h0:0<=n) (hb:(by_:Int)*n<=281474976710656) :
  mkS P t n n w=some (⟨some ⟨w.heap.size,0,none⟩,n.toNat,n.toNat⟩,w.alloc (.cells ((List.replicate n.toNat Z).flatten).toArray e)):=by
 obtain⟨i,z,hi,hz,hzc,hs,hby⟩:=st.hi;subst hs;subst hby;have hn:n<=281474976710656:=by
  have:(1:Int)*n<=(i.bytes:Int)*n:=aAq (by have:=st.bpos;omega) h0;omega
 have hr:=run_make (P:=P) w t e i z st.ht hi hz .i64 .i64 n n h0 (Int.le_refl _) hb (by omega);unfold mkS;rw[hr];simp only;congr 4;apply Array.ext';rw[hzc,kY Z _ _ st.hZ st.pos]
theorem pT {w:World} {g:Nat} {c cs:List Value} {T:TypeId} (h:B w g=some (c,T)):w.setRow g cs.toArray=wr w g cs:=by
 have hh:=iH.1 h;simp only[World.setRow,wr];congr 1
theorem mK {z:Array Value} {n:Nat}:(Builtin.zeroCells z n).size=n*z.size:=size_zeroCells z n
theorem sE (st:ST P t e sz by_ Z) (h:Own w e s sz cs) (hy:Rd w y sz ys) (h1:∀ v∈ys,v.oneCell'=true) (hb:(s.n+y.n)*by_<=140737488355328) :
  ∃ s' w',apS P t s y w=some (s',w')/\Own w' e s' sz (cs++ys)/\Fr s.blk w w'/\s'.n=s.n+y.n/\(∀ k,s'.blk k->s.blk k\/w.heap.size<=k):=by
 obtain⟨i,z,hi,hz,hzc,hs,hby⟩:=st.hi;subst hs;subst hby;have h63:s.n+y.n<=140737488355328:=zR (Nat.le_mul_of_pos_right _ st.bpos) hb;have hzs:z.cells.size=i.size:=by rw[hzc];simpa using st.hZ
 obtain⟨yp,yn,yc⟩:=y;obtain⟨sp,sn,sc⟩:=s;have hlen:=h.len;have hcap:=h.cap;have hmax:=h.max;have hylen:=hy.len
 simp only at hlen hcap hmax hylen h63 hb;have fits:∀ old,old<sn+yn->Builtin.nextslicecap (sn+yn) old*i.bytes<=281474976710656:=fun old ho=>growslice_fits ho hb
 -- a new block
 have newOwn:∀ (old:Nat) (olds:List Value),olds=cs->Own (w.drew.alloc (.cells (olds.toArray++ys.toArray++Builtin.zeroCells z.cells (grownCap w (sn+yn) old e-(sn+yn))) e)) e
   ⟨some ⟨w.heap.size,0,none⟩,sn+yn,grownCap w (sn+yn) old e⟩ i.size (cs++ys):=by
  intro old olds ho;subst ho;have hge:=grownCap_ge w (sn+yn) old e;have hle:grownCap w (sn+yn) old e<=9223372036854775807:=by
   have:=grownCap_le_maxLen w (sn+yn) old e (by simp[maxLen];omega);simpa[maxLen] using this
  refine⟨by simp[hlen,hylen,Nat.add_mul],hge,hle,.inr ⟨w.heap.size,(Builtin.zeroCells z.cells (grownCap w (sn+yn) old e-(sn+yn))).toList,rfl,?_,by simp[mK,hzs]⟩⟩;rw[iH,show(olds++ys++(Builtin.zeroCells z.cells (grownCap w (sn+yn) old e-(sn+yn))).toList).toArray=olds.toArray++ys.toArray++Builtin.zeroCells z.cells (grownCap w (sn+yn) old e-(sn+yn)) by simp];exact heap_alloc_new w.drew _
 have newFr:∀ (S:Nat->Prop) (o:Obj),Fr S w (w.drew.alloc o):=fun S o=>(Fr.refl.drew).alloc o
 cases yp with
 | none =>
  have hy0:yn=0:=by
   rcases aAB yn with h0 | h0
   .exact h0
   obtain⟨a,ha,_⟩:=hy.at_ h0;cases ha
  subst hy0;have hys:ys=[]:=yZ (by simpa using hylen);subst hys;have hr:(Builtin.append_ #[t,t] t #[.slice sp sn sc,.slice none 0 yc]).run P w = .ok (.slice sp sn sc) w:=by
   cases sp<;>simp[Builtin.append_,run_underlying st.ht,sizeOf,typeInfo,hi,Builtin.lenOf,Builtin.firstCells,hcap,storeCells]
  refine⟨⟨sp,sn,sc⟩,w,by simp[apS,Sl.v,hr],by simpa using h,Fr.refl,by simp,fun k hk=>.inl hk⟩
 | some ya =>
  have hnews:∀ j u,ys[j]?=some u->w.cell? (ya.add j)=some u:=by
   intro j u hu;have hn:0<yn:=by
    have:=(yP.1 hu).1;rcases aAB yn with h0 | h0
    .rw[h0] at hylen;omega
    exact h0
   obtain⟨a,ha,hc⟩:=hy.at_ hn;cases ha;exact hc j u hu
  rcases h.h with⟨hp,h0,hc0⟩ | ⟨g,rest,hp,hB,hrest⟩
  .simp only at hp h0 hc0;subst hp;subst h0;subst hc0;have hcs:cs=[]:=yZ (by simpa using hlen);subst hcs;rcases aAB yn with hy0 | hy0
   .subst hy0;have hys:ys=[]:=yZ (by simpa using hylen);subst hys;have hr:(Builtin.append_ #[t,t] t #[.slice none 0 0,.slice (some ya) 0 yc]).run P w = .ok (.slice none 0 0) w:=by
     simp[Builtin.append_,run_underlying st.ht,sizeOf,typeInfo,hi,Builtin.lenOf,Builtin.firstCells,loadCells,loadCellsFrom]
    exact⟨⟨none,0,0⟩,w,by simp[apS,Sl.v,hr],by simpa using h,Fr.refl,by simp,fun k hk=>.inl hk⟩
   have hr:=run_append_nil (P:=P) w t t e i z st.ht hi hz ya yn yc ys hylen hnews hy0 (by omega) (by simp only[aAO] at hb;omega);have no:=newOwn 0 [] rfl;simp only[aAO,Array.empty_append] at no ⊢;refine⟨⟨some ⟨w.heap.size,0,none⟩,yn,grownCap w yn 0 e⟩,w.drew.alloc (.cells (ys.toArray++Builtin.zeroCells z.cells (grownCap w yn 0 e-yn)) e),by simp only[apS,Sl.v,hr],by simpa using no,newFr _ _,rfl,fun k hk=>?_⟩;obtain⟨a,ha,rfl⟩:=hk;cases ha;right;simp
  simp only at hp hrest;subst hp;by_cases hroom:sn+yn<=sc
  .have hr:=run_append_room (P:=P) w t t e i st.ht hi g sn sc (cs++rest).toArray (iH.1 hB) ya yn yc ys hylen hnews h1 hroom (by simp[hlen,hrest,hylen];rw[Nat.sub_mul];have:=aAt i.size hroom;have:=aAt i.size hcap;rw[Nat.add_mul] at *;omega);have e1:((cs++rest).toArray.toList.take (sn*i.size)++ys++(cs++rest).toArray.toList.drop (sn*i.size+ys.length))=(cs++ys)++rest.drop ys.length:=by
    simp only[<-hlen];simp
   rw[e1,pT hB] at hr;refine⟨⟨some ⟨g,0,none⟩,sn+yn,sc⟩,wr w g (cs++ys++rest.drop ys.length),by simp only[apS,Sl.v,hr],⟨by simp[hlen,hylen,Nat.add_mul],hroom,hmax,.inr ⟨g,rest.drop ys.length,rfl,by rw[qP hB],by simp[hrest,hylen,<-Nat.sub_mul];congr 1;omega⟩⟩,(Fr.refl).wr (.inl ⟨_,rfl,rfl⟩) _,rfl,fun k hk=>.inl hk⟩
  have holds:∀ j u,cs[j]?=some u->w.cell? ((⟨g,0,none⟩:Addr).add j)=some u:=by
   intro j u hu;rw[aS,iA hB,aAO,yX (yP.1 hu).1];exact hu
  have hr:=run_append_grow (P:=P) w t t e i z st.ht hi hz ⟨g,0,none⟩ sn sc cs hlen holds ya yn yc ys hylen hnews (by omega) (by omega) (fits sc (by omega));refine⟨⟨some ⟨w.heap.size,0,none⟩,sn+yn,grownCap w (sn+yn) sc e⟩,w.drew.alloc (.cells (cs.toArray++ys.toArray++Builtin.zeroCells z.cells (grownCap w (sn+yn) sc e-(sn+yn))) e),by simp only[apS,Sl.v,hr],newOwn sc cs rfl,newFr _ _,rfl,fun k hk=>?_⟩;obtain⟨a,ha,rfl⟩:=hk;cases ha;right;simp
end
structure Fz (n:Nat) (S:Nat->Prop) (w w':World):Prop where
 os:w'.os=w.os
 tape:w'.tape=w.tape
 output:w'.output=w.output
 size:w.heap.size<=w'.heap.size
 block:∀ k,k<n->¬ S k->w'.heap[k]?=w.heap[k]?
section
variable {n b o : Nat} {S : Nat -> Prop} {w w' w'' : World} {cs : List Value} {T : TypeId}
theorem Fz.refl:Fz n S w w:=⟨rfl,rfl,rfl,zN _,fun _ _ _=>rfl⟩
theorem Fz.trans (h:Fz n S w w') (k:Fz n S w' w''):Fz n S w w'' :=
 ⟨k.os.trans h.os,k.tape.trans h.tape,k.output.trans h.output,zR h.size k.size,fun i hi hs=>(k.block i hi hs).trans (h.block i hi hs)⟩
theorem Fz.fr (h:Fz w.heap.size S w w'):Fr S w w':=⟨h.os,h.tape,h.output,h.size,h.block⟩
theorem Fr.fz {S':Nat->Prop} (h:Fr S' w w') (hn:n<=w.heap.size) (hs:∀ k,S' k->S k\/n<=k):Fz n S w w' :=
 ⟨h.os,h.tape,h.output,h.size,fun k hk hS=>h.block k (by omega) fun h'=>(hs k h').elim hS (fun h2=>by omega)⟩
theorem Fz.B (h:Fz n S w w') {k:Nat} {x:List Value×TypeId} (hk:B w k=some x) (hn:k<n) (hs:¬ S k):D.B w' k=some x:=by
 have:=h.block k hn hs;unfold D.B at hk ⊢;rwa[this]
theorem Fz.mono {S':Nat->Prop} {m:Nat} (h:Fz n S w w') (hs:∀ i,i<m->S i->S' i) (hm:m<=n):Fz m S' w w' :=
 ⟨h.os,h.tape,h.output,h.size,fun i hi hn=>h.block i (by omega) fun h'=>hn (hs i hi h')⟩
structure One (b:Nat) (w w':World):Prop where
 os:w'.os=w.os
 tape:w'.tape=w.tape
 output:w'.output=w.output
 size:w'.heap.size=w.heap.size
 block:∀ k,k≠b->w'.heap[k]?=w.heap[k]?
theorem One.fz (h:One b w w') (hb:S b\/n<=b):Fz n S w w' :=
 ⟨h.os,h.tape,h.output,Nat.le_of_eq h.size.symm,fun k hk hs=>h.block k fun e=>by subst e;exact hb.elim hs (fun h2=>by omega)⟩
theorem One.fr (h:One b w w') (hb:S b):Fr S w w':=⟨h.os,h.tape,h.output,Nat.le_of_eq h.size.symm,fun k hk hs=>h.block k fun e=>by subst e;exact hs hb⟩
theorem One.B (h:One b w w') {k:Nat} (hk:k≠b):D.B w' k=D.B w k:=by unfold D.B;rw[h.block k hk]
theorem One.wr (w:World) (b:Nat) (cs:List Value):One b w (wr w b cs):=⟨rfl,rfl,rfl,by simp,fun k hk=>kD hk⟩
theorem One.own {e:TypeId} {s:Sl} {sz:Nat} (h:One b w w') (ho:Own w e s sz cs) (hb:¬ s.blk b):Own w' e s sz cs :=
 ho.fr (S:=fun k=>k=b) (h.fr rfl) (fun k hk e=>hb (e ▸ hk))
theorem uV {x:Obj}:Fr S w (w.alloc x):=Fr.refl.alloc x
structure New (w w':World) (cs:List Value) (T:TypeId):Prop where
 b:B w' w.heap.size=some (cs,T)
 fr:∀ (n:Nat) (S:Nat->Prop),n<=w.heap.size->Fz n S w w'
 size:w'.heap.size=w.heap.size+1
 old:∀ k,k<w.heap.size->B w' k=B w k
theorem mU:New w (w.alloc (.cells cs.toArray T)) cs T :=
 ⟨tA,fun n S hn=>(uV (S:=S)).fz hn (fun _ h=>.inl h),by simp,fun k hk=>sM hk⟩
theorem wA {sz:Nat} {ps:List (List Value)} (h:∀ p∈ps,p.length=sz):∃ w',bsl w T sz ps=some (⟨some ⟨w.heap.size,0,none⟩,ps.length,ps.length⟩,w')/\New w w' ps.flatten T:=by
 refine⟨_,?_,mU⟩;unfold bsl;rw[if_pos (by simpa using h)]
theorem vK {P:Program} {t e:TypeId} {sz by_:Nat} {Z:List Value} (st:ST P t e sz by_ Z) {m:Int} (h0:0<=m) (hb:(by_:Int)*m<=281474976710656) :
  ∃ w',mkS P t m m w=some (⟨some ⟨w.heap.size,0,none⟩,m.toNat,m.toNat⟩,w')/\New w w' (List.replicate m.toNat Z).flatten e:=⟨_,uF st h0 hb,mU⟩
theorem Own.of_new {e:TypeId} {sz:Nat} {m:Nat} (h:New w w' cs e) (hl:cs.length=m*sz) (hm:m<=9223372036854775807):Own w' e ⟨some ⟨w.heap.size,0,none⟩,m,m⟩ sz cs :=
 ⟨hl,zN _,hm,.inr ⟨_,[],rfl,by simpa using h.b,by simp⟩⟩
end
theorem nJ {α:Type} {f:α->List Value} {sz:Nat} (l:List α) (h:∀ x∈l,(f x).length=sz):(l.flatMap f).length=l.length*sz:=by
 induction l with
 | nil=>simp
 | cons x l ih =>
  simp only[List.flatMap_cons,zX,zH];rw[h x (by simp),ih (fun y hy=>h y (by simp[hy])),aAx];omega
section
variable {w w' : World} {n : Nat} {F : Nat -> Prop}
def Out (F:Nat->Prop) (s:Sl):Prop:=∀ a,s.p=some a->0<s.n->¬ F a.block
theorem Out.nil:Out F Sl.nil:=fun a ha=>by cases ha
structure Arg (n:Nat) (w:World) (s:Sl) (sz:Nat) (cs:List Value):Prop where
 rd:Rd w s sz cs
 lo:∀ a,s.p=some a->0<s.n->a.block<n
theorem Arg.fr {s:Sl} {sz:Nat} {cs:List Value} (h:Arg n w s sz cs) (hf:Fr (fun k=>n<=k) w w'):Arg n w' s sz cs :=
 ⟨h.rd.fr hf (fun a ha h0=>by have:=h.lo a ha h0;omega),h.lo⟩
end
theorem kP (a:Addr) (i j:Nat):(a.add i).add j=a.add (i+j):=by
 unfold Addr.add;by_cases hi:i=0<;>by_cases hj:j=0<;>simp[hi,hj,aAL]
theorem sN {w:World} {a:Addr} {v:Value} (h:w.cell? a=some v):a.block<w.heap.size:=by
 rcases aAH a.block w.heap.size with h' | h'
 .exact h'
 simp[World.cell?,Array.getElem?_eq_none h'] at h
abbrev Gh:=Nat->Prop
structure Mo (g:Gh) (w:World) (g':Gh) (w':World):Prop where
 size:w.heap.size<=w'.heap.size
 keep:∀ k,g k->g' k/\w'.heap[k]?=w.heap[k]?
theorem Mo.r {g:Gh} {w:World}:Mo g w g w:=⟨zN _,fun k h=>⟨h,rfl⟩⟩
theorem Mo.t {g g' g'':Gh} {w w' w'':World} (h:Mo g w g' w') (k:Mo g' w' g'' w''):Mo g w g'' w'' :=
 ⟨zR h.size k.size,fun i hi=>⟨(k.keep i (h.keep i hi).1).1,(k.keep i (h.keep i hi).1).2.trans (h.keep i hi).2⟩⟩
theorem Mo.cell {g g':Gh} {w w':World} (h:Mo g w g' w') {a:Addr} {v:Value} (hg:g a.block) (hc:w.cell? a=some v):w'.cell? a=some v :=
 (World.cell?_of_block (h.keep _ hg).2).trans hc
structure Rs where
 h:Gh->World->(Nat->Prop)->Prop
 st:∀ {g:Gh} {w:World} {F:Nat->Prop} {g':Gh} {w':World},h g w F->Mo g w g' w'->(∀ k,F k->w'.heap[k]?=w.heap[k]?)->h g' w' F
 lt:∀ {g:Gh} {w:World} {F:Nat->Prop} {k:Nat},h g w F->F k->k<w.heap.size
structure Sp (F:Nat->Prop) (g:Gh) (w:World) (g':Gh) (w':World):Prop where
 fr:Fr F w w'
 gh:∀ k,k<w.heap.size->¬ F k->(g' k↔g k)
 mo:Mo g w g' w'
 lt:∀ k,g' k->k<w'.heap.size
abbrev Nw (g:Gh) (w:World) (g':Gh) (w':World):Prop:=Sp (fun _=>False) g w g' w'
def Sep (g:Gh) (w:World):(Nat->Prop)->List Rs->Prop
 | _,[]=>True
 | A,r::L=>∃ F:Nat->Prop,r.h g w F/\(∀ k,F k->A k/\¬ g k)/\Sep g w (fun k=>A k/\¬ F k) L
structure Hp (F0:Nat->Prop) (g0:Gh) (w0:World) (g:Gh) (w:World) (L:List Rs):Prop where
 sp:Sp F0 g0 w0 g w
 sep:Sep g w (fun k=>F0 k\/w0.heap.size<=k) L
section
variable {F F' F0 A A' : Nat -> Prop} {g g' g'' g0 : Gh} {w w' w'' w0 : World} {L : List Rs} {r r' s q u v : Rs}
theorem Sp.rfl' (h:∀ k,g k->k<w.heap.size):Sp F g w g w:=⟨Fr.refl,fun _ _ _=>Iff.rfl,Mo.r,h⟩
theorem Sp.t (h : Sp F g w g' w') (k : Sp F' g' w' g'' w'') (hF : ∀ i, i < w.heap.size -> F' i -> F i) : Sp F g w g'' w'' :=
  ⟨h.fr.trans_new k.fr (fun i hi => (aAH i w.heap.size).elim (fun hl => .inl (hF i hl hi)) .inr),
   fun i hi hn => (k.gh i (zY hi h.fr.size) (fun h' => hn (hF i hi h'))).trans (h.gh i hi hn), h.mo.t k.mo, k.lt⟩
theorem Nw.t (h:Nw g w g' w') (k:Nw g' w' g'' w''):Nw g w g'' w'':=Sp.t h k (fun _ _ h=>h)
theorem Sp.size (h:Sp F g w g' w'):w.heap.size<=w'.heap.size:=h.fr.size
theorem Sep.mono:∀ {L:List Rs} {A A':Nat->Prop},Sep g w A L->(∀ k,k<w.heap.size->A k->A' k)->Sep g w A' L
 | [],_,_,_,_=>trivial
 | r::L,A,A',⟨F,h,hF,hL⟩,hA=>⟨F,h,fun k hk=>⟨hA k (r.lt h hk) (hF k hk).1,(hF k hk).2⟩,hL.mono fun k hk h=>⟨hA k hk h.1,h.2⟩⟩
theorem Sep.step:∀ {L:List Rs} {A A':Nat->Prop},Sep g w A L->Mo g w g' w'->(∀ k,k<w.heap.size->A k->w'.heap[k]?=w.heap[k]?/\(g' k->g k)/\A' k)->Sep g' w' A' L
 | [],_,_,_,_,_=>trivial
 | r::L,A,A',⟨F,h,hF,hL⟩,m,hA =>
  ⟨F,r.st h m (fun k hk=>(hA k (r.lt h hk) (hF k hk).1).1),fun k hk=>⟨(hA k (r.lt h hk) (hF k hk).1).2.2,fun hg=>(hF k hk).2 ((hA k (r.lt h hk) (hF k hk).1).2.1 hg)⟩,
   hL.step m fun k hk h=>⟨(hA k hk h.1).1,(hA k hk h.1).2.1,(hA k hk h.1).2.2,h.2⟩⟩
theorem Sep.sw (h:Sep g w A (r::s::L)):Sep g w A (s::r::L):=by
 obtain⟨F,h1,h2,F',h3,h4,h5⟩:=h;exact⟨F',h3,fun k hk=>⟨(h4 k hk).1.1,(h4 k hk).2⟩,F,h1,fun k hk=>⟨⟨(h2 k hk).1,fun h'=>(h4 k h').1.2 hk⟩,(h2 k hk).2⟩,h5.mono fun k _ h=>⟨⟨h.1.1,h.2⟩,h.1.2⟩⟩
theorem Sep.tl (h:Sep g w A (r::L)):Sep g w A L:=by
 obtain⟨F,h1,h2,h3⟩:=h;exact h3.mono fun k _ h=>h.1
theorem Sep.sub (h:Sep g w A (r::L)) (k:∀ A,Sep g w A L->Sep g w A' []):True:=trivial
theorem Sep.cons (h:Sep g w A (r::L)) {L':List Rs} (k:∀ A,Sep g w A L->Sep g w A L'):Sep g w A (r::L'):=by
 obtain⟨F,h1,h2,h3⟩:=h;exact⟨F,h1,h2,k _ h3⟩
theorem Hp.lt (H:Hp F0 g0 w0 g w L):∀ k,g k->k<w.heap.size:=H.sp.lt
theorem Hp.tl (H:Hp F0 g0 w0 g w (r::L)):Hp F0 g0 w0 g w L:=⟨H.sp,H.sep.tl⟩
theorem Hp.sw (H:Hp F0 g0 w0 g w (r::s::L)):Hp F0 g0 w0 g w (s::r::L):=⟨H.sp,H.sep.sw⟩
theorem Hp.m2 (H:Hp F0 g0 w0 g w (r::s::q::L)):Hp F0 g0 w0 g w (q::r::s::L):=⟨H.sp,(H.sep.cons fun _ h=>h.sw).sw⟩
theorem Hp.m3 (H:Hp F0 g0 w0 g w (r::s::q::u::L)):Hp F0 g0 w0 g w (u::r::s::q::L):=⟨H.sp,((H.sep.cons fun _ h=>(h.cons fun _ h=>h.sw).sw).sw)⟩
theorem Hp.m4 (H:Hp F0 g0 w0 g w (r::s::q::u::v::L)):Hp F0 g0 w0 g w (v::r::s::q::u::L) :=
 ⟨H.sp,((H.sep.cons fun _ h=>(h.cons fun _ h=>(h.cons fun _ h=>h.sw).sw).sw).sw)⟩
theorem Hp.b2 (H:Hp F0 g0 w0 g w (q::r::s::L)):Hp F0 g0 w0 g w (r::s::q::L):=⟨H.sp,H.sep.sw.cons fun _ h=>h.sw⟩
theorem Hp.b3 (H:Hp F0 g0 w0 g w (u::r::s::q::L)):Hp F0 g0 w0 g w (r::s::q::u::L):=⟨H.sp,H.sep.sw.cons fun _ h=>h.sw.cons fun _ h=>h.sw⟩
theorem Hp.b4 (H:Hp F0 g0 w0 g w (v::r::s::q::u::L)):Hp F0 g0 w0 g w (r::s::q::u::v::L) :=
 ⟨H.sp,H.sep.sw.cons fun _ h=>h.sw.cons fun _ h=>h.sw.cons fun _ h=>h.sw⟩
theorem Hp.hd (H:Hp F0 g0 w0 g w (r::L)):∃ F,r.h g w F:=by obtain⟨F,h,_⟩:=H.sep;exact⟨F,h⟩
theorem Hp.beg (h:∀ k,g k->k<w.heap.size):Hp F0 g w g w []:=⟨Sp.rfl' h,trivial⟩
theorem Hp.nw (H:Hp F0 g0 w0 g w L) (n:Nw g w g' w'):Hp F0 g0 w0 g' w' L :=
 ⟨H.sp.t n (fun _ _ h=>h.elim),H.sep.step n.mo fun k hk hA=>⟨n.fr.block k hk id,fun hg=>(n.gh k hk id).1 hg,hA⟩⟩
theorem Hp.up (H:Hp F0 g0 w0 g w (r::L)) {Ψ:Gh->World->Prop} (f:∀ F,r.h g w F->(∀ k,F k->¬ g k)->∃ g' w' F',Ψ g' w'/\r'.h g' w' F'/\Sp F g w g' w'/\∀ k,F' k->¬ g' k/\(F k\/w.heap.size<=k)) :
  ∃ g' w',Ψ g' w'/\Hp F0 g0 w0 g' w' (r'::L)/\Mo g w g' w':=by
 obtain⟨F,h,hF,hL⟩:=H.sep;obtain⟨g',w',F',h1,h2,h3,h4⟩:=f F h (fun k hk=>(hF k hk).2);refine⟨g',w',h1,⟨H.sp.t h3 (fun i hi hf=>(hF i hf).1.elim id (fun h=>by omega)),F',h2,fun k hk=>⟨?_,(h4 k hk).1⟩,?_⟩,h3.mo⟩
 .exact(h4 k hk).2.elim (fun h=>(hF k h).1) (fun h=>.inr (zR H.sp.size h))
 exact hL.step h3.mo fun k hk hA=>⟨h3.fr.block k hk hA.2,(h3.gh k hk hA.2).1,hA.1,fun hk'=>(h4 k hk').2.elim hA.2 (fun h=>by omega)⟩
theorem Hp.add (H:Hp F0 g0 w0 g w L) (n:Nw g w g' w') (h:r.h g' w' F) (hF:∀ k,F k->¬ g' k/\w.heap.size<=k):Hp F0 g0 w0 g' w' (r::L) :=
 ⟨(H.nw n).sp,F,h,fun k hk=>⟨.inr (zR H.sp.size (hF k hk).2),(hF k hk).1⟩,H.sep.step n.mo fun k hk hA=>⟨n.fr.block k hk id,(n.gh k hk id).1,hA,fun hk'=>by have:=(hF k hk').2;omega⟩⟩
theorem Hp.keep (H:Hp F0 g0 w0 g w (r::L)):∃ (g':Gh) (F:Nat->Prop),r.h g' w F/\(∀ k,F k->g' k)/\Hp F0 g0 w0 g' w L/\Mo g w g' w:=by
 obtain⟨F,h,hF,hL⟩:=H.sep;have m:Mo g w (fun k=>g k\/F k) w:=⟨zN _,fun k hk=>⟨.inl hk,rfl⟩⟩;refine⟨fun k=>g k\/F k,F,r.st h m (fun _ _=>rfl),fun k hk=>.inr hk,⟨⟨H.sp.fr,fun k hk hn=>?_,H.sp.mo.t m,fun k hk=>hk.elim (H.lt k) (r.lt h)⟩,?_⟩,m⟩
 .rw[<-H.sp.gh k hk hn];exact⟨fun h=>h.elim id (fun h=>((hF k h).1.elim hn (fun h=>by omega)).elim),.inl⟩
 exact hL.step m fun k hk hA=>⟨rfl,fun h=>h.elim id (fun h=>(hA.2 h).elim),hA.1⟩
theorem pE (h:∀ k,g k->k<w.heap.size):Nw g w g w.drew:=⟨Fr.refl.drew,fun _ _ _=>Iff.rfl,⟨zN _,fun k h=>⟨h,rfl⟩⟩,h⟩
theorem kS (h:∀ k,g k->k<w.heap.size) (o:Obj):Nw g w g (w.alloc o) :=
 ⟨Fr.refl.alloc o,fun _ _ _=>Iff.rfl,⟨by simp,fun k hk=>⟨hk,Go.heap_alloc_old w o (h k hk)⟩⟩,fun k hk=>by have:=h k hk;simp;omega⟩
theorem Hp.dr (H:Hp F0 g0 w0 g w L):∃ w',dr w=some w'/\Hp F0 g0 w0 g w' L/\Mo g w g w':=⟨_,rfl,H.nw (pE H.lt),(pE H.lt).mo⟩
theorem tR (h:∀ k,g k->k<w.heap.size) (f:∀ S,Fr S w w'):Nw g w g w' :=
 ⟨f _,fun _ _ _=>Iff.rfl,⟨(f (fun _=>False)).size,fun k hk=>⟨hk,(f (fun _=>False)).block k (h k hk) id⟩⟩,fun k hk=>zY (h k hk) (f (fun _=>False)).size⟩
theorem Hp.old (H:Hp F0 g0 w0 g w L) (f:∀ S,Fr S w w'):Hp F0 g0 w0 g w' L:=H.nw (tR H.lt f)
end
def bxR (b:Nat) (cs:List Value) (T:TypeId):Rs where
 h g w F:=B w b=some (cs,T)/\∀ k,F k↔k=b
 st h m hk:=⟨by have:=hk _ ((h.2 _).2 rfl);unfold B at h ⊢;rw[this];exact h.1,h.2⟩
 lt h hk:=by have:=(h.2 _).1 hk;subst this;exact sA h.1
def owR (T:TypeId) (sz:Nat) (s:Sl) (cs:List Value):Rs where
 h g w F:=Own w T s sz cs/\∀ k,F k↔s.blk k
 st h m hk:=⟨⟨h.1.len,h.1.cap,h.1.max,h.1.h.elim .inl fun ⟨b,rest,hp,hb,hr⟩=>.inr ⟨b,rest,hp,by have:=hk b ((h.2 _).2 ⟨_,hp,rfl⟩);unfold B at hb ⊢;rw[this];exact hb,hr⟩⟩,h.2⟩
 lt h hk:=h.1.lt ((h.2 _).1 hk)
section
variable {F F' F0 A A' : Nat -> Prop} {g g' g'' g0 : Gh} {w w' w'' w0 : World} {L : List Rs} {r r' s q u v : Rs} {b : Nat} {cs ys : List Value} {T : TypeId} {sz : Nat} {z y : Sl}
theorem Hp.box (H:Hp F0 g0 w0 g w L):∃ b w',D.mk w T cs=some (⟨b,0,none⟩,w')/\Hp F0 g0 w0 g w' (bxR b cs T::L)/\Mo g w g w' :=
 ⟨_,_,rfl,H.add (kS H.lt _) (F:=fun k=>k=w.heap.size) ⟨tA,fun _=>Iff.rfl⟩ (fun k hk=>⟨fun hg=>by have:=H.lt k hg;omega,by omega⟩),(kS H.lt _).mo⟩
theorem Hp.bx (H:Hp F0 g0 w0 g w (bxR b cs T::L)):B w b=some (cs,T):=by obtain⟨F,h⟩:=H.hd;exact h.1
theorem Hp.ow (H:Hp F0 g0 w0 g w (owR T sz z cs::L)):Own w T z sz cs:=by obtain⟨F,h⟩:=H.hd;exact h.1
theorem qL {c:List Value} (h:B w b=some (c,T)) (hg:¬ g b) (hF:F b) (hl:∀ k,g k->k<w.heap.size):Sp F g w g (wr w b cs) :=
 ⟨Fr.refl.wr (.inl hF) _,fun _ _ _=>Iff.rfl,⟨by simp,fun k hk=>⟨hk,kD (fun e=>hg (e ▸ hk))⟩⟩,fun k hk=>by have:=hl k hk;simpa using this⟩
theorem Hp.stV (H:Hp F0 g0 w0 g w (bxR b cs T::L)) {o:Nat} {x:Value} (ho:o<cs.length) (hx:x.oneCell'=true):∃ w',stV w ⟨b,o,none⟩ x=some w'/\Hp F0 g0 w0 g w' (bxR b (cs.set o x) T::L)/\Mo g w g w':=by
 have hb:=H.bx;obtain⟨g',w',⟨rfl,e⟩,h2,m⟩:=H.up (r':=bxR b (cs.set o x) T) (Ψ:=fun g' w'=>g'=g/\D.stV w ⟨b,o,none⟩ x=some w') fun F h hF =>
  ⟨g,_,F,⟨rfl,qI hb ho hx⟩,⟨qP hb,h.2⟩,qL hb (hF _ ((h.2 _).2 rfl)) ((h.2 _).2 rfl) H.lt,fun k hk=>⟨hF k hk,.inl hk⟩⟩
 exact⟨w',e,h2,m⟩
theorem Hp.stA (H:Hp F0 g0 w0 g w (bxR b cs T::L)) {o:Nat} {vs:List Value} (ho:o+vs.length<=cs.length) (hx:∀ v∈vs,v.oneCell'=true):∃ w',stA w ⟨b,o,none⟩ 0 vs=some w'/\Hp F0 g0 w0 g w' (bxR b (nP cs o vs) T::L)/\Mo g w g w':=by
 have hb:=H.bx;obtain⟨g',w',⟨rfl,e⟩,h2,m⟩:=H.up (r':=bxR b (nP cs o vs) T) (Ψ:=fun g' w'=>g'=g/\D.stA w ⟨b,o,none⟩ 0 vs=some w') fun F h hF =>
  ⟨g,_,F,⟨rfl,tG vs 0 w cs hb (by omega) hx⟩,⟨qP hb,h.2⟩,qL hb (hF _ ((h.2 _).2 rfl)) ((h.2 _).2 rfl) H.lt,fun k hk=>⟨hF k hk,.inl hk⟩⟩
 exact⟨w',e,by simpa using h2,m⟩
structure PR (g:Gh) (w:World) (s:Sl) (sz:Nat) (cs:List Value):Prop where
 rd:Rd w s sz cs
 per:∀ a,s.p=some a->0<s.n->g a.block
theorem PR.mo (h:PR g w z sz cs) (m:Mo g w g' w'):PR g' w' z sz cs :=
 ⟨⟨h.rd.len,fun hn=>by
  obtain⟨a,e,hc⟩:=h.rd.at_ hn;have hb:∀ j,(a.add j).block=a.block:=fun j=>by unfold Addr.add;split<;>rfl
  exact⟨a,e,fun j v hv=>m.cell (by rw[hb];exact h.per a e hn) (hc j v hv)⟩⟩,fun a e hn=>(m.keep _ (h.per a e hn)).1⟩
theorem PR.nil (h:z.n=0):PR g w z sz []:=⟨Rd.nil h,fun a e hn=>by omega⟩
theorem Hp.keepO (H:Hp F0 g0 w0 g w (owR T sz z cs::L)):∃ g':Gh,PR g' w z sz cs/\Hp F0 g0 w0 g' w L/\Mo g w g' w:=by
 obtain⟨g',F,h1,h2,h3,h4⟩:=H.keep;exact⟨g',⟨h1.1.rd,fun a e hn=>h2 _ ((h1.2 _).2 ⟨a,e,rfl⟩)⟩,h3,h4⟩
theorem Hp.onil (H:Hp F0 g0 w0 g w L):Hp F0 g0 w0 g w (owR T sz Sl.nil []::L) :=
 H.add (Sp.rfl' H.lt) (F:=fun _=>False) ⟨Own.nil,fun k=>⟨fun h=>h.elim,fun ⟨a,ha,_⟩=>by cases ha⟩⟩ (fun k hk=>hk.elim)
variable {P : Program} {t' e : TypeId} {by_ : Nat} {Z : List Value}
theorem uZ (h:Own w T z sz cs) (hF:∀ k,F k↔z.blk k) (hn:∀ k,F k->¬ g k) (hl:∀ k,g k->k<w.heap.size) (f:Fr z.blk w w'):Sp F g w g w' :=
 ⟨f.mono fun i hi=>.inl ((hF i).2 hi),fun _ _ _=>Iff.rfl,⟨f.size,fun k hk=>⟨hk,f.block k (hl k hk) (fun hb=>hn k ((hF k).2 hb) hk)⟩⟩,fun k hk=>zY (hl k hk) f.size⟩
theorem Hp.apS (st:ST P t' e sz by_ Z) (H:Hp F0 g0 w0 g w (owR e sz z cs::L)) (hy:Rd w y sz ys) (h1:∀ v∈ys,v.oneCell'=true) (hb:(z.n+y.n)*by_<=140737488355328) :
  ∃ z' w',apS P t' z y w=some (z',w')/\z'.n=z.n+y.n/\Hp F0 g0 w0 g w' (owR e sz z' (cs++ys)::L)/\Mo g w g w':=by
 have ho:=H.ow;obtain⟨z',w',e1,o1,f1,n1,k1⟩:=sE st ho hy h1 hb;obtain⟨g',w'',⟨rfl,rfl⟩,h2,m⟩:=H.up (r':=owR e sz z' (cs++ys)) (Ψ:=fun g' w''=>g'=g/\w''=w') fun F h hF =>
  ⟨g,w',z'.blk,⟨rfl,rfl⟩,⟨o1,fun _=>Iff.rfl⟩,uZ ho h.2 hF H.lt f1,fun k hk=>(k1 k hk).elim (fun h'=>⟨hF k ((h.2 k).2 h'),.inl ((h.2 k).2 h')⟩) (fun h'=>⟨fun hg=>by have:=H.lt k hg;omega,.inr h'⟩)⟩
 exact⟨z',w'',e1,n1,h2,m⟩
theorem Hp.new (H:Hp F0 g0 w0 g w L) {m:Nat} (h:New w w' cs e) (hl:cs.length=m*sz) (hm:m<=9223372036854775807) :
  Hp F0 g0 w0 g w' (owR e sz ⟨some ⟨w.heap.size,0,none⟩,m,m⟩ cs::L)/\Mo g w g w':=by
 have n:=tR H.lt (fun S=>(h.fr _ S (zN _)).fr);refine⟨H.add n (F:=fun k=>k=w.heap.size) ⟨Own.of_new h hl hm,fun k=>⟨fun hk=>⟨_,rfl,hk.symm⟩,fun ⟨a,ha,hk⟩=>by cases ha;exact hk.symm⟩⟩ (fun k hk=>⟨fun hg=>by have:=H.lt k hg;omega,by omega⟩),n.mo⟩
theorem Hp.bsl (H:Hp F0 g0 w0 g w L) {ps:List (List Value)} (h:∀ p∈ps,p.length=sz) (hm:ps.length<=9223372036854775807) :
  ∃ z w',bsl w T sz ps=some (z,w')/\z.n=ps.length/\z.c=ps.length/\Hp F0 g0 w0 g w' (owR T sz z ps.flatten::L)/\Mo g w g w':=by
 obtain⟨w',e,n⟩:=wA (w:=w) (T:=T) h;have hl:ps.flatten.length=ps.length*sz:=by
  have:=nJ (f:=fun c:List Value=>c) ps h;rwa[List.flatMap_id'] at this
 obtain⟨h1,h2⟩:=H.new n hl hm;exact⟨_,w',e,rfl,rfl,h1,h2⟩
theorem Hp.mkS (st:ST P t' e sz by_ Z) (H:Hp F0 g0 w0 g w L) {m:Int} (h0:0<=m) (hb:(by_:Int)*m<=281474976710656) :
  ∃ z w',mkS P t' m m w=some (z,w')/\z.n=m.toNat/\z.c=m.toNat/\Hp F0 g0 w0 g w' (owR e sz z (List.replicate m.toNat Z).flatten::L)/\Mo g w g w':=by
 obtain⟨w',e1,n⟩:=vK (w:=w) st h0 hb;have hl:(List.replicate m.toNat Z).flatten.length=m.toNat*sz:=by
  have:=nJ (f:=fun c:List Value=>c) (sz:=sz) (List.replicate m.toNat Z) (fun x hx=>by rw[(List.mem_replicate.1 hx).2];exact st.hZ);rw[List.flatMap_id',List.length_replicate] at this;exact this
 have hm:m.toNat<=9223372036854775807:=by
  have hp:=st.bpos;have:(1:Int)*m<=(by_:Int)*m:=aAq (by omega) h0;omega
 obtain⟨h1,h2⟩:=H.new n hl hm;exact⟨_,w',e1,rfl,rfl,h1,h2⟩
theorem Own.at_ (h:Own w T z sz cs) (hn:0<z.n):∃ b rest,z.p=some ⟨b,0,none⟩/\B w b=some (cs++rest,T)/\rest.length=(z.c-z.n)*sz:=by
 rcases h.h with⟨_,h0,_⟩ | h
 .omega
 exact h
theorem Hp.oset (H:Hp F0 g0 w0 g w (owR T sz z cs::L)) {b o:Nat} (hp:z.p=some ⟨b,0,none⟩) (hn:0<z.n) {x:Value} (ho:o<cs.length) (hx:x.oneCell'=true) :
  ∃ w',D.stV w ⟨b,o,none⟩ x=some w'/\Hp F0 g0 w0 g w' (owR T sz z (cs.set o x)::L)/\Mo g w g w':=by
 have h0:=H.ow;obtain⟨b',rest,hp',hB,hr⟩:=h0.at_ hn;rw[hp] at hp';cases hp';have e1:=qI (o:=o) (v:=x) hB (by rw[zX];omega) hx;rw[aAu _ _ ho] at e1;have hB':=qP (cs:=cs.set o x++rest) hB;obtain⟨g',w'',⟨rfl,rfl⟩,h2,m⟩:=H.up (r':=owR T sz z (cs.set o x)) (Ψ:=fun g' w''=>g'=g/\w''=wr w b (cs.set o x++rest)) fun F h hF =>
  ⟨g,_,F,⟨rfl,rfl⟩,⟨⟨by simpa using h0.len,h0.cap,h0.max,.inr ⟨b,rest,hp,hB',hr⟩⟩,h.2⟩,qL hB (hF _ ((h.2 _).2 ⟨_,hp,rfl⟩)) ((h.2 _).2 ⟨_,hp,rfl⟩) H.lt,fun k hk=>⟨hF k hk,.inl hk⟩⟩
 exact⟨_,e1,h2,m⟩
end
def Ex {ρ:Type} (T:Option ρ) (Φ:ρ->Prop):Prop:=∃ r,T=some r/\Φ r
section
variable {α β γ δ ε ζ ρ : Type} {Φ : ρ -> Prop}
theorem Ex.ret {r:ρ} (h:Φ r):Ex (some r) Φ:=⟨r,rfl,h⟩
theorem Ex.b1 {o:Option α} {a:α} {f:α->Option ρ} (e:o=some a) (h:Ex (f a) Φ):Ex (o.bind f) Φ:=by subst e;exact h
theorem Ex.s1 {a:α} {f:α->Option ρ} (h:Ex (f a) Φ):Ex ((some a).bind f) Φ:=h
theorem Ex.b2 {o:Option (α×β)} {a:α} {b:β} {f:α->β->Option ρ} (e:o=some (a,b)) (h:Ex (f a b) Φ):Ex (aE o f) Φ:=by subst e;exact h
theorem Ex.b3 {o:Option (α×β×γ)} {a:α} {b:β} {c:γ} {f:α->β->γ->Option ρ} (e:o=some (a,b,c)) (h:Ex (f a b c) Φ):Ex (rO o f) Φ:=by subst e;exact h
theorem Ex.b4 {o:Option (α×β×γ×δ)} {a:α} {b:β} {c:γ} {d:δ} {f:α->β->γ->δ->Option ρ} (e:o=some (a,b,c,d)) (h:Ex (f a b c d) Φ):Ex (tO o f) Φ:=by subst e;exact h
theorem Ex.b5 {o:Option (α×β×γ×δ×ε)} {a:α} {b:β} {c:γ} {d:δ} {x:ε} {f:α->β->γ->δ->ε->Option ρ} (e:o=some (a,b,c,d,x)) (h:Ex (f a b c d x) Φ):Ex (tJ o f) Φ:=by subst e;exact h
theorem Ex.ck {p:Prop} {o:Option ρ} (hp:p) (h:Ex o Φ):Ex (chk p o) Φ:=by rw[sI hp];exact h
theorem Ex.t {c:Prop} [Decidable c] {A B:Option ρ} (hc:c) (h:Ex A Φ):Ex (if c then A else B) Φ:=by rw[if_pos hc];exact h
theorem Ex.f {c:Prop} [Decidable c] {A B:Option ρ} (hc:¬ c) (h:Ex B Φ):Ex (if c then A else B) Φ:=by rw[if_neg hc];exact h
theorem Ex.c {b:Bool} {p:Prop} {A B:Option ρ} (hb:b=true↔p) (h1:p->Ex A Φ) (h2:¬ p->Ex B Φ):Ex (if b=true then A else B) Φ:=by
 by_cases h:p
 .exact Ex.t (hb.2 h) (h1 h)
 exact Ex.f (fun h'=>h (hb.1 h')) (h2 h)
theorem Ex.mono {T:Option ρ} {Ψ:ρ->Prop} (h:Ex T Ψ) (k:∀ r,Ψ r->Φ r):Ex T Φ:=by obtain⟨r,e,h⟩:=h;exact⟨r,e,k r h⟩
theorem Ex.j1 {o:Option α} {f:α->Option ρ} {Ψ:α->Prop} (h:Ex o Ψ) (k:∀ a,Ψ a->Ex (f a) Φ):Ex (o.bind f) Φ:=by obtain⟨a,e,h⟩:=h;subst e;exact k a h
theorem Ex.j2 {o:Option (α×β)} {f:α->β->Option ρ} {Ψ:α×β->Prop} (h:Ex o Ψ) (k:∀ a b,Ψ (a,b)->Ex (f a b) Φ):Ex (aE o f) Φ:=by obtain⟨⟨a,b⟩,e,h⟩:=h;subst e;exact k a b h
theorem Ex.j3 {o:Option (α×β×γ)} {f:α->β->γ->Option ρ} {Ψ:α×β×γ->Prop} (h:Ex o Ψ) (k:∀ a b c,Ψ (a,b,c)->Ex (f a b c) Φ):Ex (rO o f) Φ:=by obtain⟨⟨a,b,c⟩,e,h⟩:=h;subst e;exact k a b c h
theorem Ex.loop {S R:Type} {step:S->Option (S⊕R)} {Φ:R->Prop} (I:Nat->S->Prop) (hs:∀ m s,I m s->Ex (step s) fun o=>match o with | .inl s'=>∃ m',m'<m/\I m' s' | .inr r=>Φ r) :
  ∀ (m:Nat) (s:S),I m s->Ex (bU step s) Φ:=by
 intro m
 induction m using Nat.strongRecOn with
 | _ m ih =>
  intro s h;obtain⟨o,e,ho⟩:=hs m s h
  cases o with
  | inl s' =>
   obtain⟨m',hm,h'⟩:=ho;obtain⟨r,e',h⟩:=ih m' hm s' h';exact⟨r,(gA e).trans e',h⟩
  | inr r=>exact⟨r,cW e,ho⟩
end
abbrev rn:=List.range'
theorem nm {b c:Bool} (h:b≠true) (hc:c=true:=by rfl):b≠c:=by rw[hc];exact h
abbrev iV (x:Int):Value:=.int .i64 x
abbrev pV (x:Option Addr):Value:=.pointer x
abbrev bV (x:Bool):Value:=.bool x
theorem Has.sb {n:Nat} {L M:List (Nat×Value)} {a:Act} (h:Has n L a) (hm:(M.map fun p=>L.lookup p.1)=M.map fun p=>some p.2):Has n M a:=h.sub (by
 induction M with
 | nil=>exact trivial
 | cons p M ih=>exact⟨(List.cons.inj hm).1,ih (List.cons.inj hm).2⟩)
def ltb (n:Nat) (o:Option Nat):Bool:=o.all fun d=>decide (d<n)
section
variable {P : Program} {n : Nat} {L : List (Nat × Value)} {a : Act} {w w' : World} {Q : Exit -> Act -> World -> Prop} {ops : Array Oper} {rest : List Oper}
theorem q {o:Oper} {v:Value} (ha:Has n L a) (h:cK P o a w v w') (hr:∀ a',Has n (upd o.dst v L) a'->wpList P ops Q rest a' w') (hg:o.guard=none:=by rfl) (hd:ltb n o.dst=true:=by rfl):wpList P ops Q (o::rest) a w:=uK hg ha (ltd hd) h hr
theorem qm {d ty pos af x v} (ha:Has n L a) (hx:evO L x=some v) (hr:∀ a',Has n (upd d v L) a'->wpList P ops Q rest a' w) (hd:ltb n d=true:=by rfl):wpList P ops Q (⟨d,.move x,ty,pos,af,none⟩::rest) a w:=uK rfl ha (ltd hd) (aI ha hx) hr
theorem qa {d ty pos af x v} (ha:Has n L a) (hx:evO L x=some v) (hr:∀ a',Has n (upd d v L) a'->wpList P ops Q rest a' w) (hd:ltb n d=true:=by rfl):wpList P ops Q (⟨d,.assign x,ty,pos,af,none⟩::rest) a w:=uK rfl ha (ltd hd) (fW ha hx) hr
theorem qg {o:Oper} {v:Value} {j:Nat} {b c:Bool} (ha:Has n L a) (t:Nat) (hbc:b=c) (h:cK P o a w v w') (hr:∀ a',Has n (upd o.dst v L) a'->wpList P ops Q rest a' w')
  (hg:o.guard=some (j,c):=by rfl) (hj:(ops[j]?).bind (·.dst)=some t:=by rfl) (ht:L.lookup t=some (.bool b):=by rfl) (hd:ltb n o.dst=true:=by rfl):wpList P ops Q (o::rest) a w:=sX hg hj ha ht hbc (ltd hd) h hr
theorem qn {o:Oper} {j:Nat} {b c:Bool} (ha:Has n L a) (t:Nat) (hbc:b≠c) (hr:∀ a',Has n (upd o.dst undef L) a'->wpList P ops Q rest a' w)
  (hg:o.guard=some (j,c):=by rfl) (hj:(ops[j]?).bind (·.dst)=some t:=by rfl) (ht:L.lookup t=some (.bool b):=by rfl) (hd:ltb n o.dst=true:=by rfl):wpList P ops Q (o::rest) a w:=uG hg hj ha ht hbc (ltd hd) hr
theorem qu {o:Oper} {j:Nat} {c:Bool} (ha:Has n L a) (t:Nat) (hr:∀ a',Has n (upd o.dst undef L) a'->wpList P ops Q rest a' w)
  (hg:o.guard=some (j,c):=by rfl) (hj:(ops[j]?).bind (·.dst)=some t:=by rfl) (ht:L.lookup t=some undef:=by rfl) (hd:ltb n o.dst=true:=by rfl):wpList P ops Q (o::rest) a w:=uO hg hj ha ht (ltd hd) hr
variable {W : Nat -> World} {lo hi : Nat} {o : Oper} {li : List (Nat × Value)} {v : Value} {e : Bool}
theorem oa (h:∀ {j a},Has n li a->cK P o a (W j) v (W j)) (hg:o.guard=none:=by rfl) (he:e=false:=by rfl):∀ j,lo<=j->j<=hi->iD P n ops o li v (W j) (W (j+if e=true then 1 else 0)):=fun j _ _=>by
 subst he;exact tS hg fun a ha=>h ha
theorem oag {k t:Nat} {b c:Bool} (t':Nat) (hbc:b=c) (h:∀ {j a},Has n li a->cK P o a (W j) v (W j)) (htt:t'=t:=by rfl) (hg:o.guard=some (k,c):=by rfl) (hj:(ops[k]?).bind (·.dst)=some t:=by rfl) (ht:li.lookup t=some (.bool b):=by rfl) (he:e=false:=by rfl):∀ j,lo<=j->j<=hi->iD P n ops o li v (W j) (W (j+if e=true then 1 else 0)):=fun j _ _=>by
 subst he;exact oY hg hj ht hbc fun a ha=>h ha
theorem on {k t:Nat} {b c:Bool} (t':Nat) (hbc:b≠c) (htt:t'=t:=by rfl) (hg:o.guard=some (k,c):=by rfl) (hj:(ops[k]?).bind (·.dst)=some t:=by rfl) (ht:li.lookup t=some (.bool b):=by rfl) (he:e=false:=by rfl):∀ j,lo<=j->j<=hi->iD P n ops o li undef (W j) (W (j+if e=true then 1 else 0)):=fun j _ _=>by
 subst he;exact sB hg hj ht hbc
theorem oc (c:Nat) (h:iD P n ops o li v (W c) (W (c+if e=true then 1 else 0))) (h1:lo=c:=by rfl) (h2:hi=c:=by rfl):∀ j,lo<=j->j<=hi->iD P n ops o li v (W j) (W (j+if e=true then 1 else 0)):=fun j hj1 hj2=>by
 obtain rfl:j=c:=by omega
 exact h
variable {w1 w2 : World}
theorem kd (h:∀ {a},Has n li a->cK P o a w1 v w2) (hg:o.guard=none:=by rfl):iD P n ops o li v w1 w2:=tS hg fun a ha=>h ha
theorem kg {k t:Nat} {b c:Bool} (t':Nat) (hbc:b=c) (h:∀ {a},Has n li a->cK P o a w1 v w2) (htt:t'=t:=by rfl) (hg:o.guard=some (k,c):=by rfl) (hj:(ops[k]?).bind (·.dst)=some t:=by rfl) (ht:li.lookup t=some (.bool b):=by rfl):iD P n ops o li v w1 w2:=oY hg hj ht hbc fun a ha=>h ha
variable {d : Option Nat} {ty : TypeId} {pos : String} {af : Array Edge} {g : Option (Nat × Bool)} {f : FuncId} {ts : Array TypeId} {x1 x2 x3 x4 : Operand} {v1 v2 v3 v4 : Value}
theorem dc1 (ha:Has n L a) (h1:evO L x1=some v1) (hf:∀ (args:Array Value) (w:World),(callFunc f args).run P w = .ok (.enter f args) w) (h:Calls P f #[v1] w fun e w''=>e = .returned v/\w''=w'):cK P ⟨d,.call { callee:=.value (.func f),args:=#[x1],argTypes:=ts },ty,pos,af,g⟩ a w v w':=eG (xs:=[x1]) (vs:=[v1]) ha ⟨h1,trivial⟩ hf h
theorem dc2 (ha:Has n L a) (h1:evO L x1=some v1) (h2:evO L x2=some v2) (hf:∀ (args:Array Value) (w:World),(callFunc f args).run P w = .ok (.enter f args) w) (h:Calls P f #[v1,v2] w fun e w''=>e = .returned v/\w''=w'):cK P ⟨d,.call { callee:=.value (.func f),args:=#[x1,x2],argTypes:=ts },ty,pos,af,g⟩ a w v w':=eG (xs:=[x1,x2]) (vs:=[v1,v2]) ha ⟨h1,h2,trivial⟩ hf h
end
section
variable {P : Program} {n : Nat} {L : List (Nat × Value)} {a : Act} {w w' : World} {Q : Exit -> Act -> World -> Prop}
theorem jL {d ty pos af g f} {xs:List Operand} {vs:List Value} (ha:Has n L a) (hx:evs L xs vs):cK P ⟨d,.makeFunc (.func f) #[] xs.toArray,ty,pos,af,g⟩ a w (.func (.func f) #[] vs.toArray) w:=by
 refine bQ ?_;have e:=jT ha hx;simp only[execOp,Instr.makeFunc,Sem.run_bind,Sem.run_pure,Result.andThen_ok];simp[<-e]
theorem dV {d ty pos af g f} {fx:Operand} {xs:List Operand} {ts:Array TypeId} {vs cv:List Value} {v:Value} (ha:Has n L a) (hfx:evO L fx=some (.func (.func f) #[] cv.toArray)) (hx:evs L xs vs) (hf:∀ (args:Array Value) (w:World),(callFunc f args).run P w = .ok (.enter f args) w)
  (h:Calls P f (vs++cv).toArray w fun e w''=>e = .returned v/\w''=w'):cK P ⟨d,.call { callee:=.value fx,args:=xs.toArray,argTypes:=ts },ty,pos,af,g⟩ a w v w':=by
 refine qV (w1:=w) (f:=f) (args:=(vs++cv).toArray) ?_ h;have e:=jT ha hx;simp[execOp,resolve,Deferred.ofValue,invoke,ha.ev hfx,hf,<-e]
def sR (P:Program) (L:List (Nat×Value)) (w:World):List ResultVar->List Value->Prop
 | [],[]=>True
 | .tmp t::rs,v::vs=>L.lookup t=some v/\sR P L w rs vs
 | .cell t T::rs,v::vs=>(∃ ad,L.lookup t=some (.pointer (some ad))/\(loadVar T ad).run P w = .ok v w)/\sR P L w rs vs
 | _,_=>False
def nV (vs:List Value):Value:=match vs with | [v]=>v | _=>.tuple vs.toArray
theorem uW {T:TypeId} {ad:Addr} {cs:List Value} {sz:Nat} (ht:∀ w,(isAgg T).run P w = .ok true w) (hz:∀ w,(sizeOf T).run P w = .ok sz w) (h:ldA sz w ad 0=some cs):(loadVar T ad).run P w = .ok (.agg cs.toArray) w:=by
 obtain⟨h1,h2⟩:=hT h;have hl:=run_loadCells_list (P:=P) w ad cs (fun j v hv=>by simpa using h2 j v hv);rw[h1] at hl;simp[loadVar,ht,hz,hl]
def mS (tmps:Array Value):ResultVar->Sem Value
 | .tmp t=>pure (tmps.getD t undef)
 | .cell b t=>do loadVar t (<- asAddr (tmps.getD b undef))
theorem nM (ha:Has n L a):∀ (rs:List ResultVar) (vs:List Value),sR P L w rs vs->(rs.mapM (mS a.tmps)).run P w = .ok vs w
 | [],[],_=>by simp
 | [],_::_,h=>h.elim
 | _::_,[],h=>by rename_i r _;cases r<;>exact h.elim
 | .tmp t::rs,v::vs,h=>by
  have h1:(mS a.tmps (.tmp t)).run P w = .ok v w:=by
   have:=ha.l t v h.1;simp[mS,yM,this]
  simp only[List.mapM_cons,Sem.run_bind,h1,Result.andThen_ok,nM ha rs vs h.2,Sem.run_pure]
 | .cell t T::rs,v::vs,h=>by
  obtain⟨⟨ad,h1,h3⟩,h2⟩:=h;have h1:(mS a.tmps (.cell t T)).run P w = .ok v w:=by
   have:=ha.l t _ h1;simp[mS,yM,this,asAddr,h3]
  simp only[List.mapM_cons,Sem.run_bind,h1,Result.andThen_ok,nM ha rs vs h2,Sem.run_pure]
theorem uT {fn:Func} {R:Ending->World->Prop} {rs:List ResultVar} {vs:List Value} (hr:fn.results=rs.toArray) (ha:Has n L a) (hv:sR P L w rs vs) (hR:R (.returned (nV vs)) w):bodyPost P fn R .ret a w:=by
 refine⟨ha.d,nV vs,?_,hR⟩;have h2:=nM ha rs vs hv;have e:results fn a.tmps=(fn.results.mapM (mS a.tmps) >>= fun vs=>pure (if h:vs.size=1 then vs[0] else .tuple vs)):=rfl;rw[e,hr];simp only[List.mapM_toArray,Sem.run_bind,map_eq_pure_bind,h2,Result.andThen_ok,Sem.run_pure]
 match vs with
 | []=>simp[nV]
 | [v]=>simp[nV]
 | v::u::r=>simp[nV]
end
section
variable {F F' F0 A A' : Nat -> Prop} {g g' g'' g0 : Gh} {w w' w'' w0 : World} {L L' : List Rs} {r r' s q u v : Rs} {b : Nat} {cs ys : List Value} {T : TypeId} {sz : Nat} {z y : Sl}
theorem Sep.perm (p:L.Perm L'):∀ {A:Nat->Prop},Sep g w A L->Sep g w A L':=by
 induction p with
 | nil=>exact id
 | cons r _ ih=>intro A h;exact h.cons fun _ h=>ih h
 | swap r s L=>intro A h;exact h.sw
 | trans _ _ ih1 ih2=>intro A h;exact ih2 (ih1 h)
theorem Hp.perm (p:L.Perm L') (H:Hp F0 g0 w0 g w L):Hp F0 g0 w0 g w L':=⟨H.sp,H.sep.perm p⟩
theorem Hp.at_ {n i:Nat} {f:Nat->Rs} (hi:i<n) (H:Hp F0 g0 w0 g w ((List.range n).map f++L)):Hp F0 g0 w0 g w (f i::(((List.range n).erase i).map f++L)):=by
 refine H.perm ?_;have h:=(List.perm_cons_erase (yY.2 hi)).map f;exact(h.append_right L)
theorem Hp.ta {n i:Nat} {f f':Nat->Rs} (hi:i<n) (hf:∀ k,k≠i->f' k=f k) (H:Hp F0 g0 w0 g w (f' i::(((List.range n).erase i).map f++L))):Hp F0 g0 w0 g w ((List.range n).map f'++L):=by
 refine H.perm ?_;have h:=(List.perm_cons_erase (yY.2 hi)).map f';have e:((List.range n).erase i).map f=((List.range n).erase i).map f':=by
  refine List.map_congr_left fun k hk=>(hf k ?_).symm;exact((List.nodup_range (n:=n)).mem_erase_iff.1 hk).1
 rw[e];exact(h.append_right L).symm
theorem Hp.app_cons (H:Hp F0 g0 w0 g w (L++r::L')):Hp F0 g0 w0 g w (r::(L++L')):=H.perm List.perm_middle
def oL (g:Gh) (w:World):(Nat->Prop)->List Rs->Prop
 | F,[]=>∀ k,¬ F k
 | F,r::L=>∃ F1 F2:Nat->Prop,r.h g w F1/\(∀ k,F k↔F1 k\/F2 k)/\(∀ k,F1 k->¬ F2 k)/\oL g w F2 L
theorem oL.st:∀ {L:List Rs} {F:Nat->Prop},oL g w F L->Mo g w g' w'->(∀ k,F k->w'.heap[k]?=w.heap[k]?)->oL g' w' F L
 | [],_,h,_,_=>h
 | r::L,F,⟨F1,F2,h1,h2,h3,h4⟩,m,hk=>⟨F1,F2,r.st h1 m (fun k h=>hk k ((h2 k).2 (.inl h))),h2,h3,h4.st m (fun k h=>hk k ((h2 k).2 (.inr h)))⟩
theorem oL.lt:∀ {L:List Rs} {F:Nat->Prop} {k:Nat},oL g w F L->F k->k<w.heap.size
 | [],_,_,h,hk=>(h _ hk).elim
 | r::L,F,k,⟨F1,F2,h1,h2,h3,h4⟩,hk=>((h2 k).1 hk).elim (r.lt h1) h4.lt
theorem oL.sep:∀ {l:List Rs} {F A:Nat->Prop},oL g w F l->(∀ k,F k->A k/\¬ g k)->Sep g w (fun k=>A k/\¬ F k) L->Sep g w A (l++L)
 | [],F,A,h,hA,hL=>hL.mono fun k _ h=>h.1
 | r::l,F,A,⟨F1,F2,h1,h2,h3,h4⟩,hA,hL =>
  ⟨F1,h1,fun k hk=>hA k ((h2 k).2 (.inl hk)),h4.sep (fun k hk=>⟨⟨(hA k ((h2 k).2 (.inr hk))).1,fun h=>h3 k h hk⟩,(hA k ((h2 k).2 (.inr hk))).2⟩)
   (hL.mono fun k _ h=>⟨⟨h.1,fun h'=>h.2 ((h2 k).2 (.inl h'))⟩,fun h'=>h.2 ((h2 k).2 (.inr h'))⟩)⟩
def rg (n:Nat) (f:Nat->Value):List Value:=(List.range n).map f
@[simp] theorem wL {n:Nat} {f:Nat->Value}:(rg n f).length=n:=by simp[rg]
theorem Hp.ldI (H:Hp F0 g0 w0 g w (bxR b cs T::L)) {k:IntKind} {o:Nat} {x:Int} (h:cs[o]?=some (.int k x)):D.ldI k w ⟨b,o,none⟩=some x:=vZ H.bx h
theorem Hp.ldB (H:Hp F0 g0 w0 g w (bxR b cs T::L)) {o:Nat} {x:Bool} (h:cs[o]?=some (.bool x)):D.ldB w ⟨b,o,none⟩=some x:=wC H.bx h
theorem Hp.ldL (H:Hp F0 g0 w0 g w (bxR b cs T::L)) {o:Nat} {x:Sl} (h:cs[o]?=some x.v):D.ldL w ⟨b,o,none⟩=some x:=vI H.bx h
theorem Hp.rd (H:Hp F0 g0 w0 g w (owR T sz z cs::L)):Rd w z sz cs:=H.ow.rd
theorem Own.ix (h:Own w T z 1 cs) {i:Nat} {x:Value} (hx:cs[i]?=some x):∃ a,D.ix z (i:Int) 1=some a/\w.cell? a=some x:=by
 have hi:i<z.n:=by have:=h.len;have h2:=(yP.1 hx).1;omega
 obtain⟨a,ha,hc⟩:=h.rd.at_ (by omega);refine⟨a.add (i*1),?_,by rw[Nat.mul_one];exact hc i x hx⟩;unfold D.ix;rw[ha];simp only[aAN];rw[if_pos ⟨by omega,by omega⟩];simp
variable {P : Program} {t e : TypeId} {by_ : Nat} {Z : List Value}
end
structure Dc where
 x:Int
 y:Int
 r:Int
structure Sd where
 name:ByteArray
 kind:Int
 ab:Bool
 low:Int
 high:Int
 fr:ByteArray
 to:ByteArray
 op:Bool
 tr:Int
 ins:List Dc
 outs:List Dc
 no:Bool
def kU (a b:Dc):Int:=(a.x-b.x)*(a.x-b.x)+(a.y-b.y)*(a.y-b.y)
def wiD (a b:Dc):Bool:=decide (a.r<=b.r)&&decide (kU a b<=(b.r-a.r)*(b.r-a.r))
def apD (a b:Dc):Bool:=decide ((a.r+b.r)*(a.r+b.r)<kU a b)
def okD (d:Dc):Bool:=decide (-1048576<=d.x)&&decide (d.x<=1048576)&&decide (-1048576<=d.y)&&decide (d.y<=1048576)&&decide (0<=d.r)&&decide (d.r<=1048576)
def sLe (s u:ByteArray):Bool:=sLt s u||sEq s u
def jK (s:Sd):Bool:=if s.kind=1 then decide (s.high<s.low) else if s.kind=2 then !s.op&&!sLt s.fr s.to else if s.kind=3 then decide (s.tr % 4=0) else s.no
def trL (a b:Int):Bool:=(decide (a % 2=0)||decide (b % 2=1))&&(decide (a / 2 % 2=0)||decide (b / 2 % 2=1))
def lC (a b:Sd):Bool :=
 if a.kind≠b.kind\/(a.ab=true/\b.ab=false) then false else if jK a=true then true else
 if a.kind=1 then decide (b.low<=a.low)&&decide (a.high<=b.high) else
 if a.kind=2 then sLe b.fr a.fr&&(b.op||(!a.op&&sLe a.to b.to)) else
 if a.kind=3 then trL a.tr b.tr else if b.no=true then false else
 b.ins.all (fun d=>a.ins.any fun x=>wiD x d)&&b.outs.all fun d=>(a.outs.any fun x=>wiD d x)||a.ins.any fun x=>apD x d
def gP (a b:List Sd):Bool:=b.all fun s=>match a.find? (fun x=>sEq x.name s.name) with | some x=>lC x s | none=>false
theorem mV (a:Int):0<=a*a:=by
 rcases Int.le_total 0 a with h | h
 .exact aAo h h
 have:=aAo (aAD h) (aAD h);rwa[Int.neg_mul_neg] at this
theorem tri {u v s t p q:Int} (hp:0<=p) (hq:0<=q) (h1:u*u+v*v<=p*p) (h2:s*s+t*t<=q*q):(u+s)*(u+s)+(v+t)*(v+t)<=(p+q)*(p+q):=by
 have hpq:0<=p*q:=aAo hp hq;have key:u*s+v*t<=p*q:=by
  refine Decidable.byContradiction fun h=>?_;have h:p*q+1<=u*s+v*t:=by omega
  have e1:(u*s+v*t)*(u*s+v*t)+(u*t-v*s)*(u*t-v*s)=(u*u+v*v)*(s*s+t*t):=by grind
  have e2:=mV (u*t-v*s);have n2:0<=s*s+t*t:=by have:=mV s;have:=mV t;omega
  have e3:(u*u+v*v)*(s*s+t*t)<=(p*p)*(q*q):=Int.mul_le_mul h1 h2 n2 (aAo hp hp);have e4:(p*q+1)*(p*q+1)<=(u*s+v*t)*(u*s+v*t):=Int.mul_le_mul h h (by omega) (by omega);have e5:(p*q+1)*(p*q+1)=(p*p)*(q*q)+2*(p*q)+1:=by grind
  omega
 have e6:(u+s)*(u+s)+(v+t)*(v+t)=(u*u+v*v)+(s*s+t*t)+2*(u*s+v*t):=by grind
 have e7:(p+q)*(p+q)=p*p+q*q+2*(p*q):=by grind
 omega
theorem nK {a b c:Dc} {p q:Int} (hp:0<=p) (hq:0<=q) (h1:kU a b<=p*p) (h2:kU b c<=q*q):kU a c<=(p+q)*(p+q):=by
 unfold kU at h1 h2 ⊢;have:=tri (u:=a.x-b.x) (v:=a.y-b.y) (s:=b.x-c.x) (t:=b.y-c.y) hp hq h1 h2;rwa[show a.x-b.x+(b.x-c.x)=a.x-c.x by omega,show a.y-b.y+(b.y-c.y)=a.y-c.y by omega] at this
theorem uC (a b:Dc):kU a b=kU b a:=by unfold kU;grind
theorem rG {a b:Dc}:wiD a b=true↔a.r<=b.r/\kU a b<=(b.r-a.r)*(b.r-a.r):=by simp[wiD]
theorem sQ {a b:Dc}:apD a b=true↔(a.r+b.r)*(a.r+b.r)<kU a b:=by simp[apD]
theorem tM {a b c:Dc} (h1:wiD a b=true) (h2:wiD b c=true):wiD a c=true:=by
 obtain⟨r1,f1⟩:=rG.1 h1;obtain⟨r2,f2⟩:=rG.1 h2;refine rG.2 ⟨by omega,?_⟩;have:=nK (by omega) (by omega) f1 f2;rwa[show b.r-a.r+(c.r-b.r)=c.r-a.r by omega] at this
theorem vT {d x y:Dc} (h0:0<=y.r+d.r) (h1:wiD d x=true) (h2:apD y x=true):apD y d=true:=by
 obtain⟨r1,f1⟩:=rG.1 h1;have f2:=sQ.1 h2;refine sQ.2 (Decidable.byContradiction fun h=>?_);have:=nK (p:=y.r+d.r) (q:=x.r-d.r) h0 (by omega) (Int.not_lt.1 h) f1;rw[show y.r+d.r+(x.r-d.r)=y.r+x.r by omega] at this;omega
theorem vW {d x y:Dc} (h0:0<=y.r+d.r) (h1:wiD y x=true) (h2:apD x d=true):apD y d=true:=by
 obtain⟨r1,f1⟩:=rG.1 h1;have f2:=sQ.1 h2;refine sQ.2 (Decidable.byContradiction fun h=>?_);rw[uC] at f1;have:=nK (p:=x.r-y.r) (q:=y.r+d.r) (by omega) h0 f1 (Int.not_lt.1 h);rw[show x.r-y.r+(y.r+d.r)=x.r+d.r by omega] at this;omega
theorem vO:∀ {a b c:List UInt8},Op.bytesLess a b=true->Op.bytesLess b c=true->Op.bytesLess a c=true:=by
 intro a
 induction a with
 | nil=>intro b c h1 h2;cases b<;>cases c<;>simp_all [Op.bytesLess]
 | cons x a ih =>
  intro b c h1 h2
  cases b with
  | nil=>simp[Op.bytesLess] at h1
  | cons y b =>
   cases c with
   | nil=>simp[Op.bytesLess] at h2
   | cons z c =>
    simp only[Op.bytesLess,yT,decide_eq_true_eq,yO,beq_iff_eq] at h1 h2 ⊢;rcases h1 with h1 | ⟨rfl,h1⟩
    .rcases h2 with h2 | ⟨rfl,h2⟩
     .exact .inl (UInt8.lt_trans h1 h2)
     exact .inl h1
    rcases h2 with h2 | ⟨rfl,h2⟩
    .exact .inl h2
    exact .inr ⟨rfl,ih h1 h2⟩
theorem tF {a b c:ByteArray} (h1:sLt a b=true) (h2:sLt b c=true):sLt a c=true:=vO h1 h2
theorem oZ {a b:ByteArray}:sEq a b=true↔a.toList=b.toList:=by simp[sEq]
theorem vV {a b c:ByteArray} (h1:sLe a b=true) (h2:sLt b c=true):sLt a c=true:=by
 unfold sLe at h1;rw[yT] at h1;rcases h1 with h1 | h1
 .exact tF h1 h2
 unfold sLt at h2 ⊢;rw[oZ.1 h1];exact h2
theorem tC {a b c:ByteArray} (h1:sLt a b=true) (h2:sLe b c=true):sLt a c=true:=by
 unfold sLe at h2;rw[yT] at h2;rcases h2 with h2 | h2
 .exact tF h1 h2
 unfold sLt at h1 ⊢;rw[<-oZ.1 h2];exact h1
theorem tI {a b c:ByteArray} (h1:sLe a b=true) (h2:sLe b c=true):sLe a c=true:=by
 have h1':=h1;unfold sLe at h1;rw[yT] at h1;rcases h1 with h1 | h1
 .unfold sLe;rw[tC h1 h2];rfl
 unfold sLe at h2 ⊢;unfold sLt sEq at h2 ⊢;rw[oZ.1 h1];exact h2
def okS (s:Sd):Prop:=s.kind≠1->s.kind≠2->s.kind≠3->(∀ d∈s.ins,okD d=true)/\(∀ d∈s.outs,okD d=true)/\s.ins.length<=4/\s.outs.length<=4
theorem tN {d:Dc} (h:okD d=true):0<=d.r:=by simp only[okD,yO,decide_eq_true_eq] at h;exact h.1.2
theorem sD {a b c:Sd} (ha:okS a) (hb:okS b) (hc:okS c) (h1:lC a b=true) (h2:lC b c=true):lC a c=true:=by
 unfold lC at h1 h2 ⊢;split at h1;· cases h1
 rename_i g1;split at h2;· cases h2
 rename_i g2;have k1:a.kind=b.kind:=Decidable.byContradiction fun h=>g1 (.inl h);have k2:b.kind=c.kind:=Decidable.byContradiction fun h=>g2 (.inl h);have g3:¬ (a.kind≠c.kind\/(a.ab=true/\c.ab=false)):=by
  rintro(h | ⟨h,h'⟩)
  .exact h (k1.trans k2)
  cases hb:b.ab with
  | true=>exact g2 (.inr ⟨hb,h'⟩)
  | false=>exact g1 (.inr ⟨h,hb⟩)
 rw[if_neg g3];split at h1
 .rename_i n1;rw[if_pos n1]
 rename_i n1;rw[if_neg n1];by_cases e1:a.kind=1
 .have eb:b.kind=1:=k1 ▸ e1;rw[if_pos e1] at h1 ⊢;rw[if_pos eb] at h2;unfold jK at n1 h2;rw[if_pos e1] at n1;rw[if_pos eb] at h2;simp only[yO,decide_eq_true_eq] at h1 h2 n1 ⊢;split at h2
  .omega
  simp only[yO,decide_eq_true_eq] at h2;omega
 rw[if_neg e1] at h1 ⊢;have eb1:b.kind≠1:=k1 ▸ e1;rw[if_neg eb1] at h2;by_cases e2:a.kind=2
 .have eb:b.kind=2:=k1 ▸ e2;rw[if_pos e2] at h1 ⊢;rw[if_pos eb] at h2;unfold jK at n1 h2;rw[if_neg e1,if_pos e2] at n1;rw[if_neg eb1,if_pos eb] at h2;simp only[yO,yT,yU] at h1 n1 ⊢;obtain⟨p1,p2⟩:=h1;split at h2
  .rename_i q;simp only[yO,yU] at q;rcases p2 with p2 | ⟨p2,p3⟩
   .rw[q.1] at p2;cases p2
   have hl:sLt a.fr a.to=true:=by
    cases h:sLt a.fr a.to with
    | true=>rfl
    | false=>exact(n1 ⟨p2,h⟩).elim
   have:=tC (vV p1 hl) p3;rw[q.2] at this;cases this
  simp only[yO,yT,yU] at h2;obtain⟨q1,q2⟩:=h2;refine⟨tI q1 p1,?_⟩;rcases q2 with q2 | ⟨q2,q3⟩
  .exact .inl q2
  rcases p2 with p2 | ⟨p2,p3⟩
  .rw[q2] at p2;cases p2
  exact .inr ⟨p2,tI p3 q3⟩
 rw[if_neg e2] at h1 ⊢;have eb2:b.kind≠2:=k1 ▸ e2;rw[if_neg eb2] at h2;by_cases e3:a.kind=3
 .have eb:b.kind=3:=k1 ▸ e3;rw[if_pos e3] at h1 ⊢;rw[if_pos eb] at h2;unfold jK at n1 h2;rw[if_neg e1,if_neg e2,if_pos e3] at n1;rw[if_neg eb1,if_neg eb2,if_pos eb] at h2;unfold trL at h1 h2 ⊢;simp only[yO,yT,decide_eq_true_eq] at h1 h2 n1 ⊢;split at h2
  .omega
  simp only[yO,yT,decide_eq_true_eq] at h2;omega
 rw[if_neg e3] at h1 ⊢;have eb3:b.kind≠3:=k1 ▸ e3;rw[if_neg eb3] at h2;split at h1;· cases h1
 rename_i nb;have nb':jK b≠true:=by unfold jK;rw[if_neg eb1,if_neg eb2,if_neg eb3];exact nb
 rw[if_neg nb'] at h2;split at h2;· cases h2
 rename_i nc;rw[if_neg nc];simp only[yO,yN,yT,zM] at h1 h2 ⊢;obtain⟨p1,p2⟩:=h1;obtain⟨q1,q2⟩:=h2;have pa:∀ d∈a.ins,0<=d.r:=fun d hd=>tN ((ha e1 e2 e3).1 d hd);have pc:∀ d∈c.outs,0<=d.r:=fun d hd=>tN ((hc (k2 ▸ eb1) (k2 ▸ eb2) (k2 ▸ eb3)).2.1 d hd);refine⟨fun d hd=>?_,fun d hd=>?_⟩
 .obtain⟨x,hx,hw⟩:=q1 d hd;obtain⟨y,hy,hw'⟩:=p1 x hx;exact⟨y,hy,tM hw' hw⟩
 have hd0:=pc d hd;rcases q2 d hd with⟨x,hx,hw⟩ | ⟨x,hx,hw⟩
 .rcases p2 x hx with⟨y,hy,hw'⟩ | ⟨y,hy,hw'⟩
  .exact .inl ⟨y,hy,tM hw hw'⟩
  exact .inr ⟨y,hy,vT (by have:=pa y hy;omega) hw hw'⟩
 obtain⟨y,hy,hw'⟩:=p1 x hx;exact .inr ⟨y,hy,vW (by have:=pa y hy;omega) hw' hw⟩
theorem qB {a b c:List Sd} (ha:∀ s∈a,okS s) (hb:∀ s∈b,okS s) (hc:∀ s∈c,okS s) (h1:gP a b=true) (h2:gP b c=true):gP a c=true:=by
 unfold gP at h1 h2 ⊢;rw[yN] at h1 h2 ⊢;intro s hs;have k2:=h2 s hs
 cases eb:b.find? (fun x=>sEq x.name s.name) with
 | none=>rw[eb] at k2;cases k2
 | some u =>
  rw[eb] at k2;have hu:=aAC eb;have hn:=List.find?_some eb;have k1:=h1 u hu;have e:(fun x:Sd=>sEq x.name u.name)=fun x=>sEq x.name s.name:=by
   funext x
   unfold sEq;rw[oZ.1 hn]
  rw[e] at k1
  cases ea:a.find? (fun x=>sEq x.name s.name) with
  | none=>rw[ea] at k1;cases k1
  | some v =>
   rw[ea] at k1;exact sD (ha v (aAC ea)) (hb u hu) (hc s hs) k1 k2
structure PL {α:Type} (R:Gh->World->List Value->α->Prop) (sz:Nat) (g:Gh) (w:World) (s:Sl) (xs:List α):Prop where
 len:s.n=xs.length
 at_:∀ (i:Nat) (x:α),xs[i]?=some x->∃ a cs,ix s (i:Int) sz=some a/\g a.block/\cs.length=sz/\R g w cs x/\∀ j v,cs[j]?=some v->w.cell? (a.add j)=some v
theorem PL.mo {α:Type} {R:Gh->World->List Value->α->Prop} (hR:∀ {g w g' w' cs x},R g w cs x->Mo g w g' w'->R g' w' cs x) {sz:Nat} {g g':Gh} {w w':World} {s:Sl} {xs:List α} (h:PL R sz g w s xs) (m:Mo g w g' w'):PL R sz g' w' s xs :=
 ⟨h.len,fun i x hx=>by
  obtain⟨a,cs,e,hg,hl,hr,hc⟩:=h.at_ i x hx;have hb:∀ j,(a.add j).block=a.block:=fun j=>by unfold Addr.add;split<;>rfl
  exact⟨a,cs,e,(m.keep _ hg).1,hl,hR hr m,fun j v hv=>m.cell (by rw[hb];exact hg) (hc j v hv)⟩⟩
theorem PL.nil {α:Type} {R:Gh->World->List Value->α->Prop} {sz:Nat} {g:Gh} {w:World} {s:Sl} (h:s.n=0):PL R sz g w s []:=⟨by simp[h],fun i x hx=>by simp at hx⟩
def old (w:World):Gh:=fun k=>k<w.heap.size
theorem uH (w:World):∀ k,old w k->k<w.heap.size:=fun _ h=>h
theorem Hp.fin {g g0:Gh} {w w0:World} {L:List Rs} (H:Hp (fun _=>False) g0 w0 g w L) {S:Nat->Prop}:Fr S w0 w:=H.sp.fr.mono fun _ h=>h.elim
structure Bp (g:Gh) (w:World) (b:Nat) (cs:List Value) (T:TypeId):Prop where
 per:g b
 at_:B w b=some (cs,T)
theorem Bp.mo {g g':Gh} {w w':World} {b:Nat} {cs:List Value} {T:TypeId} (h:Bp g w b cs T) (m:Mo g w g' w'):Bp g' w' b cs T :=
 ⟨(m.keep _ h.per).1,by have:=(m.keep _ h.per).2;have h2:=h.at_;unfold B at h2 ⊢;rw[this];exact h2⟩
section
variable {H : Type} {enc : TypeId × Value -> H} {P : Program} {w : World} {base fuel : Nat} {spare : Nat -> Bool} {held : Bool} {t e : TypeId} {cs : List Value} {x : DataW H × List MemPlace} {Bd : Nat}
theorem sK {el:List (DataW H)} {y:DataW H} (hy:y∈el):∀ v∈y.weights P e,v∈DataW.weightsAll P e el:=by
 induction el with
 | nil=>cases hy
 | cons d el ih =>
  intro v hv;simp only[DataW.weightsAll,aAv];rcases aAG.1 hy with rfl | hy
  .exact .inl hv
  exact .inr (ih hy v hv)
theorem pO {el sp:List (DataW H)} (ht:P.underlying t=some (.slice e)) (h:∀ v∈(DataW.slice el sp).weights P t,v<=Bd):(el.length+sp.length)*P.bytesOf e<=Bd/\∀ y∈el,∀ v∈y.weights P e,v<=Bd:=by
 simp only[DataW.weights,ht] at h;exact⟨h _ (List.mem_cons_self ..),fun y hy v hv=>h v (List.mem_cons_of_mem _ (aAv.2 (.inl (sK hy v hv))))⟩
theorem lP:∀ (ts:List TypeId) (l:List (DataW H)) (i:Nat) (t:TypeId) (d:DataW H),ts[i]?=some t->l[i]?=some d->∀ v∈d.weights P t,v∈DataW.weightsEach P ts l
 | [],_,_,_,_,h,_=>by simp at h
 | _::_,[],_,_,_,_,h=>by simp at h
 | t'::ts,d'::l,0,t,d,h,k=>by
  simp at h k;subst h;subst k;intro v hv;simp only[DataW.weightsEach,aAv];exact .inl hv
 | t'::ts,d'::l,i+1,t,d,h,k=>by
  intro v hv;simp only[DataW.weightsEach,aAv];exact .inr (lP ts l i t d (by simpa using h) (by simpa using k) v hv)
theorem lO {parts:List (DataW H)} {fs:Array Field} (ht:P.underlying t=some (.struct fs)) (h:∀ v∈(DataW.agg parts).weights P t,v<=Bd) (i:Nat) (f:Field) (p:DataW H) (hf:fs[i]?=some f) (hp:parts[i]?=some p):∀ v∈p.weights P f.type,v<=Bd:=by
 simp only[DataW.weights,ht] at h;exact fun v hv=>h v (lP _ _ i f.type p (by rw[aAn,Array.getElem?_toList,hf];rfl) hp v hv)
theorem sized_arg {ts:List TypeId} {l:List (DataW H)} (h:(DataW.weightsEach P ts l).all (·<=reachBytes)=true) {i:Nat} {t:TypeId} {d:DataW H} (ht:ts[i]?=some t) (hd:l[i]?=some d):∀ v∈d.weights P t,v<=140737488351232:=by
 intro v hv;have:=yN.1 h v (lP ts l i t d ht hd v hv);exact of_decide_eq_true this
theorem mW {α:Type} {R:Gh->World->List Value->α->Prop} {sz:Nat} (ht:P.underlying t=some (.slice e)) (hc:P.cellsOf e=sz) (hsz:0<sz)
  (hel:∀ (m:Nat) (c:List Value) (y:DataW H×List MemPlace),DataW.trod enc P w base spare held m e c=some y->(∀ v∈y.1.weights P e,v<=Bd)->∃ d:α,R (old w) w c d)
  (h:DataW.trod enc P w base spare held fuel t cs=some x) (hx:∀ v∈x.1.weights P t,v<=Bd):∃ (s:Sl) (ds:List α),cs=[Sl.v s]/\PL R sz (old w) w s ds:=by
 subst hc;rcases DataW.trod_slice ht h with⟨rfl,_⟩ | ⟨a,len,cap,elems,rest,m,hfu,rfl,hx1,hb,hl,hm,hlen,hee,_,_⟩
 .exact⟨Sl.nil,[],rfl,PL.nil rfl⟩
 rw[hx1] at hx;obtain⟨_,hxs⟩:=pO ht hx;have each:∀ i,i<len->∃ c d,c.length=P.cellsOf e/\R (old w) w c d/\∀ j v,c[j]?=some v->w.cell? (a.add (i*P.cellsOf e+j))=some v:=by
  intro i hi;have:=hee i hi;rw[yQ (by omega)] at this;obtain⟨c,hc,hy⟩:=Option.bind_eq_some_iff.1 this;have hk:=World.cells?_some hc;obtain⟨d,hd⟩:=hel _ c _ hy (hxs _ (List.mem_map_of_mem (List.getElem_mem _)));refine⟨c,d,hk.2.1,hd,fun j v hv=>?_⟩;have hj:j<P.cellsOf e:=by have:=(yP.1 hv).1;rw[hk.2.1] at this;exact this
  rw[<-kP a (i*P.cellsOf e) j,hk.2.2 j hj];exact hv
 have main:∀ m',m'<=len->∃ ds:List α,ds.length=m'/\∀ (i:Nat) (d:α),ds[i]?=some d->∃ c,c.length=P.cellsOf e/\R (old w) w c d/\∀ j v,c[j]?=some v->w.cell? (a.add (i*P.cellsOf e+j))=some v:=by
  intro m'
  induction m' with
  | zero=>intro _;exact⟨[],rfl,fun i d h=>by simp at h⟩
  | succ m' ih =>
   intro hm';obtain⟨ds,l1,l2⟩:=ih (by omega);obtain⟨c,d,k1,k2,k3⟩:=each m' (by omega);refine⟨ds++[d],by simp[l1],fun i d' hd'=>?_⟩;rcases aAH i m' with hi | hi
   .rw[yX (by omega)] at hd';exact l2 i d' hd'
   rw[aAa (by omega)] at hd';have h0:i-ds.length=0:=by have:=(yP.1 hd').1;simpa using this
   rw[h0] at hd';simp at hd';subst hd';have:i=m':=by omega
   subst this;exact⟨c,k1,k2,k3⟩
 obtain⟨ds,l1,l2⟩:=main len (zN _);refine⟨⟨some a,len,cap⟩,ds,rfl,l1.symm,fun i d hd=>?_⟩;obtain⟨c,k1,k2,k3⟩:=l2 i d hd;have hi:i<len:=by have:=(yP.1 hd).1;omega
 have hb':(a.add (i*P.cellsOf e)).block=a.block:=by unfold Addr.add;split<;>rfl
 refine⟨a.add (i*P.cellsOf e),c,?_,?_,k1,k2,fun j v hv=>by rw[kP];exact k3 j v hv⟩
 .unfold ix;simp only[aAN];rw[if_pos ⟨by omega,by omega⟩];simp
 show(a.add _).block<w.heap.size
 cases c with
 | nil=>simp at k1;omega
 | cons v c=>exact sN (k3 0 v rfl)
theorem qT {n:Int} (h:(Lit.int .u8 n).wf=true):0<=n/\n<256:=by
 simp[Lit.wf,IntKind.min,IntKind.max,IntKind.signed,IntKind.bits] at h;omega
end
def cX (a0:ByteArray) (x7:Int) (w8:World):Option ((Int×World)⊕((World)⊕(Bool×World))) :=
 if (decide (x7<(a0.size:Int)))=true then
 (gX ((ixS a0 x7).bind fun v24 =>
 aE (if (decide (97<=v24))=true then
 (some ((decide (v24<=122)),w8))
 else
 (some (false,w8))) fun v26 w27 =>
 if v26=true then
 (some (.inr w27))
 else
 (aE (if (decide (0<x7))=true then
 (if (decide (48<=v24))=true then
 (if (decide (v24<=57))=true then
 (some (true,w27))
 else
 (some ((v24==45),w27)))
 else
 (some ((v24==45),w27)))
 else
 (some (false,w27))) fun v32 w33 =>
 if v32=true then
 (some (.inr w33))
 else
 ((some (.inr (.inr (false,w33)))).bind fun g23=>some (.inl g23)))) some fun (i:World)=>u1 i fun w18 =>
 some (.inl ((IntKind.wrap .i64 (x7+1)),w18)))
 else
 (some (.inr (.inl w8)))
noncomputable def fY (a0:ByteArray) (w:World):Option (Bool×World) :=
 aE (if (decide ((a0.size:Int)<1))=true then
 (some (true,w))
 else
 (some ((decide (16<(a0.size:Int))),w))) fun v1 w2 =>
 if v1=true then
 (some (false,w2))
 else
 ((bU (fun s:Int×World=>cX a0 s.1 s.2) (0,w2)).bind fun r9=>Sum.elim (fun (i:World)=>u1 i fun w11 =>
 some (true,w11)) (fun (i:Bool×World)=>u2 i fun v12 w13 =>
 some (v12,w13)) r9)
theorem iG {a0 w w' r0} (h:fY a0 w=some (r0,w')):Calls Try.prog 13 #[(.string a0)] w fun e w''=>e=.returned (.bool r0)/\w''=w':=by
 refine aD (n:=44) Try.func13 rfl Try.ntmps13 (by simp) fun a u=>?_;unfold fY at h;refine wp_seq<|aA<|qa u rfl fun a u=>aC<|t_n<|wp_seq<|wp_seq<|?_;have⟨v1,w2,e3,h⟩:=bs2 h;refine bY (n:=44) (L:=[(12,(bV v1)),(0,(.string a0))]) (w':=w2) (fun a u=>?_) (fun hk4=>?_)
 .refine t_n<|?_;refine aF u rfl h (fun b6 h=>?_) (fun b6 h=>?_)
  .refine wp_seq<|aA<|qa u rfl fun a u=>aC<|t_n<|wp_ret<|t_r<|?_;have y:=u;cases h;exact aY Try.results13 y rfl ⟨rfl,rfl⟩
  refine wp_skip<|t_n<|wp_seq<|wp_seq<|aA<|qm u rfl fun a u=>q u (nC u rfl xT) fun a u=>qm u rfl fun a u=>aC<|t_n<|wp_block<|?_;have⟨r9,e10,h⟩:=bs1 h;refine dN (n:=44) (L1:=fun i=>[]) (w1:=fun i=>i) (L2:=fun i=>[(2,(bV i.1))]) (w2:=fun i=>i.2) (e1:=.exit 0) (e2:=.ret) (I:=fun (s:Int×World) a w=>Has 44 [(15,(iV s.1)),(0,(.string a0)),(14,(iV (a0.size:Int)))] a/\w=s.2) ⟨u.sub ⟨rfl,rfl,rfl,aAP⟩,rfl⟩ e10 (fun i hi a u=>?_) (fun i hi a u=>?_) (fun hk14 hk15=>?_)
  .subst hi;obtain⟨w11,rfl⟩:∃ x,x=i:=⟨i,rfl⟩;dsimp only[Sum.elim_inl,Sum.elim_inr,u1,u2,u3,u4,u5,u6] at h;have u:Has 44 [] a:=u;refine fD<|t_n<|wp_seq<|aA<|qa u rfl fun a u=>aC<|t_n<|wp_ret<|?_;have y:=u;cases h;exact aY Try.results13 y rfl ⟨rfl,rfl⟩
  .subst hi;obtain⟨v12,w13⟩:=i;dsimp only[Sum.elim_inl,Sum.elim_inr,u1,u2,u3,u4,u5,u6] at h;have u:Has 44 [(2,(bV v12))] a:=u;refine b_r<|t_r<|?_;have y:=u;cases h;exact aY Try.results13 y rfl ⟨rfl,rfl⟩
  clear h;rintro⟨x7,w8⟩ a wq o ⟨u,hwq⟩ h hr16;obtain rfl:w8=wq:=hwq.symm;have u:Has 44 [(15,(iV x7)),(0,(.string a0)),(14,(iV (a0.size:Int)))] a:=u;have h:cX a0 x7 w8=some o:=h;unfold cX at h;refine wp_seq<|aA<|q u (gG u rfl rfl) fun a u=>aC<|t_n<|wp_seq<|?_;refine aF u rfl h (fun b17 h=>?_) (fun b17 h=>?_)
  .refine wp_skip<|t_n<|?_;obtain⟨o21,e19,h20⟩:=bsX h;clear h;refine iP (n:=44) (ι:=World) (Lf:=fun i=>[(0,(.string a0)),(14,(iV (a0.size:Int))),(15,(iV x7))]) (wf:=fun i=>i) (C:=fun i=>o21=.inr i) (fun i hi a u=>?_) (fun hk22=>?_)
   .subst hi;obtain⟨w18,rfl⟩:∃ x,x=i:=⟨i,rfl⟩;have h:=h20;dsimp only[gX,u1,u2,u3,u4,u5,u6] at h;have u:Has 44 [(0,(.string a0)),(14,(iV (a0.size:Int))),(15,(iV x7))] a:=u;refine aA<|q u (dY u rfl rfl) fun a u=>qm u rfl fun a u=>aC<|?_;have y:=u;cases h;exact cZ ⟨y.sb rfl,rfl⟩
   have h:=e19;refine wp_block<|wp_seq<|aA<|qm u rfl fun a u=>qa u rfl fun a u=>aC<|t_n<|wp_seq<|aA<|qm u rfl fun a u=>qm u rfl fun a u=>?_;have⟨v24,e25,h⟩:=bs1 h;refine q u (vS u rfl rfl xT e25) fun a u=>qa u rfl fun a u=>aC<|t_n<|wp_block<|wp_seq<|?_;have⟨v26,w27,e28,h⟩:=bs2 h;refine bY (n:=44) (L:=[(21,(bV v26)),(0,(.string a0)),(3,(iV x7)),(4,(.int .u8 v24)),(14,(iV (a0.size:Int))),(15,(iV x7))]) (w':=w27) (fun a u=>?_) (fun hk29=>?_)
   .refine t_n<|?_;refine aF u rfl h (fun b31 h=>?_) (fun b31 h=>?_)
    .refine wp_skip<|b_n<|b_n<|?_;have y:=u;cases h;exact hk22 _ rfl _ (y.sb rfl)
    refine wp_seq<|?_;have⟨v32,w33,e34,h⟩:=bs2 h;refine bY (n:=44) (L:=[(28,(bV v32)),(0,(.string a0)),(14,(iV (a0.size:Int))),(15,(iV x7))]) (w':=w33) (fun a u=>?_) (fun hk35=>?_)
    .refine t_n<|?_;refine aF u rfl h (fun b39 h=>?_) (fun b39 h=>?_)
     .refine wp_skip<|b_n<|b_n<|?_;have y:=u;cases h;exact hk22 _ rfl _ (y.sb rfl)
     refine wp_seq<|aA<|qa u rfl fun a u=>aC<|t_n<|wp_ret<|b_r<|b_r<|?_;have y:=u;have⟨g23,e40,h⟩:=bs1 h;cases h;cases h20;have h:=e40;have u:=y;refine t_r<|?_;have y:=u;cases h;cases hr16 _ rfl;refine gR<|?_;exact hk15 _ rfl _ (y.sb rfl)
    clear h;have h:=e34;refine aA<|qm u rfl fun a u=>q u (jF u rfl rfl) fun a u=>qm u rfl fun a u=>?_;refine dG h (fun b36 h=>?_) (fun b36 h=>?_)
    .refine qg u 31 b36 (aI u rfl) fun a u=>qg u 31 b36 (lW u rfl rfl) fun a u=>qg u 31 b36 (aI u rfl) fun a u=>?_;refine dG h (fun b37 h=>?_) (fun b37 h=>?_)
     .refine qg u 34 b37 (aI u rfl) fun a u=>qg u 34 b37 (nE u rfl rfl) fun a u=>qg u 31 b36 (aK u rfl b37 rfl) fun a u=>qg u 31 b36 (aI u rfl) fun a u=>?_;refine dG h (fun b38 h=>?_) (fun b38 h=>?_)
      .refine qn u 38 (tn b38) fun a u=>qn u 38 (tn b38) fun a u=>qg u 31 b36 (aK u rfl b38 rfl) fun a u=>q u (aK u rfl b36 rfl) fun a u=>qa u rfl fun a u=>aC<|?_;have y:=u;cases h;exact hk35 _ (y.sb rfl)
      refine qg u 38 (nt b38) (aI u rfl) fun a u=>qg u 38 (nt b38) (cC u rfl rfl) fun a u=>qg u 31 b36 (aM u rfl b38 rfl) fun a u=>q u (aK u rfl b36 rfl) fun a u=>qa u rfl fun a u=>aC<|?_;have y:=u;cases h;exact hk35 _ (y.sb rfl)
     refine qn u 34 (nm b37) fun a u=>qn u 34 (nm b37) fun a u=>qg u 31 b36 (aM u rfl b37 rfl) fun a u=>qg u 31 b36 (aI u rfl) fun a u=>qg u 38 (nt yR) (aI u rfl) fun a u=>qg u 38 (nt yR) (cC u rfl rfl) fun a u=>qg u 31 b36 (aM u rfl yR rfl) fun a u=>q u (aK u rfl b36 rfl) fun a u=>qa u rfl fun a u=>aC<|?_;have y:=u;cases h;exact hk35 _ (y.sb rfl)
    refine qn u 31 (nm b36) fun a u=>qn u 31 (nm b36) fun a u=>qn u 31 (nm b36) fun a u=>qu u 34 fun a u=>qu u 34 fun a u=>qn u 31 (nm b36) fun a u=>qn u 31 (nm b36) fun a u=>qu u 38 fun a u=>qu u 38 fun a u=>qn u 31 (nm b36) fun a u=>q u (aM u rfl b36 rfl) fun a u=>qa u rfl fun a u=>aC<|?_;have y:=u;cases h;exact hk35 _ (y.sb rfl)
   clear h;have h:=e28;refine aA<|qm u rfl fun a u=>q u (lW u rfl rfl) fun a u=>qm u rfl fun a u=>?_;refine dG h (fun b30 h=>?_) (fun b30 h=>?_)
   .refine qg u 24 b30 (aI u rfl) fun a u=>qg u 24 b30 (nE u rfl rfl) fun a u=>q u (aK u rfl b30 rfl) fun a u=>qa u rfl fun a u=>aC<|?_;have y:=u;cases h;exact hk29 _ (y.sb rfl)
   refine qn u 24 (nm b30) fun a u=>qn u 24 (nm b30) fun a u=>q u (aM u rfl b30 rfl) fun a u=>qa u rfl fun a u=>aC<|?_;have y:=u;cases h;exact hk29 _ (y.sb rfl)
  refine wp_exit<|t_x<|?_;have y:=u;cases h;cases hr16 _ rfl;refine iL<|?_;exact hk14 _ rfl _ (y.sb rfl)
 clear h;have h:=e3;refine aA<|qm u rfl fun a u=>q u (nC u rfl xT) fun a u=>q u (gG u rfl rfl) fun a u=>qm u rfl fun a u=>?_;refine dG h (fun b5 h=>?_) (fun b5 h=>?_)
 .refine qn u 8 (tn b5) fun a u=>qn u 8 (tn b5) fun a u=>qn u 8 (tn b5) fun a u=>q u (aK u rfl b5 rfl) fun a u=>aC<|?_;have y:=u;cases h;exact hk4 _ (y.sb rfl)
 refine qg u 8 (nt b5) (aI u rfl) fun a u=>qg u 8 (nt b5) (nC u rfl xT) fun a u=>qg u 8 (nt b5) (jF u rfl rfl) fun a u=>q u (aM u rfl b5 rfl) fun a u=>aC<|?_;have y:=u;cases h;exact hk4 _ (y.sb rfl)
noncomputable def fM (a0:Int) (w:World):Option (Bool×World) :=
 aE (if (decide ((-1048576)<=a0))=true then
 (some ((decide (a0<=1048576)),w))
 else
 (some (false,w))) fun v1 w2 =>
 some (v1,w2)
theorem jB {a0 w w' r0} (h:fM a0 w=some (r0,w')):Calls Try.prog 24 #[(.int .i64 a0)] w fun e w''=>e=.returned (.bool r0)/\w''=w':=by
 refine aD (n:=9) Try.func24 rfl Try.ntmps24 (by simp) fun a u=>?_;unfold fM at h;refine wp_seq<|aA<|qa u rfl fun a u=>aC<|t_n<|wp_seq<|?_;have⟨v1,w2,e3,h⟩:=bs2 h;refine bY (n:=9) (L:=[(2,(bV v1))]) (w':=w2) (fun a u=>?_) (fun hk4=>?_)
 .refine t_n<|wp_ret<|?_;have y:=u;cases h;exact aY Try.results24 y rfl ⟨rfl,rfl⟩
 clear h;have h:=e3;refine aA<|qm u rfl fun a u=>q u (lW u rfl rfl) fun a u=>qm u rfl fun a u=>?_;refine dG h (fun b5 h=>?_) (fun b5 h=>?_)
 .refine qg u 5 b5 (aI u rfl) fun a u=>qg u 5 b5 (nE u rfl rfl) fun a u=>q u (aK u rfl b5 rfl) fun a u=>qa u rfl fun a u=>aC<|?_;have y:=u;cases h;exact hk4 _ (y.sb rfl)
 refine qn u 5 (nm b5) fun a u=>qn u 5 (nm b5) fun a u=>q u (aM u rfl b5 rfl) fun a u=>qa u rfl fun a u=>aC<|?_;have y:=u;cases h;exact hk4 _ (y.sb rfl)
noncomputable def hU (a0:List Value) (w:World):Option (Bool×World) :=
 aE (mk w 43 a0) fun p1 w2 =>
 aE ((ldI .i64 w2 (p1.add 0)).bind fun v8 =>
 aE (fM v8 w2) fun v10 w11 =>
 if v10=true then
 ((ldI .i64 w11 (p1.add 1)).bind fun v14 =>
 aE (fM v14 w11) fun v16 w17 =>
 if v16=true then
 ((ldI .i64 w17 (p1.add 2)).bind fun v20 =>
 if (decide (0<=v20))=true then
 ((ldI .i64 w17 (p1.add 2)).bind fun v23 =>
 some ((decide (v23<=1048576)),w17))
 else
 (some (false,w17)))
 else
 (some (false,w17)))
 else
 (some (false,w11))) fun v4 w5 =>
 some (v4,w5)
theorem mM {a0 w w' r0} (h:hU a0 w=some (r0,w')):Calls Try.prog 15 #[(.agg (List.toArray a0))] w fun e w''=>e=.returned (.bool r0)/\w''=w':=by
 refine aD (n:=24) Try.func15 rfl Try.ntmps15 (by simp) fun a u=>?_;unfold hU at h;refine wp_seq<|aA<|?_;have⟨p1,w2,e3,h⟩:=bs2 h;refine q u (dI u rfl rfl e3) fun a u=>qa u rfl fun a u=>aC<|t_n<|wp_seq<|aA<|qa u rfl fun a u=>aC<|t_n<|wp_seq<|?_;have⟨v4,w5,e6,h⟩:=bs2 h;refine bY (n:=24) (L:=[(2,(bV v4))]) (w':=w5) (fun a u=>?_) (fun hk7=>?_)
 .refine t_n<|wp_ret<|?_;have y:=u;cases h;exact aY Try.results15 y rfl ⟨rfl,rfl⟩
 clear h;have h:=e6;refine aA<|qm u rfl fun a u=>q u (aJ u rfl wQ rfl rfl xC) fun a u=>?_;have⟨v8,e9,h⟩:=bs1 h;refine q u (aG u rfl wZ (aO e9)) fun a u=>?_;have⟨v10,w11,e12,h⟩:=bs2 h;refine q u (dV (xs:=[_]) (vs:=[(iV v8)]) (cv:=[]) u rfl ⟨rfl,aAP⟩ Try.call24 (jB e12)) fun a u=>qm u rfl fun a u=>?_;refine dG h (fun b13 h=>?_) (fun b13 h=>?_)
 .refine qg u 8 b13 (aI u rfl) fun a u=>qg u 8 b13 (aJ u rfl wQ rfl rfl xC) fun a u=>?_;have⟨v14,e15,h⟩:=bs1 h;refine qg u 8 b13 (aG u rfl wZ (aO e15)) fun a u=>?_;have⟨v16,w17,e18,h⟩:=bs2 h;refine qg u 8 b13 (dV (xs:=[_]) (vs:=[(iV v14)]) (cv:=[]) u rfl ⟨rfl,aAP⟩ Try.call24 (jB e18)) fun a u=>q u (aK u rfl b13 rfl) fun a u=>qm u rfl fun a u=>?_;refine dG h (fun b19 h=>?_) (fun b19 h=>?_)
  .refine qg u 14 b19 (aJ u rfl wQ rfl rfl xC) fun a u=>?_;have⟨v20,e21,h⟩:=bs1 h;refine qg u 14 b19 (aG u rfl wZ (aO e21)) fun a u=>qg u 14 b19 (lW u rfl rfl) fun a u=>q u (aK u rfl b19 rfl) fun a u=>qm u rfl fun a u=>?_;refine dG h (fun b22 h=>?_) (fun b22 h=>?_)
   .refine qg u 19 b22 (aJ u rfl wQ rfl rfl xC) fun a u=>?_;have⟨v23,e24,h⟩:=bs1 h;refine qg u 19 b22 (aG u rfl wZ (aO e24)) fun a u=>qg u 19 b22 (nE u rfl rfl) fun a u=>q u (aK u rfl b22 rfl) fun a u=>qa u rfl fun a u=>aC<|?_;have y:=u;cases h;exact hk7 _ (y.sb rfl)
   refine qn u 19 (nm b22) fun a u=>qn u 19 (nm b22) fun a u=>qn u 19 (nm b22) fun a u=>q u (aM u rfl b22 rfl) fun a u=>qa u rfl fun a u=>aC<|?_;have y:=u;cases h;exact hk7 _ (y.sb rfl)
  refine qn u 14 (nm b19) fun a u=>qn u 14 (nm b19) fun a u=>qn u 14 (nm b19) fun a u=>q u (aM u rfl b19 rfl) fun a u=>qm u rfl fun a u=>qn u 19 (nm yR) fun a u=>qn u 19 (nm yR) fun a u=>qn u 19 (nm yR) fun a u=>q u (aM u rfl yR rfl) fun a u=>qa u rfl fun a u=>aC<|?_;have y:=u;cases h;exact hk7 _ (y.sb rfl)
 refine qn u 8 (nm b13) fun a u=>qn u 8 (nm b13) fun a u=>qn u 8 (nm b13) fun a u=>qn u 8 (nm b13) fun a u=>q u (aM u rfl b13 rfl) fun a u=>qm u rfl fun a u=>qn u 14 (nm yR) fun a u=>qn u 14 (nm yR) fun a u=>qn u 14 (nm yR) fun a u=>q u (aM u rfl yR rfl) fun a u=>qm u rfl fun a u=>qn u 19 (nm yR) fun a u=>qn u 19 (nm yR) fun a u=>qn u 19 (nm yR) fun a u=>q u (aM u rfl yR rfl) fun a u=>qa u rfl fun a u=>aC<|?_;have y:=u;cases h;exact hk7 _ (y.sb rfl)
noncomputable def dX (a0:List Value) (w:World):Option (Bool×World) :=
 aE (mk w 43 a0) fun p1 w2 =>
 (ldA 3 w2 p1 0).bind fun c4 =>
 aE (hU c4 w2) fun v6 w7 =>
 some ((!v6),w7)
theorem jY {a0 w w' r0} (h:dX a0 w=some (r0,w')):Calls Try.prog 14 #[(.agg (List.toArray a0))] w fun e w''=>e=.returned (.bool r0)/\w''=w':=by
 refine aD (n:=6) Try.func14 rfl Try.ntmps14 (by simp) fun a u=>?_;unfold dX at h;refine wp_seq<|aA<|?_;have⟨p1,w2,e3,h⟩:=bs2 h;refine q u (dI u rfl rfl e3) fun a u=>qa u rfl fun a u=>aC<|t_n<|wp_seq<|aA<|?_;have⟨c4,e5,h⟩:=bs1 h;refine q u (bK u rfl xQ xA e5) fun a u=>?_;have⟨v6,w7,e8,h⟩:=bs2 h;refine q u (dc1 u rfl Try.call15 (mM e8)) fun a u=>q u (fT u rfl) fun a u=>qa u rfl fun a u=>aC<|t_n<|wp_ret<|?_;have y:=u;cases h;exact aY Try.results14 y rfl ⟨rfl,rfl⟩
noncomputable def aP (a0:Sl) (x1:Int) (w2:World):Option ((Int×World)⊕((World)⊕(Int×World))) :=
 if (decide (x1<(a0.n:Int)))=true then
 ((ix a0 x1 3).bind fun p12 =>
 (ldA 3 w2 p12 0).bind fun c14 =>
 aE (dX c14 w2) fun v16 w17 =>
 if v16=true then
 (some (.inr (.inr (x1,w17))))
 else
 (some (.inl ((IntKind.wrap .i64 (x1+1)),w17))))
 else
 (some (.inr (.inl w2)))
noncomputable def bO (a0:Sl) (w:World):Option (Int×World) :=
 (bU (fun s:Int×World=>aP a0 s.1 s.2) (0,w)).bind fun r3=>Sum.elim (fun (i:World)=>u1 i fun w5 =>
 some ((-1),w5)) (fun (i:Int×World)=>u2 i fun v6 w7 =>
 some (v6,w7)) r3
theorem eU {a0 w w' r0} (h:bO a0 w=some (r0,w')):Calls Try.prog 25 #[(Sl.v a0),(.func (.func 14) #[] #[])] w fun e w''=>e=.returned (.int .i64 r0)/\w''=w':=by
 refine aD (n:=19) Try.func25 rfl Try.ntmps25 (by simp) fun a u=>?_;unfold bO at h;refine wp_seq<|aA<|qa u rfl fun a u=>aC<|t_n<|wp_seq<|wp_seq<|aA<|qm u rfl fun a u=>q u (cI u rfl wV) fun a u=>qm u rfl fun a u=>aC<|t_n<|wp_block<|?_;have⟨r3,e4,h⟩:=bs1 h;refine dN (n:=19) (L1:=fun i=>[]) (w1:=fun i=>i) (L2:=fun i=>[(4,(iV i.1))]) (w2:=fun i=>i.2) (e1:=.exit 0) (e2:=.ret) (I:=fun (s:Int×World) a w=>Has 19 [(8,(iV s.1)),(0,(Sl.v a0)),(1,(.func (.func 14) #[] #[])),(7,(iV (a0.n:Int)))] a/\w=s.2) ⟨u.sub ⟨rfl,rfl,rfl,rfl,aAP⟩,rfl⟩ e4 (fun i hi a u=>?_) (fun i hi a u=>?_) (fun hk8 hk9=>?_)
 .subst hi;obtain⟨w5,rfl⟩:∃ x,x=i:=⟨i,rfl⟩;dsimp only[Sum.elim_inl,Sum.elim_inr,u1,u2,u3,u4,u5,u6] at h;have u:Has 19 [] a:=u;refine fD<|t_n<|wp_seq<|aA<|qa u rfl fun a u=>aC<|t_n<|wp_ret<|?_;have y:=u;cases h;exact aY Try.results25 y rfl ⟨rfl,rfl⟩
 .subst hi;obtain⟨v6,w7⟩:=i;dsimp only[Sum.elim_inl,Sum.elim_inr,u1,u2,u3,u4,u5,u6] at h;have u:Has 19 [(4,(iV v6))] a:=u;refine b_r<|t_r<|?_;have y:=u;cases h;exact aY Try.results25 y rfl ⟨rfl,rfl⟩
 clear h;rintro⟨x1,w2⟩ a wq o ⟨u,hwq⟩ h hr10;obtain rfl:w2=wq:=hwq.symm;have u:Has 19 [(8,(iV x1)),(0,(Sl.v a0)),(1,(.func (.func 14) #[] #[])),(7,(iV (a0.n:Int)))] a:=u;have h:aP a0 x1 w2=some o:=h;unfold aP at h;refine wp_seq<|aA<|q u (gG u rfl rfl) fun a u=>aC<|t_n<|wp_seq<|?_;refine aF u rfl h (fun b11 h=>?_) (fun b11 h=>?_)
 .refine wp_skip<|t_n<|wp_seq<|wp_block<|wp_seq<|aA<|qm u rfl fun a u=>qa u rfl fun a u=>aC<|t_n<|wp_seq<|aA<|qm u rfl fun a u=>qm u rfl fun a u=>qm u rfl fun a u=>?_;have⟨p12,e13,h⟩:=bs1 h;refine q u (eY u rfl rfl wV xA e13) fun a u=>?_;have⟨c14,e15,h⟩:=bs1 h;refine q u (bK u rfl xQ xA e15) fun a u=>?_;have⟨v16,w17,e18,h⟩:=bs2 h;refine q u (dV (xs:=[_]) (vs:=[(.agg (List.toArray c14))]) (cv:=[]) u rfl ⟨rfl,aAP⟩ Try.call14 (jY e18)) fun a u=>aC<|t_n<|?_;refine aF u rfl h (fun b19 h=>?_) (fun b19 h=>?_)
  .refine wp_seq<|aA<|qm u rfl fun a u=>qa u rfl fun a u=>aC<|t_n<|wp_ret<|b_r<|t_r<|?_;have y:=u;cases h;cases hr10 _ rfl;refine gR<|?_;exact hk9 _ rfl _ (y.sb rfl)
  refine wp_skip<|b_n<|t_n<|aA<|q u (dY u rfl rfl) fun a u=>qm u rfl fun a u=>aC<|?_;have y:=u;cases h;exact cZ ⟨y.sb rfl,rfl⟩
 refine wp_exit<|t_x<|?_;have y:=u;cases h;cases hr10 _ rfl;refine iL<|?_;exact hk8 _ rfl _ (y.sb rfl)
noncomputable def aU (a0:Sl) (w:World):Option (Bool×World) :=
 aE (bO a0 w) fun v1 w2 =>
 some ((decide (0<=v1)),w2)
theorem cN {a0 w w' r0} (h:aU a0 w=some (r0,w')):Calls Try.prog 16 #[(Sl.v a0),(.func (.func 14) #[] #[])] w fun e w''=>e=.returned (.bool r0)/\w''=w':=by
 refine aD (n:=9) Try.func16 rfl Try.ntmps16 (by simp) fun a u=>?_;unfold aU at h;refine wp_seq<|aA<|qa u rfl fun a u=>aC<|t_n<|wp_seq<|aA<|qm u rfl fun a u=>qm u rfl fun a u=>?_;have⟨v1,w2,e3,h⟩:=bs2 h;refine q u (eG (xs:=[_,_]) (vs:=[(Sl.v a0),(.func (.func 14) #[] #[])]) u ⟨rfl,rfl,aAP⟩ Try.call25 (eU e3)) fun a u=>q u (lW u rfl rfl) fun a u=>qa u rfl fun a u=>aC<|t_n<|wp_ret<|?_;have y:=u;cases h;exact aY Try.results16 y rfl ⟨rfl,rfl⟩
noncomputable def cG (a0:Sl) (x2:ByteArray) (x3:Int) (w4:World):Option ((ByteArray×Int×World)⊕((World)⊕(Int×World))) :=
 if (decide (x3<(a0.n:Int)))=true then
 ((ix a0 x3 12).bind fun p14 =>
 (ldA 12 w4 p14 0).bind fun c16 =>
 aE (mk w4 40 ([.string ByteArray.empty,.int .i64 0,.bool false,.int .i64 0,.int .i64 0,.string ByteArray.empty,.string ByteArray.empty,.bool false,.int .u8 0,.bool false,.slice none 0 0,.slice none 0 0])) fun p18 w19 =>
 (stA w19 p18 0 c16).bind fun w21 =>
 (ldS w21 (p18.add 0)).bind fun v23 =>
 aE (fY v23 w21) fun v25 w26 =>
 if (!v25)=true then
 (some (.inr (.inr (11,w26))))
 else
 ((ldS w26 (p18.add 0)).bind fun v29 =>
 if (sLt v29 x2||sEq v29 x2)=true then
 (some (.inr (.inr (4,w26))))
 else
 (aE ((ldI .i64 w26 (p18.add 1)).bind fun v36 =>
 if (decide (v36<1))=true then
 (some (true,w26))
 else
 ((ldI .i64 w26 (p18.add 1)).bind fun v39 =>
 some ((decide (4<v39)),w26))) fun v32 w33 =>
 if v32=true then
 (some (.inr (.inr (12,w33))))
 else
 (gX ((ldI .i64 w33 (p18.add 1)).bind fun v48 =>
 if (v48==4)=true then
 (aE ((ldL w33 (p18.add 10)).bind fun v55 =>
 if (decide (4<(v55.n:Int)))=true then
 (some (true,w33))
 else
 ((ldL w33 (p18.add 11)).bind fun v58 =>
 some ((decide (4<(v58.n:Int))),w33))) fun v51 w52 =>
 if v51=true then
 ((some (.inr (.inr (6,w52)))).bind fun g47=>some (.inl g47))
 else
 (aE ((ldL w52 (p18.add 10)).bind fun v66 =>
 aE (aU v66 w52) fun v68 w69 =>
 if v68=true then
 (some (true,w69))
 else
 ((ldL w69 (p18.add 11)).bind fun v72 =>
 aE (aU v72 w69) fun v74 w75 =>
 some (v74,w75))) fun v62 w63 =>
 if v62=true then
 ((some (.inr (.inr (2,w63)))).bind fun g47=>some (.inl g47))
 else
 (some (.inr w63))))
 else
 (some (.inr w33))) some fun (i:World)=>u1 i fun w42 =>
 (ldS w42 (p18.add 0)).bind fun v79 =>
 some (.inl (v79,(IntKind.wrap .i64 (x3+1)),w42))))))
 else
 (some (.inr (.inl w4)))
noncomputable def dZ (a0:Sl) (w:World):Option (Int×World) :=
 if (decide (8<(a0.n:Int)))=true then
 (some (6,w))
 else
 ((bU (fun s:ByteArray×Int×World=>cG a0 s.1 s.2.1 s.2.2) ((ByteArray.mk #[]),0,w)).bind fun r5=>Sum.elim (fun (i:World)=>u1 i fun w7 =>
 some (0,w7)) (fun (i:Int×World)=>u2 i fun v8 w9 =>
 some (v8,w9)) r5)
theorem iE {a0 w w' r0} (h:dZ a0 w=some (r0,w')):Calls Try.prog 7 #[(Sl.v a0)] w fun e w''=>e=.returned (.int .i64 r0)/\w''=w':=by
 refine aD (n:=61) Try.func7 rfl Try.ntmps7 (by simp) fun a u=>?_;unfold dZ at h;refine wp_seq<|aA<|qa u rfl fun a u=>aC<|t_n<|wp_seq<|wp_seq<|aA<|qm u rfl fun a u=>q u (cI u rfl wS) fun a u=>q u (jF u rfl rfl) fun a u=>aC<|t_n<|?_;refine aF u rfl h (fun b1 h=>?_) (fun b1 h=>?_)
 .refine wp_seq<|aA<|qa u rfl fun a u=>aC<|t_n<|wp_ret<|t_r<|?_;have y:=u;cases h;exact aY Try.results7 y rfl ⟨rfl,rfl⟩
 refine wp_skip<|t_n<|wp_seq<|aA<|qa u rfl fun a u=>aC<|t_n<|wp_seq<|wp_seq<|aA<|qm u rfl fun a u=>q u (cI u rfl wS) fun a u=>qm u rfl fun a u=>aC<|t_n<|wp_block<|?_;have⟨r5,e6,h⟩:=bs1 h;refine dN (n:=61) (L1:=fun i=>[]) (w1:=fun i=>i) (L2:=fun i=>[(2,(iV i.1))]) (w2:=fun i=>i.2) (e1:=.exit 0) (e2:=.ret) (I:=fun (s:ByteArray×Int×World) a w=>Has 61 [(3,(.string s.1)),(12,(iV s.2.1)),(10,(Sl.v a0)),(11,(iV (a0.n:Int)))] a/\w=s.2.2) ⟨u.sub ⟨rfl,rfl,rfl,rfl,aAP⟩,rfl⟩ e6 (fun i hi a u=>?_) (fun i hi a u=>?_) (fun hk10 hk11=>?_)
 .subst hi;obtain⟨w7,rfl⟩:∃ x,x=i:=⟨i,rfl⟩;dsimp only[Sum.elim_inl,Sum.elim_inr,u1,u2,u3,u4,u5,u6] at h;have u:Has 61 [] a:=u;refine fD<|t_n<|wp_seq<|aA<|qa u rfl fun a u=>aC<|t_n<|wp_ret<|?_;have y:=u;cases h;exact aY Try.results7 y rfl ⟨rfl,rfl⟩
 .subst hi;obtain⟨v8,w9⟩:=i;dsimp only[Sum.elim_inl,Sum.elim_inr,u1,u2,u3,u4,u5,u6] at h;have u:Has 61 [(2,(iV v8))] a:=u;refine b_r<|t_r<|?_;have y:=u;cases h;exact aY Try.results7 y rfl ⟨rfl,rfl⟩
 clear h;rintro⟨x2,x3,w4⟩ a wq o ⟨u,hwq⟩ h hr12;obtain rfl:w4=wq:=hwq.symm;have u:Has 61 [(3,(.string x2)),(12,(iV x3)),(10,(Sl.v a0)),(11,(iV (a0.n:Int)))] a:=u;have h:cG a0 x2 x3 w4=some o:=h;unfold cG at h;refine wp_seq<|aA<|q u (gG u rfl rfl) fun a u=>aC<|t_n<|wp_seq<|?_;refine aF u rfl h (fun b13 h=>?_) (fun b13 h=>?_)
 .refine wp_skip<|t_n<|wp_seq<|wp_block<|wp_seq<|aA<|?_;have⟨p14,e15,h⟩:=bs1 h;refine q u (eY u rfl rfl wS wO e15) fun a u=>?_;have⟨c16,e17,h⟩:=bs1 h;refine q u (bK u rfl xE wO e17) fun a u=>?_;have⟨p18,w19,e20,h⟩:=bs2 h;refine q u (cM wW (by kernel_rfl) e20) fun a u=>?_;have⟨w21,e22,h⟩:=bs1 h;refine q u (dQ u rfl rfl wO ((hT e17).1) e22) fun a u=>aC<|t_n<|wp_seq<|wp_block<|wp_seq<|aA<|q u (aJ u rfl wM rfl rfl wR) fun a u=>?_;have⟨v23,e24,h⟩:=bs1 h;refine q u (aG u rfl wU (cH e24)) fun a u=>?_;have⟨v25,w26,e27,h⟩:=bs2 h;refine q u (dc1 u rfl Try.call13 (iG e27)) fun a u=>q u (fT u rfl) fun a u=>qa u rfl fun a u=>aC<|t_n<|?_;refine aF u rfl h (fun b28 h=>?_) (fun b28 h=>?_)
  .refine wp_seq<|aA<|qa u rfl fun a u=>aC<|t_n<|wp_ret<|b_r<|t_r<|b_r<|t_r<|?_;have y:=u;cases h;cases hr12 _ rfl;refine gR<|?_;exact hk11 _ rfl _ (y.sb rfl)
  refine wp_seq<|aA<|q u (aJ u rfl wM rfl rfl wR) fun a u=>?_;have⟨v29,e30,h⟩:=bs1 h;refine q u (aG u rfl wU (cH e30)) fun a u=>qm u rfl fun a u=>q u (pF u rfl rfl) fun a u=>qa u rfl fun a u=>aC<|t_n<|?_;refine aF u rfl h (fun b31 h=>?_) (fun b31 h=>?_)
  .refine wp_seq<|aA<|qa u rfl fun a u=>aC<|t_n<|wp_ret<|b_r<|t_r<|b_r<|t_r<|?_;have y:=u;cases h;cases hr12 _ rfl;refine gR<|?_;exact hk11 _ rfl _ (y.sb rfl)
  refine wp_seq<|?_;have⟨v32,w33,e34,h⟩:=bs2 h;refine bY (n:=61) (L:=[(26,(bV v32)),(5,(pV (some p18))),(10,(Sl.v a0)),(11,(iV (a0.n:Int))),(12,(iV x3))]) (w':=w33) (fun a u=>?_) (fun hk35=>?_)
  .refine t_n<|?_;refine aF u rfl h (fun b41 h=>?_) (fun b41 h=>?_)
   .refine wp_seq<|aA<|qa u rfl fun a u=>aC<|t_n<|wp_ret<|b_r<|t_r<|b_r<|t_r<|?_;have y:=u;cases h;cases hr12 _ rfl;refine gR<|?_;exact hk11 _ rfl _ (y.sb rfl)
   refine wp_skip<|b_n<|t_n<|?_;obtain⟨o45,e43,h44⟩:=bsX h;clear h;refine iP (n:=61) (ι:=World) (Lf:=fun i=>[(5,(pV (some p18))),(10,(Sl.v a0)),(11,(iV (a0.n:Int))),(12,(iV x3))]) (wf:=fun i=>i) (C:=fun i=>o45=.inr i) (fun i hi a u=>?_) (fun hk46=>?_)
   .subst hi;obtain⟨w42,rfl⟩:∃ x,x=i:=⟨i,rfl⟩;have h:=h44;dsimp only[gX,u1,u2,u3,u4,u5,u6] at h;have u:Has 61 [(5,(pV (some p18))),(10,(Sl.v a0)),(11,(iV (a0.n:Int))),(12,(iV x3))] a:=u;refine aA<|q u (aJ u rfl wM rfl rfl wR) fun a u=>?_;have⟨v79,e80,h⟩:=bs1 h;refine q u (aG u rfl wU (cH e80)) fun a u=>qa u rfl fun a u=>aC<|b_n<|t_n<|aA<|q u (dY u rfl rfl) fun a u=>qm u rfl fun a u=>aC<|?_;have y:=u;cases h;exact cZ ⟨y.sb rfl,rfl⟩
   have h:=e43;refine wp_seq<|aA<|q u (aJ u rfl wM rfl rfl xB) fun a u=>?_;have⟨v48,e49,h⟩:=bs1 h;refine q u (aG u rfl wX (aO e49)) fun a u=>q u (cC u rfl rfl) fun a u=>aC<|t_n<|?_;refine aF u rfl h (fun b50 h=>?_) (fun b50 h=>?_)
   .refine wp_seq<|wp_seq<|?_;have⟨v51,w52,e53,h⟩:=bs2 h;refine bY (n:=61) (L:=[(47,(bV v51)),(5,(pV (some p18))),(10,(Sl.v a0)),(11,(iV (a0.n:Int))),(12,(iV x3))]) (w':=w52) (fun a u=>?_) (fun hk54=>?_)
    .refine t_n<|?_;refine aF u rfl h (fun b60 h=>?_) (fun b60 h=>?_)
     .refine wp_seq<|aA<|qa u rfl fun a u=>aC<|t_n<|wp_ret<|t_r<|?_;have y:=u;have⟨g47,e61,h⟩:=bs1 h;cases h;cases h44;have h:=e61;have u:=y;refine t_r<|b_r<|t_r<|?_;have y:=u;cases h;cases hr12 _ rfl;refine gR<|?_;exact hk11 _ rfl _ (y.sb rfl)
     refine wp_skip<|t_n<|wp_seq<|aA<|qa u rfl fun a u=>aC<|t_n<|wp_seq<|?_;have⟨v62,w63,e64,h⟩:=bs2 h;refine bY (n:=61) (L:=[(57,(bV v62)),(5,(pV (some p18))),(10,(Sl.v a0)),(11,(iV (a0.n:Int))),(12,(iV x3))]) (w':=w63) (fun a u=>?_) (fun hk65=>?_)
     .refine t_n<|?_;refine aF u rfl h (fun b77 h=>?_) (fun b77 h=>?_)
      .refine wp_seq<|aA<|qa u rfl fun a u=>aC<|t_n<|wp_ret<|?_;have y:=u;have⟨g47,e78,h⟩:=bs1 h;cases h;cases h44;have h:=e78;have u:=y;refine t_r<|b_r<|t_r<|?_;have y:=u;cases h;cases hr12 _ rfl;refine gR<|?_;exact hk11 _ rfl _ (y.sb rfl)
      refine wp_skip<|?_;have y:=u;cases h;exact hk46 _ rfl _ (y.sb rfl)
     clear h;have h:=e64;refine aA<|q u (aJ u rfl wM rfl rfl xI) fun a u=>?_;have⟨v66,e67,h⟩:=bs1 h;refine q u (aG u rfl xY (bW e67)) fun a u=>qm u rfl fun a u=>?_;have⟨v68,w69,e70,h⟩:=bs2 h;refine q u (eG (xs:=[_,_]) (vs:=[(Sl.v v66),(.func (.func 14) #[] #[])]) u ⟨rfl,rfl,aAP⟩ Try.call16 (cN e70)) fun a u=>qm u rfl fun a u=>?_;refine dG h (fun b71 h=>?_) (fun b71 h=>?_)
     .refine qn u 52 (tn b71) fun a u=>qn u 52 (tn b71) fun a u=>qn u 52 (tn b71) fun a u=>qn u 52 (tn b71) fun a u=>q u (aK u rfl b71 rfl) fun a u=>aC<|?_;have y:=u;cases h;exact hk65 _ (y.sb rfl)
     refine qg u 52 (nt b71) (aJ u rfl wM rfl rfl xI) fun a u=>?_;have⟨v72,e73,h⟩:=bs1 h;refine qg u 52 (nt b71) (aG u rfl xY (bW e73)) fun a u=>qg u 52 (nt b71) (aI u rfl) fun a u=>?_;have⟨v74,w75,e76,h⟩:=bs2 h;refine qg u 52 (nt b71) (eG (xs:=[_,_]) (vs:=[(Sl.v v72),(.func (.func 14) #[] #[])]) u ⟨rfl,rfl,aAP⟩ Try.call16 (cN e76)) fun a u=>q u (aM u rfl b71 rfl) fun a u=>aC<|?_;have y:=u;cases h;exact hk65 _ (y.sb rfl)
    clear h;have h:=e53;refine aA<|q u (aJ u rfl wM rfl rfl xI) fun a u=>?_;have⟨v55,e56,h⟩:=bs1 h;refine q u (aG u rfl xY (bW e56)) fun a u=>q u (cI u rfl wV) fun a u=>q u (jF u rfl rfl) fun a u=>qm u rfl fun a u=>?_;refine dG h (fun b57 h=>?_) (fun b57 h=>?_)
    .refine qn u 42 (tn b57) fun a u=>qn u 42 (tn b57) fun a u=>qn u 42 (tn b57) fun a u=>qn u 42 (tn b57) fun a u=>q u (aK u rfl b57 rfl) fun a u=>aC<|?_;have y:=u;cases h;exact hk54 _ (y.sb rfl)
    refine qg u 42 (nt b57) (aJ u rfl wM rfl rfl xI) fun a u=>?_;have⟨v58,e59,h⟩:=bs1 h;refine qg u 42 (nt b57) (aG u rfl xY (bW e59)) fun a u=>qg u 42 (nt b57) (cI u rfl wV) fun a u=>qg u 42 (nt b57) (jF u rfl rfl) fun a u=>q u (aM u rfl b57 rfl) fun a u=>aC<|?_;have y:=u;cases h;exact hk54 _ (y.sb rfl)
   refine wp_skip<|?_;have y:=u;cases h;exact hk46 _ rfl _ (y.sb rfl)
  clear h;have h:=e34;refine aA<|q u (aJ u rfl wM rfl rfl xB) fun a u=>?_;have⟨v36,e37,h⟩:=bs1 h;refine q u (aG u rfl wX (aO e37)) fun a u=>q u (gG u rfl rfl) fun a u=>qm u rfl fun a u=>?_;refine dG h (fun b38 h=>?_) (fun b38 h=>?_)
  .refine qn u 30 (tn b38) fun a u=>qn u 30 (tn b38) fun a u=>qn u 30 (tn b38) fun a u=>q u (aK u rfl b38 rfl) fun a u=>qa u rfl fun a u=>aC<|?_;have y:=u;cases h;exact hk35 _ (y.sb rfl)
  refine qg u 30 (nt b38) (aJ u rfl wM rfl rfl xB) fun a u=>?_;have⟨v39,e40,h⟩:=bs1 h;refine qg u 30 (nt b38) (aG u rfl wX (aO e40)) fun a u=>qg u 30 (nt b38) (jF u rfl rfl) fun a u=>q u (aM u rfl b38 rfl) fun a u=>qa u rfl fun a u=>aC<|?_;have y:=u;cases h;exact hk35 _ (y.sb rfl)
 refine wp_exit<|t_x<|?_;have y:=u;cases h;cases hr12 _ rfl;refine iL<|?_;exact hk10 _ rfl _ (y.sb rfl)
def lB (s:ByteArray) (i:Nat):Int:=(((s[i]?).map fun b=>b.toNat).getD 0:Nat)
def chN (s:ByteArray) (i:Nat):Bool:=(decide (97<=lB s i)&&decide (lB s i<=122))||(decide (0<i)&&((decide (48<=lB s i)&&decide (lB s i<=57))||(lB s i==45)))
def lN (s:ByteArray):Bool:=decide (1<=s.size)&&decide (s.size<=16)&&(List.range s.size).all (chN s)
theorem wD {s:ByteArray} {i:Nat} (h:i<s.size):ixS s (i:Int)=some (lB s i):=by
 unfold ixS lB;have:((i:Int).toNat)=i:=by omega
 rw[if_pos (by omega),this,getElem?_pos s i h];rfl
theorem hJ {i:Nat} (h:i<1000000):IntKind.wrap .i64 ((i:Int)+1)=((i+1:Nat):Int):=by rw[IntKind.wrap_i64];omega
theorem lT {s:ByteArray} (hs:s.size<=16) {w:World}:∀ (m i:Nat),m+i=s.size->bU (fun r:Int×World=>cX s r.1 r.2) ((i:Int),w)=some (if ((List.range' i m).all (chN s))=true then .inl w else .inr (false,w))
 | 0,i,h=>by
  refine cW ?_;unfold cX;rw[if_neg (by simp;omega)];simp
 | m+1,i,h=>by
  have hi:i<s.size:=by omega
  have hw:=hJ (i:=i) (by omega);obtain⟨c,hc⟩:∃ c,lB s i=c:=⟨_,rfl⟩;have e:cX s (i:Int) w=some (if chN s i=true then .inl (((i+1:Nat):Int),w) else .inr (.inr (false,w))):=by
   unfold cX;rw[if_pos (by simp;omega),wD hi,hw];unfold chN;rw[hc];by_cases c1:97<=c<;>by_cases c2:c<=122<;>by_cases c3:0<i<;>by_cases c4:48<=c<;>by_cases c5:c<=57<;>by_cases c6:c=45<;>simp[c1,c2,c3,c4,c5,c6,gX,aE,u1,Option.bind]
  rw[List.range'_succ,List.all_cons];by_cases h1:chN s i=true
  .rw[h1,aAM,<-lT hs m (i+1) (by omega)];exact gA (by show cX s (i:Int) w=_;rw[e,if_pos h1])
  refine cW ?_;show cX s (i:Int) w=_;rw[e,if_neg h1];simp[h1]
theorem lV (s:ByteArray) (w:World):fY s w=some (lN s,w):=by
 unfold fY lN;by_cases h1:(s.size:Int)<1
 .rw[if_pos (by simpa using h1)];simp[aE,show ¬ (1<=s.size) by omega]
 rw[if_neg (by simpa using h1)];by_cases h2:16<(s.size:Int)
 .simp[aE,h2,show ¬ (s.size<=16) by omega]
 have hl:=lT (s:=s) (by omega) (w:=w) s.size 0 (by omega);rw[show((0:Nat):Int)=0 from rfl,<-List.range_eq_range'] at hl;rw[cQ,if_neg (by simpa using h2),hl];by_cases h3:(List.range s.size).all (chN s)=true
 .rw[if_pos h3,h3];simp[u1,show 1<=s.size by omega,show s.size<=16 by omega]
 rw[if_neg h3];simp[u2,h3]
def dcC (d:Dc):List Value:=[.int .i64 d.x,.int .i64 d.y,.int .i64 d.r]
def dcR (g:Gh) (w:World) (cs:List Value) (d:Dc):Prop:=cs=dcC d
def sdC (s:Sd) (z y:Sl):List Value:=[.string s.name,.int .i64 s.kind,.bool s.ab,.int .i64 s.low,.int .i64 s.high,.string s.fr,.string s.to,.bool s.op,.int .u8 s.tr,.bool s.no,z.v,y.v]
def sdR (g:Gh) (w:World) (cs:List Value) (s:Sd):Prop:=∃ z y:Sl,cs=sdC s z y/\PL dcR 3 g w z s.ins/\PL dcR 3 g w y s.outs/\0<=s.tr/\s.tr<256
theorem eW {g g':Gh} {w w':World} {cs:List Value} {d:Dc} (h:dcR g w cs d) (m:Mo g w g' w'):dcR g' w' cs d:=h
theorem gO {g g':Gh} {w w':World} {cs:List Value} {s:Sd} (h:sdR g w cs s) (m:Mo g w g' w'):sdR g' w' cs s:=by
 obtain⟨z,y,e,h1,h2,h3⟩:=h;exact⟨z,y,e,PL.mo (R:=dcR) eW h1 m,PL.mo (R:=dcR) eW h2 m,h3⟩
theorem jS {s:Sd} {z y:Sl}:∀ v∈sdC s z y,v.oneCell'=true:=by intro v hv;simp[sdC] at hv;rcases hv with rfl | rfl | rfl | rfl | rfl | rfl | rfl | rfl | rfl | rfl | rfl | rfl<;>rfl
theorem pI {d:Dc}:∀ v∈dcC d,v.oneCell'=true:=by intro v hv;simp[dcC] at hv;rcases hv with rfl | rfl | rfl<;>rfl
def oQ (s:Sd) (ah:ByteArray):Int:=if lN s.name=false then 11 else if sLe s.name ah=true then 4 else if s.kind<1\/4<s.kind then 12 else
 if s.kind=4 then (if 4<s.ins.length\/4<s.outs.length then 6 else if (s.ins.any fun d=>!okD d)=true\/(s.outs.any fun d=>!okD d)=true then 2 else 0) else 0
def jP:List Sd->ByteArray->Int
 | [],_=>0
 | s::l,ah=>if oQ s ah=0 then jP l s.name else oQ s ah
def gC (b:List Sd):Int:=if 8<b.length then 6 else jP b ByteArray.empty
section
variable {F0 : Nat -> Prop} {g g0 : Gh} {w w0 : World} {L : List Rs} {z : Sl} {α : Type} {R : Gh -> World -> List Value -> α -> Prop} {sz : Nat} {xs : List α} {d : Dc} {ds : List Dc} {b cs : List Value}
theorem PL.el {g1:Gh} {w1:World} (hR:∀ {g w g' w' cs x},R g w cs x->Mo g w g' w'->R g' w' cs x) (h:PL R sz g w z xs) (m:Mo g w g1 w1) {i:Nat} {x:α} (hx:xs[i]?=some x) :
  ∃ a cs,D.ix z (i:Int) sz=some a/\ldA sz w1 a 0=some cs/\R g1 w1 cs x/\∀ j v,cs[j]?=some v->w1.cell? (a.add j)=some v:=by
 obtain⟨a,cs,ea,ga,hl,hr,hc⟩:=h.at_ i x hx;have hcell:∀ j v,cs[j]?=some v->w1.cell? (a.add j)=some v:=fun j v hv=>by
  have hb':(a.add j).block=a.block:=by unfold Addr.add;split<;>rfl
  exact m.cell (by rw[hb'];exact ga) (hc j v hv)
 exact⟨a,cs,ea,jV sz w1 a 0 cs hl fun j v hv=>by rw[aAO];exact hcell j v hv,hR hr m,hcell⟩
theorem Hp.stF {p:Nat} {T:TypeId} {cs vs:List Value} (H:Hp F0 g0 w0 g w (bxR p cs T::L)) (hl:vs.length=cs.length) (h1:∀ v∈vs,v.oneCell'=true) :
  ∃ w',D.stA w ⟨p,0,none⟩ 0 vs=some w'/\Hp F0 g0 w0 g w' (bxR p vs T::L)/\Mo g w g w':=by
 obtain⟨w',e,H',m⟩:=H.stA (o:=0) (vs:=vs) (by omega) h1;have:nP cs 0 vs=vs:=by
  unfold nP;rw[aAJ,List.nil_append,aAO,zW (by omega),List.append_nil]
 rw[this] at H';exact⟨w',e,H',m⟩
theorem Hp.ldS {p o:Nat} {T:TypeId} {cs:List Value} {x:ByteArray} (H:Hp F0 g0 w0 g w (bxR p cs T::L)) (h:cs[o]?=some (.string x)):D.ldS w ⟨p,o,none⟩=some x:=rD ((iA H.bx).trans h)
theorem Hp.ldF {p:Nat} {T:TypeId} {cs:List Value} {n:Nat} (H:Hp F0 g0 w0 g w (bxR p cs T::L)) (h:cs.length=n):D.ldA n w ⟨p,0,none⟩ 0=some cs:=by
 rw[qM H.bx (by omega),zG,aAj (by omega)]
theorem iM {Pd:α->Bool} {step:Int->World->Option ((Int×World)⊕(World⊕(Int×World)))} (hn:xs.length<=1000)
  (hstep:∀ (i:Nat) (x:α) (w1:World),xs[i]?=some x->Hp F0 g0 w0 g w1 L->Mo g w g w1->Ex (step (i:Int) w1) fun o=>∃ w2,o=(if Pd x=true then .inr (.inr ((i:Int),w2)) else .inl (((i+1:Nat):Int),w2))/\Hp F0 g0 w0 g w2 L/\Mo g w1 g w2)
  (hend:∀ w1,step (xs.length:Int) w1=some (.inr (.inl w1))):∀ (m i:Nat) (w1:World),m+i=xs.length->Hp F0 g0 w0 g w1 L->Mo g w g w1 ->
  Ex (bU (fun s:Int×World=>step s.1 s.2) ((i:Int),w1)) fun o=>∃ w2,o=(match (xs.drop i).findIdx? Pd with | some j=>.inr (((i+j:Nat):Int),w2) | none=>.inl w2)/\Hp F0 g0 w0 g w2 L/\Mo g w1 g w2
 | 0,i,w1,hm,H,mo=>by
  have:i=xs.length:=by omega
  subst this;refine⟨.inl w1,cW (hend w1),w1,?_,H,Mo.r⟩;rw[zW (zN _)];rfl
 | m+1,i,w1,hm,H,mo=>by
  have hi:i<xs.length:=by omega
  obtain⟨o,eo,w2,rfl,H2,m2⟩:=hstep i xs[i] w1 (yQ hi) H mo;rw[aAc hi,aAg];by_cases hp:Pd xs[i]=true
  .rw[if_pos hp] at eo;refine⟨.inr ((i:Int),w2),cW eo,w2,?_,H2,m2⟩;rw[hp];rfl
  rw[if_neg hp] at eo;obtain⟨o,e3,w3,rfl,H3,m3⟩:=iM hn hstep hend m (i+1) w2 (by omega) H2 (mo.t m2);refine⟨_,(gA eo).trans e3,w3,?_,H3,m2.t m3⟩;have:Pd xs[i]=false:=by simpa using hp
  rw[this];simp only[aAh,if_false];cases(List.drop (i+1) xs).findIdx? Pd with
  | none=>rfl
  | some j=>simp only[yV];congr 2;omega
theorem nZ (a:Int) (w:World):fM a w=some (decide (-1048576<=a)&&decide (a<=1048576),w):=by
 unfold fM;by_cases h : -1048576<=a<;>simp[h,aE]
theorem sU (H:Hp F0 g0 w0 g w L):Ex (hU (dcC d) w) fun r=>r.1=okD d/\Hp F0 g0 w0 g r.2 L/\Mo g w g r.2:=by
 obtain⟨p,w2,e1,H1,m1⟩:=H.box (T:=43) (cs:=dcC d);have l0:ldI .i64 w2 ((⟨p,0,none⟩:Addr).add 0)=some d.x:=by rw[aS];exact H1.ldI rfl
 have l1:ldI .i64 w2 ((⟨p,0,none⟩:Addr).add 1)=some d.y:=by rw[aS];exact H1.ldI rfl
 have l2:ldI .i64 w2 ((⟨p,0,none⟩:Addr).add 2)=some d.r:=by rw[aS];exact H1.ldI rfl
 refine⟨(okD d,w2),?_,rfl,H1.tl,m1⟩;unfold hU okD;rw[e1,cQ,l0,aAN,nZ,cQ];simp only[l1,aAN,nZ,cQ,l2];by_cases h1 : -1048576<=d.x<;>by_cases h2:d.x<=1048576<;>by_cases h3 : -1048576<=d.y<;>by_cases h4:d.y<=1048576<;>by_cases h5:0<=d.r<;>simp[h1,h2,h3,h4,h5,aE]
theorem uI (H:Hp F0 g0 w0 g w L):Ex (dX (dcC d) w) fun r=>r.1=(!okD d)/\Hp F0 g0 w0 g r.2 L/\Mo g w g r.2:=by
 obtain⟨p,w2,e1,H1,m1⟩:=H.box (T:=43) (cs:=dcC d);obtain⟨⟨v,w3⟩,e3,rfl,H3,m3⟩:=sU (d:=d) H1;unfold dX;exact Ex.b2 e1 (Ex.b1 (H1.ldF rfl) (Ex.b2 e3 (Ex.ret ⟨rfl,H3.tl,m1.t m3⟩)))
theorem mR (hs:PL dcR 3 g w z ds) (hn:ds.length<=1000) (H:Hp F0 g0 w0 g w L):Ex (aU z w) fun r=>r.1=(ds.any fun d=>!okD d)/\Hp F0 g0 w0 g r.2 L/\Mo g w g r.2:=by
 have hln:=hs.len;obtain⟨o,e,w2,rfl,H2,m2⟩:=iM (xs:=ds) (Pd:=fun d=>!okD d) (step:=aP z) hn (fun i x w1 hx H1 m1=>by
  obtain⟨a,cs,ea,la,rfl,-⟩:=hs.el (R:=dcR) eW m1 hx;have hi:=(yP.1 hx).1;obtain⟨⟨v,w3⟩,e3,hv,H3,m3⟩:=uI (d:=x) H1;simp only at hv H3 m3;unfold aP;refine Ex.t (by simp;omega) (Ex.b1 ea (Ex.b1 la (Ex.b2 e3 ?_)));subst hv;rw[hJ (by omega)];by_cases hp:(!okD x)=true
  .exact Ex.t hp (Ex.ret ⟨w3,by rw[if_pos hp],H3,m3⟩)
  .exact Ex.f hp (Ex.ret ⟨w3,by rw[if_neg hp],H3,m3⟩)) (fun w1=>by
  unfold aP;rw[if_neg (by simp;omega)]) ds.length 0 w (by omega) H Mo.r
 have e':bU (fun s:Int×World=>aP z s.1 s.2) (0,w)=_:=e;unfold aU bO;rw[e',aAN,zG];have ha:(ds.any fun d=>!okD d)=(ds.findIdx? fun d=>!okD d).isSome:=List.findIdx?_isSome.symm;rw[ha]
 cases ds.findIdx? fun d=>!okD d with
 | none=>exact⟨(false,w2),rfl,rfl,H2,m2⟩
 | some j=>exact⟨(true,w2),by simp[u2,aE],rfl,H2,m2⟩
end
section
variable {H : Type} {enc : TypeId × Value -> H} {w : World} {base fuel : Nat} {spare : Nat -> Bool} {held : Bool} {cs : List Value} {x : DataW H × List MemPlace}
theorem vF {α:Type} {l:List α} (h:l.length=3):∃ a b c,l=[a,b,c]:=by
 match l,h with
 | [a,b,c],_=>exact⟨a,b,c,rfl⟩
theorem tH {α:Type} {l:List α} (h:l.length=12):∃ v0 v1 v2 v3 v4 v5 v6 v7 v8 v9 v10 v11,l=[v0,v1,v2,v3,v4,v5,v6,v7,v8,v9,v10,v11]:=by
 match l,h with
 | [v0,v1,v2,v3,v4,v5,v6,v7,v8,v9,v10,v11],_=>exact⟨v0,v1,v2,v3,v4,v5,v6,v7,v8,v9,v10,v11,rfl⟩
theorem sV {m:Nat} {c:List Value} {y:DataW H×List MemPlace} (h:DataW.trod enc Try.prog w base spare held m 43 c=some y) (hx:∀ v∈y.1.weights Try.prog 43,v<=140737488351232):∃ d,dcR (old w) w c d:=by
 obtain⟨xs,m',_,hy,hl,hlen,hf⟩:=DataW.trod_struct Try.underlying43 h;have hl4:c.length=3:=hl.trans (by kernel_rfl);have c0:Try.prog.cellsOf 3=1:=by kernel_rfl
 have hlen4:xs.length=3:=hlen;clear hlen hl;obtain⟨v0,v1,v2,rfl⟩:=vF hl4;obtain⟨y0,y1,y2,rfl⟩:=vF hlen4;have h0:DataW.trod enc Try.prog w base spare held m' 3 (([v0,v1,v2].drop 0).take (Try.prog.cellsOf 3))=some y0:=hf 0 _ rfl;have h1:DataW.trod enc Try.prog w base spare held m' 3 (([v0,v1,v2].drop 1).take (Try.prog.cellsOf 3))=some y1:=hf 1 _ rfl;have h2:DataW.trod enc Try.prog w base spare held m' 3 (([v0,v1,v2].drop 2).take (Try.prog.cellsOf 3))=some y2:=hf 2 _ rfl;simp only[c0,zG,List.take_succ_cons,aAJ,List.drop_succ_cons,zK,zJ] at h0 h1 h2;obtain⟨a0,e0,_,_⟩:=DataW.trod_int Try.underlying3 h0;obtain⟨a1,e1,_,_⟩:=DataW.trod_int Try.underlying3 h1;obtain⟨a2,e2,_,_⟩:=DataW.trod_int Try.underlying3 h2;obtain rfl:=(List.cons.inj e0).1;obtain rfl:=(List.cons.inj e1).1;obtain rfl:=(List.cons.inj e2).1;exact⟨⟨a0,a1,a2⟩,rfl⟩
theorem oD (h:DataW.trod enc Try.prog w base spare held fuel 38 cs=some x) (hx:∀ v∈x.1.weights Try.prog 38,v<=140737488351232):∃ (s:Sl) (ds:List Dc),cs=[Sl.v s]/\PL dcR 3 (old w) w s ds :=
 mW Try.underlying38 (by kernel_rfl) (by decide) (fun m c y h hx=>sV h hx) h hx
theorem sH {m:Nat} {c:List Value} {y:DataW H×List MemPlace} (h:DataW.trod enc Try.prog w base spare held m 40 c=some y) (hx:∀ v∈y.1.weights Try.prog 40,v<=140737488351232):∃ d,sdR (old w) w c d:=by
 obtain⟨xs,m',_,hy,hl,hlen,hf⟩:=DataW.trod_struct Try.underlying40 h;have hl4:c.length=12:=hl.trans (by kernel_rfl);have c0:Try.prog.cellsOf 9=1:=by kernel_rfl
 have c1:Try.prog.cellsOf 31=1:=by kernel_rfl
 have c2:Try.prog.cellsOf 4=1:=by kernel_rfl
 have c3:Try.prog.cellsOf 2=1:=by kernel_rfl
 have c4:Try.prog.cellsOf 5=1:=by kernel_rfl
 have c5:Try.prog.cellsOf 38=1:=by kernel_rfl
 have hlen4:xs.length=12:=hlen;clear hlen hl;obtain⟨v0,v1,v2,v3,v4,v5,v6,v7,v8,v9,v10,v11,rfl⟩:=tH hl4;obtain⟨y0,y1,y2,y3,y4,y5,y6,y7,y8,y9,y10,y11,rfl⟩:=tH hlen4;have h0:DataW.trod enc Try.prog w base spare held m' 9 (([v0,v1,v2,v3,v4,v5,v6,v7,v8,v9,v10,v11].drop 0).take (Try.prog.cellsOf 9))=some y0:=hf 0 _ rfl;have h1:DataW.trod enc Try.prog w base spare held m' 31 (([v0,v1,v2,v3,v4,v5,v6,v7,v8,v9,v10,v11].drop 1).take (Try.prog.cellsOf 31))=some y1:=hf 1 _ rfl;have h2:DataW.trod enc Try.prog w base spare held m' 4 (([v0,v1,v2,v3,v4,v5,v6,v7,v8,v9,v10,v11].drop 2).take (Try.prog.cellsOf 4))=some y2:=hf 2 _ rfl;have h3:DataW.trod enc Try.prog w base spare held m' 2 (([v0,v1,v2,v3,v4,v5,v6,v7,v8,v9,v10,v11].drop 3).take (Try.prog.cellsOf 2))=some y3:=hf 3 _ rfl;have h4:DataW.trod enc Try.prog w base spare held m' 2 (([v0,v1,v2,v3,v4,v5,v6,v7,v8,v9,v10,v11].drop 4).take (Try.prog.cellsOf 2))=some y4:=hf 4 _ rfl;have h5:DataW.trod enc Try.prog w base spare held m' 9 (([v0,v1,v2,v3,v4,v5,v6,v7,v8,v9,v10,v11].drop 5).take (Try.prog.cellsOf 9))=some y5:=hf 5 _ rfl;have h6:DataW.trod enc Try.prog w base spare held m' 9 (([v0,v1,v2,v3,v4,v5,v6,v7,v8,v9,v10,v11].drop 6).take (Try.prog.cellsOf 9))=some y6:=hf 6 _ rfl;have h7:DataW.trod enc Try.prog w base spare held m' 4 (([v0,v1,v2,v3,v4,v5,v6,v7,v8,v9,v10,v11].drop 7).take (Try.prog.cellsOf 4))=some y7:=hf 7 _ rfl;have h8:DataW.trod enc Try.prog w base spare held m' 5 (([v0,v1,v2,v3,v4,v5,v6,v7,v8,v9,v10,v11].drop 8).take (Try.prog.cellsOf 5))=some y8:=hf 8 _ rfl;have h9:DataW.trod enc Try.prog w base spare held m' 4 (([v0,v1,v2,v3,v4,v5,v6,v7,v8,v9,v10,v11].drop 9).take (Try.prog.cellsOf 4))=some y9:=hf 9 _ rfl;have h10:DataW.trod enc Try.prog w base spare held m' 38 (([v0,v1,v2,v3,v4,v5,v6,v7,v8,v9,v10,v11].drop 10).take (Try.prog.cellsOf 38))=some y10:=hf 10 _ rfl;have h11:DataW.trod enc Try.prog w base spare held m' 38 (([v0,v1,v2,v3,v4,v5,v6,v7,v8,v9,v10,v11].drop 11).take (Try.prog.cellsOf 38))=some y11:=hf 11 _ rfl;simp only[c0,c1,c2,c3,c4,c5,zG,List.take_succ_cons,aAJ,List.drop_succ_cons,zK,zJ] at h0 h1 h2 h3 h4 h5 h6 h7 h8 h9 h10 h11;obtain⟨a0,e0,_⟩:=DataW.trod_string Try.underlying9 h0;obtain⟨a1,e1,_,w1⟩:=DataW.trod_int Try.underlying31 h1;obtain⟨a2,e2,_⟩:=DataW.trod_bool Try.underlying4 h2;obtain⟨a3,e3,_,w3⟩:=DataW.trod_int Try.underlying2 h3;obtain⟨a4,e4,_,w4⟩:=DataW.trod_int Try.underlying2 h4;obtain⟨a5,e5,_⟩:=DataW.trod_string Try.underlying9 h5;obtain⟨a6,e6,_⟩:=DataW.trod_string Try.underlying9 h6;obtain⟨a7,e7,_⟩:=DataW.trod_bool Try.underlying4 h7;obtain⟨a8,e8,_,w8⟩:=DataW.trod_int Try.underlying5 h8;obtain⟨a9,e9,_⟩:=DataW.trod_bool Try.underlying4 h9;rw[hy] at hx;have x10:∀ v∈y10.1.weights Try.prog 38,v<=140737488351232:=lO Try.underlying40 hx 10 _ y10.1 rfl rfl;obtain⟨a10,d10,e10,r10⟩:=oD h10 x10;have x11:∀ v∈y11.1.weights Try.prog 38,v<=140737488351232:=lO Try.underlying40 hx 11 _ y11.1 rfl rfl;obtain⟨a11,d11,e11,r11⟩:=oD h11 x11;obtain rfl:=(List.cons.inj e0).1;obtain rfl:=(List.cons.inj e1).1;obtain rfl:=(List.cons.inj e2).1;obtain rfl:=(List.cons.inj e3).1;obtain rfl:=(List.cons.inj e4).1;obtain rfl:=(List.cons.inj e5).1;obtain rfl:=(List.cons.inj e6).1;obtain rfl:=(List.cons.inj e7).1;obtain rfl:=(List.cons.inj e8).1;obtain rfl:=(List.cons.inj e9).1;obtain rfl:=(List.cons.inj e10).1;obtain rfl:=(List.cons.inj e11).1;exact⟨{ name:=a0,kind:=a1,ab:=a2,low:=a3,high:=a4,fr:=a5,to:=a6,op:=a7,tr:=a8,no:=a9,ins:=d10,outs:=d11 },a10,a11,rfl,r10,r11,qT w8⟩
theorem open_sds (h:DataW.trod enc Try.prog w base spare held fuel 22 cs=some x) (hx:∀ v∈x.1.weights Try.prog 22,v<=140737488351232):∃ (s:Sl) (bs:List Sd),cs=[Sl.v s]/\PL sdR 12 (old w) w s bs :=
 mW Try.underlying22 (by kernel_rfl) (by decide) (fun m c y h hx=>sH h hx) h hx
end
theorem Ex.xX {ρ α γ:Type} {Φ:γ->Prop} {o:Option (ρ⊕α)} {G:ρ->Option γ} {f:α->Option γ} {Ψ:ρ⊕α->Prop} (h:Ex o Ψ) (kl:∀ r,Ψ (.inl r)->Ex (G r) Φ) (kr:∀ a,Ψ (.inr a)->Ex (f a) Φ):Ex (gX o G f) Φ:=by
 obtain⟨x,e,h⟩:=h;subst e
 cases x with
 | inl r=>exact kl r h
 | inr a=>exact kr a h
def mH:List Value:=[.string ByteArray.empty,.int .i64 0,.bool false,.int .i64 0,.int .i64 0,.string ByteArray.empty,.string ByteArray.empty,.bool false,.int .u8 0,.bool false,.slice none 0 0,.slice none 0 0]
section
variable {F0 : Nat -> Prop} {g g0 : Gh} {w w0 : World} {L : List Rs} {z y : Sl} {s : Sd} {bs : List Sd} {ah : ByteArray}
theorem oG {i:Nat} (hs:PL sdR 12 g w z bs) (hn:bs.length<=8) (hx:bs[i]?=some s) {w1:World} (H:Hp F0 g0 w0 g w1 L) (mo:Mo g w g w1) :
  Ex (cG z ah (i:Int) w1) fun o=>∃ w2,o=(if oQ s ah=0 then .inl (s.name,((i+1:Nat):Int),w2) else .inr (.inr (oQ s ah,w2)))/\Hp F0 g0 w0 g w2 L/\Mo g w1 g w2:=by
 have hln:=hs.len;have hi:=(yP.1 hx).1;obtain⟨a,cs,ea,la,⟨zi,yo,rfl,pi,po,-,-⟩,-⟩:=hs.el (R:=sdR) gO mo hx;have lpi:=pi.len;have lpo:=po.len;obtain⟨p,w2,e2,H2,m2⟩:=H.box (T:=40) (cs:=mH);obtain⟨w3,e3,H3,m3⟩:=H2.stF (vs:=sdC s zi yo) rfl jS;have l0:∀ {w'},Hp F0 g0 w0 g w' (bxR p (sdC s zi yo) 40::L)->ldS w' ((⟨p,0,none⟩:Addr).add 0)=some s.name:=fun H=>by rw[aS];exact H.ldS rfl
 have l1:ldI .i64 w3 ((⟨p,0,none⟩:Addr).add 1)=some s.kind:=by rw[aS];exact H3.ldI rfl
 have l10:ldL w3 ((⟨p,0,none⟩:Addr).add 10)=some zi:=by rw[aS];exact H3.ldL rfl
 have l11:∀ {w'},Hp F0 g0 w0 g w' (bxR p (sdC s zi yo) 40::L)->ldL w' ((⟨p,0,none⟩:Addr).add 11)=some yo:=fun H=>by rw[aS];exact H.ldL rfl
 have m13:=m2.t m3;unfold cG;refine Ex.t (by simp;omega) (Ex.b1 ea (Ex.b1 la (Ex.b2 e2 (Ex.b1 e3 (Ex.b1 (l0 H3) (Ex.b2 (lV _ _) ?_))))));unfold oQ;by_cases h1:lN s.name=false
 .rw[if_pos h1];exact Ex.t (by simp[h1]) (Ex.ret ⟨w3,by rw[if_neg (by decide)],H3.tl,m13⟩)
 rw[if_neg h1];refine Ex.f (by simpa using h1) (Ex.b1 (l0 H3) ?_);by_cases h2:sLe s.name ah=true
 .rw[if_pos h2];exact Ex.t h2 (Ex.ret ⟨w3,by rw[if_neg (by decide)],H3.tl,m13⟩)
 rw[if_neg h2];refine Ex.f h2 (Ex.j2 (Ψ:=fun r=>r=(decide (s.kind<1\/4<s.kind),w3)) (Ex.b1 l1 ?_) ?_)
 .by_cases h3:s.kind<1
  .exact Ex.t (by simpa using h3) (Ex.ret (by simp[h3]))
  exact Ex.f (by simpa using h3) (Ex.b1 l1 (Ex.ret (by simp[h3])))
 rintro _ _ he;cases he;by_cases h3:s.kind<1\/4<s.kind
 .rw[if_pos h3];exact Ex.t (by simpa using h3) (Ex.ret ⟨w3,by rw[if_neg (by decide)],H3.tl,m13⟩)
 rw[if_neg h3];refine Ex.f (by simpa using h3) ?_;have fin:∀ w',Hp F0 g0 w0 g w' (bxR p (sdC s zi yo) 40::L)->Mo g w3 g w'->∃ w2,(.inl (s.name,((i+1:Nat):Int),w'):(ByteArray×Int×World)⊕((World)⊕(Int×World)))=(if (0:Int)=0 then .inl (s.name,((i+1:Nat):Int),w2) else .inr (.inr ((0:Int),w2)))/\Hp F0 g0 w0 g w2 L/\Mo g w1 g w2 :=
  fun w' H' m'=>⟨w',by rw[if_pos rfl],H'.tl,m13.t m'⟩
 by_cases h4:s.kind=4
 .rw[if_pos h4];refine Ex.xX (Ψ:=fun o=>(o = .inl (.inr (.inr ((if 4<s.ins.length\/4<s.outs.length then 6 else 2),(match o with | .inl (.inr (.inr (_,w')))=>w' | _=>w3))))/\((4<s.ins.length\/4<s.outs.length)\/(s.ins.any fun d=>!okD d)=true\/(s.outs.any fun d=>!okD d)=true)/\∃ w',o = .inl (.inr (.inr ((if 4<s.ins.length\/4<s.outs.length then 6 else 2),w')))/\Hp F0 g0 w0 g w' (bxR p (sdC s zi yo) 40::L)/\Mo g w3 g w') \/
   (¬ (4<s.ins.length\/4<s.outs.length)/\¬ ((s.ins.any fun d=>!okD d)=true\/(s.outs.any fun d=>!okD d)=true)/\∃ w',o = .inr w'/\Hp F0 g0 w0 g w' (bxR p (sdC s zi yo) 40::L)/\Mo g w3 g w')) (Ex.b1 l1 (Ex.t (by simpa using h4) (Ex.j2 (Ψ:=fun r=>r=(decide (4<s.ins.length\/4<s.outs.length),w3)) (Ex.b1 l10 ?_) ?_))) ?_ ?_
  .by_cases h5:4<s.ins.length
   .exact Ex.t (by simp;omega) (Ex.ret (by simp[h5]))
   exact Ex.f (by simp;omega) (Ex.b1 (l11 H3) (Ex.ret (by simp[h5,lpo];omega)))
  .rintro _ _ he;cases he;by_cases h5:4<s.ins.length\/4<s.outs.length
   .exact Ex.t (by simpa using h5) (Ex.s1 (Ex.ret (.inl ⟨by rw[if_pos h5],.inl h5,w3,by rw[if_pos h5],H3,Mo.r⟩)))
   refine Ex.f (by simpa using h5) (Ex.j2 (Ψ:=fun r=>r.1=decide ((s.ins.any fun d=>!okD d)=true\/(s.outs.any fun d=>!okD d)=true)/\Hp F0 g0 w0 g r.2 (bxR p (sdC s zi yo) 40::L)/\Mo g w3 g r.2) (Ex.b1 l10 ?_) ?_)
   .obtain⟨⟨v4,w4⟩,e4,hv4,H4,m4⟩:=mR (PL.mo (R:=dcR) eW pi m13) (by omega) H3;simp only at hv4 H4 m4;refine Ex.b2 e4 ?_;by_cases h6:v4=true
    .exact Ex.t h6 (Ex.ret ⟨by rw[hv4] at h6;simp[h6],H4,m4⟩)
    obtain⟨⟨v5,w5⟩,e5,hv5,H5,m5⟩:=mR (PL.mo (R:=dcR) eW po (m13.t m4)) (by omega) H4;simp only at hv5 H5 m5;refine Ex.f h6 (Ex.b1 (l11 H4) (Ex.b2 e5 (Ex.ret ⟨?_,H5,m4.t m5⟩)));rw[hv4] at h6;show v5=_;rw[hv5];have h6':(s.ins.any fun d=>!okD d)=false:=(aAs _).mp h6;rw[h6'];cases(s.outs.any fun d=>!okD d)<;>rfl
   rintro v w4 ⟨rfl,H4,m4⟩;simp only at H4 m4;by_cases h6:(s.ins.any fun d=>!okD d)=true\/(s.outs.any fun d=>!okD d)=true
   .exact Ex.t (decide_eq_true h6) (Ex.s1 (Ex.ret (.inl ⟨by rw[if_neg h5],.inr h6,w4,by rw[if_neg h5],H4,m4⟩)))
   exact Ex.f (by simpa using h6) (Ex.ret (.inr ⟨h5,h6,w4,rfl,H4,m4⟩))
  .rintro r (⟨-,hc,w4,hr,H4,m4⟩ | ⟨-,-,w4,hr,-,-⟩)
   .cases hr;refine Ex.ret ⟨w4,?_,H4.tl,m13.t m4⟩;by_cases h5:4<s.ins.length\/4<s.outs.length
    .simp only[if_pos h5];rw[if_neg (by decide)]
    have h6:=hc.resolve_left h5;simp only[if_neg h5,if_pos h6];rw[if_neg (by decide)]
   cases hr
  rintro r (⟨-,-,w4,hr,-,-⟩ | ⟨h5,h6,w4,hr,H4,m4⟩)
  .cases hr
  obtain rfl:r=w4:=by injection hr
  rw[if_neg h5,if_neg h6];simp only[u1];refine Ex.b1 (l0 H4) ?_;rw[hJ (by omega)];exact Ex.ret (fin r H4 m4)
 rw[if_neg h4];refine Ex.xX (Ψ:=fun o=>o = .inr w3) (Ex.b1 l1 (Ex.f (by simpa using h4) (Ex.ret rfl))) (fun r hr=>by cases hr) (fun r hr=>?_);cases hr;simp only[u1];refine Ex.b1 (l0 H3) ?_;rw[hJ (by omega)];exact Ex.ret (fin w3 H3 Mo.r)
theorem lE (hs:PL sdR 12 g w z bs) (hn:bs.length<=8):∀ (m i:Nat) (ah:ByteArray) (w1:World),m+i=bs.length->Hp F0 g0 w0 g w1 L->Mo g w g w1 ->
  Ex (bU (fun s:ByteArray×Int×World=>cG z s.1 s.2.1 s.2.2) (ah,(i:Int),w1)) fun o=>∃ w2,o=(if jP (bs.drop i) ah=0 then .inl w2 else .inr (jP (bs.drop i) ah,w2))/\Hp F0 g0 w0 g w2 L/\Mo g w1 g w2
 | 0,i,ah,w1,hm,H,mo=>by
  have hln:=hs.len;refine⟨.inl w1,cW ?_,w1,?_,H,Mo.r⟩
  .unfold cG;rw[if_neg (by simp;omega)]
  rw[zW (by omega)];rfl
 | m+1,i,ah,w1,hm,H,mo=>by
  have hi:i<bs.length:=by omega
  obtain⟨o,eo,w2,rfl,H2,m2⟩:=oG (ah:=ah) hs hn (yQ hi) H mo;rw[aAc hi];unfold jP;by_cases hb:oQ bs[i] ah=0
  .rw[if_pos hb] at eo ⊢;obtain⟨o,e3,w3,ho,H3,m3⟩:=lE hs hn m (i+1) bs[i].name w2 (by omega) H2 (mo.t m2);exact⟨o,(gA eo).trans e3,w3,ho,H3,m2.t m3⟩
  rw[if_neg hb] at eo ⊢;exact⟨_,cW eo,w2,by rw[if_neg hb],H2,m2⟩
theorem mZ (hs:PL sdR 12 g w z bs) (H:Hp F0 g0 w0 g w L):Ex (dZ z w) fun r=>r.1=gC bs/\Hp F0 g0 w0 g r.2 L/\Mo g w g r.2:=by
 have hln:=hs.len;unfold dZ gC;by_cases h8:8<bs.length
 .rw[if_pos h8];exact Ex.t (by simp;omega) (Ex.ret ⟨rfl,H,Mo.r⟩)
 rw[if_neg h8];obtain⟨o,e,w2,ho,H2,m2⟩:=lE hs (by omega) bs.length 0 ByteArray.empty w (by omega) H Mo.r;have e':bU (fun s:ByteArray×Int×World=>cG z s.1 s.2.1 s.2.2) (ByteArray.mk #[],0,w)=some o:=e;rw[zG] at ho;refine Ex.f (by simp;omega) (Ex.b1 e' ?_);by_cases hc:jP bs ByteArray.empty=0
 .rw[if_pos hc] at ho;subst ho;exact Ex.ret ⟨hc.symm,H2,m2⟩
 rw[if_neg hc] at ho;subst ho;exact Ex.ret ⟨rfl,H2,m2⟩
end
theorem tP {s:ByteArray}:∀ (m i:Nat) (r:List UInt8),m=s.size-i->r≠[]->ByteArray.toList.loop s i r≠[]
 | 0,i,r,hm,hr=>by
  rw[ByteArray.toList.loop,if_neg (by omega)];intro h;exact hr (by simpa using h)
 | m+1,i,r,hm,hr=>by
  rw[ByteArray.toList.loop,if_pos (by omega)];exact tP m (i+1) _ (by omega) (by simp)
theorem qA {s:ByteArray} (h:lN s=true):sLe s ByteArray.empty=false:=by
 have h1:1<=s.size:=by unfold lN at h;simp only[yO,decide_eq_true_eq] at h;exact h.1.1
 have h2:s.toList≠[]:=by
  unfold ByteArray.toList;rw[ByteArray.toList.loop,if_pos (by omega)];exact tP (s.size-1) 1 _ rfl (by simp)
 have h3:ByteArray.empty.toList=[]:=by
  unfold ByteArray.toList;rw[ByteArray.toList.loop,if_neg (by decide)];rfl
 unfold sLe sLt sEq;rw[h3]
 cases hl:s.toList with
 | nil=>exact(h2 hl).elim
 | cons a l=>rfl
section
variable {F0 : Nat -> Prop} {g g0 : Gh} {w w0 : World} {L : List Rs} {z y : Sl} {s : Sd} {bs : List Sd} {ds : List Dc}
theorem rI {α:Type} {f:α->List Value} {sz:Nat} (hf:∀ x,(f x).length=sz):∀ {xs:List α} {j:Nat} {v:Value},(xs.flatMap f)[j]?=some v->∃ i k x,xs[i]?=some x/\(f x)[k]?=some v/\j=i*sz+k
 | [],j,v,h=>by simp at h
 | x::xs,j,v,h=>by
  rw[List.flatMap_cons] at h;by_cases hj:j<(f x).length
  .rw[yX hj] at h;exact⟨0,j,x,rfl,h,by omega⟩
  rw[aAa (by omega),hf] at h;obtain⟨i,k,y,h1,h2,h3⟩:=rI hf h;rw[hf] at hj;exact⟨i+1,k,y,h1,h2,by rw[aAx];omega⟩
theorem PL.rd {g:Gh} {w:World} (h:PL dcR 3 g w z ds):Rd w z 3 (ds.flatMap dcC):=by
 have hln:=h.len;refine⟨by rw[nJ (f:=dcC) (sz:=3) ds (fun _ _=>rfl),hln],fun hn=>?_⟩;obtain⟨a0,cs0,e0,-⟩:=h.at_ 0 ds[0] (yQ (by omega))
 cases hp:z.p with
 | none=>unfold D.ix at e0;rw[hp] at e0;cases e0
 | some a =>
  refine⟨a,rfl,fun j v hv=>?_⟩;obtain⟨i,k,x,h1,h2,rfl⟩:=rI (sz:=3) (fun _=>rfl) hv;have hi:=(yP.1 h1).1;obtain⟨b,cs,eb,-,-,rfl,hc⟩:=h.at_ i x h1;unfold D.ix at eb;rw[hp,aAN,if_pos ⟨by omega,by omega⟩] at eb;cases eb;have:=hc k v h2;rw[kP] at this;simpa using this
end
def fF (a0:List Value) (a1:Addr) (w:World):Option (Bool×World) :=
 aE (mk w 40 a0) fun p1 w2 =>
 (ldS w2 (p1.add 0)).bind fun v4 =>
 (ldS w2 (a1.add 0)).bind fun v6 =>
 some ((sEq v4 v6),w2)
theorem kR {a0 a1 w w' r0} (h:fF a0 a1 w=some (r0,w')):Calls Try.prog 27 #[(.agg (List.toArray a0)),(.pointer (some a1))] w fun e w''=>e=.returned (.bool r0)/\w''=w':=by
 refine aD (n:=9) Try.func27 rfl Try.ntmps27 (by simp) fun a u=>?_;unfold fF at h;refine wp_seq<|aA<|?_;have⟨p1,w2,e3,h⟩:=bs2 h;refine q u (dI u rfl rfl e3) fun a u=>qa u rfl fun a u=>aC<|t_n<|wp_seq<|aA<|q u (aJ u rfl wM rfl rfl wR) fun a u=>?_;have⟨v4,e5,h⟩:=bs1 h;refine q u (aG u rfl wU (cH e5)) fun a u=>q u (aJ u rfl wM rfl rfl wR) fun a u=>?_;have⟨v6,e7,h⟩:=bs1 h;refine q u (aG u rfl wU (cH e7)) fun a u=>q u (tK u rfl rfl) fun a u=>qa u rfl fun a u=>aC<|t_n<|wp_ret<|?_;have y:=u;cases h;exact aY Try.results27 y rfl ⟨rfl,rfl⟩
noncomputable def aR (a0:Sl) (a1_0:Addr) (x1:Int) (w2:World):Option ((Int×World)⊕((World)⊕(Int×World))) :=
 if (decide (x1<(a0.n:Int)))=true then
 ((ix a0 x1 12).bind fun p12 =>
 (ldA 12 w2 p12 0).bind fun c14 =>
 aE (fF c14 a1_0 w2) fun v16 w17 =>
 if v16=true then
 (some (.inr (.inr (x1,w17))))
 else
 (some (.inl ((IntKind.wrap .i64 (x1+1)),w17))))
 else
 (some (.inr (.inl w2)))
noncomputable def aX (a0:Sl) (a1_0:Addr) (w:World):Option (Int×World) :=
 (bU (fun s:Int×World=>aR a0 a1_0 s.1 s.2) (0,w)).bind fun r3=>Sum.elim (fun (i:World)=>u1 i fun w5 =>
 some ((-1),w5)) (fun (i:Int×World)=>u2 i fun v6 w7 =>
 some (v6,w7)) r3
theorem eX {a0 a1_0 w w' r0} (h:aX a0 a1_0 w=some (r0,w')):Calls Try.prog 26 #[(Sl.v a0),(.func (.func 27) #[] #[(.pointer (some a1_0))])] w fun e w''=>e=.returned (.int .i64 r0)/\w''=w':=by
 refine aD (n:=19) Try.func26 rfl Try.ntmps26 (by simp) fun a u=>?_;unfold aX at h;refine wp_seq<|aA<|qa u rfl fun a u=>aC<|t_n<|wp_seq<|wp_seq<|aA<|qm u rfl fun a u=>q u (cI u rfl wS) fun a u=>qm u rfl fun a u=>aC<|t_n<|wp_block<|?_;have⟨r3,e4,h⟩:=bs1 h;refine dN (n:=19) (L1:=fun i=>[]) (w1:=fun i=>i) (L2:=fun i=>[(4,(iV i.1))]) (w2:=fun i=>i.2) (e1:=.exit 0) (e2:=.ret) (I:=fun (s:Int×World) a w=>Has 19 [(8,(iV s.1)),(0,(Sl.v a0)),(1,(.func (.func 27) #[] #[(pV (some a1_0))])),(7,(iV (a0.n:Int)))] a/\w=s.2) ⟨u.sub ⟨rfl,rfl,rfl,rfl,aAP⟩,rfl⟩ e4 (fun i hi a u=>?_) (fun i hi a u=>?_) (fun hk8 hk9=>?_)
 .subst hi;obtain⟨w5,rfl⟩:∃ x,x=i:=⟨i,rfl⟩;dsimp only[Sum.elim_inl,Sum.elim_inr,u1,u2,u3,u4,u5,u6] at h;have u:Has 19 [] a:=u;refine fD<|t_n<|wp_seq<|aA<|qa u rfl fun a u=>aC<|t_n<|wp_ret<|?_;have y:=u;cases h;exact aY Try.results26 y rfl ⟨rfl,rfl⟩
 .subst hi;obtain⟨v6,w7⟩:=i;dsimp only[Sum.elim_inl,Sum.elim_inr,u1,u2,u3,u4,u5,u6] at h;have u:Has 19 [(4,(iV v6))] a:=u;refine b_r<|t_r<|?_;have y:=u;cases h;exact aY Try.results26 y rfl ⟨rfl,rfl⟩
 clear h;rintro⟨x1,w2⟩ a wq o ⟨u,hwq⟩ h hr10;obtain rfl:w2=wq:=hwq.symm;have u:Has 19 [(8,(iV x1)),(0,(Sl.v a0)),(1,(.func (.func 27) #[] #[(pV (some a1_0))])),(7,(iV (a0.n:Int)))] a:=u;have h:aR a0 a1_0 x1 w2=some o:=h;unfold aR at h;refine wp_seq<|aA<|q u (gG u rfl rfl) fun a u=>aC<|t_n<|wp_seq<|?_;refine aF u rfl h (fun b11 h=>?_) (fun b11 h=>?_)
 .refine wp_skip<|t_n<|wp_seq<|wp_block<|wp_seq<|aA<|qm u rfl fun a u=>qa u rfl fun a u=>aC<|t_n<|wp_seq<|aA<|qm u rfl fun a u=>qm u rfl fun a u=>qm u rfl fun a u=>?_;have⟨p12,e13,h⟩:=bs1 h;refine q u (eY u rfl rfl wS wO e13) fun a u=>?_;have⟨c14,e15,h⟩:=bs1 h;refine q u (bK u rfl xE wO e15) fun a u=>?_;have⟨v16,w17,e18,h⟩:=bs2 h;refine q u (dV (xs:=[_]) (vs:=[(.agg (List.toArray c14))]) (cv:=[(pV (some a1_0))]) u rfl ⟨rfl,aAP⟩ Try.call27 (kR e18)) fun a u=>aC<|t_n<|?_;refine aF u rfl h (fun b19 h=>?_) (fun b19 h=>?_)
  .refine wp_seq<|aA<|qm u rfl fun a u=>qa u rfl fun a u=>aC<|t_n<|wp_ret<|b_r<|t_r<|?_;have y:=u;cases h;cases hr10 _ rfl;refine gR<|?_;exact hk9 _ rfl _ (y.sb rfl)
  refine wp_skip<|b_n<|t_n<|aA<|q u (dY u rfl rfl) fun a u=>qm u rfl fun a u=>aC<|?_;have y:=u;cases h;exact cZ ⟨y.sb rfl,rfl⟩
 refine wp_exit<|t_x<|?_;have y:=u;cases h;cases hr10 _ rfl;refine iL<|?_;exact hk8 _ rfl _ (y.sb rfl)
noncomputable def cO (a0:List Value) (w:World):Option (Bool×World) :=
 aE (mk w 40 a0) fun p1 w2 =>
 (ldI .i64 w2 (p1.add 1)).bind fun v4 =>
 if (v4==1)=true then
 ((ldI .i64 w2 (p1.add 3)).bind fun v7 =>
 (ldI .i64 w2 (p1.add 4)).bind fun v9 =>
 some ((decide (v9<v7)),w2))
 else
 (if (v4==2)=true then
 (aE ((ldB w2 (p1.add 7)).bind fun v16 =>
 if (!v16)=true then
 ((ldS w2 (p1.add 5)).bind fun v19 =>
 (ldS w2 (p1.add 6)).bind fun v21 =>
 some ((!sLt v19 v21),w2))
 else
 (some (false,w2))) fun v12 w13 =>
 some (v12,w13))
 else
 (if (v4==3)=true then
 ((ldI .u8 w2 (p1.add 8)).bind fun v24 =>
 some (((oJ .u8 v24 3)==0),w2))
 else
 ((ldB w2 (p1.add 9)).bind fun v26 =>
 some (v26,w2))))
theorem eA {a0 w w' r0} (h:cO a0 w=some (r0,w')):Calls Try.prog 41 #[(.agg (List.toArray a0))] w fun e w''=>e=.returned (.bool r0)/\w''=w':=by
 refine aD (n:=32) Try.func41 rfl Try.ntmps41 (by simp) fun a u=>?_;unfold cO at h;refine wp_seq<|aA<|?_;have⟨p1,w2,e3,h⟩:=bs2 h;refine q u (dI u rfl rfl e3) fun a u=>qa u rfl fun a u=>aC<|t_n<|wp_seq<|wp_seq<|aA<|q u (aJ u rfl wM rfl rfl xB) fun a u=>?_;have⟨v4,e5,h⟩:=bs1 h;refine q u (aG u rfl wX (aO e5)) fun a u=>aC<|t_n<|wp_block<|wp_seq<|aA<|q u (cC u rfl rfl) fun a u=>qa u rfl fun a u=>aC<|t_n<|?_;refine aF u rfl h (fun b6 h=>?_) (fun b6 h=>?_)
 .refine wp_seq<|aA<|q u (aJ u rfl wM rfl rfl wY) fun a u=>?_;have⟨v7,e8,h⟩:=bs1 h;refine q u (aG u rfl xZ (aO e8)) fun a u=>q u (aJ u rfl wM rfl rfl wY) fun a u=>?_;have⟨v9,e10,h⟩:=bs1 h;refine q u (aG u rfl xZ (aO e10)) fun a u=>q u (jF u rfl rfl) fun a u=>qa u rfl fun a u=>aC<|t_n<|wp_ret<|b_r<|t_r<|?_;have y:=u;cases h;exact aY Try.results41 y rfl ⟨rfl,rfl⟩
 refine wp_seq<|aA<|q u (cC u rfl rfl) fun a u=>qa u rfl fun a u=>aC<|t_n<|?_;refine aF u rfl h (fun b11 h=>?_) (fun b11 h=>?_)
 .refine wp_seq<|?_;have⟨v12,w13,e14,h⟩:=bs2 h;refine bY (n:=32) (L:=[(2,(bV v12))]) (w':=w13) (fun a u=>?_) (fun hk15=>?_)
  .refine t_n<|wp_ret<|b_r<|t_r<|?_;have y:=u;cases h;exact aY Try.results41 y rfl ⟨rfl,rfl⟩
  clear h;have h:=e14;refine aA<|q u (aJ u rfl wM rfl rfl xG) fun a u=>?_;have⟨v16,e17,h⟩:=bs1 h;refine q u (aG u rfl yE (kO e17)) fun a u=>q u (fT u rfl) fun a u=>qm u rfl fun a u=>?_;refine dG h (fun b18 h=>?_) (fun b18 h=>?_)
  .refine qg u 17 b18 (aJ u rfl wM rfl rfl wR) fun a u=>?_;have⟨v19,e20,h⟩:=bs1 h;refine qg u 17 b18 (aG u rfl wU (cH e20)) fun a u=>qg u 17 b18 (aJ u rfl wM rfl rfl wR) fun a u=>?_;have⟨v21,e22,h⟩:=bs1 h;refine qg u 17 b18 (aG u rfl wU (cH e22)) fun a u=>qg u 17 b18 (vC u rfl rfl) fun a u=>q u (aK u rfl b18 rfl) fun a u=>qa u rfl fun a u=>aC<|?_;have y:=u;cases h;exact hk15 _ (y.sb rfl)
  refine qn u 17 (nm b18) fun a u=>qn u 17 (nm b18) fun a u=>qn u 17 (nm b18) fun a u=>qn u 17 (nm b18) fun a u=>qn u 17 (nm b18) fun a u=>q u (aM u rfl b18 rfl) fun a u=>qa u rfl fun a u=>aC<|?_;have y:=u;cases h;exact hk15 _ (y.sb rfl)
 refine wp_seq<|aA<|q u (cC u rfl rfl) fun a u=>qa u rfl fun a u=>aC<|t_n<|?_;refine aF u rfl h (fun b23 h=>?_) (fun b23 h=>?_)
 .refine wp_seq<|aA<|q u (aJ u rfl wM rfl rfl Try.sizeOf5) fun a u=>?_;have⟨v24,e25,h⟩:=bs1 h;refine q u (aG u rfl Try.isAgg5 (aO e25)) fun a u=>q u (tB u rfl rfl) fun a u=>q u (cC u rfl rfl) fun a u=>qa u rfl fun a u=>aC<|t_n<|wp_ret<|b_r<|t_r<|?_;have y:=u;cases h;exact aY Try.results41 y rfl ⟨rfl,rfl⟩
 refine wp_skip<|b_n<|t_n<|wp_seq<|aA<|q u (aJ u rfl wM rfl rfl xG) fun a u=>?_;have⟨v26,e27,h⟩:=bs1 h;refine q u (aG u rfl yE (kO e27)) fun a u=>qa u rfl fun a u=>aC<|t_n<|wp_ret<|?_;have y:=u;cases h;exact aY Try.results41 y rfl ⟨rfl,rfl⟩
noncomputable def hD (a0:List Value) (a1:List Value) (w:World):Option (Int×World) :=
 aE (mk w 43 a0) fun p1 w2 =>
 aE (mk w2 43 a1) fun p4 w5 =>
 (ldI .i64 w5 (p1.add 0)).bind fun v7 =>
 (ldI .i64 w5 (p4.add 0)).bind fun v9 =>
 (ldI .i64 w5 (p1.add 0)).bind fun v11 =>
 (ldI .i64 w5 (p4.add 0)).bind fun v13 =>
 (ldI .i64 w5 (p1.add 1)).bind fun v15 =>
 (ldI .i64 w5 (p4.add 1)).bind fun v17 =>
 (ldI .i64 w5 (p1.add 1)).bind fun v19 =>
 (ldI .i64 w5 (p4.add 1)).bind fun v21 =>
 some ((IntKind.wrap .i64 ((IntKind.wrap .i64 ((IntKind.wrap .i64 (v7-v9))*(IntKind.wrap .i64 (v11-v13))))+(IntKind.wrap .i64 ((IntKind.wrap .i64 (v15-v17))*(IntKind.wrap .i64 (v19-v21)))))),w5)
theorem kI {a0 a1 w w' r0} (h:hD a0 a1 w=some (r0,w')):Calls Try.prog 74 #[(.agg (List.toArray a0)),(.agg (List.toArray a1))] w fun e w''=>e=.returned (.int .i64 r0)/\w''=w':=by
 refine aD (n:=28) Try.func74 rfl Try.ntmps74 (by simp) fun a u=>?_;unfold hD at h;refine wp_seq<|aA<|?_;have⟨p1,w2,e3,h⟩:=bs2 h;refine q u (dI u rfl rfl e3) fun a u=>?_;have⟨p4,w5,e6,h⟩:=bs2 h;refine q u (dI u rfl rfl e6) fun a u=>qa u rfl fun a u=>aC<|t_n<|wp_seq<|aA<|q u (aJ u rfl wQ rfl rfl xC) fun a u=>?_;have⟨v7,e8,h⟩:=bs1 h;refine q u (aG u rfl wZ (aO e8)) fun a u=>q u (aJ u rfl wQ rfl rfl xC) fun a u=>?_;have⟨v9,e10,h⟩:=bs1 h;refine q u (aG u rfl wZ (aO e10)) fun a u=>q u (jZ u rfl rfl) fun a u=>q u (aJ u rfl wQ rfl rfl xC) fun a u=>?_;have⟨v11,e12,h⟩:=bs1 h;refine q u (aG u rfl wZ (aO e12)) fun a u=>q u (aJ u rfl wQ rfl rfl xC) fun a u=>?_;have⟨v13,e14,h⟩:=bs1 h;refine q u (aG u rfl wZ (aO e14)) fun a u=>q u (jZ u rfl rfl) fun a u=>q u (lS u rfl rfl) fun a u=>q u (aJ u rfl wQ rfl rfl xC) fun a u=>?_;have⟨v15,e16,h⟩:=bs1 h;refine q u (aG u rfl wZ (aO e16)) fun a u=>q u (aJ u rfl wQ rfl rfl xC) fun a u=>?_;have⟨v17,e18,h⟩:=bs1 h;refine q u (aG u rfl wZ (aO e18)) fun a u=>q u (jZ u rfl rfl) fun a u=>q u (aJ u rfl wQ rfl rfl xC) fun a u=>?_;have⟨v19,e20,h⟩:=bs1 h;refine q u (aG u rfl wZ (aO e20)) fun a u=>q u (aJ u rfl wQ rfl rfl xC) fun a u=>?_;have⟨v21,e22,h⟩:=bs1 h;refine q u (aG u rfl wZ (aO e22)) fun a u=>q u (jZ u rfl rfl) fun a u=>q u (lS u rfl rfl) fun a u=>q u (dY u rfl rfl) fun a u=>qa u rfl fun a u=>aC<|t_n<|wp_ret<|?_;have y:=u;cases h;exact aY Try.results74 y rfl ⟨rfl,rfl⟩
noncomputable def fI (a0:List Value) (a1:List Value) (w:World):Option (Bool×World) :=
 aE (mk w 43 a0) fun p1 w2 =>
 aE (mk w2 43 a1) fun p4 w5 =>
 aE ((dr w5).bind fun w11 =>
 (ldI .i64 w11 (p1.add 2)).bind fun v13 =>
 (ldI .i64 w11 (p4.add 2)).bind fun v15 =>
 if (decide (v13<=v15))=true then
 ((ldA 3 w11 p1 0).bind fun c18 =>
 (ldA 3 w11 p4 0).bind fun c20 =>
 aE (hD c18 c20 w11) fun v22 w23 =>
 (ldI .i64 w23 (p4.add 2)).bind fun v25 =>
 (ldI .i64 w23 (p1.add 2)).bind fun v27 =>
 (ldI .i64 w23 (p4.add 2)).bind fun v29 =>
 (ldI .i64 w23 (p1.add 2)).bind fun v31 =>
 chk (ldI .i64 w11 (p4.add 2)=some v25) <|
 chk (ldI .i64 w11 (p1.add 2)=some v27) <|
 chk (ldI .i64 w11 (p4.add 2)=some v29) <|
 chk (ldI .i64 w11 (p1.add 2)=some v31) <|
 some ((decide (v22<=(IntKind.wrap .i64 ((IntKind.wrap .i64 (v25-v27))*(IntKind.wrap .i64 (v29-v31)))))),w23))
 else
 (some (false,w11))) fun v7 w8 =>
 some (v7,w8)
theorem jC {a0 a1 w w' r0} (h:fI a0 a1 w=some (r0,w')):Calls Try.prog 43 #[(.agg (List.toArray a0)),(.agg (List.toArray a1))] w fun e w''=>e=.returned (.bool r0)/\w''=w':=by
 refine aD (n:=27) Try.func43 rfl Try.ntmps43 (by simp) fun a u=>?_;unfold fI at h;refine wp_seq<|aA<|?_;have⟨p1,w2,e3,h⟩:=bs2 h;refine q u (dI u rfl rfl e3) fun a u=>?_;have⟨p4,w5,e6,h⟩:=bs2 h;refine q u (dI u rfl rfl e6) fun a u=>qa u rfl fun a u=>aC<|t_n<|wp_seq<|?_;have⟨v7,w8,e9,h⟩:=bs2 h;refine bY (n:=27) (L:=[(4,(bV v7))]) (w':=w8) (fun a u=>?_) (fun hk10=>?_)
 .refine t_n<|wp_ret<|?_;have y:=u;cases h;exact aY Try.results43 y rfl ⟨rfl,rfl⟩
 clear h;have h:=e9;have⟨w11,e12,h⟩:=bs1 h;have⟨v13,e14,h⟩:=bs1 h;have⟨v15,e16,h⟩:=bs1 h;refine dG h (fun b17 h=>?_) (fun b17 h=>?_)
 .have⟨c18,e19,h⟩:=bs1 h;have⟨c20,e21,h⟩:=bs1 h;have⟨v22,w23,e24,h⟩:=bs2 h;have⟨v25,e26,h⟩:=bs1 h;have⟨v27,e28,h⟩:=bs1 h;have⟨v29,e30,h⟩:=bs1 h;have⟨v31,e32,h⟩:=bs1 h;obtain⟨e33,h⟩:=dC h;obtain⟨e34,h⟩:=dC h;obtain⟨e35,h⟩:=dC h;obtain⟨e36,h⟩:=dC h;have u:Has 27 [(2,(pV (some p1))),(3,(pV (some p4)))] a:=u.sb rfl;refine cL (n:=27) (ds:=(bJ (pV (some (p1.add 2))) 0 [] 2 (pV (some p1))::bJ (iV v13) 0 [0] 5 (pV (some (p1.add 2)))::bJ (pV (some (p4.add 2))) 0 [] 3 (pV (some p4))::bJ (iV v15) 0 [2] 7 (pV (some (p4.add 2)))::gL (bV (decide (v13<=v15))) 0 (rn 0 4) [(6,(iV v13)),(8,(iV v15))]::eN (bV (decide (v13<=v15))) 0 (rn 0 5) 9::gL (.agg (List.toArray c18)) 0 (rn 0 6) [(2,(pV (some p1))),(10,(bV (decide (v13<=v15))))]::gL (.agg (List.toArray c20)) 0 (rn 0 6) [(3,(pV (some p4))),(10,(bV (decide (v13<=v15))))]::aL (iV v22) true 0 0 (rn 0 8) [(11,(.agg (List.toArray c18))),(12,(.agg (List.toArray c20))),(10,(bV (decide (v13<=v15))))]::aL (pV (some (p4.add 2))) false 0 1 (rn 0 6) [(3,(pV (some p4))),(10,(bV (decide (v13<=v15))))]::aL (iV v25) false 0 1 (rn 0 6++[9]) [(14,(pV (some (p4.add 2)))),(10,(bV (decide (v13<=v15))))]::aL (pV (some (p1.add 2))) false 0 1 (rn 0 6) [(2,(pV (some p1))),(10,(bV (decide (v13<=v15))))]::aL (iV v27) false 0 1 (rn 0 6++[11]) [(16,(pV (some (p1.add 2)))),(10,(bV (decide (v13<=v15))))]::aL (iV (IntKind.wrap .i64 (v25-v27))) false 0 1 (rn 0 6++rn 9 4) [(15,(iV v25)),(17,(iV v27)),(10,(bV (decide (v13<=v15))))]::aL (pV (some (p4.add 2))) false 0 1 (rn 0 6) [(3,(pV (some p4))),(10,(bV (decide (v13<=v15))))]::aL (iV v29) false 0 1 (rn 0 6++[14]) [(19,(pV (some (p4.add 2)))),(10,(bV (decide (v13<=v15))))]::aL (pV (some (p1.add 2))) false 0 1 (rn 0 6) [(2,(pV (some p1))),(10,(bV (decide (v13<=v15))))]::aL (iV v31) false 0 1 (rn 0 6++[16]) [(21,(pV (some (p1.add 2)))),(10,(bV (decide (v13<=v15))))]::aL (iV (IntKind.wrap .i64 (v29-v31))) false 0 1 (rn 0 6++rn 14 4) [(20,(iV v29)),(22,(iV v31)),(10,(bV (decide (v13<=v15))))]::aL (iV (IntKind.wrap .i64 ((IntKind.wrap .i64 (v25-v27))*(IntKind.wrap .i64 (v29-v31))))) false 0 1 (rn 0 6++rn 9 10) [(18,(iV (IntKind.wrap .i64 (v25-v27)))),(23,(iV (IntKind.wrap .i64 (v29-v31)))),(10,(bV (decide (v13<=v15))))]::gL (bV (decide (v22<=(IntKind.wrap .i64 ((IntKind.wrap .i64 (v25-v27))*(IntKind.wrap .i64 (v29-v31))))))) 1 (rn 0 20) [(13,(iV v22)),(24,(iV (IntKind.wrap .i64 ((IntKind.wrap .i64 (v25-v27))*(IntKind.wrap .i64 (v29-v31)))))),(10,(bV (decide (v13<=v15))))]::gL (bV (decide (v22<=(IntKind.wrap .i64 ((IntKind.wrap .i64 (v25-v27))*(IntKind.wrap .i64 (v29-v31))))))) 1 (rn 0 21) [(10,(bV (decide (v13<=v15)))),(25,(bV (decide (v22<=(IntKind.wrap .i64 ((IntKind.wrap .i64 (v25-v27))*(IntKind.wrap .i64 (v29-v31))))))))]::eN (bV (decide (v22<=(IntKind.wrap .i64 ((IntKind.wrap .i64 (v25-v27))*(IntKind.wrap .i64 (v29-v31))))))) 1 (rn 0 22) 26::[])) (W:=(fun j=>match j with | 0=>w11 | 1=>w23 | _=>w23)) (by kernel_rfl) u (gY e12) (by kernel_rfl) ?_ (bS (by kernel_rfl)) (by kernel_rfl) (m:=1) (by kernel_rfl) (fun a u=>?_)
  .refine⟨oa (aJ · rfl wQ rfl rfl xC),oc 0 (kd (aG · rfl wZ (aO e14))),oa (aJ · rfl wQ rfl rfl xC),oc 0 (kd (aG · rfl wZ (aO e16))),oa (nE · rfl rfl),oa (aI · rfl),oc 0 (kg 10 b17 (bK · rfl xQ xA e19)),oc 0 (kg 10 b17 (bK · rfl xQ xA e21)),oc 0 (kg 10 b17 (dc2 · rfl rfl Try.call74 (kI e24))),oag 10 b17 (aJ · rfl wQ rfl rfl xC),?_,oag 10 b17 (aJ · rfl wQ rfl rfl xC),?_,oag 10 b17 (jZ · rfl rfl),oag 10 b17 (aJ · rfl wQ rfl rfl xC),?_,oag 10 b17 (aJ · rfl wQ rfl rfl xC),?_,oag 10 b17 (jZ · rfl rfl),oag 10 b17 (lS · rfl rfl),oag 10 b17 (nE · rfl rfl),oa (aK · rfl b17 rfl),oa (fW · rfl),aAP⟩
   .intro j h1 h2;have h1:0<=j:=h1;have h2:j<=1:=h2;rcases(by omega:j=0\/j=1) with rfl | rfl
    .exact kg 10 b17 (aG · rfl wZ (aO e33))
    exact kg 10 b17 (aG · rfl wZ (aO e26))
   .intro j h1 h2;have h1:0<=j:=h1;have h2:j<=1:=h2;rcases(by omega:j=0\/j=1) with rfl | rfl
    .exact kg 10 b17 (aG · rfl wZ (aO e34))
    exact kg 10 b17 (aG · rfl wZ (aO e28))
   .intro j h1 h2;have h1:0<=j:=h1;have h2:j<=1:=h2;rcases(by omega:j=0\/j=1) with rfl | rfl
    .exact kg 10 b17 (aG · rfl wZ (aO e35))
    exact kg 10 b17 (aG · rfl wZ (aO e30))
   intro j h1 h2;have h1:0<=j:=h1;have h2:j<=1:=h2;rcases(by omega:j=0\/j=1) with rfl | rfl
   .exact kg 10 b17 (aG · rfl wZ (aO e36))
   exact kg 10 b17 (aG · rfl wZ (aO e32))
  have u:Has 27 [(4,(bV (decide (v22<=(IntKind.wrap .i64 ((IntKind.wrap .i64 (v25-v27))*(IntKind.wrap .i64 (v29-v31))))))))] a:=u.sb rfl;have y:=u;cases h;exact hk10 _ (y.sb rfl)
 have u:Has 27 [(2,(pV (some p1))),(3,(pV (some p4)))] a:=u.sb rfl;refine cL (n:=27) (ds:=(bJ (pV (some (p1.add 2))) 0 [] 2 (pV (some p1))::bJ (iV v13) 0 [0] 5 (pV (some (p1.add 2)))::bJ (pV (some (p4.add 2))) 0 [] 3 (pV (some p4))::bJ (iV v15) 0 [2] 7 (pV (some (p4.add 2)))::gL (bV (decide (v13<=v15))) 0 (rn 0 4) [(6,(iV v13)),(8,(iV v15))]::eN (bV (decide (v13<=v15))) 0 (rn 0 5) 9::bJ (undef) 0 (rn 0 6) 10 (bV (decide (v13<=v15)))::bJ (undef) 0 (rn 0 6) 10 (bV (decide (v13<=v15)))::bJ (undef) 0 (rn 0 8) 10 (bV (decide (v13<=v15)))::bJ (undef) 0 (rn 0 6) 10 (bV (decide (v13<=v15)))::bJ (undef) 0 (rn 0 6++[9]) 10 (bV (decide (v13<=v15)))::bJ (undef) 0 (rn 0 6) 10 (bV (decide (v13<=v15)))::bJ (undef) 0 (rn 0 6++[11]) 10 (bV (decide (v13<=v15)))::bJ (undef) 0 (rn 0 6++rn 9 4) 10 (bV (decide (v13<=v15)))::bJ (undef) 0 (rn 0 6) 10 (bV (decide (v13<=v15)))::bJ (undef) 0 (rn 0 6++[14]) 10 (bV (decide (v13<=v15)))::bJ (undef) 0 (rn 0 6) 10 (bV (decide (v13<=v15)))::bJ (undef) 0 (rn 0 6++[16]) 10 (bV (decide (v13<=v15)))::bJ (undef) 0 (rn 0 6++rn 14 4) 10 (bV (decide (v13<=v15)))::bJ (undef) 0 (rn 0 6++rn 9 10) 10 (bV (decide (v13<=v15)))::bJ (undef) 0 (rn 0 20) 10 (bV (decide (v13<=v15)))::gL (bV false) 0 (rn 0 21) [(10,(bV (decide (v13<=v15)))),(25,undef)]::eN (bV false) 0 (rn 0 22) 26::[])) (W:=(fun _=>w11)) (by kernel_rfl) u (gY e12) (by kernel_rfl) ?_ (bS (by kernel_rfl)) (by kernel_rfl) (m:=0) (by kernel_rfl) (fun a u=>?_)
 .exact⟨oa (aJ · rfl wQ rfl rfl xC),oc (e:=false) 0 (kd (aG · rfl wZ (aO e14))),oa (aJ · rfl wQ rfl rfl xC),oc (e:=false) 0 (kd (aG · rfl wZ (aO e16))),oa (nE · rfl rfl),oa (aI · rfl),on 10 (nm b17),on 10 (nm b17),on 10 (nm b17),on 10 (nm b17),on 10 (nm b17),on 10 (nm b17),on 10 (nm b17),on 10 (nm b17),on 10 (nm b17),on 10 (nm b17),on 10 (nm b17),on 10 (nm b17),on 10 (nm b17),on 10 (nm b17),on 10 (nm b17),oa (aM · rfl b17 rfl),oa (fW · rfl),aAP⟩
 have u:Has 27 [(4,(bV false))] a:=u.sb rfl;have y:=u;cases h;exact hk10 _ (y.sb rfl)
noncomputable def fJ (a0:List Value) (a1:Addr) (w:World):Option (Bool×World) :=
 aE (mk w 43 a0) fun p1 w2 =>
 (ldA 3 w2 p1 0).bind fun c4 =>
 (ldA 3 w2 a1 0).bind fun c6 =>
 aE (fI c4 c6 w2) fun v8 w9 =>
 some (v8,w9)
theorem lG {a0 a1 w w' r0} (h:fJ a0 a1 w=some (r0,w')):Calls Try.prog 42 #[(.agg (List.toArray a0)),(.pointer (some a1))] w fun e w''=>e=.returned (.bool r0)/\w''=w':=by
 refine aD (n:=7) Try.func42 rfl Try.ntmps42 (by simp) fun a u=>?_;unfold fJ at h;refine wp_seq<|aA<|?_;have⟨p1,w2,e3,h⟩:=bs2 h;refine q u (dI u rfl rfl e3) fun a u=>qa u rfl fun a u=>aC<|t_n<|wp_seq<|aA<|?_;have⟨c4,e5,h⟩:=bs1 h;refine q u (bK u rfl xQ xA e5) fun a u=>?_;have⟨c6,e7,h⟩:=bs1 h;refine q u (bK u rfl xQ xA e7) fun a u=>?_;have⟨v8,w9,e10,h⟩:=bs2 h;refine q u (dc2 u rfl rfl Try.call43 (jC e10)) fun a u=>qa u rfl fun a u=>aC<|t_n<|wp_ret<|?_;have y:=u;cases h;exact aY Try.results42 y rfl ⟨rfl,rfl⟩
noncomputable def bE (a0:Sl) (a1_0:Addr) (x1:Int) (w2:World):Option ((Int×World)⊕((World)⊕(Int×World))) :=
 if (decide (x1<(a0.n:Int)))=true then
 ((ix a0 x1 3).bind fun p12 =>
 (ldA 3 w2 p12 0).bind fun c14 =>
 aE (fJ c14 a1_0 w2) fun v16 w17 =>
 if v16=true then
 (some (.inr (.inr (x1,w17))))
 else
 (some (.inl ((IntKind.wrap .i64 (x1+1)),w17))))
 else
 (some (.inr (.inl w2)))
noncomputable def cF (a0:Sl) (a1_0:Addr) (w:World):Option (Int×World) :=
 (bU (fun s:Int×World=>bE a0 a1_0 s.1 s.2) (0,w)).bind fun r3=>Sum.elim (fun (i:World)=>u1 i fun w5 =>
 some ((-1),w5)) (fun (i:Int×World)=>u2 i fun v6 w7 =>
 some (v6,w7)) r3
theorem eT {a0 a1_0 w w' r0} (h:cF a0 a1_0 w=some (r0,w')):Calls Try.prog 25 #[(Sl.v a0),(.func (.func 42) #[] #[(.pointer (some a1_0))])] w fun e w''=>e=.returned (.int .i64 r0)/\w''=w':=by
 refine aD (n:=19) Try.func25 rfl Try.ntmps25 (by simp) fun a u=>?_;unfold cF at h;refine wp_seq<|aA<|qa u rfl fun a u=>aC<|t_n<|wp_seq<|wp_seq<|aA<|qm u rfl fun a u=>q u (cI u rfl wV) fun a u=>qm u rfl fun a u=>aC<|t_n<|wp_block<|?_;have⟨r3,e4,h⟩:=bs1 h;refine dN (n:=19) (L1:=fun i=>[]) (w1:=fun i=>i) (L2:=fun i=>[(4,(iV i.1))]) (w2:=fun i=>i.2) (e1:=.exit 0) (e2:=.ret) (I:=fun (s:Int×World) a w=>Has 19 [(8,(iV s.1)),(0,(Sl.v a0)),(1,(.func (.func 42) #[] #[(pV (some a1_0))])),(7,(iV (a0.n:Int)))] a/\w=s.2) ⟨u.sub ⟨rfl,rfl,rfl,rfl,aAP⟩,rfl⟩ e4 (fun i hi a u=>?_) (fun i hi a u=>?_) (fun hk8 hk9=>?_)
 .subst hi;obtain⟨w5,rfl⟩:∃ x,x=i:=⟨i,rfl⟩;dsimp only[Sum.elim_inl,Sum.elim_inr,u1,u2,u3,u4,u5,u6] at h;have u:Has 19 [] a:=u;refine fD<|t_n<|wp_seq<|aA<|qa u rfl fun a u=>aC<|t_n<|wp_ret<|?_;have y:=u;cases h;exact aY Try.results25 y rfl ⟨rfl,rfl⟩
 .subst hi;obtain⟨v6,w7⟩:=i;dsimp only[Sum.elim_inl,Sum.elim_inr,u1,u2,u3,u4,u5,u6] at h;have u:Has 19 [(4,(iV v6))] a:=u;refine b_r<|t_r<|?_;have y:=u;cases h;exact aY Try.results25 y rfl ⟨rfl,rfl⟩
 clear h;rintro⟨x1,w2⟩ a wq o ⟨u,hwq⟩ h hr10;obtain rfl:w2=wq:=hwq.symm;have u:Has 19 [(8,(iV x1)),(0,(Sl.v a0)),(1,(.func (.func 42) #[] #[(pV (some a1_0))])),(7,(iV (a0.n:Int)))] a:=u;have h:bE a0 a1_0 x1 w2=some o:=h;unfold bE at h;refine wp_seq<|aA<|q u (gG u rfl rfl) fun a u=>aC<|t_n<|wp_seq<|?_;refine aF u rfl h (fun b11 h=>?_) (fun b11 h=>?_)
 .refine wp_skip<|t_n<|wp_seq<|wp_block<|wp_seq<|aA<|qm u rfl fun a u=>qa u rfl fun a u=>aC<|t_n<|wp_seq<|aA<|qm u rfl fun a u=>qm u rfl fun a u=>qm u rfl fun a u=>?_;have⟨p12,e13,h⟩:=bs1 h;refine q u (eY u rfl rfl wV xA e13) fun a u=>?_;have⟨c14,e15,h⟩:=bs1 h;refine q u (bK u rfl xQ xA e15) fun a u=>?_;have⟨v16,w17,e18,h⟩:=bs2 h;refine q u (dV (xs:=[_]) (vs:=[(.agg (List.toArray c14))]) (cv:=[(pV (some a1_0))]) u rfl ⟨rfl,aAP⟩ Try.call42 (lG e18)) fun a u=>aC<|t_n<|?_;refine aF u rfl h (fun b19 h=>?_) (fun b19 h=>?_)
  .refine wp_seq<|aA<|qm u rfl fun a u=>qa u rfl fun a u=>aC<|t_n<|wp_ret<|b_r<|t_r<|?_;have y:=u;cases h;cases hr10 _ rfl;refine gR<|?_;exact hk9 _ rfl _ (y.sb rfl)
  refine wp_skip<|b_n<|t_n<|aA<|q u (dY u rfl rfl) fun a u=>qm u rfl fun a u=>aC<|?_;have y:=u;cases h;exact cZ ⟨y.sb rfl,rfl⟩
 refine wp_exit<|t_x<|?_;have y:=u;cases h;cases hr10 _ rfl;refine iL<|?_;exact hk8 _ rfl _ (y.sb rfl)
noncomputable def bF (a0:Sl) (a1_0:Addr) (w:World):Option (Bool×World) :=
 aE (cF a0 a1_0 w) fun v1 w2 =>
 some ((decide (0<=v1)),w2)
theorem eF {a0 a1_0 w w' r0} (h:bF a0 a1_0 w=some (r0,w')):Calls Try.prog 16 #[(Sl.v a0),(.func (.func 42) #[] #[(.pointer (some a1_0))])] w fun e w''=>e=.returned (.bool r0)/\w''=w':=by
 refine aD (n:=9) Try.func16 rfl Try.ntmps16 (by simp) fun a u=>?_;unfold bF at h;refine wp_seq<|aA<|qa u rfl fun a u=>aC<|t_n<|wp_seq<|aA<|qm u rfl fun a u=>qm u rfl fun a u=>?_;have⟨v1,w2,e3,h⟩:=bs2 h;refine q u (eG (xs:=[_,_]) (vs:=[(Sl.v a0),(.func (.func 42) #[] #[(pV (some a1_0))])]) u ⟨rfl,rfl,aAP⟩ Try.call25 (eT e3)) fun a u=>q u (lW u rfl rfl) fun a u=>qa u rfl fun a u=>aC<|t_n<|wp_ret<|?_;have y:=u;cases h;exact aY Try.results16 y rfl ⟨rfl,rfl⟩
noncomputable def fQ (a0:List Value) (a1:Addr) (w:World):Option (Bool×World) :=
 aE (mk w 43 a0) fun p1 w2 =>
 (ldA 3 w2 a1 0).bind fun c4 =>
 (ldA 3 w2 p1 0).bind fun c6 =>
 aE (fI c4 c6 w2) fun v8 w9 =>
 some (v8,w9)
theorem lI {a0 a1 w w' r0} (h:fQ a0 a1 w=some (r0,w')):Calls Try.prog 44 #[(.agg (List.toArray a0)),(.pointer (some a1))] w fun e w''=>e=.returned (.bool r0)/\w''=w':=by
 refine aD (n:=7) Try.func44 rfl Try.ntmps44 (by simp) fun a u=>?_;unfold fQ at h;refine wp_seq<|aA<|?_;have⟨p1,w2,e3,h⟩:=bs2 h;refine q u (dI u rfl rfl e3) fun a u=>qa u rfl fun a u=>aC<|t_n<|wp_seq<|aA<|?_;have⟨c4,e5,h⟩:=bs1 h;refine q u (bK u rfl xQ xA e5) fun a u=>?_;have⟨c6,e7,h⟩:=bs1 h;refine q u (bK u rfl xQ xA e7) fun a u=>?_;have⟨v8,w9,e10,h⟩:=bs2 h;refine q u (dc2 u rfl rfl Try.call43 (jC e10)) fun a u=>qa u rfl fun a u=>aC<|t_n<|wp_ret<|?_;have y:=u;cases h;exact aY Try.results44 y rfl ⟨rfl,rfl⟩
noncomputable def bD (a0:Sl) (a1_0:Addr) (x1:Int) (w2:World):Option ((Int×World)⊕((World)⊕(Int×World))) :=
 if (decide (x1<(a0.n:Int)))=true then
 ((ix a0 x1 3).bind fun p12 =>
 (ldA 3 w2 p12 0).bind fun c14 =>
 aE (fQ c14 a1_0 w2) fun v16 w17 =>
 if v16=true then
 (some (.inr (.inr (x1,w17))))
 else
 (some (.inl ((IntKind.wrap .i64 (x1+1)),w17))))
 else
 (some (.inr (.inl w2)))
noncomputable def cD (a0:Sl) (a1_0:Addr) (w:World):Option (Int×World) :=
 (bU (fun s:Int×World=>bD a0 a1_0 s.1 s.2) (0,w)).bind fun r3=>Sum.elim (fun (i:World)=>u1 i fun w5 =>
 some ((-1),w5)) (fun (i:Int×World)=>u2 i fun v6 w7 =>
 some (v6,w7)) r3
theorem eS {a0 a1_0 w w' r0} (h:cD a0 a1_0 w=some (r0,w')):Calls Try.prog 25 #[(Sl.v a0),(.func (.func 44) #[] #[(.pointer (some a1_0))])] w fun e w''=>e=.returned (.int .i64 r0)/\w''=w':=by
 refine aD (n:=19) Try.func25 rfl Try.ntmps25 (by simp) fun a u=>?_;unfold cD at h;refine wp_seq<|aA<|qa u rfl fun a u=>aC<|t_n<|wp_seq<|wp_seq<|aA<|qm u rfl fun a u=>q u (cI u rfl wV) fun a u=>qm u rfl fun a u=>aC<|t_n<|wp_block<|?_;have⟨r3,e4,h⟩:=bs1 h;refine dN (n:=19) (L1:=fun i=>[]) (w1:=fun i=>i) (L2:=fun i=>[(4,(iV i.1))]) (w2:=fun i=>i.2) (e1:=.exit 0) (e2:=.ret) (I:=fun (s:Int×World) a w=>Has 19 [(8,(iV s.1)),(0,(Sl.v a0)),(1,(.func (.func 44) #[] #[(pV (some a1_0))])),(7,(iV (a0.n:Int)))] a/\w=s.2) ⟨u.sub ⟨rfl,rfl,rfl,rfl,aAP⟩,rfl⟩ e4 (fun i hi a u=>?_) (fun i hi a u=>?_) (fun hk8 hk9=>?_)
 .subst hi;obtain⟨w5,rfl⟩:∃ x,x=i:=⟨i,rfl⟩;dsimp only[Sum.elim_inl,Sum.elim_inr,u1,u2,u3,u4,u5,u6] at h;have u:Has 19 [] a:=u;refine fD<|t_n<|wp_seq<|aA<|qa u rfl fun a u=>aC<|t_n<|wp_ret<|?_;have y:=u;cases h;exact aY Try.results25 y rfl ⟨rfl,rfl⟩
 .subst hi;obtain⟨v6,w7⟩:=i;dsimp only[Sum.elim_inl,Sum.elim_inr,u1,u2,u3,u4,u5,u6] at h;have u:Has 19 [(4,(iV v6))] a:=u;refine b_r<|t_r<|?_;have y:=u;cases h;exact aY Try.results25 y rfl ⟨rfl,rfl⟩
 clear h;rintro⟨x1,w2⟩ a wq o ⟨u,hwq⟩ h hr10;obtain rfl:w2=wq:=hwq.symm;have u:Has 19 [(8,(iV x1)),(0,(Sl.v a0)),(1,(.func (.func 44) #[] #[(pV (some a1_0))])),(7,(iV (a0.n:Int)))] a:=u;have h:bD a0 a1_0 x1 w2=some o:=h;unfold bD at h;refine wp_seq<|aA<|q u (gG u rfl rfl) fun a u=>aC<|t_n<|wp_seq<|?_;refine aF u rfl h (fun b11 h=>?_) (fun b11 h=>?_)
 .refine wp_skip<|t_n<|wp_seq<|wp_block<|wp_seq<|aA<|qm u rfl fun a u=>qa u rfl fun a u=>aC<|t_n<|wp_seq<|aA<|qm u rfl fun a u=>qm u rfl fun a u=>qm u rfl fun a u=>?_;have⟨p12,e13,h⟩:=bs1 h;refine q u (eY u rfl rfl wV xA e13) fun a u=>?_;have⟨c14,e15,h⟩:=bs1 h;refine q u (bK u rfl xQ xA e15) fun a u=>?_;have⟨v16,w17,e18,h⟩:=bs2 h;refine q u (dV (xs:=[_]) (vs:=[(.agg (List.toArray c14))]) (cv:=[(pV (some a1_0))]) u rfl ⟨rfl,aAP⟩ Try.call44 (lI e18)) fun a u=>aC<|t_n<|?_;refine aF u rfl h (fun b19 h=>?_) (fun b19 h=>?_)
  .refine wp_seq<|aA<|qm u rfl fun a u=>qa u rfl fun a u=>aC<|t_n<|wp_ret<|b_r<|t_r<|?_;have y:=u;cases h;cases hr10 _ rfl;refine gR<|?_;exact hk9 _ rfl _ (y.sb rfl)
  refine wp_skip<|b_n<|t_n<|aA<|q u (dY u rfl rfl) fun a u=>qm u rfl fun a u=>aC<|?_;have y:=u;cases h;exact cZ ⟨y.sb rfl,rfl⟩
 refine wp_exit<|t_x<|?_;have y:=u;cases h;cases hr10 _ rfl;refine iL<|?_;exact hk8 _ rfl _ (y.sb rfl)
noncomputable def bC (a0:Sl) (a1_0:Addr) (w:World):Option (Bool×World) :=
 aE (cD a0 a1_0 w) fun v1 w2 =>
 some ((decide (0<=v1)),w2)
theorem eD {a0 a1_0 w w' r0} (h:bC a0 a1_0 w=some (r0,w')):Calls Try.prog 16 #[(Sl.v a0),(.func (.func 44) #[] #[(.pointer (some a1_0))])] w fun e w''=>e=.returned (.bool r0)/\w''=w':=by
 refine aD (n:=9) Try.func16 rfl Try.ntmps16 (by simp) fun a u=>?_;unfold bC at h;refine wp_seq<|aA<|qa u rfl fun a u=>aC<|t_n<|wp_seq<|aA<|qm u rfl fun a u=>qm u rfl fun a u=>?_;have⟨v1,w2,e3,h⟩:=bs2 h;refine q u (eG (xs:=[_,_]) (vs:=[(Sl.v a0),(.func (.func 44) #[] #[(pV (some a1_0))])]) u ⟨rfl,rfl,aAP⟩ Try.call25 (eS e3)) fun a u=>q u (lW u rfl rfl) fun a u=>qa u rfl fun a u=>aC<|t_n<|wp_ret<|?_;have y:=u;cases h;exact aY Try.results16 y rfl ⟨rfl,rfl⟩
noncomputable def gV (a0:List Value) (a1:List Value) (w:World):Option (Bool×World) :=
 aE (mk w 43 a0) fun p1 w2 =>
 aE (mk w2 43 a1) fun p4 w5 =>
 (dr w5).bind fun w7 =>
 (ldA 3 w7 p1 0).bind fun c9 =>
 (ldA 3 w7 p4 0).bind fun c11 =>
 aE (hD c9 c11 w7) fun v13 w14 =>
 (ldI .i64 w14 (p1.add 2)).bind fun v16 =>
 (ldI .i64 w14 (p4.add 2)).bind fun v18 =>
 (ldI .i64 w14 (p1.add 2)).bind fun v20 =>
 (ldI .i64 w14 (p4.add 2)).bind fun v22 =>
 chk (ldI .i64 w7 (p1.add 2)=some v16) <|
 chk (ldI .i64 w7 (p4.add 2)=some v18) <|
 chk (ldI .i64 w7 (p1.add 2)=some v20) <|
 chk (ldI .i64 w7 (p4.add 2)=some v22) <|
 some ((decide ((IntKind.wrap .i64 ((IntKind.wrap .i64 (v16+v18))*(IntKind.wrap .i64 (v20+v22))))<v13)),w14)
theorem lX {a0 a1 w w' r0} (h:gV a0 a1 w=some (r0,w')):Calls Try.prog 46 #[(.agg (List.toArray a0)),(.agg (List.toArray a1))] w fun e w''=>e=.returned (.bool r0)/\w''=w':=by
 refine aD (n:=20) Try.func46 rfl Try.ntmps46 (by simp) fun a u=>?_;unfold gV at h;refine wp_seq<|aA<|?_;have⟨p1,w2,e3,h⟩:=bs2 h;refine q u (dI u rfl rfl e3) fun a u=>?_;have⟨p4,w5,e6,h⟩:=bs2 h;refine q u (dI u rfl rfl e6) fun a u=>qa u rfl fun a u=>aC<|t_n<|wp_seq<|?_;have⟨w7,e8,h⟩:=bs1 h;have⟨c9,e10,h⟩:=bs1 h;have⟨c11,e12,h⟩:=bs1 h;have⟨v13,w14,e15,h⟩:=bs2 h;have⟨v16,e17,h⟩:=bs1 h;have⟨v18,e19,h⟩:=bs1 h;have⟨v20,e21,h⟩:=bs1 h;have⟨v22,e23,h⟩:=bs1 h;obtain⟨e24,h⟩:=dC h;obtain⟨e25,h⟩:=dC h;obtain⟨e26,h⟩:=dC h;obtain⟨e27,h⟩:=dC h;have u:Has 20 [(2,(pV (some p1))),(3,(pV (some p4)))] a:=u.sb rfl;refine cL (n:=20) (ds:=(bJ (.agg (List.toArray c9)) 0 [] 2 (pV (some p1))::bJ (.agg (List.toArray c11)) 0 [] 3 (pV (some p4))::aL (iV v13) true 0 0 [0,1] [(5,(.agg (List.toArray c9))),(6,(.agg (List.toArray c11)))]::aL (pV (some (p1.add 2))) false 0 1 [] [(2,(pV (some p1)))]::aL (iV v16) false 0 1 [3] [(8,(pV (some (p1.add 2))))]::aL (pV (some (p4.add 2))) false 0 1 [] [(3,(pV (some p4)))]::aL (iV v18) false 0 1 [5] [(10,(pV (some (p4.add 2))))]::aL (iV (IntKind.wrap .i64 (v16+v18))) false 0 1 (rn 3 4) [(9,(iV v16)),(11,(iV v18))]::aL (pV (some (p1.add 2))) false 0 1 [] [(2,(pV (some p1)))]::aL (iV v20) false 0 1 [8] [(13,(pV (some (p1.add 2))))]::aL (pV (some (p4.add 2))) false 0 1 [] [(3,(pV (some p4)))]::aL (iV v22) false 0 1 [10] [(15,(pV (some (p4.add 2))))]::aL (iV (IntKind.wrap .i64 (v20+v22))) false 0 1 (rn 8 4) [(14,(iV v20)),(16,(iV v22))]::aL (iV (IntKind.wrap .i64 ((IntKind.wrap .i64 (v16+v18))*(IntKind.wrap .i64 (v20+v22))))) false 0 1 (rn 3 10) [(12,(iV (IntKind.wrap .i64 (v16+v18)))),(17,(iV (IntKind.wrap .i64 (v20+v22))))]::gL (bV (decide ((IntKind.wrap .i64 ((IntKind.wrap .i64 (v16+v18))*(IntKind.wrap .i64 (v20+v22))))<v13))) 1 (rn 0 14) [(7,(iV v13)),(18,(iV (IntKind.wrap .i64 ((IntKind.wrap .i64 (v16+v18))*(IntKind.wrap .i64 (v20+v22))))))]::eN (bV (decide ((IntKind.wrap .i64 ((IntKind.wrap .i64 (v16+v18))*(IntKind.wrap .i64 (v20+v22))))<v13))) 1 (rn 0 15) 19::[])) (W:=(fun j=>match j with | 0=>w7 | 1=>w14 | _=>w14)) (by kernel_rfl) u (gY e8) (by kernel_rfl) ?_ (bS (by kernel_rfl)) (by kernel_rfl) (m:=1) (by kernel_rfl) (fun a u=>?_)
 .refine⟨oc 0 (kd (bK · rfl xQ xA e10)),oc 0 (kd (bK · rfl xQ xA e12)),oc 0 (kd (dc2 · rfl rfl Try.call74 (kI e15))),oa (aJ · rfl wQ rfl rfl xC),?_,oa (aJ · rfl wQ rfl rfl xC),?_,oa (dY · rfl rfl),oa (aJ · rfl wQ rfl rfl xC),?_,oa (aJ · rfl wQ rfl rfl xC),?_,oa (dY · rfl rfl),oa (lS · rfl rfl),oa (jF · rfl rfl),oa (fW · rfl),aAP⟩
  .intro j h1 h2;have h1:0<=j:=h1;have h2:j<=1:=h2;rcases(by omega:j=0\/j=1) with rfl | rfl
   .exact kd (aG · rfl wZ (aO e24))
   exact kd (aG · rfl wZ (aO e17))
  .intro j h1 h2;have h1:0<=j:=h1;have h2:j<=1:=h2;rcases(by omega:j=0\/j=1) with rfl | rfl
   .exact kd (aG · rfl wZ (aO e25))
   exact kd (aG · rfl wZ (aO e19))
  .intro j h1 h2;have h1:0<=j:=h1;have h2:j<=1:=h2;rcases(by omega:j=0\/j=1) with rfl | rfl
   .exact kd (aG · rfl wZ (aO e26))
   exact kd (aG · rfl wZ (aO e21))
  intro j h1 h2;have h1:0<=j:=h1;have h2:j<=1:=h2;rcases(by omega:j=0\/j=1) with rfl | rfl
  .exact kd (aG · rfl wZ (aO e27))
  exact kd (aG · rfl wZ (aO e23))
 have u:Has 20 [(4,(bV (decide ((IntKind.wrap .i64 ((IntKind.wrap .i64 (v16+v18))*(IntKind.wrap .i64 (v20+v22))))<v13))))] a:=u.sb rfl;refine t_n<|wp_ret<|?_;have y:=u;cases h;exact aY Try.results46 y rfl ⟨rfl,rfl⟩
noncomputable def fP (a0:List Value) (a1:Addr) (w:World):Option (Bool×World) :=
 aE (mk w 43 a0) fun p1 w2 =>
 (ldA 3 w2 p1 0).bind fun c4 =>
 (ldA 3 w2 a1 0).bind fun c6 =>
 aE (gV c4 c6 w2) fun v8 w9 =>
 some (v8,w9)
theorem lF {a0 a1 w w' r0} (h:fP a0 a1 w=some (r0,w')):Calls Try.prog 45 #[(.agg (List.toArray a0)),(.pointer (some a1))] w fun e w''=>e=.returned (.bool r0)/\w''=w':=by
 refine aD (n:=7) Try.func45 rfl Try.ntmps45 (by simp) fun a u=>?_;unfold fP at h;refine wp_seq<|aA<|?_;have⟨p1,w2,e3,h⟩:=bs2 h;refine q u (dI u rfl rfl e3) fun a u=>qa u rfl fun a u=>aC<|t_n<|wp_seq<|aA<|?_;have⟨c4,e5,h⟩:=bs1 h;refine q u (bK u rfl xQ xA e5) fun a u=>?_;have⟨c6,e7,h⟩:=bs1 h;refine q u (bK u rfl xQ xA e7) fun a u=>?_;have⟨v8,w9,e10,h⟩:=bs2 h;refine q u (dc2 u rfl rfl Try.call46 (lX e10)) fun a u=>qa u rfl fun a u=>aC<|t_n<|wp_ret<|?_;have y:=u;cases h;exact aY Try.results45 y rfl ⟨rfl,rfl⟩
noncomputable def bB (a0:Sl) (a1_0:Addr) (x1:Int) (w2:World):Option ((Int×World)⊕((World)⊕(Int×World))) :=
 if (decide (x1<(a0.n:Int)))=true then
 ((ix a0 x1 3).bind fun p12 =>
 (ldA 3 w2 p12 0).bind fun c14 =>
 aE (fP c14 a1_0 w2) fun v16 w17 =>
 if v16=true then
 (some (.inr (.inr (x1,w17))))
 else
 (some (.inl ((IntKind.wrap .i64 (x1+1)),w17))))
 else
 (some (.inr (.inl w2)))
noncomputable def cE (a0:Sl) (a1_0:Addr) (w:World):Option (Int×World) :=
 (bU (fun s:Int×World=>bB a0 a1_0 s.1 s.2) (0,w)).bind fun r3=>Sum.elim (fun (i:World)=>u1 i fun w5 =>
 some ((-1),w5)) (fun (i:Int×World)=>u2 i fun v6 w7 =>
 some (v6,w7)) r3
theorem eZ {a0 a1_0 w w' r0} (h:cE a0 a1_0 w=some (r0,w')):Calls Try.prog 25 #[(Sl.v a0),(.func (.func 45) #[] #[(.pointer (some a1_0))])] w fun e w''=>e=.returned (.int .i64 r0)/\w''=w':=by
 refine aD (n:=19) Try.func25 rfl Try.ntmps25 (by simp) fun a u=>?_;unfold cE at h;refine wp_seq<|aA<|qa u rfl fun a u=>aC<|t_n<|wp_seq<|wp_seq<|aA<|qm u rfl fun a u=>q u (cI u rfl wV) fun a u=>qm u rfl fun a u=>aC<|t_n<|wp_block<|?_;have⟨r3,e4,h⟩:=bs1 h;refine dN (n:=19) (L1:=fun i=>[]) (w1:=fun i=>i) (L2:=fun i=>[(4,(iV i.1))]) (w2:=fun i=>i.2) (e1:=.exit 0) (e2:=.ret) (I:=fun (s:Int×World) a w=>Has 19 [(8,(iV s.1)),(0,(Sl.v a0)),(1,(.func (.func 45) #[] #[(pV (some a1_0))])),(7,(iV (a0.n:Int)))] a/\w=s.2) ⟨u.sub ⟨rfl,rfl,rfl,rfl,aAP⟩,rfl⟩ e4 (fun i hi a u=>?_) (fun i hi a u=>?_) (fun hk8 hk9=>?_)
 .subst hi;obtain⟨w5,rfl⟩:∃ x,x=i:=⟨i,rfl⟩;dsimp only[Sum.elim_inl,Sum.elim_inr,u1,u2,u3,u4,u5,u6] at h;have u:Has 19 [] a:=u;refine fD<|t_n<|wp_seq<|aA<|qa u rfl fun a u=>aC<|t_n<|wp_ret<|?_;have y:=u;cases h;exact aY Try.results25 y rfl ⟨rfl,rfl⟩
 .subst hi;obtain⟨v6,w7⟩:=i;dsimp only[Sum.elim_inl,Sum.elim_inr,u1,u2,u3,u4,u5,u6] at h;have u:Has 19 [(4,(iV v6))] a:=u;refine b_r<|t_r<|?_;have y:=u;cases h;exact aY Try.results25 y rfl ⟨rfl,rfl⟩
 clear h;rintro⟨x1,w2⟩ a wq o ⟨u,hwq⟩ h hr10;obtain rfl:w2=wq:=hwq.symm;have u:Has 19 [(8,(iV x1)),(0,(Sl.v a0)),(1,(.func (.func 45) #[] #[(pV (some a1_0))])),(7,(iV (a0.n:Int)))] a:=u;have h:bB a0 a1_0 x1 w2=some o:=h;unfold bB at h;refine wp_seq<|aA<|q u (gG u rfl rfl) fun a u=>aC<|t_n<|wp_seq<|?_;refine aF u rfl h (fun b11 h=>?_) (fun b11 h=>?_)
 .refine wp_skip<|t_n<|wp_seq<|wp_block<|wp_seq<|aA<|qm u rfl fun a u=>qa u rfl fun a u=>aC<|t_n<|wp_seq<|aA<|qm u rfl fun a u=>qm u rfl fun a u=>qm u rfl fun a u=>?_;have⟨p12,e13,h⟩:=bs1 h;refine q u (eY u rfl rfl wV xA e13) fun a u=>?_;have⟨c14,e15,h⟩:=bs1 h;refine q u (bK u rfl xQ xA e15) fun a u=>?_;have⟨v16,w17,e18,h⟩:=bs2 h;refine q u (dV (xs:=[_]) (vs:=[(.agg (List.toArray c14))]) (cv:=[(pV (some a1_0))]) u rfl ⟨rfl,aAP⟩ Try.call45 (lF e18)) fun a u=>aC<|t_n<|?_;refine aF u rfl h (fun b19 h=>?_) (fun b19 h=>?_)
  .refine wp_seq<|aA<|qm u rfl fun a u=>qa u rfl fun a u=>aC<|t_n<|wp_ret<|b_r<|t_r<|?_;have y:=u;cases h;cases hr10 _ rfl;refine gR<|?_;exact hk9 _ rfl _ (y.sb rfl)
  refine wp_skip<|b_n<|t_n<|aA<|q u (dY u rfl rfl) fun a u=>qm u rfl fun a u=>aC<|?_;have y:=u;cases h;exact cZ ⟨y.sb rfl,rfl⟩
 refine wp_exit<|t_x<|?_;have y:=u;cases h;cases hr10 _ rfl;refine iL<|?_;exact hk8 _ rfl _ (y.sb rfl)
def bH (a0:Sl) (a1_0:Addr) (w:World):Option (Bool×World) :=
 aE (cE a0 a1_0 w) fun v1 w2 =>
 some ((decide (0<=v1)),w2)
theorem eB {a0 a1_0 w w' r0} (h:bH a0 a1_0 w=some (r0,w')):Calls Try.prog 16 #[(Sl.v a0),(.func (.func 45) #[] #[(.pointer (some a1_0))])] w fun e w''=>e=.returned (.bool r0)/\w''=w':=by
 refine aD (n:=9) Try.func16 rfl Try.ntmps16 (by simp) fun a u=>?_;unfold bH at h;refine wp_seq<|aA<|qa u rfl fun a u=>aC<|t_n<|wp_seq<|aA<|qm u rfl fun a u=>qm u rfl fun a u=>?_;have⟨v1,w2,e3,h⟩:=bs2 h;refine q u (eG (xs:=[_,_]) (vs:=[(Sl.v a0),(.func (.func 45) #[] #[(pV (some a1_0))])]) u ⟨rfl,rfl,aAP⟩ Try.call25 (eZ e3)) fun a u=>q u (lW u rfl rfl) fun a u=>qa u rfl fun a u=>aC<|t_n<|wp_ret<|?_;have y:=u;cases h;exact aY Try.results16 y rfl ⟨rfl,rfl⟩
noncomputable def dS (v72:Sl) (p1:Addr) (x74:Int) (w75:World):Option ((Int×World)⊕((World)⊕(Bool×World))) :=
 if (decide (x74<(v72.n:Int)))=true then
 ((ix v72 x74 3).bind fun p85 =>
 (ldA 3 w75 p85 0).bind fun c87 =>
 aE (mk w75 43 ([.int .i64 0,.int .i64 0,.int .i64 0])) fun p89 w90 =>
 (stA w90 p89 0 c87).bind fun w92 =>
 (ldL w92 (p1.add 10)).bind fun v94 =>
 aE (bF v94 p89 w92) fun v96 w97 =>
 if (!v96)=true then
 (some (.inr (.inr (false,w97))))
 else
 (some (.inl ((IntKind.wrap .i64 (x74+1)),w97))))
 else
 (some (.inr (.inl w75)))
noncomputable def dT (v100:Sl) (p1:Addr) (x102:Int) (w103:World):Option ((Int×World)⊕((World)⊕(Bool×World))) :=
 if (decide (x102<(v100.n:Int)))=true then
 ((ix v100 x102 3).bind fun p113 =>
 (ldA 3 w103 p113 0).bind fun c115 =>
 aE (mk w103 43 ([.int .i64 0,.int .i64 0,.int .i64 0])) fun p117 w118 =>
 (stA w118 p117 0 c115).bind fun w120 =>
 aE ((ldL w120 (p1.add 11)).bind fun v126 =>
 aE (bC v126 p117 w120) fun v128 w129 =>
 if (!v128)=true then
 ((ldL w129 (p1.add 10)).bind fun v132 =>
 aE (bH v132 p117 w129) fun v134 w135 =>
 some ((!v134),w135))
 else
 (some (false,w129))) fun v122 w123 =>
 if v122=true then
 (some (.inr (.inr (false,w123))))
 else
 (some (.inl ((IntKind.wrap .i64 (x102+1)),w123))))
 else
 (some (.inr (.inl w103)))
noncomputable def hG (a0:List Value) (a1:List Value) (w:World):Option (Bool×World) :=
 aE (mk w 40 a0) fun p1 w2 =>
 aE (mk w2 40 a1) fun p4 w5 =>
 aE ((ldI .i64 w5 (p1.add 1)).bind fun v11 =>
 (ldI .i64 w5 (p4.add 1)).bind fun v13 =>
 if (v11 !=v13)=true then
 (some (true,w5))
 else
 ((ldB w5 (p1.add 2)).bind fun v16 =>
 if v16=true then
 ((ldB w5 (p4.add 2)).bind fun v19 =>
 some ((!v19),w5))
 else
 (some (false,w5)))) fun v7 w8 =>
 if v7=true then
 (some (false,w8))
 else
 ((ldA 12 w8 p1 0).bind fun c22 =>
 aE (cO c22 w8) fun v24 w25 =>
 if v24=true then
 (some (true,w25))
 else
 ((ldI .i64 w25 (p1.add 1)).bind fun v28 =>
 if (v28==1)=true then
 (aE ((ldI .i64 w25 (p4.add 3)).bind fun v35 =>
 (ldI .i64 w25 (p1.add 3)).bind fun v37 =>
 if (decide (v35<=v37))=true then
 ((ldI .i64 w25 (p1.add 4)).bind fun v40 =>
 (ldI .i64 w25 (p4.add 4)).bind fun v42 =>
 some ((decide (v40<=v42)),w25))
 else
 (some (false,w25))) fun v31 w32 =>
 some (v31,w32))
 else
 (if (v28==2)=true then
 (aE ((ldS w25 (p4.add 5)).bind fun v49 =>
 (ldS w25 (p1.add 5)).bind fun v51 =>
 if (sLt v49 v51||sEq v49 v51)=true then
 ((ldB w25 (p4.add 7)).bind fun v54 =>
 if v54=true then
 (some (true,w25))
 else
 ((ldB w25 (p1.add 7)).bind fun v57 =>
 if (!v57)=true then
 ((ldS w25 (p1.add 6)).bind fun v60 =>
 (ldS w25 (p4.add 6)).bind fun v62 =>
 some ((sLt v60 v62||sEq v60 v62),w25))
 else
 (some (false,w25))))
 else
 (some (false,w25))) fun v45 w46 =>
 some (v45,w46))
 else
 (if (v28==3)=true then
 ((ldI .u8 w25 (p1.add 8)).bind fun v65 =>
 (ldI .u8 w25 (p4.add 8)).bind fun v67 =>
 some (((oJ .u8 (oK .u8 v65 v67) 3)==0),w25))
 else
 ((ldB w25 (p4.add 9)).bind fun v69 =>
 if v69=true then
 (some (false,w25))
 else
 ((ldL w25 (p4.add 10)).bind fun v72 =>
 (bU (fun s:Int×World=>dS v72 p1 s.1 s.2) (0,w25)).bind fun r76=>Sum.elim (fun (i:World)=>u1 i fun w78 =>
 (ldL w78 (p4.add 11)).bind fun v100 =>
 (bU (fun s:Int×World=>dT v100 p1 s.1 s.2) (0,w78)).bind fun r104=>Sum.elim (fun (i:World)=>u1 i fun w106 =>
 some (true,w106)) (fun (i:Bool×World)=>u2 i fun v107 w108 =>
 some (v107,w108)) r104) (fun (i:Bool×World)=>u2 i fun v79 w80 =>
 some (v79,w80)) r76))))))
theorem mL {a0 a1 w w' r0} (h:hG a0 a1 w=some (r0,w')):Calls Try.prog 28 #[(.agg (List.toArray a0)),(.agg (List.toArray a1))] w fun e w''=>e=.returned (.bool r0)/\w''=w':=by
 refine aD (n:=108) Try.func28 rfl Try.ntmps28 (by simp) fun a u=>?_;unfold hG at h;refine wp_seq<|aA<|?_;have⟨p1,w2,e3,h⟩:=bs2 h;refine q u (dI u rfl rfl e3) fun a u=>?_;have⟨p4,w5,e6,h⟩:=bs2 h;refine q u (dI u rfl rfl e6) fun a u=>qa u rfl fun a u=>aC<|t_n<|wp_seq<|wp_seq<|?_;have⟨v7,w8,e9,h⟩:=bs2 h;refine bY (n:=108) (L:=[(22,(bV v7)),(2,(pV (some p1))),(3,(pV (some p4)))]) (w':=w8) (fun a u=>?_) (fun hk10=>?_)
 .refine t_n<|?_;refine aF u rfl h (fun b21 h=>?_) (fun b21 h=>?_)
  .refine wp_seq<|aA<|qa u rfl fun a u=>aC<|t_n<|wp_ret<|t_r<|?_;have y:=u;cases h;exact aY Try.results28 y rfl ⟨rfl,rfl⟩
  refine wp_skip<|t_n<|wp_seq<|wp_seq<|aA<|?_;have⟨c22,e23,h⟩:=bs1 h;refine q u (bK u rfl xE wO e23) fun a u=>?_;have⟨v24,w25,e26,h⟩:=bs2 h;refine q u (dc1 u rfl Try.call41 (eA e26)) fun a u=>aC<|t_n<|?_;refine aF u rfl h (fun b27 h=>?_) (fun b27 h=>?_)
  .refine wp_seq<|aA<|qa u rfl fun a u=>aC<|t_n<|wp_ret<|t_r<|?_;have y:=u;cases h;exact aY Try.results28 y rfl ⟨rfl,rfl⟩
  refine wp_skip<|t_n<|wp_seq<|wp_seq<|aA<|q u (aJ u rfl wM rfl rfl xB) fun a u=>?_;have⟨v28,e29,h⟩:=bs1 h;refine q u (aG u rfl wX (aO e29)) fun a u=>aC<|t_n<|wp_block<|wp_seq<|aA<|q u (cC u rfl rfl) fun a u=>qa u rfl fun a u=>aC<|t_n<|?_;refine aF u rfl h (fun b30 h=>?_) (fun b30 h=>?_)
  .refine wp_seq<|?_;have⟨v31,w32,e33,h⟩:=bs2 h;refine bY (n:=108) (L:=[(4,(bV v31))]) (w':=w32) (fun a u=>?_) (fun hk34=>?_)
   .refine t_n<|wp_ret<|b_r<|t_r<|?_;have y:=u;cases h;exact aY Try.results28 y rfl ⟨rfl,rfl⟩
   clear h;have h:=e33;refine aA<|q u (aJ u rfl wM rfl rfl wY) fun a u=>?_;have⟨v35,e36,h⟩:=bs1 h;refine q u (aG u rfl xZ (aO e36)) fun a u=>q u (aJ u rfl wM rfl rfl wY) fun a u=>?_;have⟨v37,e38,h⟩:=bs1 h;refine q u (aG u rfl xZ (aO e38)) fun a u=>q u (nE u rfl rfl) fun a u=>qm u rfl fun a u=>?_;refine dG h (fun b39 h=>?_) (fun b39 h=>?_)
   .refine qg u 34 b39 (aJ u rfl wM rfl rfl wY) fun a u=>?_;have⟨v40,e41,h⟩:=bs1 h;refine qg u 34 b39 (aG u rfl xZ (aO e41)) fun a u=>qg u 34 b39 (aJ u rfl wM rfl rfl wY) fun a u=>?_;have⟨v42,e43,h⟩:=bs1 h;refine qg u 34 b39 (aG u rfl xZ (aO e43)) fun a u=>qg u 34 b39 (nE u rfl rfl) fun a u=>q u (aK u rfl b39 rfl) fun a u=>qa u rfl fun a u=>aC<|?_;have y:=u;cases h;exact hk34 _ (y.sb rfl)
   refine qn u 34 (nm b39) fun a u=>qn u 34 (nm b39) fun a u=>qn u 34 (nm b39) fun a u=>qn u 34 (nm b39) fun a u=>qn u 34 (nm b39) fun a u=>q u (aM u rfl b39 rfl) fun a u=>qa u rfl fun a u=>aC<|?_;have y:=u;cases h;exact hk34 _ (y.sb rfl)
  refine wp_seq<|aA<|q u (cC u rfl rfl) fun a u=>qa u rfl fun a u=>aC<|t_n<|?_;refine aF u rfl h (fun b44 h=>?_) (fun b44 h=>?_)
  .refine wp_seq<|?_;have⟨v45,w46,e47,h⟩:=bs2 h;refine bY (n:=108) (L:=[(4,(bV v45))]) (w':=w46) (fun a u=>?_) (fun hk48=>?_)
   .refine t_n<|wp_ret<|b_r<|t_r<|?_;have y:=u;cases h;exact aY Try.results28 y rfl ⟨rfl,rfl⟩
   clear h;have h:=e47;refine aA<|q u (aJ u rfl wM rfl rfl wR) fun a u=>?_;have⟨v49,e50,h⟩:=bs1 h;refine q u (aG u rfl wU (cH e50)) fun a u=>q u (aJ u rfl wM rfl rfl wR) fun a u=>?_;have⟨v51,e52,h⟩:=bs1 h;refine q u (aG u rfl wU (cH e52)) fun a u=>q u (pF u rfl rfl) fun a u=>qm u rfl fun a u=>?_;refine dG h (fun b53 h=>?_) (fun b53 h=>?_)
   .refine qg u 48 b53 (aJ u rfl wM rfl rfl xG) fun a u=>?_;have⟨v54,e55,h⟩:=bs1 h;refine qg u 48 b53 (aG u rfl yE (kO e55)) fun a u=>qg u 48 b53 (aI u rfl) fun a u=>?_;refine dG h (fun b56 h=>?_) (fun b56 h=>?_)
    .refine qn u 51 (tn b56) fun a u=>qn u 51 (tn b56) fun a u=>qn u 51 (tn b56) fun a u=>qn u 51 (tn b56) fun a u=>qu u 55 fun a u=>qu u 55 fun a u=>qu u 55 fun a u=>qu u 55 fun a u=>qu u 55 fun a u=>qn u 51 (tn b56) fun a u=>qg u 48 b53 (aK u rfl b56 rfl) fun a u=>q u (aK u rfl b53 rfl) fun a u=>qa u rfl fun a u=>aC<|?_;have y:=u;cases h;exact hk48 _ (y.sb rfl)
    refine qg u 51 (nt b56) (aJ u rfl wM rfl rfl xG) fun a u=>?_;have⟨v57,e58,h⟩:=bs1 h;refine qg u 51 (nt b56) (aG u rfl yE (kO e58)) fun a u=>qg u 51 (nt b56) (fT u rfl) fun a u=>qg u 51 (nt b56) (aI u rfl) fun a u=>?_;refine dG h (fun b59 h=>?_) (fun b59 h=>?_)
    .refine qg u 55 b59 (aJ u rfl wM rfl rfl wR) fun a u=>?_;have⟨v60,e61,h⟩:=bs1 h;refine qg u 55 b59 (aG u rfl wU (cH e61)) fun a u=>qg u 55 b59 (aJ u rfl wM rfl rfl wR) fun a u=>?_;have⟨v62,e63,h⟩:=bs1 h;refine qg u 55 b59 (aG u rfl wU (cH e63)) fun a u=>qg u 55 b59 (pF u rfl rfl) fun a u=>qg u 51 (nt b56) (aK u rfl b59 rfl) fun a u=>qg u 48 b53 (aM u rfl b56 rfl) fun a u=>q u (aK u rfl b53 rfl) fun a u=>qa u rfl fun a u=>aC<|?_;have y:=u;cases h;exact hk48 _ (y.sb rfl)
    refine qn u 55 (nm b59) fun a u=>qn u 55 (nm b59) fun a u=>qn u 55 (nm b59) fun a u=>qn u 55 (nm b59) fun a u=>qn u 55 (nm b59) fun a u=>qg u 51 (nt b56) (aM u rfl b59 rfl) fun a u=>qg u 48 b53 (aM u rfl b56 rfl) fun a u=>q u (aK u rfl b53 rfl) fun a u=>qa u rfl fun a u=>aC<|?_;have y:=u;cases h;exact hk48 _ (y.sb rfl)
   refine qn u 48 (nm b53) fun a u=>qn u 48 (nm b53) fun a u=>qn u 48 (nm b53) fun a u=>qu u 51 fun a u=>qu u 51 fun a u=>qu u 51 fun a u=>qu u 51 fun a u=>qu u 55 fun a u=>qu u 55 fun a u=>qu u 55 fun a u=>qu u 55 fun a u=>qu u 55 fun a u=>qu u 51 fun a u=>qn u 48 (nm b53) fun a u=>q u (aM u rfl b53 rfl) fun a u=>qa u rfl fun a u=>aC<|?_;have y:=u;cases h;exact hk48 _ (y.sb rfl)
  refine wp_seq<|aA<|q u (cC u rfl rfl) fun a u=>qa u rfl fun a u=>aC<|t_n<|?_;refine aF u rfl h (fun b64 h=>?_) (fun b64 h=>?_)
  .refine wp_seq<|aA<|q u (aJ u rfl wM rfl rfl Try.sizeOf5) fun a u=>?_;have⟨v65,e66,h⟩:=bs1 h;refine q u (aG u rfl Try.isAgg5 (aO e66)) fun a u=>q u (aJ u rfl wM rfl rfl Try.sizeOf5) fun a u=>?_;have⟨v67,e68,h⟩:=bs1 h;refine q u (aG u rfl Try.isAgg5 (aO e68)) fun a u=>q u (rQ u rfl rfl) fun a u=>q u (tB u rfl rfl) fun a u=>q u (cC u rfl rfl) fun a u=>qa u rfl fun a u=>aC<|t_n<|wp_ret<|b_r<|t_r<|?_;have y:=u;cases h;exact aY Try.results28 y rfl ⟨rfl,rfl⟩
  refine wp_skip<|b_n<|t_n<|wp_seq<|wp_seq<|aA<|q u (aJ u rfl wM rfl rfl xG) fun a u=>?_;have⟨v69,e70,h⟩:=bs1 h;refine q u (aG u rfl yE (kO e70)) fun a u=>aC<|t_n<|?_;refine aF u rfl h (fun b71 h=>?_) (fun b71 h=>?_)
  .refine wp_seq<|aA<|qa u rfl fun a u=>aC<|t_n<|wp_ret<|t_r<|?_;have y:=u;cases h;exact aY Try.results28 y rfl ⟨rfl,rfl⟩
  refine wp_skip<|t_n<|wp_seq<|wp_seq<|aA<|q u (aJ u rfl wM rfl rfl xI) fun a u=>?_;have⟨v72,e73,h⟩:=bs1 h;refine q u (aG u rfl xY (bW e73)) fun a u=>q u (cI u rfl wV) fun a u=>qm u rfl fun a u=>aC<|t_n<|wp_block<|?_;have⟨r76,e77,h⟩:=bs1 h;refine dN (n:=108) (L1:=fun i=>[(2,(pV (some p1))),(3,(pV (some p4)))]) (w1:=fun i=>i) (L2:=fun i=>[(4,(bV i.1))]) (w2:=fun i=>i.2) (e1:=.exit 1) (e2:=.ret) (I:=fun (s:Int×World) a w=>Has 108 [(78,(iV s.1)),(2,(pV (some p1))),(3,(pV (some p4))),(76,(Sl.v v72)),(77,(iV (v72.n:Int)))] a/\w=s.2) ⟨u.sub ⟨rfl,rfl,rfl,rfl,rfl,aAP⟩,rfl⟩ e77 (fun i hi a u=>?_) (fun i hi a u=>?_) (fun hk81 hk82=>?_)
  .subst hi;obtain⟨w78,rfl⟩:∃ x,x=i:=⟨i,rfl⟩;dsimp only[Sum.elim_inl,Sum.elim_inr,u1,u2,u3,u4,u5,u6] at h;have u:Has 108 [(2,(pV (some p1))),(3,(pV (some p4)))] a:=u;refine fD<|t_n<|wp_seq<|wp_seq<|aA<|q u (aJ u rfl wM rfl rfl xI) fun a u=>?_;have⟨v100,e101,h⟩:=bs1 h;refine q u (aG u rfl xY (bW e101)) fun a u=>q u (cI u rfl wV) fun a u=>qm u rfl fun a u=>aC<|t_n<|wp_block<|?_;have⟨r104,e105,h⟩:=bs1 h;refine dN (n:=108) (L1:=fun i=>[]) (w1:=fun i=>i) (L2:=fun i=>[(4,(bV i.1))]) (w2:=fun i=>i.2) (e1:=.exit 3) (e2:=.ret) (I:=fun (s:Int×World) a w=>Has 108 [(91,(iV s.1)),(2,(pV (some p1))),(89,(Sl.v v100)),(90,(iV (v100.n:Int)))] a/\w=s.2) ⟨u.sub ⟨rfl,rfl,rfl,rfl,aAP⟩,rfl⟩ e105 (fun i hi a u=>?_) (fun i hi a u=>?_) (fun hk109 hk110=>?_)
   .subst hi;obtain⟨w106,rfl⟩:∃ x,x=i:=⟨i,rfl⟩;dsimp only[Sum.elim_inl,Sum.elim_inr,u1,u2,u3,u4,u5,u6] at h;have u:Has 108 [] a:=u;refine fD<|t_n<|wp_seq<|aA<|qa u rfl fun a u=>aC<|t_n<|wp_ret<|?_;have y:=u;cases h;exact aY Try.results28 y rfl ⟨rfl,rfl⟩
   .subst hi;obtain⟨v107,w108⟩:=i;dsimp only[Sum.elim_inl,Sum.elim_inr,u1,u2,u3,u4,u5,u6] at h;have u:Has 108 [(4,(bV v107))] a:=u;refine b_r<|t_r<|?_;have y:=u;cases h;exact aY Try.results28 y rfl ⟨rfl,rfl⟩
   clear h;rintro⟨x102,w103⟩ a wq o ⟨u,hwq⟩ h hr111;obtain rfl:w103=wq:=hwq.symm;have u:Has 108 [(91,(iV x102)),(2,(pV (some p1))),(89,(Sl.v v100)),(90,(iV (v100.n:Int)))] a:=u;have h:dT v100 p1 x102 w103=some o:=h;unfold dT at h;refine wp_seq<|aA<|q u (gG u rfl rfl) fun a u=>aC<|t_n<|wp_seq<|?_;refine aF u rfl h (fun b112 h=>?_) (fun b112 h=>?_)
   .refine wp_skip<|t_n<|wp_seq<|wp_block<|wp_seq<|aA<|?_;have⟨p113,e114,h⟩:=bs1 h;refine q u (eY u rfl rfl wV xA e114) fun a u=>?_;have⟨c115,e116,h⟩:=bs1 h;refine q u (bK u rfl xQ xA e116) fun a u=>?_;have⟨p117,w118,e119,h⟩:=bs2 h;refine q u (cM yK (by kernel_rfl) e119) fun a u=>?_;have⟨w120,e121,h⟩:=bs1 h;refine q u (dQ u rfl rfl xA ((hT e116).1) e121) fun a u=>aC<|t_n<|wp_seq<|?_;have⟨v122,w123,e124,h⟩:=bs2 h;refine bY (n:=108) (L:=[(106,(bV v122)),(2,(pV (some p1))),(89,(Sl.v v100)),(90,(iV (v100.n:Int))),(91,(iV x102))]) (w':=w123) (fun a u=>?_) (fun hk125=>?_)
    .refine t_n<|?_;refine aF u rfl h (fun b137 h=>?_) (fun b137 h=>?_)
     .refine wp_seq<|aA<|qa u rfl fun a u=>aC<|t_n<|wp_ret<|b_r<|t_r<|?_;have y:=u;cases h;cases hr111 _ rfl;refine gR<|?_;exact hk110 _ rfl _ (y.sb rfl)
     refine wp_skip<|b_n<|t_n<|aA<|q u (dY u rfl rfl) fun a u=>qm u rfl fun a u=>aC<|?_;have y:=u;cases h;exact cZ ⟨y.sb rfl,rfl⟩
    clear h;have h:=e124;refine aA<|q u (aJ u rfl wM rfl rfl xI) fun a u=>?_;have⟨v126,e127,h⟩:=bs1 h;refine q u (aG u rfl xY (bW e127)) fun a u=>q u (jL (vs:=[(pV (some p117))]) u ⟨rfl,aAP⟩) fun a u=>?_;have⟨v128,w129,e130,h⟩:=bs2 h;refine q u (eG (xs:=[_,_]) (vs:=[(Sl.v v126),(.func (.func 44) #[] #[(pV (some p117))])]) u ⟨rfl,rfl,aAP⟩ Try.call16 (eD e130)) fun a u=>q u (fT u rfl) fun a u=>qm u rfl fun a u=>?_;refine dG h (fun b131 h=>?_) (fun b131 h=>?_)
    .refine qg u 100 b131 (aJ u rfl wM rfl rfl xI) fun a u=>?_;have⟨v132,e133,h⟩:=bs1 h;refine qg u 100 b131 (aG u rfl xY (bW e133)) fun a u=>qg u 100 b131 (jL (vs:=[(pV (some p117))]) u ⟨rfl,aAP⟩) fun a u=>?_;have⟨v134,w135,e136,h⟩:=bs2 h;refine qg u 100 b131 (eG (xs:=[_,_]) (vs:=[(Sl.v v132),(.func (.func 45) #[] #[(pV (some p117))])]) u ⟨rfl,rfl,aAP⟩ Try.call16 (eB e136)) fun a u=>qg u 100 b131 (fT u rfl) fun a u=>q u (aK u rfl b131 rfl) fun a u=>aC<|?_;have y:=u;cases h;exact hk125 _ (y.sb rfl)
    refine qn u 100 (nm b131) fun a u=>qn u 100 (nm b131) fun a u=>qn u 100 (nm b131) fun a u=>qn u 100 (nm b131) fun a u=>qn u 100 (nm b131) fun a u=>q u (aM u rfl b131 rfl) fun a u=>aC<|?_;have y:=u;cases h;exact hk125 _ (y.sb rfl)
   refine wp_exit<|t_x<|?_;have y:=u;cases h;cases hr111 _ rfl;refine iL<|?_;exact hk109 _ rfl _ (y.sb rfl)
  .subst hi;obtain⟨v79,w80⟩:=i;dsimp only[Sum.elim_inl,Sum.elim_inr,u1,u2,u3,u4,u5,u6] at h;have u:Has 108 [(4,(bV v79))] a:=u;refine b_r<|t_r<|?_;have y:=u;cases h;exact aY Try.results28 y rfl ⟨rfl,rfl⟩
  clear h;rintro⟨x74,w75⟩ a wq o ⟨u,hwq⟩ h hr83;obtain rfl:w75=wq:=hwq.symm;have u:Has 108 [(78,(iV x74)),(2,(pV (some p1))),(3,(pV (some p4))),(76,(Sl.v v72)),(77,(iV (v72.n:Int)))] a:=u;have h:dS v72 p1 x74 w75=some o:=h;unfold dS at h;refine wp_seq<|aA<|q u (gG u rfl rfl) fun a u=>aC<|t_n<|wp_seq<|?_;refine aF u rfl h (fun b84 h=>?_) (fun b84 h=>?_)
  .refine wp_skip<|t_n<|wp_seq<|wp_block<|wp_seq<|aA<|?_;have⟨p85,e86,h⟩:=bs1 h;refine q u (eY u rfl rfl wV xA e86) fun a u=>?_;have⟨c87,e88,h⟩:=bs1 h;refine q u (bK u rfl xQ xA e88) fun a u=>?_;have⟨p89,w90,e91,h⟩:=bs2 h;refine q u (cM yK (by kernel_rfl) e91) fun a u=>?_;have⟨w92,e93,h⟩:=bs1 h;refine q u (dQ u rfl rfl xA ((hT e88).1) e93) fun a u=>aC<|t_n<|wp_seq<|aA<|q u (aJ u rfl wM rfl rfl xI) fun a u=>?_;have⟨v94,e95,h⟩:=bs1 h;refine q u (aG u rfl xY (bW e95)) fun a u=>q u (jL (vs:=[(pV (some p89))]) u ⟨rfl,aAP⟩) fun a u=>?_;have⟨v96,w97,e98,h⟩:=bs2 h;refine q u (eG (xs:=[_,_]) (vs:=[(Sl.v v94),(.func (.func 42) #[] #[(pV (some p89))])]) u ⟨rfl,rfl,aAP⟩ Try.call16 (eF e98)) fun a u=>q u (fT u rfl) fun a u=>aC<|t_n<|?_;refine aF u rfl h (fun b99 h=>?_) (fun b99 h=>?_)
   .refine wp_seq<|aA<|qa u rfl fun a u=>aC<|t_n<|wp_ret<|b_r<|t_r<|?_;have y:=u;cases h;cases hr83 _ rfl;refine gR<|?_;exact hk82 _ rfl _ (y.sb rfl)
   refine wp_skip<|b_n<|t_n<|aA<|q u (dY u rfl rfl) fun a u=>qm u rfl fun a u=>aC<|?_;have y:=u;cases h;exact cZ ⟨y.sb rfl,rfl⟩
  refine wp_exit<|t_x<|?_;have y:=u;cases h;cases hr83 _ rfl;refine iL<|?_;exact hk81 _ rfl _ (y.sb rfl)
 clear h;have h:=e9;refine aA<|q u (aJ u rfl wM rfl rfl xB) fun a u=>?_;have⟨v11,e12,h⟩:=bs1 h;refine q u (aG u rfl wX (aO e12)) fun a u=>q u (aJ u rfl wM rfl rfl xB) fun a u=>?_;have⟨v13,e14,h⟩:=bs1 h;refine q u (aG u rfl wX (aO e14)) fun a u=>q u (jH u rfl rfl) fun a u=>qm u rfl fun a u=>?_;refine dG h (fun b15 h=>?_) (fun b15 h=>?_)
 .refine qn u 14 (tn b15) fun a u=>qn u 14 (tn b15) fun a u=>qn u 14 (tn b15) fun a u=>qu u 17 fun a u=>qu u 17 fun a u=>qu u 17 fun a u=>qn u 14 (tn b15) fun a u=>q u (aK u rfl b15 rfl) fun a u=>aC<|?_;have y:=u;cases h;exact hk10 _ (y.sb rfl)
 refine qg u 14 (nt b15) (aJ u rfl wM rfl rfl xG) fun a u=>?_;have⟨v16,e17,h⟩:=bs1 h;refine qg u 14 (nt b15) (aG u rfl yE (kO e17)) fun a u=>qg u 14 (nt b15) (aI u rfl) fun a u=>?_;refine dG h (fun b18 h=>?_) (fun b18 h=>?_)
 .refine qg u 17 b18 (aJ u rfl wM rfl rfl xG) fun a u=>?_;have⟨v19,e20,h⟩:=bs1 h;refine qg u 17 b18 (aG u rfl yE (kO e20)) fun a u=>qg u 17 b18 (fT u rfl) fun a u=>qg u 14 (nt b15) (aK u rfl b18 rfl) fun a u=>q u (aM u rfl b15 rfl) fun a u=>aC<|?_;have y:=u;cases h;exact hk10 _ (y.sb rfl)
 refine qn u 17 (nm b18) fun a u=>qn u 17 (nm b18) fun a u=>qn u 17 (nm b18) fun a u=>qg u 14 (nt b15) (aM u rfl b18 rfl) fun a u=>q u (aM u rfl b15 rfl) fun a u=>aC<|?_;have y:=u;cases h;exact hk10 _ (y.sb rfl)
noncomputable def cJ (a1:Sl) (a0:Sl) (x1:Int) (w2:World):Option ((Int×World)⊕((World)⊕(Bool×World))) :=
 if (decide (x1<(a1.n:Int)))=true then
 ((ix a1 x1 12).bind fun p12 =>
 (ldA 12 w2 p12 0).bind fun c14 =>
 aE (mk w2 40 ([.string ByteArray.empty,.int .i64 0,.bool false,.int .i64 0,.int .i64 0,.string ByteArray.empty,.string ByteArray.empty,.bool false,.int .u8 0,.bool false,.slice none 0 0,.slice none 0 0])) fun p16 w17 =>
 (stA w17 p16 0 c14).bind fun w19 =>
 aE (aX a0 p16 w19) fun v21 w22 =>
 aE ((dr w22).bind fun w28 =>
 if (decide (v21<0))=true then
 (some (true,w28))
 else
 ((ix a0 v21 12).bind fun p31 =>
 (ldA 12 w28 p31 0).bind fun c33 =>
 (ldA 12 w28 p16 0).bind fun c35 =>
 aE (hG c33 c35 w28) fun v37 w38 =>
 some ((!v37),w38))) fun v24 w25 =>
 if v24=true then
 (some (.inr (.inr (false,w25))))
 else
 (some (.inl ((IntKind.wrap .i64 (x1+1)),w25))))
 else
 (some (.inr (.inl w2)))
noncomputable def fO (a0:Sl) (a1:Sl) (w:World):Option (Bool×World) :=
 (bU (fun s:Int×World=>cJ a1 a0 s.1 s.2) (0,w)).bind fun r3=>Sum.elim (fun (i:World)=>u1 i fun w5 =>
 some (true,w5)) (fun (i:Bool×World)=>u2 i fun v6 w7 =>
 some (v6,w7)) r3
theorem jA {a0 a1 w w' r0} (h:fO a0 a1 w=some (r0,w')):Calls Try.prog 19 #[(Sl.v a0),(Sl.v a1)] w fun e w''=>e=.returned (.bool r0)/\w''=w':=by
 refine aD (n:=29) Try.func19 rfl Try.ntmps19 (by simp) fun a u=>?_;unfold fO at h;refine wp_seq<|aA<|qa u rfl fun a u=>aC<|t_n<|wp_seq<|wp_seq<|aA<|qm u rfl fun a u=>q u (cI u rfl wS) fun a u=>qm u rfl fun a u=>aC<|t_n<|wp_block<|?_;have⟨r3,e4,h⟩:=bs1 h;refine dN (n:=29) (L1:=fun i=>[]) (w1:=fun i=>i) (L2:=fun i=>[(4,(bV i.1))]) (w2:=fun i=>i.2) (e1:=.exit 0) (e2:=.ret) (I:=fun (s:Int×World) a w=>Has 29 [(10,(iV s.1)),(0,(Sl.v a0)),(8,(Sl.v a1)),(9,(iV (a1.n:Int)))] a/\w=s.2) ⟨u.sub ⟨rfl,rfl,rfl,rfl,aAP⟩,rfl⟩ e4 (fun i hi a u=>?_) (fun i hi a u=>?_) (fun hk8 hk9=>?_)
 .subst hi;obtain⟨w5,rfl⟩:∃ x,x=i:=⟨i,rfl⟩;dsimp only[Sum.elim_inl,Sum.elim_inr,u1,u2,u3,u4,u5,u6] at h;have u:Has 29 [] a:=u;refine fD<|t_n<|wp_seq<|aA<|qa u rfl fun a u=>aC<|t_n<|wp_ret<|?_;have y:=u;cases h;exact aY Try.results19 y rfl ⟨rfl,rfl⟩
 .subst hi;obtain⟨v6,w7⟩:=i;dsimp only[Sum.elim_inl,Sum.elim_inr,u1,u2,u3,u4,u5,u6] at h;have u:Has 29 [(4,(bV v6))] a:=u;refine b_r<|t_r<|?_;have y:=u;cases h;exact aY Try.results19 y rfl ⟨rfl,rfl⟩
 clear h;rintro⟨x1,w2⟩ a wq o ⟨u,hwq⟩ h hr10;obtain rfl:w2=wq:=hwq.symm;have u:Has 29 [(10,(iV x1)),(0,(Sl.v a0)),(8,(Sl.v a1)),(9,(iV (a1.n:Int)))] a:=u;have h:cJ a1 a0 x1 w2=some o:=h;unfold cJ at h;refine wp_seq<|aA<|q u (gG u rfl rfl) fun a u=>aC<|t_n<|wp_seq<|?_;refine aF u rfl h (fun b11 h=>?_) (fun b11 h=>?_)
 .refine wp_skip<|t_n<|wp_seq<|wp_block<|wp_seq<|aA<|?_;have⟨p12,e13,h⟩:=bs1 h;refine q u (eY u rfl rfl wS wO e13) fun a u=>?_;have⟨c14,e15,h⟩:=bs1 h;refine q u (bK u rfl xE wO e15) fun a u=>?_;have⟨p16,w17,e18,h⟩:=bs2 h;refine q u (cM wW (by kernel_rfl) e18) fun a u=>?_;have⟨w19,e20,h⟩:=bs1 h;refine q u (dQ u rfl rfl wO ((hT e15).1) e20) fun a u=>aC<|t_n<|wp_seq<|aA<|qm u rfl fun a u=>q u (jL (vs:=[(pV (some p16))]) u ⟨rfl,aAP⟩) fun a u=>?_;have⟨v21,w22,e23,h⟩:=bs2 h;refine q u (eG (xs:=[_,_]) (vs:=[(Sl.v a0),(.func (.func 27) #[] #[(pV (some p16))])]) u ⟨rfl,rfl,aAP⟩ Try.call26 (eX e23)) fun a u=>qa u rfl fun a u=>aC<|t_n<|wp_seq<|?_;have⟨v24,w25,e26,h⟩:=bs2 h;refine bY (n:=29) (L:=[(27,(bV v24)),(0,(Sl.v a0)),(8,(Sl.v a1)),(9,(iV (a1.n:Int))),(10,(iV x1))]) (w':=w25) (fun a u=>?_) (fun hk27=>?_)
  .refine t_n<|?_;refine aF u rfl h (fun b40 h=>?_) (fun b40 h=>?_)
   .refine wp_seq<|aA<|qa u rfl fun a u=>aC<|t_n<|wp_ret<|b_r<|t_r<|?_;have y:=u;cases h;cases hr10 _ rfl;refine gR<|?_;exact hk9 _ rfl _ (y.sb rfl)
   refine wp_skip<|b_n<|t_n<|aA<|q u (dY u rfl rfl) fun a u=>qm u rfl fun a u=>aC<|?_;have y:=u;cases h;exact cZ ⟨y.sb rfl,rfl⟩
  clear h;have h:=e26;have⟨w28,e29,h⟩:=bs1 h;refine dG h (fun b30 h=>?_) (fun b30 h=>?_)
  .have u:Has 29 [(0,(Sl.v a0)),(6,(pV (some p16))),(7,(iV v21)),(8,(Sl.v a1)),(9,(iV (a1.n:Int))),(10,(iV x1))] a:=u.sb rfl;refine cL (n:=29) (ds:=(eN (iV v21) 0 [] 7::bJ (bV (decide (v21<0))) 0 [0] 17 (iV v21)::eN (bV (decide (v21<0))) 0 [0,1] 18::bJ (undef) 0 [0,1,2] 19 (bV (decide (v21<0)))::bJ (undef) 0 [0,1,2] 19 (bV (decide (v21<0)))::bJ (undef) 0 (rn 0 5) 19 (bV (decide (v21<0)))::bJ (undef) 0 (rn 0 6) 19 (bV (decide (v21<0)))::bJ (undef) 0 [0,1,2] 19 (bV (decide (v21<0)))::bJ (undef) 0 (rn 0 8) 19 (bV (decide (v21<0)))::bJ (undef) 0 (rn 0 9) 19 (bV (decide (v21<0)))::gL (bV true) 0 (rn 0 10) [(19,(bV (decide (v21<0)))),(26,undef)]::[])) (W:=(fun _=>w28)) (by kernel_rfl) u (gY e29) (by kernel_rfl) ?_ (bS (by kernel_rfl)) (by kernel_rfl) (m:=0) (by kernel_rfl) (fun a u=>?_)
   .exact⟨oa (aI · rfl),oa (gG · rfl rfl),oa (aI · rfl),on 19 (tn b30),on 19 (tn b30),on 19 (tn b30),on 19 (tn b30),on 19 (tn b30),on 19 (tn b30),on 19 (tn b30),oa (aK · rfl b30 rfl),aAP⟩
   have u:Has 29 [(0,(Sl.v a0)),(8,(Sl.v a1)),(9,(iV (a1.n:Int))),(10,(iV x1)),(27,(bV true))] a:=u.sb rfl;have y:=u;cases h;exact hk27 _ (y.sb rfl)
  have⟨p31,e32,h⟩:=bs1 h;have⟨c33,e34,h⟩:=bs1 h;have⟨c35,e36,h⟩:=bs1 h;have⟨v37,w38,e39,h⟩:=bs2 h;have u:Has 29 [(0,(Sl.v a0)),(6,(pV (some p16))),(7,(iV v21)),(8,(Sl.v a1)),(9,(iV (a1.n:Int))),(10,(iV x1))] a:=u.sb rfl;refine cL (n:=29) (ds:=(eN (iV v21) 0 [] 7::bJ (bV (decide (v21<0))) 0 [0] 17 (iV v21)::eN (bV (decide (v21<0))) 0 [0,1] 18::gL (Sl.v a0) 0 [0,1,2] [(0,(Sl.v a0)),(19,(bV (decide (v21<0))))]::gL (iV v21) 0 [0,1,2] [(7,(iV v21)),(19,(bV (decide (v21<0))))]::gL (pV (some p31)) 0 (rn 0 5) [(20,(Sl.v a0)),(21,(iV v21)),(19,(bV (decide (v21<0))))]::gL (.agg (List.toArray c33)) 0 (rn 0 6) [(22,(pV (some p31))),(19,(bV (decide (v21<0))))]::gL (.agg (List.toArray c35)) 0 [0,1,2] [(6,(pV (some p16))),(19,(bV (decide (v21<0))))]::aL (bV v37) true 0 0 (rn 0 8) [(23,(.agg (List.toArray c33))),(24,(.agg (List.toArray c35))),(19,(bV (decide (v21<0))))]::gL (bV (!v37)) 1 (rn 0 9) [(25,(bV v37)),(19,(bV (decide (v21<0))))]::gL (bV (!v37)) 1 (rn 0 10) [(19,(bV (decide (v21<0)))),(26,(bV (!v37)))]::[])) (W:=(fun j=>match j with | 0=>w28 | 1=>w38 | _=>w38)) (by kernel_rfl) u (gY e29) (by kernel_rfl) ?_ (bS (by kernel_rfl)) (by kernel_rfl) (m:=1) (by kernel_rfl) (fun a u=>?_)
  .exact⟨oa (aI · rfl),oa (gG · rfl rfl),oa (aI · rfl),oag 19 (nt b30) (aI · rfl),oag 19 (nt b30) (aI · rfl),oag 19 (nt b30) (eY · rfl rfl wS wO e32),oc 0 (kg 19 (nt b30) (bK · rfl xE wO e34)),oc 0 (kg 19 (nt b30) (bK · rfl xE wO e36)),oc 0 (kg 19 (nt b30) (dc2 · rfl rfl Try.call28 (mL e39))),oag 19 (nt b30) (fT · rfl),oa (aM · rfl b30 rfl),aAP⟩
  have u:Has 29 [(0,(Sl.v a0)),(8,(Sl.v a1)),(9,(iV (a1.n:Int))),(10,(iV x1)),(27,(bV (!v37)))] a:=u.sb rfl;have y:=u;cases h;exact hk27 _ (y.sb rfl)
 refine wp_exit<|t_x<|?_;have y:=u;cases h;cases hr10 _ rfl;refine iL<|?_;exact hk8 _ rfl _ (y.sb rfl)
noncomputable def eI (a0:Sl) (a1:Sl) (w:World):Option (Bool×Int×World) :=
 aE (dZ a0 w) fun v1 w2 =>
 if (v1 !=0)=true then
 (some (false,v1,w2))
 else
 (aE (dZ a1 w2) fun v5 w6 =>
 if (v5 !=0)=true then
 (some (false,v5,w6))
 else
 (aE (fO a0 a1 w6) fun v9 w10 =>
 some (v9,0,w10)))
theorem gW {a0 a1 w w' r0 r1} (h:eI a0 a1 w=some (r0,r1,w')):Calls Try.prog 9 #[(Sl.v a0),(Sl.v a1)] w fun e w''=>e=.returned (.tuple #[(.bool r0),(.int .i64 r1)])/\w''=w':=by
 refine aD (n:=21) Try.func9 rfl Try.ntmps9 (by simp) fun a u=>?_;unfold eI at h;refine wp_seq<|aA<|qa u rfl fun a u=>qa u rfl fun a u=>aC<|t_n<|wp_seq<|wp_seq<|aA<|qm u rfl fun a u=>?_;have⟨v1,w2,e3,h⟩:=bs2 h;refine q u (dc1 u rfl Try.call7 (iE e3)) fun a u=>qa u rfl fun a u=>aC<|t_n<|wp_seq<|aA<|qm u rfl fun a u=>q u (jH u rfl rfl) fun a u=>aC<|t_n<|?_;refine aF u rfl h (fun b4 h=>?_) (fun b4 h=>?_)
 .refine wp_seq<|aA<|qm u rfl fun a u=>qa u rfl fun a u=>qa u rfl fun a u=>aC<|t_n<|wp_ret<|t_r<|?_;have y:=u;cases h;exact mP Try.results9 y rfl rfl ⟨rfl,rfl⟩
 refine wp_skip<|t_n<|wp_seq<|wp_seq<|aA<|qm u rfl fun a u=>?_;have⟨v5,w6,e7,h⟩:=bs2 h;refine q u (dc1 u rfl Try.call7 (iE e7)) fun a u=>qa u rfl fun a u=>aC<|t_n<|wp_seq<|aA<|qm u rfl fun a u=>q u (jH u rfl rfl) fun a u=>aC<|t_n<|?_;refine aF u rfl h (fun b8 h=>?_) (fun b8 h=>?_)
 .refine wp_seq<|aA<|qm u rfl fun a u=>qa u rfl fun a u=>qa u rfl fun a u=>aC<|t_n<|wp_ret<|t_r<|?_;have y:=u;cases h;exact mP Try.results9 y rfl rfl ⟨rfl,rfl⟩
 refine wp_skip<|t_n<|wp_seq<|aA<|qm u rfl fun a u=>qm u rfl fun a u=>?_;have⟨v9,w10,e11,h⟩:=bs2 h;refine q u (dc2 u rfl rfl Try.call19 (jA e11)) fun a u=>qa u rfl fun a u=>qa u rfl fun a u=>aC<|t_n<|wp_ret<|?_;have y:=u;cases h;exact mP Try.results9 y rfl rfl ⟨rfl,rfl⟩
theorem b3F:∀ a:Fin 256,(oJ .u8 (a.val:Int) 3==0)=decide ((a.val:Int) % 4=0):=by decide +kernel
theorem vE {a:Int} (h0:0<=a) (h1:a<256):(oJ .u8 a 3==0)=decide (a % 4=0):=by
 have:=b3F ⟨a.toNat,by omega⟩;rwa[show((a.toNat:Nat):Int)=a by omega] at this
theorem bnF:∀ a b:Fin 256,(oJ .u8 (oK .u8 (a.val:Int) (b.val:Int)) 3==0)=trL (a.val:Int) (b.val:Int):=by decide +kernel
theorem vG {a b:Int} (h0:0<=a) (h1:a<256) (k0:0<=b) (k1:b<256):(oJ .u8 (oK .u8 a b) 3==0)=trL a b:=by
 have:=bnF ⟨a.toNat,by omega⟩ ⟨b.toNat,by omega⟩;rwa[show((a.toNat:Nat):Int)=a by omega,show((b.toNat:Nat):Int)=b by omega] at this
theorem rM {u M:Int} (h1 : -M<=u) (h2:u<=M):u*u<=M*M:=by
 have h:=aAo (show 0<=M-u by omega) (show 0<=M+u by omega);have e:(M-u)*(M+u)=M*M-u*u:=by grind
 omega
theorem wri {x:Int} (h1 : -9223372036854775808<=x) (h2:x<=9223372036854775807):IntKind.wrap .i64 x=x:=by rw[IntKind.wrap_i64];omega
theorem mQ {d:Dc} (h:okD d=true) : -1048576<=d.x/\d.x<=1048576/\-1048576<=d.y/\d.y<=1048576/\0<=d.r/\d.r<=1048576:=by
 simp only[okD,yO,decide_eq_true_eq] at h;omega
theorem wB {a b:Dc} (ha:okD a=true) (hb:okD b=true):IntKind.wrap .i64 (IntKind.wrap .i64 (IntKind.wrap .i64 (a.x-b.x)*IntKind.wrap .i64 (a.x-b.x))+IntKind.wrap .i64 (IntKind.wrap .i64 (a.y-b.y)*IntKind.wrap .i64 (a.y-b.y)))=kU a b:=by
 have h1:=mQ ha;have h2:=mQ hb;rw[wri (x:=a.x-b.x) (by omega) (by omega),wri (x:=a.y-b.y) (by omega) (by omega)];have n1:=mV (a.x-b.x);have n2:=mV (a.y-b.y);have b1:=rM (u:=a.x-b.x) (M:=2097152) (by omega) (by omega);have b2:=rM (u:=a.y-b.y) (M:=2097152) (by omega) (by omega);rw[wri (x:=(a.x-b.x)*(a.x-b.x)) (by omega) (by omega),wri (x:=(a.y-b.y)*(a.y-b.y)) (by omega) (by omega),wri (by omega) (by omega)];rfl
theorem vL {u:Int} (h1 : -2097152<=u) (h2:u<=2097152):IntKind.wrap .i64 (IntKind.wrap .i64 u*IntKind.wrap .i64 u)=u*u:=by
 rw[wri (x:=u) (by omega) (by omega)];have n1:=mV u;have b1:=rM (u:=u) (M:=2097152) (by omega) (by omega);exact wri (by omega) (by omega)
section
variable {F0 : Nat -> Prop} {g g0 : Gh} {w w0 : World} {L : List Rs} {z : Sl} {α : Type} {R : Gh -> World -> List Value -> α -> Prop} {sz : Nat} {xs : List α} {a b d x : Dc} {ds : List Dc} {q : Nat}
theorem kQ {Pd:α->Bool} {step:Int->World->Option ((Int×World)⊕(World⊕(Bool×World)))} (hn:xs.length<=1000)
  (hstep:∀ (i:Nat) (x:α) (w1:World),xs[i]?=some x->Hp F0 g0 w0 g w1 L->Mo g w g w1->Ex (step (i:Int) w1) fun o=>∃ w2,o=(if Pd x=true then .inl (((i+1:Nat):Int),w2) else .inr (.inr (false,w2)))/\Hp F0 g0 w0 g w2 L/\Mo g w1 g w2)
  (hend:∀ w1,Hp F0 g0 w0 g w1 L->Mo g w g w1->step (xs.length:Int) w1=some (.inr (.inl w1))):∀ (m i:Nat) (w1:World),m+i=xs.length->Hp F0 g0 w0 g w1 L->Mo g w g w1 ->
  Ex (bU (fun s:Int×World=>step s.1 s.2) ((i:Int),w1)) fun o=>∃ w2,o=(if (xs.drop i).all Pd=true then .inl w2 else .inr (false,w2))/\Hp F0 g0 w0 g w2 L/\Mo g w1 g w2
 | 0,i,w1,hm,H,mo=>by
  have:i=xs.length:=by omega
  subst this;refine⟨.inl w1,cW (hend w1 H mo),w1,?_,H,Mo.r⟩;rw[zW (zN _)];rfl
 | m+1,i,w1,hm,H,mo=>by
  have hi:i<xs.length:=by omega
  obtain⟨o,eo,w2,rfl,H2,m2⟩:=hstep i xs[i] w1 (yQ hi) H mo;rw[aAc hi,List.all_cons];by_cases hp:Pd xs[i]=true
  .rw[if_pos hp] at eo;obtain⟨o,e3,w3,rfl,H3,m3⟩:=kQ hn hstep hend m (i+1) w2 (by omega) H2 (mo.t m2);exact⟨_,(gA eo).trans e3,w3,by rw[hp,aAM],H3,m2.t m3⟩
  rw[if_neg hp] at eo;refine⟨_,cW eo,w2,?_,H2,m2⟩;have:Pd xs[i]=false:=by simpa using hp
  rw[this];rfl
theorem pH (ha:okD a=true) (hb:okD b=true) (H:Hp F0 g0 w0 g w L):Ex (hD (dcC a) (dcC b) w) fun r=>r.1=kU a b/\Hp F0 g0 w0 g r.2 L/\Mo g w g r.2:=by
 obtain⟨p,w2,e1,H1,m1⟩:=H.box (T:=43) (cs:=dcC a);obtain⟨u,w3,e2,H2,m2⟩:=H1.box (T:=43) (cs:=dcC b);have a0:ldI .i64 w3 ((⟨p,0,none⟩:Addr).add 0)=some a.x:=by rw[aS];exact H2.sw.ldI rfl
 have a1:ldI .i64 w3 ((⟨p,0,none⟩:Addr).add 1)=some a.y:=by rw[aS];exact H2.sw.ldI rfl
 have b0:ldI .i64 w3 ((⟨u,0,none⟩:Addr).add 0)=some b.x:=by rw[aS];exact H2.ldI rfl
 have b1:ldI .i64 w3 ((⟨u,0,none⟩:Addr).add 1)=some b.y:=by rw[aS];exact H2.ldI rfl
 unfold hD;exact Ex.b2 e1 (Ex.b2 e2 (Ex.b1 a0 (Ex.b1 b0 (Ex.b1 a0 (Ex.b1 b0 (Ex.b1 a1 (Ex.b1 b1 (Ex.b1 a1 (Ex.b1 b1 (Ex.ret ⟨wB ha hb,H2.tl.tl,m1.t m2⟩))))))))))
theorem qO (ha:okD a=true) (hb:okD b=true) (H:Hp F0 g0 w0 g w L):Ex (fI (dcC a) (dcC b) w) fun r=>r.1=wiD a b/\Hp F0 g0 w0 g r.2 L/\Mo g w g r.2:=by
 obtain⟨p,w2,e1,H1,m1⟩:=H.box (T:=43) (cs:=dcC a);obtain⟨u,w3,e2,H2,m2⟩:=H1.box (T:=43) (cs:=dcC b);obtain⟨w4,e3,H3,m3⟩:=H2.dr;have k1:=mQ ha;have k2:=mQ hb;have a2:∀ {w'},Hp F0 g0 w0 g w' (bxR u (dcC b) 43::bxR p (dcC a) 43::L)->ldI .i64 w' ((⟨p,0,none⟩:Addr).add 2)=some a.r/\ldI .i64 w' ((⟨u,0,none⟩:Addr).add 2)=some b.r:=fun H=>by rw[aS,aS];exact⟨H.sw.ldI rfl,H.ldI rfl⟩
 obtain⟨⟨v,w5⟩,e5,hv,H5,m5⟩:=pH ha hb H3;simp only at hv H5 m5;unfold fI;refine Ex.b2 e1 (Ex.b2 e2 (Ex.j2 (Ψ:=fun r=>r.1=wiD a b/\Hp F0 g0 w0 g r.2 L/\Mo g w g r.2) (Ex.b1 e3 (Ex.b1 (a2 H3).1 (Ex.b1 (a2 H3).2 ?_))) (fun x y h=>Ex.ret h)));by_cases h:a.r<=b.r
 .refine Ex.t (by simpa using h) (Ex.b1 (H3.sw.ldF rfl) (Ex.b1 (H3.ldF rfl) (Ex.b2 e5 (Ex.b1 (a2 H5).2 (Ex.b1 (a2 H5).1 (Ex.b1 (a2 H5).2 (Ex.b1 (a2 H5).1 (Ex.ck (a2 H3).2 (Ex.ck (a2 H3).1 (Ex.ck (a2 H3).2 (Ex.ck (a2 H3).1 (Ex.ret ⟨?_,H5.tl.tl,m1.t (m2.t (m3.t m5))⟩))))))))))));show decide (v<=_)=_;rw[vL (by omega) (by omega),hv];simp[wiD,h]
 exact Ex.f (by simpa using h) (Ex.ret ⟨by simp[wiD,h],H3.tl.tl,m1.t (m2.t m3)⟩)
theorem uQ (ha:okD a=true) (hb:okD b=true) (H:Hp F0 g0 w0 g w L):Ex (gV (dcC a) (dcC b) w) fun r=>r.1=apD a b/\Hp F0 g0 w0 g r.2 L/\Mo g w g r.2:=by
 obtain⟨p,w2,e1,H1,m1⟩:=H.box (T:=43) (cs:=dcC a);obtain⟨u,w3,e2,H2,m2⟩:=H1.box (T:=43) (cs:=dcC b);obtain⟨w4,e3,H3,m3⟩:=H2.dr;have k1:=mQ ha;have k2:=mQ hb;have a2:∀ {w'},Hp F0 g0 w0 g w' (bxR u (dcC b) 43::bxR p (dcC a) 43::L)->ldI .i64 w' ((⟨p,0,none⟩:Addr).add 2)=some a.r/\ldI .i64 w' ((⟨u,0,none⟩:Addr).add 2)=some b.r:=fun H=>by rw[aS,aS];exact⟨H.sw.ldI rfl,H.ldI rfl⟩
 obtain⟨⟨v,w5⟩,e5,hv,H5,m5⟩:=pH ha hb H3;simp only at hv H5 m5;unfold gV;refine Ex.b2 e1 (Ex.b2 e2 (Ex.b1 e3 (Ex.b1 (H3.sw.ldF rfl) (Ex.b1 (H3.ldF rfl) (Ex.b2 e5 (Ex.b1 (a2 H5).1 (Ex.b1 (a2 H5).2 (Ex.b1 (a2 H5).1 (Ex.b1 (a2 H5).2 (Ex.ck (a2 H3).1 (Ex.ck (a2 H3).2 (Ex.ck (a2 H3).1 (Ex.ck (a2 H3).2 (Ex.ret ⟨?_,H5.tl.tl,m1.t (m2.t (m3.t m5))⟩))))))))))))));show decide (_<v)=_;rw[vL (by omega) (by omega),hv];rfl
theorem tX (hx:okD x=true) (hd:okD d=true) (H:Hp F0 g0 w0 g w (bxR q (dcC d) 43::L)):Ex (fJ (dcC x) ⟨q,0,none⟩ w) fun r=>r.1=wiD x d/\Hp F0 g0 w0 g r.2 (bxR q (dcC d) 43::L)/\Mo g w g r.2:=by
 obtain⟨p,w2,e1,H1,m1⟩:=H.box (T:=43) (cs:=dcC x);obtain⟨⟨v,w3⟩,e3,hv,H3,m3⟩:=qO hx hd H1;unfold fJ;exact Ex.b2 e1 (Ex.b1 (H1.ldF rfl) (Ex.b1 (H1.sw.ldF rfl) (Ex.b2 e3 (Ex.ret ⟨hv,H3.tl,m1.t m3⟩))))
theorem uD (hx:okD x=true) (hd:okD d=true) (H:Hp F0 g0 w0 g w (bxR q (dcC d) 43::L)):Ex (fQ (dcC x) ⟨q,0,none⟩ w) fun r=>r.1=wiD d x/\Hp F0 g0 w0 g r.2 (bxR q (dcC d) 43::L)/\Mo g w g r.2:=by
 obtain⟨p,w2,e1,H1,m1⟩:=H.box (T:=43) (cs:=dcC x);obtain⟨⟨v,w3⟩,e3,hv,H3,m3⟩:=qO hd hx H1;unfold fQ;exact Ex.b2 e1 (Ex.b1 (H1.sw.ldF rfl) (Ex.b1 (H1.ldF rfl) (Ex.b2 e3 (Ex.ret ⟨hv,H3.tl,m1.t m3⟩))))
theorem uA (hx:okD x=true) (hd:okD d=true) (H:Hp F0 g0 w0 g w (bxR q (dcC d) 43::L)):Ex (fP (dcC x) ⟨q,0,none⟩ w) fun r=>r.1=apD x d/\Hp F0 g0 w0 g r.2 (bxR q (dcC d) 43::L)/\Mo g w g r.2:=by
 obtain⟨p,w2,e1,H1,m1⟩:=H.box (T:=43) (cs:=dcC x);obtain⟨⟨v,w3⟩,e3,hv,H3,m3⟩:=uQ hx hd H1;unfold fP;exact Ex.b2 e1 (Ex.b1 (H1.ldF rfl) (Ex.b1 (H1.sw.ldF rfl) (Ex.b2 e3 (Ex.ret ⟨hv,H3.tl,m1.t m3⟩))))
theorem lQ {Pd:Dc->Bool} {cl:List Value->World->Option (Bool×World)} (hs:PL dcR 3 g w z ds) (hn:ds.length<=1000) (hcl:∀ (x:Dc) (w1:World),x∈ds->Hp F0 g0 w0 g w1 L->Ex (cl (dcC x) w1) fun r=>r.1=Pd x/\Hp F0 g0 w0 g r.2 L/\Mo g w1 g r.2) (H:Hp F0 g0 w0 g w L) {loop:Int->World->Option ((Int×World)⊕(World⊕(Int×World)))}
  (hl:∀ x1 w2,loop x1 w2=if (decide (x1<(z.n:Int)))=true then ((D.ix z x1 3).bind fun p12=>(ldA 3 w2 p12 0).bind fun c14=>aE (cl c14 w2) fun v16 w17=>if v16=true then (some (.inr (.inr (x1,w17)))) else (some (.inl ((IntKind.wrap .i64 (x1+1)),w17)))) else (some (.inr (.inl w2)))) :
  Ex (aE ((bU (fun s:Int×World=>loop s.1 s.2) (0,w)).bind fun r3=>Sum.elim (fun (i:World)=>u1 i fun w5=>some ((-1:Int),w5)) (fun (i:Int×World)=>u2 i fun v6 w7=>some (v6,w7)) r3) fun v1 w2=>some ((decide (0<=v1)),w2)) fun r=>r.1=ds.any Pd/\Hp F0 g0 w0 g r.2 L/\Mo g w g r.2:=by
 have hln:=hs.len;obtain⟨o,e,w2,rfl,H2,m2⟩:=iM (xs:=ds) (Pd:=Pd) (step:=loop) hn (fun i x w1 hx H1 m1=>by
  obtain⟨a,cs,ea,la,rfl,-⟩:=hs.el (R:=dcR) eW m1 hx;have hi:=(yP.1 hx).1;obtain⟨⟨v,w3⟩,e3,hv,H3,m3⟩:=hcl x w1 (zC hx) H1;simp only at hv H3 m3;rw[hl];refine Ex.t (by simp;omega) (Ex.b1 ea (Ex.b1 la (Ex.b2 e3 ?_)));subst hv;rw[hJ (by omega)];by_cases hp:Pd x=true
  .exact Ex.t hp (Ex.ret ⟨w3,by rw[if_pos hp],H3,m3⟩)
  .exact Ex.f hp (Ex.ret ⟨w3,by rw[if_neg hp],H3,m3⟩)) (fun w1=>by
  rw[hl,if_neg (by simp;omega)]) ds.length 0 w (by omega) H Mo.r
 have e':bU (fun s:Int×World=>loop s.1 s.2) (0,w)=_:=e;rw[e',aAN,zG];have ha:ds.any Pd=(ds.findIdx? Pd).isSome:=List.findIdx?_isSome.symm;rw[ha]
 cases ds.findIdx? Pd with
 | none=>exact⟨(false,w2),rfl,rfl,H2,m2⟩
 | some j=>exact⟨(true,w2),by simp[u2,aE],rfl,H2,m2⟩
theorem qE (hs:PL dcR 3 g w z ds) (hn:ds.length<=1000) (ho:∀ x∈ds,okD x=true) (hd:okD d=true) (H:Hp F0 g0 w0 g w (bxR q (dcC d) 43::L)):Ex (bF z ⟨q,0,none⟩ w) fun r=>r.1=(ds.any fun x=>wiD x d)/\Hp F0 g0 w0 g r.2 (bxR q (dcC d) 43::L)/\Mo g w g r.2 :=
 lQ (Pd:=fun x=>wiD x d) (cl:=fun c w=>fJ c ⟨q,0,none⟩ w) (loop:=fun i w=>bE z ⟨q,0,none⟩ i w) hs hn (fun x w1 hx H1=>tX (ho x hx) hd H1) H (fun _ _=>rfl)
theorem qD (hs:PL dcR 3 g w z ds) (hn:ds.length<=1000) (ho:∀ x∈ds,okD x=true) (hd:okD d=true) (H:Hp F0 g0 w0 g w (bxR q (dcC d) 43::L)):Ex (bC z ⟨q,0,none⟩ w) fun r=>r.1=(ds.any fun x=>wiD d x)/\Hp F0 g0 w0 g r.2 (bxR q (dcC d) 43::L)/\Mo g w g r.2 :=
 lQ (Pd:=fun x=>wiD d x) (cl:=fun c w=>fQ c ⟨q,0,none⟩ w) (loop:=fun i w=>bD z ⟨q,0,none⟩ i w) hs hn (fun x w1 hx H1=>uD (ho x hx) hd H1) H (fun _ _=>rfl)
theorem pP (hs:PL dcR 3 g w z ds) (hn:ds.length<=1000) (ho:∀ x∈ds,okD x=true) (hd:okD d=true) (H:Hp F0 g0 w0 g w (bxR q (dcC d) 43::L)):Ex (bH z ⟨q,0,none⟩ w) fun r=>r.1=(ds.any fun x=>apD x d)/\Hp F0 g0 w0 g r.2 (bxR q (dcC d) 43::L)/\Mo g w g r.2 :=
 lQ (Pd:=fun x=>apD x d) (cl:=fun c w=>fP c ⟨q,0,none⟩ w) (loop:=fun i w=>bB z ⟨q,0,none⟩ i w) hs hn (fun x w1 hx H1=>uA (ho x hx) hd H1) H (fun _ _=>rfl)
end
section
variable {F0 : Nat -> Prop} {g g0 : Gh} {w w0 : World} {L : List Rs} {z za ya zb yb : Sl} {a b s : Sd} {us bs : List Sd} {q : Nat}
abbrev sbR (p:Nat) (s:Sd) (z y:Sl):Rs:=bxR p (sdC s z y) 40
structure SbL (w:World) (p:Nat) (s:Sd) (z y:Sl):Prop where
 l0:ldS w ((⟨p,0,none⟩:Addr).add 0)=some s.name
 l1:ldI .i64 w ((⟨p,0,none⟩:Addr).add 1)=some s.kind
 l2:ldB w ((⟨p,0,none⟩:Addr).add 2)=some s.ab
 l3:ldI .i64 w ((⟨p,0,none⟩:Addr).add 3)=some s.low
 l4:ldI .i64 w ((⟨p,0,none⟩:Addr).add 4)=some s.high
 l5:ldS w ((⟨p,0,none⟩:Addr).add 5)=some s.fr
 l6:ldS w ((⟨p,0,none⟩:Addr).add 6)=some s.to
 l7:ldB w ((⟨p,0,none⟩:Addr).add 7)=some s.op
 l8:ldI .u8 w ((⟨p,0,none⟩:Addr).add 8)=some s.tr
 l9:ldB w ((⟨p,0,none⟩:Addr).add 9)=some s.no
 l10:ldL w ((⟨p,0,none⟩:Addr).add 10)=some z
 l11:ldL w ((⟨p,0,none⟩:Addr).add 11)=some y
 f:ldA 12 w ⟨p,0,none⟩ 0=some (sdC s z y)
theorem Hp.sb {p:Nat} {y:Sl} (H:Hp F0 g0 w0 g w (sbR p s z y::L)):SbL w p s z y:=by
 refine⟨?_,?_,?_,?_,?_,?_,?_,?_,?_,?_,?_,?_,H.ldF rfl⟩<;>rw[aS]
 .exact H.ldS rfl
 .exact H.ldI rfl
 .exact H.ldB rfl
 .exact H.ldI rfl
 .exact H.ldI rfl
 .exact H.ldS rfl
 .exact H.ldS rfl
 .exact H.ldB rfl
 .exact H.ldI rfl
 .exact H.ldB rfl
 .exact H.ldL rfl
 exact H.ldL rfl
theorem oB (h0:0<=s.tr) (h1:s.tr<256) (H:Hp F0 g0 w0 g w L):Ex (cO (sdC s za ya) w) fun r=>r.1=jK s/\Hp F0 g0 w0 g r.2 L/\Mo g w g r.2:=by
 obtain⟨p,w2,e1,H1,m1⟩:=H.box (T:=40) (cs:=sdC s za ya);have k:=H1.sb;have H2:=H1.tl;unfold cO jK;refine Ex.b2 e1 (Ex.b1 k.l1 ?_);by_cases e1:s.kind=1
 .rw[if_pos e1];exact Ex.t (by simpa using e1) (Ex.b1 k.l3 (Ex.b1 k.l4 (Ex.ret ⟨rfl,H2,m1⟩)))
 rw[if_neg e1];refine Ex.f (by simpa using e1) ?_;by_cases e2:s.kind=2
 .rw[if_pos e2];refine Ex.t (by simpa using e2) (Ex.j2 (Ψ:=fun r=>r=((!s.op&&!sLt s.fr s.to),w2)) (Ex.b1 k.l7 ?_) (fun x y h=>by cases h;exact Ex.ret ⟨rfl,H2,m1⟩))
  cases s.op with
  | false=>exact Ex.t rfl (Ex.b1 k.l5 (Ex.b1 k.l6 (Ex.ret rfl)))
  | true=>exact Ex.f (by simp) (Ex.ret rfl)
 rw[if_neg e2];refine Ex.f (by simpa using e2) ?_;by_cases e3:s.kind=3
 .rw[if_pos e3];exact Ex.t (by simpa using e3) (Ex.b1 k.l8 (Ex.ret ⟨vE h0 h1,H2,m1⟩))
 rw[if_neg e3];exact Ex.f (by simpa using e3) (Ex.b1 k.l9 (Ex.ret ⟨rfl,H2,m1⟩))
theorem qZ {p1:Nat} (pa:PL dcR 3 g w za a.ins) (pb:PL dcR 3 g w z b.ins) (na:a.ins.length<=4) (nb:b.ins.length<=4) (oa:∀ d∈a.ins,okD d=true) (ob:∀ d∈b.ins,okD d=true) (H:Hp F0 g0 w0 g w (sbR p1 a za ya::L)) :
  Ex (bU (fun s:Int×World=>dS z ⟨p1,0,none⟩ s.1 s.2) (0,w)) fun o=>∃ w2,o=(if (b.ins.all fun d=>a.ins.any fun x=>wiD x d)=true then .inl w2 else .inr (false,w2))/\Hp F0 g0 w0 g w2 (sbR p1 a za ya::L)/\Mo g w g w2:=by
 have hln:=pb.len;have h:=kQ (xs:=b.ins) (Pd:=fun d=>a.ins.any fun x=>wiD x d) (step:=dS z ⟨p1,0,none⟩) (by omega) (fun i d w1 hd H1 m1=>by
  have hi:=(yP.1 hd).1;have hod:=ob d (zC hd);obtain⟨ad,cs,ea,la,rfl,-⟩:=pb.el (R:=dcR) eW m1 hd;obtain⟨p,w2,e2,H2,m2⟩:=H1.box (T:=43) (cs:=[.int .i64 0,.int .i64 0,.int .i64 0]);obtain⟨w3,e3,H3,m3⟩:=H2.stF (vs:=dcC d) rfl pI;obtain⟨⟨v,w4⟩,e4,hv,H4,m4⟩:=qE (PL.mo (R:=dcR) eW pa (m1.t (m2.t m3))) (by omega) oa hod H3;simp only at hv H4 m4;unfold dS;refine Ex.t (by simp;omega) (Ex.b1 ea (Ex.b1 la (Ex.b2 e2 (Ex.b1 e3 (Ex.b1 H3.sw.sb.l10 (Ex.b2 e4 ?_))))));rw[hJ (by omega)];subst hv;by_cases hp:(a.ins.any fun x=>wiD x d)=true
  .exact Ex.f (by simp[hp]) (Ex.ret ⟨w4,by rw[if_pos hp],H4.tl,m2.t (m3.t m4)⟩)
  .exact Ex.t (by simpa using hp) (Ex.ret ⟨w4,by rw[if_neg hp],H4.tl,m2.t (m3.t m4)⟩)) (fun w1 H1 m1=>by
  unfold dS;rw[if_neg (by simp;omega)]) b.ins.length 0 w (by omega) H Mo.r
 rw[zG] at h;exact h
theorem qK {p1:Nat} (pa:PL dcR 3 g w za a.ins) (pa2:PL dcR 3 g w ya a.outs) (pb:PL dcR 3 g w z b.outs) (na:a.ins.length<=4) (na2:a.outs.length<=4) (nb:b.outs.length<=4) (oa:∀ d∈a.ins,okD d=true) (oa2:∀ d∈a.outs,okD d=true) (ob:∀ d∈b.outs,okD d=true) (H:Hp F0 g0 w0 g w (sbR p1 a za ya::L)) :
  Ex (bU (fun s:Int×World=>dT z ⟨p1,0,none⟩ s.1 s.2) (0,w)) fun o=>∃ w2,o=(if (b.outs.all fun d=>(a.outs.any fun x=>wiD d x)||a.ins.any fun x=>apD x d)=true then .inl w2 else .inr (false,w2))/\Hp F0 g0 w0 g w2 (sbR p1 a za ya::L)/\Mo g w g w2:=by
 have hln:=pb.len;have h:=kQ (xs:=b.outs) (Pd:=fun d=>(a.outs.any fun x=>wiD d x)||a.ins.any fun x=>apD x d) (step:=dT z ⟨p1,0,none⟩) (by omega) (fun i d w1 hd H1 m1=>by
  have hi:=(yP.1 hd).1;have hod:=ob d (zC hd);obtain⟨ad,cs,ea,la,rfl,-⟩:=pb.el (R:=dcR) eW m1 hd;obtain⟨p,w2,e2,H2,m2⟩:=H1.box (T:=43) (cs:=[.int .i64 0,.int .i64 0,.int .i64 0]);obtain⟨w3,e3,H3,m3⟩:=H2.stF (vs:=dcC d) rfl pI;obtain⟨⟨v,w4⟩,e4,hv,H4,m4⟩:=qD (PL.mo (R:=dcR) eW pa2 (m1.t (m2.t m3))) (by omega) oa2 hod H3;simp only at hv H4 m4;obtain⟨⟨u,w5⟩,e5,hu,H5,m5⟩:=pP (PL.mo (R:=dcR) eW pa (m1.t (m2.t (m3.t m4)))) (by omega) oa hod H4;simp only at hu H5 m5;unfold dT;refine Ex.t (by simp;omega) (Ex.b1 ea (Ex.b1 la (Ex.b2 e2 (Ex.b1 e3 (Ex.j2 (Ψ:=fun r=>r.1=(!((a.outs.any fun x=>wiD d x)||a.ins.any fun x=>apD x d))/\Hp F0 g0 w0 g r.2 (sbR p1 a za ya::L)/\Mo g w1 g r.2) (Ex.b1 H3.sw.sb.l11 (Ex.b2 e4 ?_)) ?_)))))
  .by_cases hp:v=true
   .exact Ex.f (by simp[hp]) (Ex.ret ⟨by rw[<-hv,hp];rfl,H4.tl,m2.t (m3.t m4)⟩)
   refine Ex.t (by simpa using hp) (Ex.b1 H4.sw.sb.l10 (Ex.b2 e5 (Ex.ret ⟨?_,H5.tl,m2.t (m3.t (m4.t m5))⟩)));have:v=false:=by simpa using hp
   rw[<-hv,this,<-hu];rfl
  rintro x w6 ⟨rfl,H6,m6⟩;simp only at H6 m6;rw[hJ (by omega)];by_cases hp:((a.outs.any fun x=>wiD d x)||a.ins.any fun x=>apD x d)=true
  .exact Ex.f (by rw[hp];decide) (Ex.ret ⟨w6,by rw[if_pos hp],H6,m6⟩)
  .exact Ex.t (by simpa using hp) (Ex.ret ⟨w6,by rw[if_neg hp],H6,m6⟩)) (fun w1 H1 m1=>by
  unfold dT;rw[if_neg (by simp;omega)]) b.outs.length 0 w (by omega) H Mo.r
 rw[zG] at h;exact h
theorem rH (pa:PL dcR 3 g w za a.ins) (pa2:PL dcR 3 g w ya a.outs) (pb:PL dcR 3 g w zb b.ins) (pb2:PL dcR 3 g w yb b.outs) (ta:0<=a.tr/\a.tr<256) (tb:0<=b.tr/\b.tr<256) (ka:okS a) (kb:okS b) (H:Hp F0 g0 w0 g w L) :
  Ex (hG (sdC a za ya) (sdC b zb yb) w) fun r=>r.1=lC a b/\Hp F0 g0 w0 g r.2 L/\Mo g w g r.2:=by
 obtain⟨p1,w2,e2,H2,m2⟩:=H.box (T:=40) (cs:=sdC a za ya);obtain⟨p4,w5,e5,H5,m5⟩:=H2.box (T:=40) (cs:=sdC b zb yb);have qa:=H5.sw.sb;have qb:=H5.sb;have H5':=H5.sw;have m25:=m2.t m5;obtain⟨⟨v,w6⟩,e6,hv,H6,m6⟩:=oB (s:=a) (za:=za) (ya:=ya) ta.1 ta.2 H5';simp only at hv H6 m6;have ra:=H6.sb;have rb:=H6.sw.sb;have m26:=m25.t m6;unfold hG lC;refine Ex.b2 e2 (Ex.b2 e5 (Ex.j2 (Ψ:=fun r=>r=(decide (a.kind≠b.kind\/(a.ab=true/\b.ab=false)),w5)) (Ex.b1 qa.l1 (Ex.b1 qb.l1 ?_)) ?_))
 .by_cases h:a.kind=b.kind
  .refine Ex.f (by simpa using h) (Ex.b1 qa.l2 ?_)
   cases ha:a.ab with
   | true=>exact Ex.t rfl (Ex.b1 qb.l2 (Ex.ret (by cases b.ab<;>simp[h])))
   | false=>exact Ex.f (by simp) (Ex.ret (by simp[h]))
  exact Ex.t (by simpa using h) (Ex.ret (by simp[h]))
 rintro _ _ he;cases he;by_cases h0:a.kind≠b.kind\/(a.ab=true/\b.ab=false)
 .rw[if_pos h0];exact Ex.t (decide_eq_true h0) (Ex.ret ⟨rfl,H5.tl.tl,m25⟩)
 rw[if_neg h0];refine Ex.f (by simpa using h0) (Ex.b1 qa.f (Ex.b2 e6 ?_));subst hv;by_cases hn:jK a=true
 .exact Ex.t hn (Ex.ret ⟨by simp only[if_pos hn],H6.tl.tl,m26⟩)
 refine Ex.f hn (Ex.b1 ra.l1 ?_);simp only[if_neg hn];have fin:∀ {v:Bool},(v,w6).1=v/\Hp F0 g0 w0 g (v,w6).2 L/\Mo g w g (v,w6).2:=⟨rfl,H6.tl.tl,m26⟩;by_cases k1:a.kind=1
 .simp only[if_pos k1];refine Ex.t (by simpa using k1) (Ex.j2 (Ψ:=fun r=>r=((decide (b.low<=a.low)&&decide (a.high<=b.high)),w6)) (Ex.b1 rb.l3 (Ex.b1 ra.l3 ?_)) (fun x y h=>by cases h;exact Ex.ret fin));by_cases h:b.low<=a.low
  .exact Ex.t (by simpa using h) (Ex.b1 ra.l4 (Ex.b1 rb.l4 (Ex.ret (by simp[h]))))
  exact Ex.f (by simpa using h) (Ex.ret (by simp[h]))
 simp only[if_neg k1];refine Ex.f (by simpa using k1) ?_;by_cases k2:a.kind=2
 .simp only[if_pos k2];refine Ex.t (by simpa using k2) (Ex.j2 (Ψ:=fun r=>r=((sLe b.fr a.fr&&(b.op||(!a.op&&sLe a.to b.to))),w6)) (Ex.b1 rb.l5 (Ex.b1 ra.l5 ?_)) (fun x y h=>by cases h;exact Ex.ret fin));by_cases h:(sLt b.fr a.fr||sEq b.fr a.fr)=true
  .have h':sLe b.fr a.fr=true:=h;rw[h'];refine Ex.t h (Ex.b1 rb.l7 ?_)
   cases b.op with
   | true=>exact Ex.t rfl (Ex.ret rfl)
   | false =>
    refine Ex.f (by simp) (Ex.b1 ra.l7 ?_)
    cases a.op with
    | true=>exact Ex.f (by simp) (Ex.ret rfl)
    | false=>exact Ex.t rfl (Ex.b1 ra.l6 (Ex.b1 rb.l6 (Ex.ret (by simp[sLe]))))
  have h':sLe b.fr a.fr=false:=by simpa[sLe] using h
  rw[h'];exact Ex.f h (Ex.ret rfl)
 simp only[if_neg k2];refine Ex.f (by simpa using k2) ?_;by_cases k3:a.kind=3
 .simp only[if_pos k3];exact Ex.t (by simpa using k3) (Ex.b1 ra.l8 (Ex.b1 rb.l8 (Ex.ret ⟨vG ta.1 ta.2 tb.1 tb.2,H6.tl.tl,m26⟩)))
 simp only[if_neg k3];refine Ex.f (by simpa using k3) (Ex.b1 rb.l9 ?_);by_cases k4:b.no=true
 .simp only[if_pos k4];exact Ex.ret fin
 simp only[if_neg k4];have kk:a.kind=b.kind:=Decidable.byContradiction fun h=>h0 (.inl h);obtain⟨oa,oa2,na,na2⟩:=ka k1 k2 k3;obtain⟨ob,ob2,nb,nb2⟩:=kb (kk ▸ k1) (kk ▸ k2) (kk ▸ k3);obtain⟨o,e7,w7,ho,H7,m7⟩:=qZ (PL.mo (R:=dcR) eW pa m26) (PL.mo (R:=dcR) eW pb m26) na nb oa ob H6;refine(Ex.b1 rb.l10 (Ex.b1 e7 ?_));by_cases c1:(b.ins.all fun d=>a.ins.any fun x=>wiD x d)=true
 .rw[if_pos c1] at ho;subst ho;obtain⟨o,e8,w8,ho,H8,m8⟩:=qK (PL.mo (R:=dcR) eW pa (m26.t m7)) (PL.mo (R:=dcR) eW pa2 (m26.t m7)) (PL.mo (R:=dcR) eW pb2 (m26.t m7)) na na2 nb2 oa oa2 ob2 H7;simp only[Sum.elim_inl,u1];refine Ex.b1 H7.sw.sb.l11 (Ex.b1 e8 ?_);rw[c1,aAM];by_cases c2:(b.outs.all fun d=>(a.outs.any fun x=>wiD d x)||a.ins.any fun x=>apD x d)=true
  .rw[if_pos c2] at ho;subst ho;exact Ex.ret ⟨c2.symm,H8.tl.tl,m26.t (m7.t m8)⟩
  rw[if_neg c2] at ho;subst ho;exact Ex.ret ⟨((aAs _).mp c2).symm,H8.tl.tl,m26.t (m7.t m8)⟩
 rw[if_neg c1] at ho;subst ho;simp only[Sum.elim_inr,u2];exact Ex.ret ⟨by rw[(aAs _).mp c1,Bool.false_and],H7.tl.tl,m26.t m7⟩
theorem oH {α:Type} {P:α->Bool}:∀ (l:List α),match l.findIdx? P with | some i=>l.find? P=l[i]?/\i<l.length | none=>l.find? P=none
 | []=>rfl
 | a::l=>by
  rw[aAg,List.find?_cons]
  cases h:P a with
  | true=>simp
  | false =>
   have:=oH (P:=P) l;simp only[aAh,if_false]
   cases e:l.findIdx? P with
   | none=>rw[e] at this;exact this
   | some i=>rw[e] at this;simp only[yV];exact⟨by simpa using this.1,by simpa using this.2⟩
theorem tW (H:Hp F0 g0 w0 g w (sbR q s za ya::L)):Ex (fF (sdC a zb yb) ⟨q,0,none⟩ w) fun r=>r.1=sEq a.name s.name/\Hp F0 g0 w0 g r.2 (sbR q s za ya::L)/\Mo g w g r.2:=by
 obtain⟨p,w2,e1,H1,m1⟩:=H.box (T:=40) (cs:=sdC a zb yb);unfold fF;exact Ex.b2 e1 (Ex.b1 H1.sb.l0 (Ex.b1 H1.sw.sb.l0 (Ex.ret ⟨rfl,H1.tl,m1⟩)))
theorem rX (hs:PL sdR 12 g w z us) (hn:us.length<=8) (H:Hp F0 g0 w0 g w (sbR q s za ya::L)):Ex (aX z ⟨q,0,none⟩ w) fun r=>r.1=(match us.findIdx? (fun x=>sEq x.name s.name) with | some i=>((i:Nat):Int) | none=>-1)/\Hp F0 g0 w0 g r.2 (sbR q s za ya::L)/\Mo g w g r.2:=by
 have hln:=hs.len;obtain⟨o,e,w2,rfl,H2,m2⟩:=iM (xs:=us) (Pd:=fun x=>sEq x.name s.name) (step:=aR z ⟨q,0,none⟩) (by omega) (fun i x w1 hx H1 m1=>by
  obtain⟨a,cs,ea,la,⟨zi,yo,rfl,-⟩,-⟩:=hs.el (R:=sdR) gO m1 hx;have hi:=(yP.1 hx).1;obtain⟨⟨v,w3⟩,e3,hv,H3,m3⟩:=tW (a:=x) (zb:=zi) (yb:=yo) H1;simp only at hv H3 m3;unfold aR;refine Ex.t (by simp;omega) (Ex.b1 ea (Ex.b1 la (Ex.b2 e3 ?_)));subst hv;rw[hJ (by omega)];by_cases hp:sEq x.name s.name=true
  .exact Ex.t hp (Ex.ret ⟨w3,by rw[if_pos hp],H3,m3⟩)
  .exact Ex.f hp (Ex.ret ⟨w3,by rw[if_neg hp],H3,m3⟩)) (fun w1=>by
  unfold aR;rw[if_neg (by simp;omega)]) us.length 0 w (by omega) H Mo.r
 have e':bU (fun s:Int×World=>aR z ⟨q,0,none⟩ s.1 s.2) (0,w)=_:=e;unfold aX;rw[e',aAN,zG]
 cases us.findIdx? fun x=>sEq x.name s.name with
 | none=>exact⟨(-1,w2),rfl,rfl,H2,m2⟩
 | some j=>exact⟨((j:Int),w2),by simp[u2],rfl,H2,m2⟩
def inS (us:List Sd) (s:Sd):Bool:=match us.find? (fun x=>sEq x.name s.name) with | some x=>lC x s | none=>false
theorem rK (ha:PL sdR 12 g w za us) (hb:PL sdR 12 g w zb bs) (na:us.length<=8) (nb:bs.length<=8) (ka:∀ s∈us,okS s) (kb:∀ s∈bs,okS s) (H:Hp F0 g0 w0 g w L):Ex (fO za zb w) fun r=>r.1=gP us bs/\Hp F0 g0 w0 g r.2 L/\Mo g w g r.2:=by
 have hlna:=ha.len;have hlnb:=hb.len;obtain⟨o,e,w2,ho,H2,m2⟩:=kQ (xs:=bs) (Pd:=inS us) (step:=fun i w=>cJ zb za i w) (by omega) (fun i s w1 hx H1 m1=>by
  obtain⟨a,cs,ea,la,⟨zi,yo,rfl,pi,po,t0,t1⟩,-⟩:=hb.el (R:=sdR) gO m1 hx;have hi:=(yP.1 hx).1;obtain⟨p,w2,e2,H2,m2⟩:=H1.box (T:=40) (cs:=mH);obtain⟨w3,e3,H3,m3⟩:=H2.stF (vs:=sdC s zi yo) rfl jS;have mo3:=m2.t m3;obtain⟨⟨v,w4⟩,e4,hv,H4,m4⟩:=rX (PL.mo (R:=sdR) gO ha (m1.t mo3)) na H3;simp only at hv H4 m4;obtain⟨w5,e5,H5,m5⟩:=H4.dr;have mo5:=mo3.t (m4.t m5);have hf:=oH (P:=fun x:Sd=>sEq x.name s.name) us;show Ex (cJ zb za (i:Int) w1) _;unfold cJ;refine Ex.t (by simp;omega) (Ex.b1 ea (Ex.b1 la (Ex.b2 e2 (Ex.b1 e3 (Ex.b2 e4 (Ex.j2 (Ψ:=fun r=>r.1=(!inS us s)/\Hp F0 g0 w0 g r.2 L/\Mo g w1 g r.2) (Ex.b1 e5 ?_) ?_))))))
  .cases hfi:us.findIdx? (fun x=>sEq x.name s.name) with
   | none =>
    rw[hfi] at hf hv;simp only at hf hv;subst hv;exact Ex.t (by simp) (Ex.ret ⟨by unfold inS;rw[hf];rfl,H5.tl,mo5⟩)
   | some j =>
    rw[hfi] at hf hv;simp only at hf hv;subst hv;obtain⟨x,hxj⟩:∃ x,us[j]?=some x:=⟨_,yQ hf.2⟩;obtain⟨b,cs',eb,lb,⟨zj,yj,rfl,qi,qo,r0,r1⟩,-⟩:=ha.el (R:=sdR) gO (m1.t mo5) hxj;obtain⟨⟨u,w6⟩,e6,hu,H6,m6⟩:=rH qi qo (PL.mo (R:=dcR) eW pi mo5) (PL.mo (R:=dcR) eW po mo5) ⟨r0,r1⟩ ⟨t0,t1⟩ (ka x (zC hxj)) (kb s (zC hx)) H5;simp only at hu H6 m6;exact Ex.f (by simp) (Ex.b1 eb (Ex.b1 lb (Ex.b1 H5.sb.f (Ex.b2 e6 (Ex.ret ⟨by unfold inS;rw[hf.1,hxj,hu],H6.tl,mo5.t m6⟩)))))
  rintro v w6 ⟨rfl,H6,m6⟩;simp only at H6 m6;rw[hJ (by omega)];by_cases hp:inS us s=true
  .exact Ex.f (by simp[hp]) (Ex.ret ⟨w6,by rw[if_pos hp],H6,m6⟩)
  .exact Ex.t (by simpa using hp) (Ex.ret ⟨w6,by rw[if_neg hp],H6,m6⟩)) (fun w1 H1 m1=>by
  show cJ zb za (bs.length:Int) w1=_;unfold cJ;rw[if_neg (by simp;omega)]) bs.length 0 w (by omega) H Mo.r
 rw[zG] at ho;have e':bU (fun s:Int×World=>cJ zb za s.1 s.2) (0,w)=some o:=e;unfold fO;rw[e',aAN];have hi:gP us bs=bs.all (inS us):=rfl;rw[hi];by_cases hp:bs.all (inS us)=true
 .rw[if_pos hp] at ho;subst ho;exact⟨(true,w2),rfl,hp.symm,H2,m2⟩
 rw[if_neg hp] at ho;subst ho;exact⟨(false,w2),rfl,((aAs _).mp hp).symm,H2,m2⟩
theorem mY:∀ {b:List Sd} {ah:ByteArray},jP b ah=0->∀ s∈b,okS s
 | [],_,_,s,hs=>by cases hs
 | u::b,ah,h,s,hs=>by
  unfold jP at h;split at h
  .rename_i hb;rcases aAG.1 hs with rfl | hs
   .intro k1 k2 k3;unfold oQ at hb;split at hb;· cases hb
    split at hb;· cases hb
    split at hb;· cases hb
    rename_i g1 g2 g3;rw[if_pos (by omega)] at hb;split at hb;· cases hb
    split at hb;· cases hb
    rename_i g4 g5;have h1:∀ d∈s.ins,okD d=true:=fun d hd=>Decidable.byContradiction fun hh=>g5 (.inl (zM.2 ⟨d,hd,by simpa using hh⟩));have h2:∀ d∈s.outs,okD d=true:=fun d hd=>Decidable.byContradiction fun hh=>g5 (.inr (zM.2 ⟨d,hd,by simpa using hh⟩));exact⟨h1,h2,by omega,by omega⟩
   exact mY h s hs
  rename_i hb;exact(hb h).elim
theorem iO {b:List Sd} (h:gC b=0):b.length<=8/\∀ s∈b,okS s:=by
 unfold gC at h;split at h;· cases h
 exact⟨by omega,mY h⟩
def nQ (a b:List Sd):Bool×Int:=if gC a≠0 then (false,gC a) else if gC b≠0 then (false,gC b) else (gP a b,0)
theorem kB (ha:PL sdR 12 g w za us) (hb:PL sdR 12 g w zb bs) (H:Hp F0 g0 w0 g w L):Ex (eI za zb w) fun r=>(r.1,r.2.1)=nQ us bs/\Hp F0 g0 w0 g r.2.2 L/\Mo g w g r.2.2:=by
 obtain⟨⟨v,w2⟩,e2,hv,H2,m2⟩:=mZ ha H;simp only at hv H2 m2;obtain⟨⟨u,w3⟩,e3,hu,H3,m3⟩:=mZ (PL.mo (R:=sdR) gO hb m2) H2;simp only at hu H3 m3;unfold eI nQ;refine Ex.b2 e2 ?_;subst hv;by_cases h1:gC us=0
 .rw[if_neg (show ¬ (gC us≠0) by simpa using h1)];refine Ex.f (by simp[h1]) (Ex.b2 e3 ?_);subst hu;by_cases h2:gC bs=0
  .rw[if_neg (show ¬ (gC bs≠0) by simpa using h2)];obtain⟨na,ka⟩:=iO h1;obtain⟨nb,kb⟩:=iO h2;obtain⟨⟨v,w4⟩,e4,hv,H4,m4⟩:=rK (PL.mo (R:=sdR) gO ha (m2.t m3)) (PL.mo (R:=sdR) gO hb (m2.t m3)) na nb ka kb H3;simp only at hv H4 m4;exact Ex.f (by simp[h2]) (Ex.b2 e4 (Ex.ret ⟨by rw[hv],H4,m2.t (m3.t m4)⟩))
  rw[if_pos h2];exact Ex.t (by simpa using h2) (Ex.ret ⟨rfl,H3,m2.t m3⟩)
 rw[if_pos h1];exact Ex.t (by simpa using h1) (Ex.ret ⟨rfl,H2,m2⟩)
end
section
variable {P : Program} {n : Nat} {L : List (Nat × Value)} {a : Act} {w w' : World}
def mkM (P:Program) (t:TypeId) (w:World):Option (Option Nat×World):=match (Instr.makeMap t none).run P w with | .ok (.map m) w'=>some (m,w') | _=>none
theorem vR {d ty pos af g t} {m:Option Nat} (h:mkM P t w=some (m,w')):cK P ⟨d,.makeMap t none,ty,pos,af,g⟩ a w (.map m) w':=by
 unfold mkM at h;split at h
 .rename_i m w1 e;cases h;exact bQ (by simp[execOp,e])
 cases h
def upM (P:Program) (t:TypeId) (m:Option Nat) (k v:Value) (w:World):Option World:=match (Instr.mapUpdate t (.map m) k v).run P w with | .ok _ w'=>some w' | _=>none
theorem vU {d ty pos af g t x y z} {m:Option Nat} {k v:Value} (ha:Has n L a) (hx:evO L x=some (.map m)) (hy:evO L y=some k) (hz:evO L z=some v) (h:upM P t m k v w=some w'):cK P ⟨d,.mapUpdate t x y z,ty,pos,af,g⟩ a w undef w':=by
 unfold upM at h;split at h
 .rename_i w1 e;cases h;exact oN (by simp[execOp,ha.ev hx,ha.ev hy,ha.ev hz,e])
 cases h
def luI (K:IntKind) (P:Program) (t:TypeId) (m:Option Nat) (k:Value) (w:World):Option (Int×World):=match (Instr.lookup t (.map m) k false).run P w with | .ok (.int k' i) w'=>if k'=K then some (i,w') else none | _=>none
theorem vN {d ty pos af g t x y} {m:Option Nat} {k:Value} {K:IntKind} {i:Int} (ha:Has n L a) (hx:evO L x=some (.map m)) (hy:evO L y=some k) (h:luI K P t m k w=some (i,w')):cK P ⟨d,.lookup t x y false,ty,pos,af,g⟩ a w (.int K i) w':=by
 unfold luI at h;split at h
 .rename_i k' j w1 e;split at h
  .rename_i hk;subst hk;cases h;exact bQ (by simp[execOp,ha.ev hx,ha.ev hy,e])
  cases h
 cases h
end
end
end Go.Proofs.Ytggheaclnklhaaa.D
