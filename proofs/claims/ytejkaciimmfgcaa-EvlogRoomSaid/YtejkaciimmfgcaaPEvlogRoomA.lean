/- EvlogRoom -/
import Derived.Test.YtejkaciimmfgcaaProg
import Derived.WalkKit
import Derived.Laws.OwnMore
import Derived.Laws.IdiomCopy
import Derived.Orders
import Derived.KernelRfl
import Derived.ChangeSlices
import Derived.Scope
import Derived.Lib.SlBytesConst
namespace Go.Proofs.Ytejkaciimmfgcaa.D
open Go
set_option linter.unusedVariables false
set_option linter.unusedSimpArgs false
set_option maxHeartbeats 1000000
set_option maxRecDepth 100000
noncomputable section
theorem aLz:True:=trivial
theorem aLx {α β:Type} (a:α) (f:α->Option β):(some a).bind f=f a:=rfl
theorem aLy (n:Nat):0+n=n:=Nat.zero_add n
abbrev aGK:=@Try.runUnderlying72
abbrev aGL:=@Try.sizeOf3
abbrev aGM:=@Try.runUnderlying130
abbrev aGN:=@Try.isAgg3
abbrev aGO:=@Try.runUnderlying119
abbrev aGP:=@Try.runUnderlying132
abbrev aGQ:=@Try.runUnderlying85
abbrev aGR:=@Try.runUnderlying128
abbrev aGS:=@Try.runUnderlying115
abbrev aGT:=@Try.sizeOf5
abbrev aGU:=@Try.runUnderlying125
abbrev aGV:=@Try.runUnderlying111
abbrev aGW:=@Try.sizeOf125
abbrev aGX:=@Try.runUnderlying117
abbrev aGY:=@Try.runUnderlying74
abbrev aGZ:=@Try.runUnderlying5
abbrev aHa:=@Try.runUnderlying87
abbrev aHb:=@Try.sizeOf128
abbrev aHc:=@Try.isAgg128
abbrev aHd:=@Try.sizeOf130
abbrev aHe:=@Try.sizeOf87
abbrev aHf:=@Try.runUnderlying136
abbrev aHg:=@Try.sizeOf136
abbrev aHh:=@Try.zeroValue87
abbrev aHi:=@Try.isAgg61
abbrev aHj:=@Try.isAgg57
abbrev aHk:=@Try.runUnderlying82
abbrev aHl:=@Try.runUnderlying3
abbrev aHm:=@Try.sizeOf57
abbrev aHn:=@Try.sizeOf117
abbrev aHo:=@Try.runUnderlying9
abbrev aHp:=@Try.sizeOf61
abbrev aHq:=@Try.zeroValue125
abbrev aHr:=@Try.sizeOf64
abbrev aHs:=@Try.isAgg5
abbrev aHt:=@Try.runUnderlying57
abbrev aHu:=@Try.runUnderlying60
abbrev aHv:=@Try.isAgg64
abbrev aHw:=@Try.runUnderlying197
abbrev aHx:=@Try.isAgg125
abbrev aHy:=@Try.sizeOf74
abbrev aHz:=@Try.sizeOf4
abbrev aHA:=@Try.isAgg117
abbrev aHB:=@Try.runUnderlying140
abbrev aHC:=@Try.sizeOf138
abbrev aHD:=@Try.runUnderlying155
abbrev aHE:=@Try.runUnderlying113
abbrev aHF:=@Try.sizeOf113
abbrev aHG:=@Try.zeroValue5
abbrev aHH:=@Try.runUnderlying109
abbrev aHI:=@Try.isAgg74
abbrev aHJ:=@Try.sizeOf72
abbrev aHK:=@Try.sizeOf109
abbrev aHL:=@Try.runUnderlying64
abbrev aHM:=@Try.runUnderlying77
abbrev aHN:=@Try.isAgg72
abbrev aHO:=@Try.runUnderlying108
abbrev aHP:=@Try.runUnderlying112
abbrev aHQ:=@Try.zeroValue136
abbrev aHR:=@Try.isAgg4
abbrev aHS:=@Try.runUnderlying61
abbrev aHT:=@Try.sizeOf140
abbrev aHU:=@Try.runUnderlying172
abbrev aHV:=@Try.isAgg113
abbrev aHW:=@Try.isAgg87
abbrev aHX:=@Try.sizeOf112
abbrev aHY:=@Try.isAgg112
abbrev aHZ:=@Try.sizeOf172
abbrev aIa:=@Try.zeroValue130
abbrev aIb:=@Try.isAgg109
abbrev aIc:=@Try.sizeOf108
abbrev aId:=@Try.runUnderlying138
abbrev aIe:=@Try.zeroValue140
abbrev aIf:=@Try.runUnderlying34
abbrev aIg:=@Try.isAgg108
abbrev aIh:=@Try.isAgg136
abbrev aIi:=@Try.sizeOf67
abbrev aIj:=@Try.sizeOf82
abbrev aIk:=@Try.runUnderlying2
abbrev aIl:=@Try.isAgg67
abbrev aIm:=@Try.isAgg34
abbrev aIn:=@Try.sizeOf116
abbrev aIo:=@Try.isAgg138
abbrev aIp:=@Try.isAgg130
abbrev aIq:=@Try.sizeOf34
abbrev aIr:=@Bool.false_ne_true
abbrev aIs:=@List.getElem?_eq_getElem
abbrev aIt:=@List.getElem?_eq_some_iff
abbrev aIu:=@List.getD_eq_getElem?_getD
abbrev aIv:=@Nat.le_refl
abbrev aIw:=@List.all_eq_true
abbrev aIx:=@Bool.false_eq_true
abbrev aIy:=@IntKind.wrap_i64
abbrev aIz:=@Bool.and_eq_true
abbrev aIA:=@List.eq_nil_of_length_eq_zero
abbrev aIB:=@List.take_of_length_le
abbrev aIC:=@Array.getD_eq_getD_getElem?
abbrev aID:=@List.getElem?_append_left
abbrev aIE:=@List.length_append
abbrev aIF:=@List.mem_of_getElem?
abbrev aIG:=@List.mem_append
abbrev aIH:=@List.length_cons
abbrev aII:=@List.getElem?_append_right
abbrev aIJ:=@Nat.mul_le_mul_right
abbrev aIK:=@List.append_assoc
abbrev aIL:=@List.mem_of_getLast?
abbrev aIM:=@List.length_replicate
abbrev aIN:=@List.length_take
abbrev aIO:=@List.mem_range
abbrev aIP:=@List.mem_map
abbrev aIQ:=@List.flatMap_cons
abbrev aIR:=@List.mem_zipIdx_iff_getElem?
abbrev aIS:=@List.length_nil
abbrev aIT:=@Option.map_some
abbrev aIU:=@List.drop_of_length_le
abbrev aIV:=@List.getElem?_take
abbrev aIW:=@Bool.not_eq_true'
abbrev aIX:=@Nat.lt_of_lt_of_le
abbrev aIY:=@List.length_drop
abbrev aIZ:=@Int.le_refl
abbrev aJa:=@List.drop_eq_getElem_cons
abbrev aJb:=@Option.getD_some
abbrev aJc:=@Bool.or_eq_true
abbrev aJd:=@List.mem_filter
abbrev aJe:=@Nat.le_trans
abbrev aJf:=@Option.isNone_some
abbrev aJg:=@Nat.succ_mul
abbrev aJh:=@List.mem_of_mem_take
abbrev aJi:=@List.getElem?_drop
abbrev aJj:=@List.drop_zero
abbrev aJk:=@List.mem_replicate
abbrev aJl:=@List.contains_iff_mem
abbrev aJm:=@List.set_append_right
abbrev aJn:=@List.foldl_cons
abbrev aJo:=@List.drop_append_of_le_length
abbrev aJp:=@List.getElem?_set_self
abbrev aJq:=@Nat.eq_zero_or_pos
abbrev aJr:=@List.mem_singleton
abbrev aJs:=@Nat.add_zero
abbrev aJt:=@List.getElem?_cons_succ
abbrev aJu:=@List.getElem?_cons_zero
abbrev aJv:=@List.exists_mem_of_ne_nil
abbrev aJw:=@Bool.eq_iff_iff
abbrev aJx:=@List.take_append_of_le_length
abbrev aJy:=@List.getElem_mem
abbrev aJz:=@List.getElem?_toArray
abbrev aJA:=@List.getElem?_map
abbrev aJB:=@List.filter_append
abbrev aJC:=@List.mem_of_mem_drop
abbrev aJD:=@List.take_succ_eq_append_getElem
abbrev aJE:=@Int.tdiv_eq_ediv_of_nonneg
abbrev aJF:=@List.filter_eq_nil_iff
abbrev aJG:=@Array.getElem?_setIfInBounds_ne
abbrev aJH:=@Int.toNat_natCast
abbrev aJI:=@List.mem_cons
abbrev aJJ:=@List.getLast?_eq_getElem?
abbrev aJK:=@Array.getElem?_modify
abbrev aJL:=@List.nil_append
abbrev aJM:=@Array.getElem?_replicate
abbrev aJN:=@List.any_eq_true
abbrev aJO:=@List.filter_cons
abbrev aJP:=@List.dropLast_concat_getLast
abbrev aJQ:=@Int.ofNat_zero
abbrev aJR:=@List.length_set
abbrev aJS:=@Int.tmod_eq_emod_of_nonneg
abbrev aJT:=@List.perm_append_comm
abbrev aJU:=@List.length_filter_le
abbrev aJV:=@Array.all_eq_true'
abbrev aJW:=@List.getElem?_eq_none_iff
abbrev aJX:=@List.set_append_left
abbrev aJY:=@List.drop_eq_nil_iff
abbrev aJZ:=@List.length_erase_of_mem
abbrev aKa:=@List.append_nil
abbrev aKb:=@List.reverse_cons
abbrev aKc:=@Nat.le_of_eq
abbrev aKd:=@Nat.sub_self
abbrev aKe:=@List.filter_eq_self
abbrev aKf:=@List.map_cons
abbrev aKg:=@List.lookup_cons
abbrev aKh:=@Array.all_toList
abbrev aKi:=@List.perm_middle
abbrev aKj:=@List.getLast?_eq_some_getLast
abbrev aKk:=@List.filter_filter
abbrev aKl:=@List.getElem?_eq_none
abbrev aKm:=@Nat.mul_one
abbrev aKn:=@List.getElem?_zipWith
abbrev aKo:=@List.set_getElem_self
abbrev aKp:=@List.filter_congr
abbrev aKq:=@List.length_range
abbrev aKr:=@Bool.true_and
abbrev aKs:=@Bool.not_true
abbrev aKt:=@List.take_add_one
abbrev aKu:=@List.getElem?_set_ne
abbrev aKv:=@List.mem_or_eq_of_mem_set
abbrev aKw:=@Array.getElem?_eq_getElem
abbrev aKx:=@List.length_reverse
abbrev aKy:=@Bool.not_and
abbrev aKz:=@Nat.add_assoc
abbrev aKA:=@Nat.le_mul_of_pos_right
abbrev aKB:=@List.map_drop
abbrev aKC:=@Int.tmod_lt_of_pos
abbrev aKD:=@Int.eq_ofNat_of_zero_le
abbrev aKE:=@Nat.add_sub_cancel_left
abbrev aKF:=@List.getElem?_replicate
abbrev aKG:=@Nat.testBit_lt_two_pow
abbrev aKH:=@Option.map_eq_some_iff
abbrev aKI:=@List.flatten_cons
abbrev aKJ:=@Bool.not_false
abbrev aKK:=@Int.mul_le_mul_of_nonneg_right
abbrev aKL:=@List.take_append_drop
abbrev aKM:=@List.mem_cons_of_mem
abbrev aKN:=@List.map_take
abbrev aKO:=@Bool.or_assoc
abbrev aKP:=@List.length_map
abbrev aKQ:=@Nat.add_mul
abbrev aKR:=@List.append_inj
abbrev aKS:=@Array.getElem?_append_right
abbrev aKT:=@Array.toList_setIfInBounds
abbrev aKU:=@List.nodup_iff_pairwise_ne
abbrev aKV:=@Array.getElem?_append_left
abbrev aKW:=@Option.any_eq_true
abbrev aKX:=@Array.ext_getElem?
abbrev aKY:=@Nat.zero_mul
abbrev aKZ:=@List.set_cons_succ
abbrev aLa:=@List.set_set
abbrev aLb:=@List.foldl_append
abbrev aLc:=@List.nodup_append
abbrev aLd:=@List.eq_replicate_of_mem
abbrev aLe:=@Nat.zero_le
abbrev aLf:=@List.drop_append
abbrev aLg:=@List.not_mem_nil
abbrev aLh:=@Nat.le_add_right
abbrev aLi:=@List.mem_flatMap
abbrev aLj:=@Nat.lt_or_ge
abbrev aLk:=@Option.all_some
abbrev aLl:=@Nat.add_comm
abbrev aLm:=@Nat.min_eq_left
abbrev aLn:=@Nat.min_le_left
abbrev aLo:=@List.map_set
abbrev aLp:=@List.nodup_cons
abbrev aLq:=@List.map_append
abbrev aLr:=@Int.pow_nonneg
abbrev aLs:=@Bool.false_and
abbrev aLt:=@Nat.sub_mul
abbrev aLu:=@Bool.or_false
abbrev aLv:=@List.all_cons
abbrev aLw:=@Int.not_le
structure Sl where
 p:Option Addr
 n:Nat
 c:Nat
def Sl.v (s:Sl):Value:=.slice s.p s.n s.c
def Sl.nil:Sl:=⟨none,0,0⟩
def aN {α β γ:Type} (o:Option (α×β)) (f:α->β->Option γ):Option γ:=match o with | some (a,b)=>f a b | none=>none
def oM {α β γ δ:Type} (o:Option (α×β×γ)) (f:α->β->γ->Option δ):Option δ:=match o with | some (a,b,c)=>f a b c | none=>none
def kE {α β γ δ ε:Type} (o:Option (α×β×γ×δ)) (f:α->β->γ->δ->Option ε):Option ε:=match o with | some (a,b,c,d)=>f a b c d | none=>none
def aDC {α β γ δ ε ζ:Type} (o:Option (α×β×γ×δ×ε)) (f:α->β->γ->δ->ε->Option ζ):Option ζ:=match o with | some (a,b,c,d,e)=>f a b c d e | none=>none
def aGp {α β γ δ ε ζ η:Type} (o:Option (α×β×γ×δ×ε×ζ)) (f:α->β->γ->δ->ε->ζ->Option η):Option η:=match o with | some (a,b,c,d,e,g)=>f a b c d e g | none=>none
def aGm {α β γ δ ε ζ η θ:Type} (o:Option (α×β×γ×δ×ε×ζ×η)) (f:α->β->γ->δ->ε->ζ->η->Option θ):Option θ:=match o with | some (a,b,c,d,e,g,i)=>f a b c d e g i | none=>none
def pS {ρ α γ:Type} (o:Option (ρ⊕α)) (g:ρ->Option γ) (f:α->Option γ):Option γ:=match o with | some (.inl r)=>g r | some (.inr a)=>f a | none=>none
@[simp] theorem aE {α β γ:Type} (a:α) (b:β) (f:α->β->Option γ):aN (some (a,b)) f=f a b:=rfl
@[simp] theorem lW {α β γ δ:Type} (a:α) (b:β) (c:γ) (f:α->β->γ->Option δ):oM (some (a,b,c)) f=f a b c:=rfl
@[simp] theorem cN {α β γ δ ε:Type} (a:α) (b:β) (c:γ) (d:δ) (f:α->β->γ->δ->Option ε):kE (some (a,b,c,d)) f=f a b c d:=rfl
@[simp] theorem aFX {α β γ δ ε ζ:Type} (a:α) (b:β) (c:γ) (d:δ) (e:ε) (f:α->β->γ->δ->ε->Option ζ):aDC (some (a,b,c,d,e)) f=f a b c d e:=rfl
@[simp] theorem aFO {α β γ δ ε ζ η:Type} (a:α) (b:β) (c:γ) (d:δ) (e:ε) (g:ζ) (f:α->β->γ->δ->ε->ζ->Option η):aGp (some (a,b,c,d,e,g)) f=f a b c d e g:=rfl
@[simp] theorem aFK {α β γ δ ε ζ η θ:Type} (a:α) (b:β) (c:γ) (d:δ) (e:ε) (g:ζ) (i:η) (f:α->β->γ->δ->ε->ζ->η->Option θ):aGm (some (a,b,c,d,e,g,i)) f=f a b c d e g i:=rfl
@[simp] theorem aGa {ρ α γ:Type} (r:ρ) (g:ρ->Option γ) (f:α->Option γ):pS (some (.inl r)) g f=g r:=rfl
@[simp] theorem aGb {ρ α γ:Type} (a:α) (g:ρ->Option γ) (f:α->Option γ):pS (some (.inr a)) g f=f a:=rfl
theorem bs1 {α γ:Type} {o:Option α} {f:α->Option γ} {r:γ} (h:o.bind f=some r):∃ a,o=some a/\f a=some r:=by
 cases o with
 | none=>cases h
 | some a=>exact⟨a,rfl,h⟩
theorem bs2 {α β γ:Type} {o:Option (α×β)} {f:α->β->Option γ} {r:γ} (h:aN o f=some r):∃ a b,o=some (a,b)/\f a b=some r:=by
 cases o with
 | none=>cases h
 | some a=>exact⟨_,_,rfl,h⟩
theorem bs3 {α β γ δ:Type} {o:Option (α×β×γ)} {f:α->β->γ->Option δ} {r:δ} (h:oM o f=some r):∃ a b c,o=some (a,b,c)/\f a b c=some r:=by
 cases o with
 | none=>cases h
 | some a=>exact⟨_,_,_,rfl,h⟩
theorem bs4 {α β γ δ ε:Type} {o:Option (α×β×γ×δ)} {f:α->β->γ->δ->Option ε} {r:ε} (h:kE o f=some r):∃ a b c d,o=some (a,b,c,d)/\f a b c d=some r:=by
 cases o with
 | none=>cases h
 | some a=>exact⟨_,_,_,_,rfl,h⟩
theorem bsX {ρ α γ:Type} {o:Option (ρ⊕α)} {g:ρ->Option γ} {f:α->Option γ} {r:γ} (h:pS o g f=some r):∃ x,o=some x/\pS (some x) g f=some r:=by
 cases o with
 | none=>cases h
 | some x=>exact⟨x,rfl,h⟩
def chk {α:Type} (p:Prop) (o:Option α):Option α:=open Classical in if p then o else none
theorem gR {α:Type} {p:Prop} (h:p) (o:Option α):chk p o=o:=by unfold chk;rw[if_pos h]
theorem bO {α:Type} {p:Prop} {o:Option α} {r:α} (h:chk p o=some r):p/\o=some r:=by
 unfold chk at h;split at h
 .exact⟨‹_›,h⟩
 cases h
def sS {S R:Type} (step:S->Option (S⊕R)):Nat->S->Option R
 | 0,_=>none
 | k+1,s=>match step s with
  | some (.inl s')=>sS step k s'
  | some (.inr r)=>some r
  | none=>none
theorem xB {S R:Type} {step:S->Option (S⊕R)}:∀ (k:Nat) (s:S) (r:R),sS step k s=some r->sS step (k+1) s=some r
 | 0,_,_,h=>by cases h
 | k+1,s,r,h=>by
  unfold sS at h ⊢;split
  .rename_i s' e;simp only[e] at h;exact xB k s' r h
  .rename_i r' e;simp only[e] at h;exact h
  rename_i e;simp only[e] at h;cases h
theorem aBy {S R:Type} {step:S->Option (S⊕R)} {k m:Nat} {s:S} {r:R} (h:sS step k s=some r) (hm:k<=m):sS step m s=some r:=by
 induction hm with
 | refl=>exact h
 | step _ ih=>exact xB _ _ _ ih
theorem aDU {S R:Type} {step:S->Option (S⊕R)} {k m:Nat} {s:S} {r r':R} (h:sS step k s=some r) (h':sS step m s=some r'):r=r':=by
 have a:=aBy h (Nat.le_max_left k m);have b:=aBy h' (Nat.le_max_right k m);rw[a] at b;exact Option.some.inj b
open Classical in
def bM {S R:Type} (step:S->Option (S⊕R)) (s:S):Option R :=
 if h:∃ k r,sS step k s=some r then some (Classical.choose (Classical.choose_spec h)) else none
theorem nR {S R:Type} {step:S->Option (S⊕R)} {s:S} {r:R}:bM step s=some r↔∃ k,sS step k s=some r:=by
 unfold bM;constructor
 .intro h;split at h
  .rename_i hx;exact⟨_,(Classical.choose_spec (Classical.choose_spec hx)).trans h⟩
  cases h
 rintro⟨k,hk⟩;have hx:∃ k r,sS step k s=some r:=⟨k,r,hk⟩;rw[dif_pos hx];exact congrArg some (aDU (Classical.choose_spec (Classical.choose_spec hx)) hk)
theorem cH {S R:Type} {step:S->Option (S⊕R)} {s s':S} (h:step s=some (.inl s')):bM step s=bM step s':=by
 cases e:bM step s' with
 | some r =>
  obtain⟨k,hk⟩:=nR.1 e;exact nR.2 ⟨k+1,by unfold sS;simp only[h];exact hk⟩
 | none =>
  cases e':bM step s with
  | none=>rfl
  | some r =>
   obtain⟨k,hk⟩:=nR.1 e'
   cases k with
   | zero=>cases hk
   | succ k =>
    unfold sS at hk;simp only[h] at hk;rw[nR.2 ⟨k,hk⟩] at e;cases e
theorem bS {S R:Type} {step:S->Option (S⊕R)} {s:S} {r:R} (h:step s=some (.inr r)):bM step s=some r :=
 nR.2 ⟨1,by unfold sS;simp only[h]⟩
def vK:Nat->List Value->List (Nat×Value)
 | _,[]=>[]
 | i,v::l=>(i,v)::vK (i+1) l
structure Has (n:Nat) (L:List (Nat×Value)) (a:Act):Prop where
 d:a.defers=[]
 z:a.tmps.size=n
 l:∀ i v,L.lookup i=some v->a.tmps[i]?=some v
def evO (L:List (Nat×Value)):Operand->Option Value
 | .tmp i=>L.lookup i
 | .const v=>some v
 | .global g=>some (.pointer (some ⟨g,0,none⟩))
 | .func f=>some (.func (.func f) #[] #[])
def upd (dst:Option Nat) (v:Value) (L:List (Nat×Value)):List (Nat×Value):=match dst with | some d=>(d,v)::L | none=>L
section
variable {P : Program} {n : Nat} {L : List (Nat × Value)} {a : Act}
theorem Has.ev (h:Has n L a) {x:Operand} {v:Value} (hx:evO L x=some v):a.eval x=v:=by
 cases x with
 | tmp i =>
  have:=h.l i v hx;simp[Act.eval,aIC,this]
 | const u=>simpa[evO,Act.eval] using hx
 | global g=>simpa[evO,Act.eval] using hx
 | func f=>simpa[evO,Act.eval] using hx
theorem Has.put (h:Has n L a) (dst:Option Nat) (hd:∀ d,dst=some d->d<n) (v:Value):Has n (upd dst v L) (a.put dst v):=by
 cases dst with
 | none=>exact h
 | some d =>
  refine⟨h.d,by simpa[Act.put] using h.z,fun i u hu=>?_⟩;simp only[Act.put,upd,aKg] at hu ⊢;have hdn:d<a.tmps.size:=h.z ▸ hd d rfl;by_cases e:i=d
  .subst e;simp at hu;subst hu;simp[hdn]
  have e1:(i==d)=false:=by simpa using e
  rw[e1] at hu;rw[aJG (Ne.symm e)];exact h.l i u hu
def aBo (L:List (Nat×Value)):List (Nat×Value)->Prop
 | []=>True
 | (i,v)::M=>L.lookup i=some v/\aBo L M
theorem Has.sub (h:Has n L a) {M:List (Nat×Value)} (hm:aBo L M):Has n M a:=by
 refine⟨h.d,h.z,fun i v hv=>h.l i v ?_⟩
 induction M with
 | nil=>cases hv
 | cons p M ih =>
  obtain⟨j,u⟩:=p;obtain⟨h1,h2⟩:=hm;rw[aKg] at hv;by_cases e:i=j
  .subst e;simp at hv;subst hv;exact h1
  have e1:(i==j)=false:=by simpa using e
  rw[e1] at hv;exact ih h2 hv
theorem aCj {args:Array Value} (hs:args.size<=n):Has n (vK 0 args.toList) { tmps:=args++Array.replicate (n-args.size) undef,defers:=[] }:=by
 refine⟨rfl,by simp;omega,fun i v hv=>?_⟩;have key:∀ (l:List Value) (k i:Nat) (v:Value),(vK k l).lookup i=some v->k<=i/\l[i-k]?=some v:=by
  intro l
  induction l with
  | nil=>intro k i v h;cases h
  | cons x l ih =>
   intro k i v h;simp only[vK,aKg] at h;by_cases e:i=k
   .subst e;simp at h;subst h;simp
   have e1:(i==k)=false:=by simpa using e
   rw[e1] at h;obtain⟨h1,h2⟩:=ih _ _ _ h;refine⟨by omega,?_⟩;obtain⟨m,hm⟩:∃ m,i-k=m+1:=⟨i-k-1,by omega⟩;rw[hm,aJt];rwa[show i-(k+1)=m by omega] at h2
 obtain⟨_,h2⟩:=key _ _ _ _ hv;simp only[Nat.sub_zero] at h2;have hi:i<args.size:=by
  rcases aLj i args.size with h | h
  .exact h
  rw[aKl (by simpa using h)] at h2;cases h2
 simp only[Array.getElem?_append,hi,if_true];simpa using h2
theorem aP {f:FuncId} {fn:Func} {c:Code} {args:Array Value} {w:World} {R:Ending->World->Prop} {n:Nat}
  (hf:P.funcs[f]?=some fn) (hb:fn.body=some c) (hn:fn.ntmps=n) (hs:args.size<=n)
  (h:∀ a,Has n (vK 0 args.toList) a->c.wp P (bodyPost P fn R) a w):Calls P f args w R:=by
 refine calls_of_wp hf hb ?_;rw[hn];exact h _ (aCj hs)
def fA (P:Program) (o:Oper) (a:Act) (w:World) (v:Value) (w':World):Prop :=
 ∀ (K:Act->World->Prop) (Q:Exit->Act->World->Prop),K (a.put o.dst v) w'->o.wp P a w K Q
theorem cP {o:Oper} {w w':World} {v:Value} (h:(execOp a.eval o).run P w = .ok (.value v) w'):fA P o a w v w':=fun K Q hk=>by
 unfold Oper.wp;rw[h];exact hk
theorem aDs {o:Oper} {w w':World} (h:(execOp a.eval o).run P w = .ok .skip w'):fA P o a w undef w':=fun K Q hk=>by
 unfold Oper.wp;rw[h];exact hk
theorem aDa {o:Oper} {w w1 w':World} {v:Value} {f:FuncId} {args:Array Value} (h:(execOp a.eval o).run P w = .ok (.enter f args) w1)
  (hc:Calls P f args w1 fun e w''=>e = .returned v/\w''=w'):fA P o a w v w':=fun K Q hk=>by
 unfold Oper.wp;rw[h];exact hc.mono fun e w'' ⟨he,hw⟩=>by subst he;subst hw;exact hk
section
variable {ops : Array Oper} {Q : Exit -> Act -> World -> Prop} {w : World} {rest : List Oper}
theorem aB (h:Q .normal a w):wpList P ops Q [] a w:=h
theorem aFG {o:Oper} {v:Value} {w':World} (hg:o.guard=none) (ha:Has n L a) (hd:∀ d,o.dst=some d->d<n) (h:fA P o a w v w')
  (hr:∀ a',Has n (upd o.dst v L) a'->wpList P ops Q rest a' w'):wpList P ops Q (o::rest) a w:=by
 unfold wpList;rw[if_pos (by simp[Region.wanted,hg])];exact .inl (h _ _ (hr _ (ha.put _ hd v)))
theorem oX {j t:Nat} {b:Bool} (hj:(ops[j]?).bind (·.dst)=some t) (ha:Has n L a) (ht:L.lookup t=some (.bool b)):yielded ops a.tmps j=some b:=by
 unfold yielded;rw[hj];simp[ha.l t _ ht]
theorem aFR {o:Oper} {v:Value} {w':World} {j t:Nat} {b:Bool} (hg:o.guard=some (j,b)) (hj:(ops[j]?).bind (·.dst)=some t) (ha:Has n L a) (ht:L.lookup t=some (.bool b))
  (hd:∀ d,o.dst=some d->d<n) (h:fA P o a w v w')
  (hr:∀ a',Has n (upd o.dst v L) a'->wpList P ops Q rest a' w'):wpList P ops Q (o::rest) a w:=by
 unfold wpList;rw[if_pos (by simp[Region.wanted,hg,oX hj ha ht])];exact .inl (h _ _ (hr _ (ha.put _ hd v)))
theorem aFz {o:Oper} {j t:Nat} {b c:Bool} (hg:o.guard=some (j,c)) (hj:(ops[j]?).bind (·.dst)=some t) (ha:Has n L a) (ht:L.lookup t=some (.bool b)) (hbc:b≠c)
  (hd:∀ d,o.dst=some d->d<n)
  (hr:∀ a',Has n (upd o.dst undef L) a'->wpList P ops Q rest a' w):wpList P ops Q (o::rest) a w:=by
 unfold wpList;rw[if_neg (by simp[Region.wanted,hg,oX hj ha ht,hbc])];exact hr _ (ha.put _ hd _)
end
section
variable {Q : Exit -> Act -> World -> Prop} {w : World} {K : Act -> World -> Prop}
theorem t_n (h:K a w):Exit.then K Q .normal a w:=h
theorem t_x {i:Nat} (h:Q (.exit i) a w):Exit.then K Q (.exit i) a w:=h
theorem t_r (h:Q .ret a w):Exit.then K Q .ret a w:=h
theorem b_n {i:Nat} (h:Q .normal a w):Exit.inBlock i Q .normal a w:=h
theorem eC {i:Nat} (h:Q .normal a w):Exit.inBlock i Q (.exit i) a w:=by unfold Exit.inBlock;simpa using h
theorem b_x {i j:Nat} (hij:j≠i) (h:Q (.exit j) a w):Exit.inBlock i Q (.exit j) a w:=by unfold Exit.inBlock;simpa[hij] using h
theorem b_r {i:Nat} (h:Q .ret a w):Exit.inBlock i Q .ret a w:=h
theorem aO {c:Operand} {x y:Code} {b:Bool} {γ:Type} {A B:Option γ} {r:γ} (ha:Has n L a) (hc:evO L c=some (.bool b)) (h:(if b=true then A else B)=some r)
  (ht:b=true->A=some r->x.wp P Q a w) (hf:b=false->B=some r->y.wp P Q a w):(Code.cond c x y).wp P Q a w:=by
 refine wp_cond_split (ha.ev hc) (fun e=>ht e ?_) (fun e=>hf e ?_)
 .rwa[if_pos e] at h
 rwa[if_neg (by simp[e])] at h
def LP {S R:Type} (I:S->Act->World->Prop) (Q:Exit->Act->World->Prop):(S⊕R)->Exit->Act->World->Prop
 | .inl s,.normal,a,w=>I s a w
 | .inl _,_,_,_=>False
 | .inr _,.normal,_,_=>False
 | .inr _,e,a,w=>Q e a w
theorem dS {S R:Type} {I:S->Act->World->Prop} {Q:Exit->Act->World->Prop} {s:S} (h:I s a w):LP (R:=R) I Q (.inl s) .normal a w:=h
theorem lM {S R:Type} {I:S->Act->World->Prop} {Q:Exit->Act->World->Prop} {r:R} {i:Nat} (h:Q (.exit i) a w):LP (S:=S) I Q (.inr r) (.exit i) a w:=h
theorem vV {S R:Type} {I:S->Act->World->Prop} {Q:Exit->Act->World->Prop} {r:R} (h:Q .ret a w):LP (S:=S) I Q (.inr r) .ret a w:=h
theorem aDK {S R:Type} {step:S->Option (S⊕R)} {I:S->Act->World->Prop} {body:Code} {r0:R} {s0:S}
  (hI:I s0 a w) (h:bM step s0=some r0)
  (hb:∀ s a w o,I s a w->step s=some o->(∀ r,o = .inr r->r=r0)->body.wp P (LP I Q o) a w):(Code.loop body).wp P Q a w:=by
 obtain⟨k,hk⟩:=nR.1 h;refine wp_loop_rounds k ?_;clear h
 induction k generalizing s0 a w with
 | zero=>cases hk
 | succ k ih =>
  rw[rounds_succ];unfold sS at hk;split at hk
  .rename_i s' e;refine wp_mono (hb s0 a w _ hI e (fun r hr=>by cases hr)) fun x a' w' hx=>?_;cases x<;>first | exact ih hx hk | exact hx.elim
  .rename_i r' e;cases hk;refine wp_mono (hb s0 a w _ hI e (fun r hr=>by cases hr;rfl)) fun x a' w' hx=>?_;cases x<;>first | exact hx | exact hx.elim
  cases hk
end
end
def ldI (k:IntKind) (w:World) (a:Addr):Option Int:=match w.cell? a with | some (.int k' x)=>if k'=k then some x else none | _=>none
def ldB (w:World) (a:Addr):Option Bool:=match w.cell? a with | some (.bool b)=>some b | _=>none
def ldP (w:World) (a:Addr):Option (Option Addr):=match w.cell? a with | some (.pointer p)=>some p | _=>none
def ldL (w:World) (a:Addr):Option Sl:=match w.cell? a with | some (.slice p n c)=>some ⟨p,n,c⟩ | _=>none
def ldA:Nat->World->Addr->Nat->Option (List Value)
 | 0,_,_,_=>some []
 | n+1,w,a,i=>(w.cell? (a.add i)).bind fun v=>(ldA n w a (i+1)).bind fun l=>some (v::l)
theorem aQ {k:IntKind} {w:World} {a:Addr} {x:Int} (h:ldI k w a=some x):w.cell? a=some (.int k x):=by
 unfold ldI at h;split at h
 .rename_i k' y e;split at h
  .rename_i hk;subst hk;cases h;exact e
  cases h
 cases h
theorem oO {w:World} {a:Addr} {x:Bool} (h:ldB w a=some x):w.cell? a=some (.bool x):=by
 unfold ldB at h;split at h<;>cases h;assumption
theorem bA {w:World} {a:Addr} {x:Option Addr} (h:ldP w a=some x):w.cell? a=some (.pointer x):=by
 unfold ldP at h;split at h<;>cases h;assumption
theorem aV {w:World} {a:Addr} {x:Sl} (h:ldL w a=some x):w.cell? a=some (x.v):=by
 unfold ldL at h;split at h<;>cases h;assumption
theorem kR:∀ {n:Nat} {w:World} {a:Addr} {i:Nat} {l:List Value},ldA n w a i=some l->l.length=n/\∀ j v,l[j]?=some v->w.cell? (a.add (i+j))=some v
 | 0,_,_,_,_,h=>by cases h;simp
 | n+1,w,a,i,l,h=>by
  unfold ldA at h;obtain⟨v,e1,h⟩:=bs1 h;obtain⟨m,e2,h⟩:=bs1 h;cases h;obtain⟨h1,h2⟩:=kR e2;refine⟨by simp[h1],fun j u hu=>?_⟩
  cases j with
  | zero=>simp at hu;subst hu;exact e1
  | succ j =>
   have:=h2 j u (by simpa using hu);rwa[show i+(j+1)=i+1+j by omega]
def stV (w:World) (a:Addr) (v:Value):Option World:=if v.oneCell'=true/\(w.cell? a).isSome=true/\w.frozen? a=false then some (w.setCell a v) else none
def stA:World->Addr->Nat->List Value->Option World
 | w,_,_,[]=>some w
 | w,a,i,v::l=>(stV w (a.add i) v).bind fun w'=>stA w' a (i+1) l
def mk (w:World) (t:TypeId) (cs:List Value):Option (Addr×World):=some (⟨w.heap.size,0,none⟩,w.alloc (.cells cs.toArray t))
section
variable {P : Program} {n : Nat} {L : List (Nat × Value)} {a : Act} {w w' : World}
theorem aBU {ad:Addr} {v:Value} (h:stV w ad v=some w'):v.oneCell'=true/\(store ad v).run P w = .ok () w':=by
 unfold stV at h;split at h
 .rename_i hc;obtain⟨h1,h2,h3⟩:=hc;cases h;refine⟨h1,?_⟩;rw[run_store _ _ _ _ _ h1];obtain⟨u,hu⟩:=Option.isSome_iff_exists.1 h2;simp[hu,h3]
 cases h
theorem uX:∀ {l:List Value} {ad:Addr} {i:Nat} {w w':World},stA w ad i l=some w'->(storeCells ad l i).run P w = .ok () w'
 | [],_,_,_,_,h=>by cases h;rfl
 | v::l,ad,i,w,w',h=>by
  unfold stA at h;obtain⟨w1,e1,h⟩:=bs1 h;have:=(aBU (P:=P) e1).2;simp only[storeCells,Sem.run_bind,this,Result.andThen_ok,uX h]
theorem aCx {v:Value} (h:v.oneCell'=true):v.cells=#[v]:=by
 cases v<;>simp_all [Value.oneCell',Value.cells]
theorem aC {d ty pos af g x v} (ha:Has n L a) (hx:evO L x=some v):fA P ⟨d,.move x,ty,pos,af,g⟩ a w v w :=
 cP (by simp[execOp,ha.ev hx])
theorem bD {d ty pos af g x v} (ha:Has n L a) (hx:evO L x=some v):fA P ⟨d,.assign x,ty,pos,af,g⟩ a w v w :=
 cP (by simp[execOp,ha.ev hx])
theorem aF {d ty pos af g c x y u} {b:Bool} (ha:Has n L a) (hc:evO L c=some (.bool b)) (hb:b=true) (hx:evO L x=some u) :
  fA P ⟨d,.pick c x y,ty,pos,af,g⟩ a w u w:=by
 subst hb;exact cP (by simp[execOp,ha.ev hc,ha.ev hx,asBool])
theorem aL {d ty pos af g c x y v} {b:Bool} (ha:Has n L a) (hc:evO L c=some (.bool b)) (hb:b≠true) (hy:evO L y=some v) :
  fA P ⟨d,.pick c x y,ty,pos,af,g⟩ a w v w:=by
 have:b=false:=by simpa using hb
 subst this;exact cP (by simp[execOp,ha.ev hc,ha.ev hy,asBool])
theorem aJ {d ty pos af g t x} {ad:Addr} {v:Value} (ha:Has n L a) (hx:evO L x=some (.pointer (some ad))) (ht:∀ w,(isAgg t).run P w = .ok false w) (h:w.cell? ad=some v) :
  fA P ⟨d,.load t x,ty,pos,af,g⟩ a w v w :=
 cP (by simp[execOp,ha.ev hx,Instr.loadAt,Instr.sureAddr,loadVar,ht,run_load,h])
theorem gC {d ty pos af g t x sz} {ad:Addr} {cs:List Value} (ha:Has n L a) (hx:evO L x=some (.pointer (some ad))) (ht:∀ w,(isAgg t).run P w = .ok true w) (hz:∀ w,(sizeOf t).run P w = .ok sz w)
  (h:ldA sz w ad 0=some cs):fA P ⟨d,.load t x,ty,pos,af,g⟩ a w (.agg cs.toArray) w:=by
 obtain⟨h1,h2⟩:=kR h;have hl:=run_loadCells_list (P:=P) w ad cs (fun j v hv=>by simpa using h2 j v hv);rw[h1] at hl;exact cP (by simp[execOp,ha.ev hx,Instr.loadAt,Instr.sureAddr,loadVar,ht,hz,hl])
theorem fO {d ty pos af g t x y} {ad:Addr} {v:Value} (ha:Has n L a) (hx:evO L x=some (.pointer (some ad))) (hy:evO L y=some v) (hz:∀ w,(sizeOf t).run P w = .ok 1 w) (h:stV w ad v=some w') :
  fA P ⟨d,.store t x y,ty,pos,af,g⟩ a w undef w':=by
 obtain⟨h1,h2⟩:=aBU (P:=P) h;refine aDs ?_;have hadd:ad.add 0=ad:=by simp[Addr.add]
 simp[execOp,ha.ev hx,ha.ev hy,Instr.storeAt,Instr.sureAddr,storeVar,aCx h1,hz,storeCells,hadd,h2]
theorem eW {d ty pos af g t x y sz} {ad:Addr} {cs:List Value} (ha:Has n L a) (hx:evO L x=some (.pointer (some ad))) (hy:evO L y=some (.agg cs.toArray)) (hz:∀ w,(sizeOf t).run P w = .ok sz w) (hl:cs.length=sz)
  (h:stA w ad 0 cs=some w'):fA P ⟨d,.store t x y,ty,pos,af,g⟩ a w undef w':=by
 refine aDs ?_;simp[execOp,ha.ev hx,ha.ev hy,Instr.storeAt,Instr.sureAddr,storeVar,Value.cells,hz,hl,uX (P:=P) h]
theorem eX {d ty pos af g t} {z:Value} {cs:List Value} {ad:Addr} (hz:∀ w,(zeroValue t).run P w = .ok z w) (hc:z.cells=cs.toArray) (h:mk w t cs=some (ad,w')) :
  fA P ⟨d,.alloc t,ty,pos,af,g⟩ a w (.pointer (some ad)) w':=by
 cases h;exact cP (by simp[execOp,Instr.alloc,hz,newVar,newRow,hc])
theorem rF {d ty pos af g t x} {v:Value} {cs:List Value} {ad:Addr} (ha:Has n L a) (hx:evO L x=some v) (hc:v.cells=cs.toArray) (h:mk w t cs=some (ad,w')) :
  fA P ⟨d,.box t x,ty,pos,af,g⟩ a w (.pointer (some ad)) w':=by
 cases h;exact cP (by simp[execOp,ha.ev hx,Instr.box,newVar,newRow,hc])
theorem lX {d ty pos af g x} {ad:Addr} (ha:Has n L a) (hx:evO L x=some (.pointer (some ad))):fA P ⟨d,.nilCheck x,ty,pos,af,g⟩ a w (.pointer (some ad)) w :=
 cP (by simp[execOp,ha.ev hx])
theorem aH {d ty pos af g x} {p:Option Addr} {ad:Addr} (ha:Has n L a) (hx:evO L x=some (.pointer p)) (hp:p=some ad):fA P ⟨d,.nilCheck x,ty,pos,af,g⟩ a w (.pointer (some ad)) w:=by
 subst hp;exact lX ha hx
theorem aK {d ty pos af g t x k} {ad:Addr} {fs:Array Field} {f:Field} {off sz:Nat} (ha:Has n L a) (hx:evO L x=some (.pointer (some ad))) (ht:∀ w,(underlying t).run P w = .ok (.struct fs) w)
  (hf:fs[k]?=some f) (ho:f.offset=off) (hz:∀ w,(sizeOf f.type).run P w = .ok sz w) (h0:sz≠0:=by decide):fA P ⟨d,.fieldAddr t x k,ty,pos,af,g⟩ a w (.pointer (some (ad.add off))) w:=by
 subst ho;exact cP (by simp[execOp,ha.ev hx,Instr.fieldAt,ht,hf,Instr.sureAddr,fieldPlace,hz,h0])
def ix (s:Sl) (i:Int) (sz:Nat):Option Addr:=s.p.bind fun ad=>if 0<=i/\i<s.n then some (ad.add (i.toNat*sz)) else none
theorem bZ {d ty pos af g t x y k e sz} {s:Sl} {i:Int} {ad:Addr} (ha:Has n L a) (hx:evO L x=some s.v) (hy:evO L y=some (.int k i)) (ht:∀ w,(underlying t).run P w = .ok (.slice e) w)
  (hz:∀ w,(sizeOf e).run P w = .ok sz w) (h:ix s i sz=some ad):fA P ⟨d,.indexAddr t x y,ty,pos,af,g⟩ a w (.pointer (some ad)) w:=by
 obtain⟨b,hb,h⟩:=bs1 h;split at h
 .rename_i hi;cases h;obtain⟨p,n',c⟩:=s;simp only at hb hi;subst hb;exact cP (by simp[execOp,ha.ev hx,ha.ev hy,Sl.v,Instr.indexAt,asIntOf,ht,hi,hz])
 cases h
def slS (s:Sl) (lo hi m:Int) (sz:Nat):Option Sl :=
 if 0<=lo/\lo<=hi/\hi<=m/\m<=s.c then some ⟨if m=lo then s.p else s.p.map (·.add (lo.toNat*sz)),(hi-lo).toNat,(m-lo).toNat⟩ else none
def slA (ad:Addr) (len:Nat) (lo hi m:Int) (sz:Nat):Option Sl :=
 if 0<=lo/\lo<=hi/\hi<=m/\m<=len then some ⟨some (if m=lo then ad else ad.add (lo.toNat*sz)),(hi-lo).toNat,(m-lo).toNat⟩ else none
def BdO (L:List (Nat×Value)) (o:Option Operand) (dflt x:Int):Prop:=match o with | none=>x=dflt | some y=>∃ k,evO L y=some (.int k x)
theorem tV {k:IntKind} {i:Int} {y:Nat} {code:BoundsCode} (h0:0<=i) (h1:i<=y):(Instr.sliceBound (.int k i) y code).run P w = .ok i.toNat w:=by
 simp[Instr.sliceBound,asIntOf,h0,h1]
theorem rE {b:Bool} {len cap:Nat} {lo hi mx:Option Operand} {l h m:Int} (ha:Has n L a) (hl:BdO L lo 0 l) (hh:BdO L hi len h) (hm:BdO L mx cap m) (hn:mx.isSome=true->hi.isSome=true)
  (h0:0<=l) (h1:l<=h) (h2:h<=m) (h3:m<=cap) :
  (Instr.sliceBounds b len cap (lo.map a.eval) (hi.map a.eval) (mx.map a.eval)).run P w = .ok (l.toNat,h.toNat,m.toNat) w:=by
 have hmn:(m.toNat:Int)=m:=Int.toNat_of_nonneg (by omega);have hhn:(h.toNat:Int)=h:=Int.toNat_of_nonneg (by omega)
 cases mx with
 | none =>
  have hm:m=cap:=hm;subst hm
  cases hi with
  | none =>
   have hh:h=len:=hh;subst hh
   cases lo with
   | none=>have hl:l=0:=hl;subst hl;simp[Instr.sliceBounds]
   | some y=>obtain⟨k,hk⟩:=hl;simp[Instr.sliceBounds,ha.ev hk,tV h0 h1]
  | some z =>
   obtain⟨k',hk'⟩:=hh;have e1:=fun c=>tV (P:=P) (w:=w) (k:=k') (i:=h) (y:=cap) (code:=c) (by omega) (by omega)
   cases lo with
   | none=>have hl:l=0:=hl;subst hl;simp[Instr.sliceBounds,ha.ev hk',e1]
   | some y =>
    obtain⟨k,hk⟩:=hl;have e2:=fun c=>tV (P:=P) (w:=w) (k:=k) (i:=l) (y:=h.toNat) (code:=c) (by omega) (by omega);simp[Instr.sliceBounds,ha.ev hk,ha.ev hk',e1,e2]
 | some q =>
  obtain⟨k'',hk''⟩:=hm;have e0:=fun c=>tV (P:=P) (w:=w) (k:=k'') (i:=m) (y:=cap) (code:=c) (by omega) (by omega)
  cases hi with
  | none=>simp at hn
  | some z =>
   obtain⟨k',hk'⟩:=hh;have e1:=fun c=>tV (P:=P) (w:=w) (k:=k') (i:=h) (y:=m.toNat) (code:=c) (by omega) (by omega)
   cases lo with
   | none=>have hl:l=0:=hl;subst hl;simp[Instr.sliceBounds,ha.ev hk',ha.ev hk'',e0,e1]
   | some y =>
    obtain⟨k,hk⟩:=hl;have e2:=fun c=>tV (P:=P) (w:=w) (k:=k) (i:=l) (y:=h.toNat) (code:=c) (by omega) (by omega);simp[Instr.sliceBounds,ha.ev hk,ha.ev hk',ha.ev hk'',e0,e1,e2]
theorem oG {d ty pos af g t x e sz} {lo hi mx:Option Operand} {s s':Sl} {l h m:Int} (ha:Has n L a) (hx:evO L x=some s.v) (ht:∀ w,(underlying t).run P w = .ok (.slice e) w) (hz:∀ w,(sizeOf e).run P w = .ok sz w)
  (hl:BdO L lo 0 l) (hh:BdO L hi s.n h) (hm:BdO L mx s.c m) (hn:mx.isSome=true->hi.isSome=true) (hr:slS s l h m sz=some s'):fA P ⟨d,.slice t x lo hi mx,ty,pos,af,g⟩ a w s'.v w:=by
 unfold slS at hr;split at hr
 .rename_i hc;obtain⟨h0,h1,h2,h3⟩:=hc;cases hr;obtain⟨p,n',c⟩:=s;have hb:=fun b=>rE (P:=P) (w:=w) (b:=b) ha hl hh hm hn h0 h1 h2 h3;have e1:(h-l).toNat=h.toNat-l.toNat:=by omega
  have e2:(m-l).toNat=m.toNat-l.toNat:=by omega
  have e3:(m.toNat=l.toNat)=(m=l):=by apply propext;omega
  refine cP ?_;simp only[execOp,ha.ev hx,Sl.v,Instr.sliceAt,Instr.slice,Sem.run_bind,ht,Result.andThen_ok,hb,hz,Sem.run_pure,e1,e2,e3]
 cases hr
theorem aBE {d ty pos af g t x e sz len} {lo hi mx:Option Operand} {ad:Addr} {s':Sl} {l h m:Int} (ha:Has n L a) (hx:evO L x=some (.pointer (some ad))) (ht:∀ w,(underlying t).run P w = .ok (.array len e) w) (hz:∀ w,(sizeOf e).run P w = .ok sz w)
  (hl:BdO L lo 0 l) (hh:BdO L hi len h) (hm:BdO L mx len m) (hn:mx.isSome=true->hi.isSome=true) (hr:slA ad len l h m sz=some s'):fA P ⟨d,.slice t x lo hi mx,ty,pos,af,g⟩ a w s'.v w:=by
 unfold slA at hr;split at hr
 .rename_i hc;obtain⟨h0,h1,h2,h3⟩:=hc;cases hr;have hb:=fun b=>rE (P:=P) (w:=w) (b:=b) ha hl hh hm hn h0 h1 h2 h3;have e1:(h-l).toNat=h.toNat-l.toNat:=by omega
  have e2:(m-l).toNat=m.toNat-l.toNat:=by omega
  have e3:(m.toNat=l.toNat)=(m=l):=by apply propext;omega
  refine cP ?_;simp only[execOp,ha.ev hx,Sl.v,Instr.sliceAt,Instr.sureAddr,Sem.run_bind,ht,Result.andThen_ok,hb,hz,Sem.run_pure,e1,e2,e3]
 cases hr
def mkS (P:Program) (t:TypeId) (x y:Int) (w:World):Option (Sl×World):=match (Instr.makeSlice t (.int .i64 x) (.int .i64 y)).run P w with | .ok (.slice p n c) w'=>some (⟨p,n,c⟩,w') | _=>none
theorem uQ {d ty pos af g t x y} {i j:Int} {s:Sl} (ha:Has n L a) (hx:evO L x=some (.int .i64 i)) (hy:evO L y=some (.int .i64 j)) (h:mkS P t i j w=some (s,w')) :
  fA P ⟨d,.makeSlice t x y,ty,pos,af,g⟩ a w s.v w':=by
 unfold mkS at h;split at h
 .rename_i p m c w1 e;cases h;exact cP (by simp[execOp,ha.ev hx,ha.ev hy,e,Sl.v])
 cases h
def apS (P:Program) (t:TypeId) (x y:Sl) (w:World):Option (Sl×World):=match (Builtin.append_ #[t,t] t #[x.v,y.v]).run P w with | .ok (.slice p n c) w'=>some (⟨p,n,c⟩,w') | _=>none
theorem iF {d ty pos af g t x y} {p q s:Sl} (ha:Has n L a) (hx:evO L x=some p.v) (hy:evO L y=some q.v) (h:apS P t p q w=some (s,w')) :
  fA P ⟨d,.call { callee:=.builtin .append,args:=#[x,y],argTypes:=#[t,t] },ty,pos,af,g⟩ a w s.v w':=by
 unfold apS at h;split at h
 .rename_i r m c w1 e;cases h;have e':(Builtin.append_ #[t,t] ty #[p.v,q.v]).run P w = .ok (.slice r m c) w':=e;exact cP (by simp[execOp,resolve,invoke,builtin,ha.ev hx,ha.ev hy,e'];rfl)
 cases h
def apZ (P:Program) (t u:TypeId) (x:Sl) (y:Int) (w:World):Option (Sl×World):=match (Builtin.append_ #[t,u] t #[x.v,.int .i64 y]).run P w with | .ok (.slice p n c) w'=>some (⟨p,n,c⟩,w') | _=>none
theorem aFk {d ty pos af g t u x y} {p s:Sl} {q:Int} (ha:Has n L a) (hx:evO L x=some p.v) (hy:evO L y=some (.int .i64 q)) (h:apZ P t u p q w=some (s,w')) :
  fA P ⟨d,.call { callee:=.builtin .append,args:=#[x,y],argTypes:=#[t,u] },ty,pos,af,g⟩ a w s.v w':=by
 unfold apZ at h;split at h
 .rename_i r m c w1 e;cases h;have e':(Builtin.append_ #[t,u] ty #[p.v,.int .i64 q]).run P w = .ok (.slice r m c) w':=e;exact cP (by simp[execOp,resolve,invoke,builtin,ha.ev hx,ha.ev hy,e'];rfl)
 cases h
def cvS (P:Program) (t:TypeId) (x:Sl) (w:World):Option (Sl×World):=match (convert t t x.v).run P w with | .ok (.slice p n c) w'=>some (⟨p,n,c⟩,w') | _=>none
theorem aFu {d ty pos af g t x} {p s:Sl} (ha:Has n L a) (hx:evO L x=some p.v) (h:cvS P t p w=some (s,w')):fA P ⟨d,.convert t t x,ty,pos,af,g⟩ a w s.v w':=by
 unfold cvS at h;split at h
 .rename_i r m c w1 e;cases h;exact cP (by simp[execOp,ha.ev hx,e];rfl)
 cases h
def cpS (P:Program) (t u:TypeId) (x y:Sl) (w:World):Option (Int×World):=match (Builtin.copy_ #[t,u] 3 #[x.v,y.v]).run P w with | .ok (.int _ m) w'=>some (m,w') | _=>none
theorem yT {t u ty:TypeId} {x y v:Value} (h:(Builtin.copy_ #[t,u] ty #[x,y]).run P w = .ok v w'):∃ m,v = .int .i64 m:=by
 unfold Builtin.copy_ at h;simp only[aJz,aJu,aJt] at h;rw[Sem.run_bind] at h
 cases e:(underlying t).run P w with
 | halt z w1=>rw[e] at h;cases h
 | ok z w1 =>
  rw[e] at h;simp only[Result.andThen_ok] at h;split at h
  .rename_i elem;cases x<;>simp only[run_stuck] at h<;>try cases h
   rename_i base dl dc;rw[Sem.run_bind] at h
   cases e2:(Builtin.lenOf y).run P w1 with
   | halt z w2=>rw[e2] at h;cases h
   | ok z w2 =>
    rw[e2] at h;simp only[Result.andThen_ok] at h;rw[Sem.run_bind] at h
    cases e3:(sizeOf elem).run P w2 with
    | halt z w2=>rw[e3] at h;cases h
    | ok q w3 =>
     rw[e3] at h;simp only[Result.andThen_ok] at h;rw[Sem.run_bind] at h
     cases e4:(Builtin.firstCells q (Nat.min z dl) y).run P w3 with
     | halt z w2=>rw[e4] at h;cases h
     | ok cs w4 =>
      rw[e4] at h;simp only[Result.andThen_ok] at h
      cases base with
      | none=>simp[goInt] at h;exact⟨_,h.1.symm⟩
      | some b =>
       simp only[Sem.run_bind] at h
       cases e5:(storeCells b cs.toList).run P w4 with
       | halt z w2=>rw[e5] at h;cases h
       | ok cs w4=>rw[e5] at h;simp[goInt] at h;exact⟨_,h.1.symm⟩
  cases h
theorem aAg {d ty pos af g t u x y} {p q:Sl} {m:Int} (ha:Has n L a) (hx:evO L x=some p.v) (hy:evO L y=some q.v) (h:cpS P t u p q w=some (m,w')) :
  fA P ⟨d,.call { callee:=.builtin .copy,args:=#[x,y],argTypes:=#[t,u] },ty,pos,af,g⟩ a w (.int .i64 m) w':=by
 unfold cpS at h;split at h
 .rename_i r k w1 e;cases h;obtain⟨m',hm⟩:=yT e;cases hm;have e':(Builtin.copy_ #[t,u] ty #[p.v,q.v]).run P w = .ok (.int .i64 m) w':=e;exact cP (by simp[execOp,resolve,invoke,builtin,ha.ev hx,ha.ev hy,e'])
 cases h
def ldN (k:IntKind):Nat->World->Addr->Nat->Option (List Int)
 | 0,_,_,_=>some []
 | n+1,w,a,i=>(ldI k w (a.add i)).bind fun v=>(ldN k n w a (i+1)).bind fun l=>some (v::l)
theorem aFs {k:IntKind}:∀ {n:Nat} {w:World} {a:Addr} {i:Nat} {l:List Int},ldN k n w a i=some l->l.length=n/\∀ j v,l[j]?=some v->w.cell? (a.add (i+j))=some (.int k v)
 | 0,_,_,_,_,h=>by cases h;simp
 | n+1,w,a,i,l,h=>by
  unfold ldN at h;obtain⟨v,e1,h⟩:=bs1 h;obtain⟨m,e2,h⟩:=bs1 h;cases h;obtain⟨h1,h2⟩:=aFs e2;refine⟨by simp[h1],fun j u hu=>?_⟩
  cases j with
  | zero=>simp at hu;subst hu;exact aQ e1
  | succ j =>
   have:=h2 j u (by simpa using hu);rwa[show i+(j+1)=i+1+j by omega]
def b2s (x:Sl) (w:World):Option ByteArray:=match x.p with | none=>some ByteArray.empty | some ad=>(ldN .u8 x.n w ad 0).map strOfNums
theorem nY {d ty pos af g t u x e} {s:Sl} {r:ByteArray} (ha:Has n L a) (hx:evO L x=some s.v) (ht:∀ w,(underlying t).run P w = .ok (.slice e) w) (hu:∀ w,(underlying u).run P w = .ok .string w)
  (he:∀ w,(underlying e).run P w = .ok (.int .u8) w) (h:b2s s w=some r):fA P ⟨d,.convert t u x,ty,pos,af,g⟩ a w (.string r) w:=by
 obtain⟨p,m,c⟩:=s;refine cP ?_
 cases p with
 | none=>cases h;simp[execOp,ha.ev hx,Sl.v,convert,ht,hu,he,Conv.bytesToString]
 | some ad =>
  simp only[b2s] at h
  cases e1:ldN .u8 m w ad 0 with
  | none=>rw[e1] at h;cases h
  | some l =>
   rw[e1] at h;cases h;obtain⟨h1,h2⟩:=aFs e1;have hl:=run_loadCells_list (P:=P) w ad (l.map (Value.int .u8)) (fun j v hv=>by
    rw[aJA] at hv
    cases e3:l[j]? with
    | none=>rw[e3] at hv;cases hv
    | some q=>rw[e3] at hv;cases hv;have:=h2 j q e3;simpa using this)
   rw[aKP,h1] at hl;have hb:=run_bytesToString (P:=P) w ad m c l hl;rw[foldl_push_bytes] at hb;have e4:(⟨(l.map fun n=>UInt8.ofNat n.toNat).toArray⟩:ByteArray)=strOfNums l:=rfl;simp only[execOp,ha.ev hx,Sl.v,convert,Sem.run_bind,ht,hu,he,Result.andThen_ok,hb,Sem.run_pure];simp[strOfNums,ByteArray.empty,ByteArray.emptyWithCapacity];rfl
theorem iP {d ty pos af g t u x k k'} {i:Int} {dt:TypeDesc} (ha:Has n L a) (hx:evO L x=some (.int k i)) (ht:∀ w,(underlying t).run P w = .ok dt w) (hu:∀ w,(underlying u).run P w = .ok (.int k') w) :
  fA P ⟨d,.convert t u x,ty,pos,af,g⟩ a w (.int k' (k'.wrap i)) w:=by
 refine cP ?_;simp only[execOp,ha.ev hx,convert,Sem.run_bind,ht,hu,Result.andThen_ok,Conv.intToInt,Sem.run_pure]
theorem aZ {d ty pos af g t x e} {s:Sl} (ha:Has n L a) (hx:evO L x=some s.v) (ht:∀ w,(underlying t).run P w = .ok (.slice e) w) :
  fA P ⟨d,.call { callee:=.builtin .len,args:=#[x],argTypes:=#[t] },ty,pos,af,g⟩ a w (.int .i64 s.n) w :=
 cP (by simp[execOp,resolve,invoke,builtin,ha.ev hx,Builtin.len_,ht,Sl.v,goInt])
def bor (k:IntKind) (x y:Int):Int:=k.wrap (BitVec.ofInt k.bits x ||| BitVec.ofInt k.bits y).toNat
def uE (k:IntKind) (x y:Int):Int:=k.wrap (BitVec.ofInt k.bits x ^^^ BitVec.ofInt k.bits y).toNat
def dvI (k:IntKind) (x y:Int):Option Int:=if y=0 then none else some (k.wrap (x.tdiv y))
def rmI (x y:Int):Option Int:=if y=0 then none else some (x.tmod y)
def aDT (k:IntKind) (x y:Int):Option Int:=if y<0 then none else some (k.wrap (x*2 ^ min y.toNat k.bits))
def aDn (k:IntKind) (x y:Int):Option Int:=if y<0 then none else some (x.fdiv (2 ^ min y.toNat k.bits))
section
variable {d : Option Nat} {ty t t2 : TypeId} {pos : String} {af : Array Edge} {g : Option (Nat × Bool)} {x y : Operand} {k k2 : IntKind} {i j r : Int}
theorem bJ (ha:Has n L a) (hx:evO L x=some (.int k i)) (hy:evO L y=some (.int k j)):fA P ⟨d,.binOp .add t x y t2,ty,pos,af,g⟩ a w (.int k (k.wrap (i+j))) w :=
 cP (by simp[execOp,ha.ev hx,ha.ev hy,eqGuard,binOp,Op.intArith])
theorem iB (ha:Has n L a) (hx:evO L x=some (.int k i)) (hy:evO L y=some (.int k j)):fA P ⟨d,.binOp .sub t x y t2,ty,pos,af,g⟩ a w (.int k (k.wrap (i-j))) w :=
 cP (by simp[execOp,ha.ev hx,ha.ev hy,eqGuard,binOp,Op.intArith])
theorem oN (ha:Has n L a) (hx:evO L x=some (.int k i)) (hy:evO L y=some (.int k j)):fA P ⟨d,.binOp .mul t x y t2,ty,pos,af,g⟩ a w (.int k (k.wrap (i*j))) w :=
 cP (by simp[execOp,ha.ev hx,ha.ev hy,eqGuard,binOp,Op.intArith])
theorem aGG (ha:Has n L a) (hx:evO L x=some (.int k i)) (hy:evO L y=some (.int k j)):fA P ⟨d,.binOp .or t x y t2,ty,pos,af,g⟩ a w (.int k (bor k i j)) w :=
 cP (by simp[execOp,ha.ev hx,ha.ev hy,eqGuard,binOp,Op.intBits,bor])
theorem aDY (ha:Has n L a) (hx:evO L x=some (.int k i)) (hy:evO L y=some (.int k j)):fA P ⟨d,.binOp .xor t x y t2,ty,pos,af,g⟩ a w (.int k (uE k i j)) w :=
 cP (by simp[execOp,ha.ev hx,ha.ev hy,eqGuard,binOp,Op.intBits,uE])
theorem aAl (ha:Has n L a) (hx:evO L x=some (.int k i)) (hy:evO L y=some (.int k j)) (h:dvI k i j=some r):fA P ⟨d,.binOp .quo t x y t2,ty,pos,af,g⟩ a w (.int k r) w:=by
 unfold dvI at h;split at h
 .cases h
 cases h;exact cP (by simp[execOp,ha.ev hx,ha.ev hy,eqGuard,binOp,Op.intDiv, *])
theorem sH (ha:Has n L a) (hx:evO L x=some (.int k i)) (hy:evO L y=some (.int k j)) (h:rmI i j=some r):fA P ⟨d,.binOp .rem t x y t2,ty,pos,af,g⟩ a w (.int k r) w:=by
 unfold rmI at h;split at h
 .cases h
 cases h;exact cP (by simp[execOp,ha.ev hx,ha.ev hy,eqGuard,binOp,Op.intDiv, *])
theorem aGs (ha:Has n L a) (hx:evO L x=some (.int k i)) (hy:evO L y=some (.int k2 j)) (h:aDT k i j=some r):fA P ⟨d,.binOp .shl t x y t2,ty,pos,af,g⟩ a w (.int k r) w:=by
 unfold aDT at h;split at h
 .cases h
 cases h;exact cP (by simp[execOp,ha.ev hx,ha.ev hy,eqGuard,binOp,Op.shift, *])
theorem aGk (ha:Has n L a) (hx:evO L x=some (.int k i)) (hy:evO L y=some (.int k2 j)) (h:aDn k i j=some r):fA P ⟨d,.binOp .shr t x y t2,ty,pos,af,g⟩ a w (.int k r) w:=by
 unfold aDn at h;split at h
 .cases h
 cases h;exact cP (by simp[execOp,ha.ev hx,ha.ev hy,eqGuard,binOp,Op.shift, *])
theorem gD (ha:Has n L a) (hx:evO L x=some (.int k i)) (hy:evO L y=some (.int k j)):fA P ⟨d,.binOp .eql t x y t2,ty,pos,af,g⟩ a w (.bool (i==j)) w :=
 cP (by simp[execOp,ha.ev hx,ha.ev hy,eqGuard,binOp,Op.intCmp])
theorem fJ (ha:Has n L a) (hx:evO L x=some (.int k i)) (hy:evO L y=some (.int k j)):fA P ⟨d,.binOp .neq t x y t2,ty,pos,af,g⟩ a w (.bool (i !=j)) w :=
 cP (by simp[execOp,ha.ev hx,ha.ev hy,eqGuard,binOp,Op.intCmp])
theorem dK (ha:Has n L a) (hx:evO L x=some (.int k i)) (hy:evO L y=some (.int k j)):fA P ⟨d,.binOp .lss t x y t2,ty,pos,af,g⟩ a w (.bool (decide (i<j))) w :=
 cP (by simp[execOp,ha.ev hx,ha.ev hy,eqGuard,binOp,Op.intCmp])
theorem sU (ha:Has n L a) (hx:evO L x=some (.int k i)) (hy:evO L y=some (.int k j)):fA P ⟨d,.binOp .leq t x y t2,ty,pos,af,g⟩ a w (.bool (decide (i<=j))) w :=
 cP (by simp[execOp,ha.ev hx,ha.ev hy,eqGuard,binOp,Op.intCmp])
theorem gF (ha:Has n L a) (hx:evO L x=some (.int k i)) (hy:evO L y=some (.int k j)):fA P ⟨d,.binOp .gtr t x y t2,ty,pos,af,g⟩ a w (.bool (decide (j<i))) w :=
 cP (by simp[execOp,ha.ev hx,ha.ev hy,eqGuard,binOp,Op.intCmp])
theorem pP (ha:Has n L a) (hx:evO L x=some (.int k i)) (hy:evO L y=some (.int k j)):fA P ⟨d,.binOp .geq t x y t2,ty,pos,af,g⟩ a w (.bool (decide (j<=i))) w :=
 cP (by simp[execOp,ha.ev hx,ha.ev hy,eqGuard,binOp,Op.intCmp])
theorem aEb {m:Nat} {p:Option Addr} {e:TypeId} (ht:∀ w,(underlying t).run P w = .ok (.pointer e) w):(Op.equalIn (m+1) t (.pointer p) (.pointer none)).run P w = .ok p.isNone w:=by
 cases p<;>simp[Op.equalIn,ht]
theorem aEB {m:Nat} {s:Sl} {e:TypeId} (ht:∀ w,(underlying t).run P w = .ok (.slice e) w):(Op.equalIn (m+1) t s.v (.slice none 0 0)).run P w = .ok s.p.isNone w:=by
 obtain⟨p,q,c⟩:=s;cases p<;>simp[Op.equalIn,ht,Sl.v]
theorem aCi {m:Nat} {b c:Bool} (ht:∀ w,(underlying t).run P w = .ok .bool w):(Op.equalIn (m+1) t (.bool b) (.bool c)).run P w = .ok (b==c) w:=by
 simp[Op.equalIn,ht]
theorem aDq {p:Option Addr} {e:TypeId} (ht:∀ w,(underlying t).run P w = .ok (.pointer e) w):(Op.equal t (.pointer p) (.pointer none)).run P w = .ok p.isNone w:=aEb (m:=9999) ht
theorem aGl {s:Sl} {e:TypeId} (ht:∀ w,(underlying t).run P w = .ok (.slice e) w):(Op.equal t s.v (.slice none 0 0)).run P w = .ok s.p.isNone w:=aEB (m:=9999) ht
theorem aBS {b c:Bool} (ht:∀ w,(underlying t).run P w = .ok .bool w):(Op.equal t (.bool b) (.bool c)).run P w = .ok (b==c) w:=aCi (m:=9999) ht
theorem aGj {b c:Bool} (ha:Has n L a) (hx:evO L x=some (.bool b)) (hy:evO L y=some (.bool c)) (ht:∀ w,(underlying t).run P w = .ok .bool w):fA P ⟨d,.binOp .eql t x y t2,ty,pos,af,g⟩ a w (.bool (b==c)) w:=by
 refine cP ?_;simp only[execOp,ha.ev hx,ha.ev hy,eqGuard,binOp,Sem.run_bind,aBS ht];rfl
theorem aGn {b c:Bool} (ha:Has n L a) (hx:evO L x=some (.bool b)) (hy:evO L y=some (.bool c)) (ht:∀ w,(underlying t).run P w = .ok .bool w):fA P ⟨d,.binOp .neq t x y t2,ty,pos,af,g⟩ a w (.bool (b !=c)) w:=by
 refine cP ?_;simp only[execOp,ha.ev hx,ha.ev hy,eqGuard,binOp,Sem.run_bind,aBS ht];rfl
theorem jJ {p:Option Addr} {e:TypeId} (ha:Has n L a) (hx:evO L x=some (.pointer p)) (hy:evO L y=some (.pointer none)) (ht:∀ w,(underlying t).run P w = .ok (.pointer e) w):fA P ⟨d,.binOp .eql t x y t2,ty,pos,af,g⟩ a w (.bool p.isNone) w:=by
 refine cP ?_;simp only[execOp,ha.ev hx,ha.ev hy,eqGuard,binOp,Sem.run_bind,aDq ht];rfl
theorem aFt {p:Option Addr} {e:TypeId} (ha:Has n L a) (hx:evO L x=some (.pointer p)) (hy:evO L y=some (.pointer none)) (ht:∀ w,(underlying t).run P w = .ok (.pointer e) w):fA P ⟨d,.binOp .neq t x y t2,ty,pos,af,g⟩ a w (.bool (!p.isNone)) w:=by
 refine cP ?_;simp only[execOp,ha.ev hx,ha.ev hy,eqGuard,binOp,Sem.run_bind,aDq ht];rfl
theorem aFi {s:Sl} {e:TypeId} (ha:Has n L a) (hx:evO L x=some s.v) (hy:evO L y=some (.slice none 0 0)) (ht:∀ w,(underlying t).run P w = .ok (.slice e) w):fA P ⟨d,.binOp .eql t x y t2,ty,pos,af,g⟩ a w (.bool s.p.isNone) w:=by
 refine cP ?_;have h:=aGl (P:=P) (w:=w) (s:=s) ht;simp only[Sl.v] at h;simp only[execOp,ha.ev hx,ha.ev hy,Sl.v,eqGuard,binOp];simp[h]
def sEq (s u:ByteArray):Bool:=s.toList==u.toList
theorem wX {s u:ByteArray} (ha:Has n L a) (hx:evO L x=some (.string s)) (hy:evO L y=some (.string u)):fA P ⟨d,.binOp .neq t x y t2,ty,pos,af,g⟩ a w (.bool (!sEq s u)) w :=
 cP (by simp[execOp,ha.ev hx,ha.ev hy,eqGuard,binOp,Op.stringOp,sEq])
theorem pR {b:Bool} (ha:Has n L a) (hx:evO L x=some (.bool b)):fA P ⟨d,.unOp .not t x,ty,pos,af,g⟩ a w (.bool (!b)) w :=
 cP (by simp[execOp,ha.ev hx,Op.unary])
theorem aW {vs:Array Value} {v:Value} {q:Nat} (ha:Has n L a) (hx:evO L x=some (.tuple vs)) (hv:vs[q]?=some v):fA P ⟨d,.extract x q,ty,pos,af,g⟩ a w v w :=
 cP (by simp[execOp,ha.ev hx,Instr.extract,hv])
def mxI (x y:Int):Int:=if y>x then y else x
def mnI (x y:Int):Int:=if y<x then y else x
theorem aFh {ts:Array TypeId} (ha:Has n L a) (hx:evO L x=some (.int k i)) (hy:evO L y=some (.int k j)):fA P ⟨d,.call { callee:=.builtin .max,args:=#[x,y],argTypes:=ts },ty,pos,af,g⟩ a w (.int k (mxI i j)) w :=
 cP (by simp[execOp,resolve,invoke,builtin,ha.ev hx,ha.ev hy,run_max_int2,mxI])
theorem aGx {ts:Array TypeId} (ha:Has n L a) (hx:evO L x=some (.int k i)) (hy:evO L y=some (.int k j)):fA P ⟨d,.call { callee:=.builtin .min,args:=#[x,y],argTypes:=ts },ty,pos,af,g⟩ a w (.int k (mnI i j)) w :=
 cP (by simp[execOp,resolve,invoke,builtin,ha.ev hx,ha.ev hy,run_min_int2,mnI])
end
def evs (L:List (Nat×Value)):List Operand->List Value->Prop
 | [],[]=>True
 | x::xs,v::vs=>evO L x=some v/\evs L xs vs
 | _,_=>False
theorem qT (ha:Has n L a):∀ {xs:List Operand} {vs:List Value},evs L xs vs->xs.map a.eval=vs
 | [],[],_=>rfl
 | x::xs,v::vs,h=>by simp[ha.ev h.1,qT ha h.2]
theorem mO {d ty pos af g f} {xs:List Operand} {ts:Array TypeId} {vs:List Value} {v:Value} (ha:Has n L a) (hx:evs L xs vs) (hf:∀ (args:Array Value) (w:World),(callFunc f args).run P w = .ok (.enter f args) w)
  (h:Calls P f vs.toArray w fun e w''=>e = .returned v/\w''=w'):fA P ⟨d,.call { callee:=.value (.func f),args:=xs.toArray,argTypes:=ts },ty,pos,af,g⟩ a w v w':=by
 refine aDa (w1:=w) (f:=f) (args:=vs.toArray) ?_ h;simp[execOp,resolve,Deferred.ofValue,invoke,Act.eval,hf];have:=qT ha hx;exact this
section
variable {fn : Func} {R : Ending -> World -> Prop} {e : Exit}
theorem aCp (hr:fn.results=#[]) (ha:Has n L a) (hR:R (.returned (.tuple #[])) w):bodyPost P fn R .normal a w :=
 ⟨ha.d,_,by simp[results,hr],hR⟩
theorem bI {t:Nat} {v:Value} (hr:fn.results=#[.tmp t]) (ha:Has n L a) (hv:L.lookup t=some v) (hR:R (.returned v) w):bodyPost P fn R .ret a w :=
 ⟨ha.d,_,by simp[results,hr,ha.l t v hv],hR⟩
theorem jA {t u:Nat} {v v2:Value} (hr:fn.results=#[.tmp t,.tmp u]) (ha:Has n L a) (hv:L.lookup t=some v) (hv2:L.lookup u=some v2) (hR:R (.returned (.tuple #[v,v2])) w):bodyPost P fn R .ret a w :=
 ⟨ha.d,_,by simp[results,hr,ha.l t v hv,ha.l u v2 hv2],hR⟩
theorem oE {t u t3:Nat} {v v2 v3:Value} (hr:fn.results=#[.tmp t,.tmp u,.tmp t3]) (ha:Has n L a) (hv:L.lookup t=some v) (hv2:L.lookup u=some v2) (hv3:L.lookup t3=some v3) (hR:R (.returned (.tuple #[v,v2,v3])) w):bodyPost P fn R .ret a w :=
 ⟨ha.d,_,by simp[results,hr,ha.l t v hv,ha.l u v2 hv2,ha.l t3 v3 hv3],hR⟩
end
end
section
variable {P : Program} {n : Nat} {L : List (Nat × Value)} {a : Act} {w w' : World}
def evp (L:List (Nat×Value)):List (Nat×Operand)->List (Nat×Value)->Prop
 | [],[]=>True
 | (i,x)::xs,(j,v)::vs=>i=j/\evO L x=some v/\evp L xs vs
 | _,_=>False
theorem yA (ha:Has n L a):∀ {xs:List (Nat×Operand)} {vs:List (Nat×Value)},evp L xs vs->(xs.map fun (i,x)=>(i,a.eval x))=vs
 | [],[],_=>rfl
 | (i,x)::xs,(j,v)::vs,h=>by
  obtain⟨rfl,h1,h2⟩:=h;simp[ha.ev h1,yA ha h2]
theorem dZ {d ty pos af g t} {xs:List (Nat×Operand)} {vs:List (Nat×Value)} {z:Value} {fs:Array Field} {pl:Array (Nat×Nat)} {cs:List Value} (ha:Has n L a) (hx:evp L xs vs) (hz:∀ w,(zeroValue t).run P w = .ok z w) (ht:∀ w,(underlying t).run P w = .ok (.struct fs) w)
  (hp:∀ w,((fs.mapM fun f=>do pure (f.offset,<-sizeOf f.type)):Sem (Array (Nat×Nat))).run P w = .ok pl w) (hf:Instr.fill (pl[·]?) z.cells vs=some cs.toArray) :
  fA P ⟨d,.build t xs.toArray,ty,pos,af,g⟩ a w (.agg cs.toArray) w:=by
 refine cP ?_;have e:(xs.toArray.map fun (i,x)=>(i,a.eval x))=vs.toArray:=by rw[<-yA ha hx];simp
 simp only[execOp,e,Instr.build,Sem.run_bind,hz,Result.andThen_ok,ht,hp,hf,Sem.run_pure]
def bsl (w:World) (e:TypeId) (sz:Nat) (ps:List (List Value)):Option (Sl×World) :=
 if (ps.all fun p=>p.length==sz)=true then some (⟨some ⟨w.heap.size,0,none⟩,ps.length,ps.length⟩,w.alloc (.cells ps.flatten.toArray e)) else none
def aAP:Nat->List (List Value)->List (Nat×Value)->Prop
 | _,[],[]=>True
 | i,p::ps,(j,v)::vs=>i=j/\v.cells=p.toArray/\aAP (i+1) ps vs
 | _,_,_=>False
theorem aCJ (p:List Value):∀ (k:Nat) (c:Array Value) (off:Nat),off+k+p.length<=c.size ->
  ((p.zipIdx k).foldl (fun cs (x,j)=>cs.setIfInBounds (off+j) x) c).toList=c.toList.take (off+k)++p++c.toList.drop (off+k+p.length):=by
 induction p with
 | nil=>intro k c off h;simp
 | cons x p ih =>
  intro k c off h;simp only[aIH] at h;simp only[List.zipIdx_cons,aJn];rw[ih (k+1) _ off (by simp;omega)];simp only[aKT,aIH];have h1:off+k<c.toList.length:=by simp;omega
  rw[show off+(k+1)=off+k+1 by omega,aJD (by simpa using h1),List.take_set_of_le (by omega)];rw[List.drop_set_of_lt (by omega)];simp[List.getElem_set];omega
theorem wI (sz:Nat):∀ (ps:List (List Value)) (vs:List (Nat×Value)) (i:Nat) (c:Array Value),aAP i ps vs->(∀ p∈ps,p.length=sz)->c.size=(i+ps.length)*sz ->
  ∃ c',Instr.fill (fun i=>some (i*sz,sz)) c vs=some c'/\c'.toList=c.toList.take (i*sz)++ps.flatten
 | [],[],i,c,_,_,hc=>⟨c,rfl,by simp at hc;simp[aIB (show c.toList.length<=i*sz by simp;omega)]⟩
 | p::ps,(j,v)::vs,i,c,h,hl,hc=>by
  obtain⟨rfl,h1,h2⟩:=h;have hp:=hl p (by simp);have hs:i*sz+sz<=c.size:=by
   rw[hc,<-aJg];exact aIJ _ (by simp)
  have hvs:v.cells.size=sz:=by rw[h1];simpa using hp
  simp only[Instr.fill];rw[if_neg (by rw[hvs];simp only[ne_eq,not_true_eq_false,decide_false,Bool.false_or,decide_eq_true_eq,Nat.not_lt,gt_iff_lt];first | omega | (simp;omega))];have hfold:=aCJ p 0 c (i*sz) (by omega);have e:v.cells.zipIdx.foldl (fun cs (x,j)=>cs.setIfInBounds (i*sz+j) x) c=(p.zipIdx 0).foldl (fun cs (x,j)=>cs.setIfInBounds (i*sz+j) x) c:=by
   rw[h1];simp
  rw[e];obtain⟨c',h3,h4⟩:=wI sz ps vs (i+1) _ h2 (fun q hq=>hl q (by simp[hq])) (by
   rw[<-Array.length_toList,hfold];simp only[aIE,aIN,aIY,Array.length_toList,hp,aJs];have h5:c.size=(i+1+ps.length)*sz:=by rw[hc,aIH];congr 1;omega
   omega)
  refine⟨c',h3,?_⟩;rw[h4,hfold,aJg];simp only[aJs,hp,aKI];rw[aJx (by simp;omega),aIB (by simp;omega)];simp
 | [],_::_,_,_,h,_,_=>h.elim
 | _::_,[],_,_,h,_,_=>h.elim
theorem iK {d ty pos af g t e sz len} {xs:List (Nat×Operand)} {vs:List (Nat×Value)} {ps:List (List Value)} {s:Sl} {z:Value} (ha:Has n L a) (hx:evp L xs vs) (hp:aAP 0 ps vs) (hl:len=ps.length) (ht:∀ w,(underlying t).run P w = .ok (.slice e) w)
  (hz:∀ w,(sizeOf e).run P w = .ok sz w) (hzv:∀ w,(zeroValue e).run P w = .ok z w) (hsm:len*sz<=16777216) (h:bsl w e sz ps=some (s,w')) :
  fA P ⟨d,.buildSlice t len xs.toArray,ty,pos,af,g⟩ a w s.v w':=by
 subst hl;unfold bsl at h;split at h
 .rename_i hc;cases h;have hps:∀ p∈ps,p.length=sz:=fun p hp'=>by simpa using aIw.1 hc p hp'
  obtain⟨c',h1,h2⟩:=wI sz ps vs 0 ((Array.range (ps.length*sz)).map ((if ps.length*sz=0 then #[] else z.cells)[· % (if ps.length*sz=0 then #[] else z.cells).size]!)) hp hps (by simp);have e':(xs.toArray.map fun (i,x)=>(i,a.eval x)).toList=vs:=by rw[<-yA ha hx];simp
  have hc':c'=ps.flatten.toArray:=by apply Array.ext';rw[h2];simp
  refine cP ?_;have hb:¬ ps.length*sz>2 ^ 24:=by omega
  simp only[execOp,Instr.buildSlice,Sem.run_bind,ht,Result.andThen_ok,hz,e',Sl.v];rw[if_neg hb];by_cases h0:ps.length*sz=0
  .simp only[h0,if_true] at h1 ⊢;simp only[Sem.run_pure,Result.andThen_ok,h1,Sem.run_bind,newRow,run_newObj,World.alloc_eq,hc']
  simp only[h0,if_false] at h1 ⊢;simp only[Sem.run_bind,hzv,Sem.run_pure,Result.andThen_ok,h1,newRow,run_newObj,World.alloc_eq,hc']
 cases h
end
structure OpD where
 o:Oper
 v:Value
 e:Bool
 lo:Nat
 hi:Nat
 cl:List Nat
 li:List (Nat×Value)
abbrev aS {o:Oper} (v:Value) (w:Nat) (k:List Nat) (n:Nat):OpD:=⟨o,v,false,w,w,k,[(n,v)]⟩
abbrev aG {o:Oper} (v:Value) (w:Nat) (k:List Nat) (n:Nat) (x:Value):OpD:=⟨o,v,false,w,w,k,[(n,x)]⟩
abbrev aT {o:Oper} (v:Value) (w:Nat) (k:List Nat) (r:List (Nat×Value)):OpD:=⟨o,v,false,w,w,k,r⟩
abbrev aI {o:Oper} (v:Value) (e:Bool) (a b:Nat) (k:List Nat) (r:List (Nat×Value)):OpD:=⟨o,v,e,a,b,k,r⟩
def jS:List OpD->Nat->(Nat->Bool)->List (Nat×Value)->List (Nat×Value)
 | [],_,_,L=>L
 | d::ds,i,S,L=>jS ds (i+1) S (if S i=true then upd d.o.dst d.v L else L)
def nW:List OpD->Nat->(Nat->Bool)->Nat->Option Value
 | [],_,_,_=>none
 | d::ds,i,S,t=>match nW ds (i+1) S t with
  | some v=>some v
  | none=>if S i=true/\d.o.dst=some t then some d.v else none
theorem qP {dst:Option Nat} {v:Value} {L:List (Nat×Value)} {t:Nat}:(upd dst v L).lookup t=if dst=some t then some v else L.lookup t:=by
 cases dst with
 | none=>simp[upd]
 | some d =>
  simp only[upd,aKg];by_cases h:t=d
  .subst h;simp
  have e:(t==d)=false:=by simpa using h
  rw[e];simp[Ne.symm h]
theorem lT {t:Nat}:∀ (ds:List OpD) (i:Nat) (S:Nat->Bool) (L:List (Nat×Value)),(jS ds i S L).lookup t=(nW ds i S t).or (L.lookup t)
 | [],_,_,_=>by simp[jS,nW]
 | d::ds,i,S,L=>by
  rw[jS,lT ds (i+1) S,nW]
  cases h:nW ds (i+1) S t with
  | some v=>simp
  | none =>
   simp only[Option.none_or];by_cases hs:S i=true
   .rw[if_pos hs,qP];by_cases hd:d.o.dst=some t<;>simp[hs,hd]
   rw[if_neg hs];simp[hs]
theorem lV {t:Nat} {S S':Nat->Bool}:∀ (ds:List OpD) (i:Nat),(∀ k d,ds[k]?=some d->d.o.dst=some t->S (i+k)=S' (i+k))->nW ds i S t=nW ds i S' t
 | [],_,_=>rfl
 | d::ds,i,h=>by
  have h1:nW ds (i+1) S t=nW ds (i+1) S' t:=lV ds (i+1) (fun k d' hk hd=>by have:=h (k+1) d' (by simpa using hk) hd;rwa[show i+(k+1)=i+1+k by omega] at this);simp only[nW,h1];by_cases hd:d.o.dst=some t
  .have:=h 0 d rfl hd;simp only[aJs] at this;rw[this]
  simp[hd]
theorem tN {t:Nat} {S:Nat->Bool}:∀ (ds:List OpD) (i k:Nat) (d:OpD),ds[k]?=some d->d.o.dst=some t->S (i+k)=true->(∀ k' d',k<k'->ds[k']?=some d'->d'.o.dst=some t->S (i+k')=false)->nW ds i S t=some d.v
 | [],_,_,_,h,_,_,_=>by simp at h
 | d0::ds,i,0,d,hk,hd,hs,hn=>by
  simp at hk;subst hk;have h1:nW ds (i+1) S t=none:=by
   have:nW ds (i+1) S t=nW ds (i+1) (fun _=>false) t:=lV ds (i+1) fun k' d' h1 h2=>by
    have:=hn (k'+1) d' (by omega) (by simpa using h1) h2;rwa[show i+(k'+1)=i+1+k' by omega] at this
   rw[this];clear this hn hd hs;generalize i+1=m
   induction ds generalizing m with
   | nil=>rfl
   | cons x xs ih=>simp[nW,ih]
  simp only[aJs] at hs;simp[nW,h1,hd,hs]
 | d0::ds,i,k+1,d,hk,hd,hs,hn=>by
  have h1:=tN (t:=t) (S:=S) ds (i+1) k d (by simpa using hk) hd (by rwa[show i+(k+1)=i+1+k by omega] at hs) (fun k' d' h1 h2 h3=>by
   have:=hn (k'+1) d' (by omega) (by simpa using h2) h3;rwa[show i+(k'+1)=i+1+k' by omega] at this)
  simp[nW,h1]
def cnt:List OpD->Nat->(Nat->Bool)->Nat
 | [],_,_=>0
 | d::ds,i,S=>(if S i=true/\d.e=true then 1 else 0)+cnt ds (i+1) S
theorem qM {S S':Nat->Bool}:∀ (ds:List OpD) (i:Nat),(∀ k d,ds[k]?=some d->d.e=true->S (i+k)=true->S' (i+k)=true)->cnt ds i S<=cnt ds i S'
 | [],_,_=>aIv _
 | d::ds,i,h=>by
  have h1:=qM ds (i+1) (fun k d' hk hd hs=>by have:=h (k+1) d' (by simpa using hk) hd (by rwa[show i+(k+1)=i+1+k by omega]);rwa[show i+(k+1)=i+1+k by omega] at this);simp only[cnt];have h0:=h 0 d rfl;simp only[aJs] at h0;by_cases hs:S i=true/\d.e=true
  .rw[if_pos hs,if_pos ⟨h0 hs.2 hs.1,hs.2⟩];omega
  rw[if_neg hs];omega
def kT (S:Nat->Bool) (i:Nat):Nat->Bool:=fun k=>if k=i then true else S k
theorem vA {S:Nat->Bool} {j:Nat}:∀ (ds:List OpD) (i k:Nat) (d:OpD),ds[k]?=some d->j=i+k->S j=false->cnt ds i (kT S j)=cnt ds i S+(if d.e=true then 1 else 0)
 | [],_,_,_,h,_,_=>by simp at h
 | d0::ds,i,0,d,hk,hj,hs=>by
  simp at hk;subst hk;simp only[aJs] at hj;subst hj;have:cnt ds (j+1) (kT S j)=cnt ds (j+1) S:=by
   apply Nat.le_antisymm
   .exact qM ds (j+1) fun k d h1 h2 h3=>by simp only[kT] at h3;rwa[if_neg (by omega)] at h3
   exact qM ds (j+1) fun k d h1 h2 h3=>by simp only[kT];rwa[if_neg (by omega)]
  simp only[cnt,this];simp[kT,hs];omega
 | d0::ds,i,k+1,d,hk,hj,hs=>by
  have:=vA (S:=S) ds (i+1) k d (by simpa using hk) (by omega) hs;have e:kT S j i=S i:=by simp only[kT];rw[if_neg (by omega)]
  simp only[cnt,this,e];omega
theorem aDH {S S':Nat->Bool} (ds:List OpD) (i:Nat) (h:∀ k,k<ds.length->S (i+k)=S' (i+k)):cnt ds i S=cnt ds i S':=by
 have hk:∀ (k:Nat) (d:OpD),ds[k]?=some d->k<ds.length:=fun k d h=>(aIt.1 h).1;apply Nat.le_antisymm
 .exact qM ds i fun k d h1 _ h3=>(h k (hk k d h1)) ▸ h3
 exact qM ds i fun k d h1 _ h3=>(h k (hk k d h1)).symm ▸ h3
def aEG (ds:List OpD):Bool:=ds.zipIdx.all fun (d,i)=>d.cl.all fun k=>d.o.after.toList.any fun e=>Region.binds .any e&&decide (e.on<i)&&(k==e.on||((ds[e.on]?).any fun d'=>d'.cl.contains k))
def aAB (ds:List OpD):Bool:=ds.zipIdx.all fun (d,i)=>d.o.dst.all fun t=>ds.zipIdx.all fun (d',k)=>!(decide (i<k))||d'.o.dst !=some t||d'.cl.contains i
def aEv (ds:List OpD):Bool:=ds.zipIdx.all fun (d,i)=>d.li.all fun (t,_)=>ds.zipIdx.all fun (d',k)=>k==i||d'.o.dst !=some t||(decide (k<i)&&d.cl.contains k)||(decide (i<k)&&d'.cl.contains i)
def aFm (ds:List OpD):Bool:=ds.zipIdx.all fun (d,i) =>
 decide (d.lo<=cnt ds 0 fun k=>d.cl.contains k)&&decide ((cnt ds 0 fun k=>k !=i&&!((ds[k]?).any fun d'=>d'.cl.contains i))<=d.hi)
def yZ (ds:List OpD):Bool:=ds.zipIdx.all fun (d,i)=>d.o.after.toList.all fun e=>!Region.binds .any e||decide (e.on<i)
def aAq (ds:List OpD):Bool:=aEG ds&&aAB ds&&aEv ds&&aFm ds&&yZ ds
section
variable {P : Program} {n : Nat} {L0 : List (Nat × Value)} {Q : Exit -> Act -> World -> Prop}
def pJ (P:Program) (n:Nat) (ops:Array Oper) (o:Oper) (li:List (Nat×Value)) (v:Value) (w w':World):Prop :=
 ∀ a,Has n li a->∀ (K:Act->World->Prop) (Q:Exit->Act->World->Prop),K (a.put o.dst v) w'->if Region.wanted o (yielded ops a.tmps) then o.wp P a w K Q else K (a.put o.dst undef) w
theorem aFp {ops:Array Oper} {o:Oper} {li:List (Nat×Value)} {v:Value} {w w':World} (hg:o.guard=none) (h:∀ a,Has n li a->fA P o a w v w'):pJ P n ops o li v w w':=fun a ha K Q hk=>by
 rw[if_pos (by simp[Region.wanted,hg])];exact h a ha K Q hk
theorem aBF {ops:Array Oper} {o:Oper} {li:List (Nat×Value)} {v:Value} {w w':World} {j t:Nat} {b c:Bool} (hg:o.guard=some (j,c)) (hj:(ops[j]?).bind (·.dst)=some t) (ht:li.lookup t=some (.bool b)) (hbc:b=c)
  (h:∀ a,Has n li a->fA P o a w v w'):pJ P n ops o li v w w':=fun a ha K Q hk=>by
 rw[if_pos (by simp[Region.wanted,hg,oX hj ha ht,hbc])];exact h a ha K Q hk
theorem aEN {ops:Array Oper} {o:Oper} {li:List (Nat×Value)} {w:World} {j t:Nat} {b c:Bool} (hg:o.guard=some (j,c)) (hj:(ops[j]?).bind (·.dst)=some t) (ht:li.lookup t=some (.bool b)) (hbc:b≠c) :
  pJ P n ops o li undef w w:=fun a ha K Q hk=>by
 rw[if_neg (by simp[Region.wanted,hg,oX hj ha ht,hbc])];exact hk
def Obl (P:Program) (n:Nat) (ops:Array Oper) (W:Nat->World):List OpD->Prop
 | []=>True
 | d::ds=>(∀ j,d.lo<=j->j<=d.hi->pJ P n ops d.o d.li d.v (W j) (W (j+if d.e=true then 1 else 0)))/\Obl P n ops W ds
theorem Obl.get {ops:Array Oper} {W:Nat->World}:∀ {ds:List OpD},Obl P n ops W ds->∀ {i:Nat} {d:OpD},ds[i]?=some d->∀ j,d.lo<=j->j<=d.hi->pJ P n ops d.o d.li d.v (W j) (W (j+if d.e=true then 1 else 0))
 | [],_,_,_,h=>by simp at h
 | _::_,h,0,_,hd=>by simp at hd;subst hd;exact h.1
 | _::_,h,i+1,_,hd=>h.2.get (by simpa using hd)
def mJ:List OpD->List (Nat×Value)->Prop
 | [],_=>True
 | d::ds,L=>aBo L d.li/\mJ ds (upd d.o.dst d.v L)
theorem aBo.look {L M:List (Nat×Value)} (h:aBo L M) {t:Nat} {v:Value} (hv:M.lookup t=some v):L.lookup t=some v:=by
 induction M with
 | nil=>cases hv
 | cons p M ih =>
  obtain⟨j,u⟩:=p;rw[aKg] at hv;by_cases e:t=j
  .subst e;simp at hv;subst hv;exact h.1
  have e1:(t==j)=false:=by simpa using e
  rw[e1] at hv;exact ih h.2 hv
theorem sJ {M:List (Nat×Value)} {t:Nat} {v:Value} (hv:M.lookup t=some v):∃ u,(t,u)∈M:=by
 induction M with
 | nil=>cases hv
 | cons p M ih =>
  obtain⟨j,u⟩:=p;rw[aKg] at hv;by_cases e:t=j
  .subst e;exact⟨u,by simp⟩
  have e1:(t==j)=false:=by simpa using e
  rw[e1] at hv;obtain⟨u',hu⟩:=ih hv;exact⟨u',by simp[hu]⟩
theorem mJ.get:∀ {ds:List OpD} {L:List (Nat×Value)} (b:Nat),mJ ds L->∀ {i:Nat} {d:OpD},ds[i]?=some d->aBo (jS ds b (fun k=>decide (k<b+i)) L) d.li
 | [],_,_,_,_,_,h=>by simp at h
 | d0::ds,L,b,h,0,d,hd=>by
  simp at hd;subst hd;have:jS (d0::ds) b (fun k=>decide (k<b+0)) L=L:=by
   have key:∀ (ds:List OpD) (m:Nat),b<=m->jS ds m (fun k=>decide (k<b+0)) L=L:=by
    intro ds
    induction ds with
    | nil=>intro m _;rfl
    | cons x xs ih=>intro m hm;simp only[jS];rw[if_neg (by simp;omega)];exact ih _ (by omega)
   exact key _ _ (aIv _)
  rw[this];exact h.1
 | d0::ds,L,b,h,i+1,d,hd=>by
  have:=mJ.get (b+1) h.2 (i:=i) (d:=d) (by simpa using hd);rw[jS,if_pos (by simp)];rwa[show b+1+i=b+(i+1) by omega] at this
theorem aBb {ds:List OpD} {W:Nat->World} (hok:aAq ds=true) (hO:Obl P n (ds.map (·.o)).toArray W ds) (hR:mJ ds L0) (hd:∀ (i:Nat) (d:OpD) (t:Nat),ds[i]?=some d->d.o.dst=some t->t<n)
  (hQ:∀ a,Has n (jS ds 0 (fun _=>true) L0) a->Q .normal a (W (cnt ds 0 fun _=>true))) :
  ∀ (fuel:Nat) (listed:Array Bool) (a:Act),listed.size=ds.length ->
   (∀ (i:Nat) (d:OpD),ds[i]?=some d->listed.getD i false=true->∀ e∈d.o.after.toList,Region.binds .any e=true->listed.getD e.on false=true) ->
   Has n (jS ds 0 (fun k=>listed.getD k false) L0) a->fuel=((List.range ds.length).filter fun i=>!listed.getD i false).length ->
   wpAny P .any (ds.map (·.o)).toArray Q fuel listed a (W (cnt ds 0 fun k=>listed.getD k false)):=by
 simp only[aAq,aIz] at hok;obtain⟨⟨⟨⟨hcl,hds⟩,hli⟩,hrg⟩,hed⟩:=hok;have zi:∀ (i:Nat) (d:OpD),ds[i]?=some d->(d,i)∈ds.zipIdx:=fun i d h=>aIR.2 h;have hed':∀ (i:Nat) (d:OpD),ds[i]?=some d->∀ e∈d.o.after.toList,Region.binds .any e=true->e.on<i:=fun i d h e he hb=>by
  have:=aIw.1 (aIw.1 hed _ (zi i d h)) e he;simpa[hb] using this
 have hcl':∀ (i:Nat) (d:OpD),ds[i]?=some d->∀ k∈d.cl,∃ e∈d.o.after.toList,Region.binds .any e=true/\e.on<i/\(k=e.on\/∃ d',ds[e.on]?=some d'/\k∈d'.cl):=fun i d h k hk=>by
  have:=aIw.1 (aIw.1 hcl _ (zi i d h)) k hk;obtain⟨e,he,hx⟩:=aJN.1 this;simp only[aIz,decide_eq_true_eq,aJc,beq_iff_eq,aKW,aJl] at hx;exact⟨e,he,hx.1.1,hx.1.2,hx.2⟩
 have hds':∀ (i k:Nat) (d d':OpD) (t:Nat),ds[i]?=some d->ds[k]?=some d'->i<k->d.o.dst=some t->d'.o.dst=some t->i∈d'.cl:=fun i k d d' t h h' hik ht ht'=>by
  have:=aIw.1 hds _ (zi i d h);simp only[ht,aLk] at this;have:=aIw.1 this _ (zi k d' h');simpa[hik,ht'] using this
 have hli':∀ (i k:Nat) (d d':OpD) (t:Nat) (u:Value),ds[i]?=some d->ds[k]?=some d'->(t,u)∈d.li->d'.o.dst=some t->k=i\/(k<i/\k∈d.cl)\/(i<k/\i∈d'.cl):=fun i k d d' t u h h' ht ht'=>by
  have:=aIw.1 (aIw.1 (aIw.1 hli _ (zi i d h)) _ ht) _ (zi k d' h');simp only[ht',bne_self_eq_false,aLu,aJc,beq_iff_eq,aIz,decide_eq_true_eq,aJl] at this;rcases this with(h1 | h1) | h1
  .exact .inl h1
  .exact .inr (.inl h1)
  exact .inr (.inr h1)
 have hrg':∀ (i:Nat) (d:OpD),ds[i]?=some d->d.lo<=(cnt ds 0 fun k=>d.cl.contains k)/\(cnt ds 0 fun k=>k !=i&&!((ds[k]?).any fun d'=>d'.cl.contains i))<=d.hi:=fun i d h=>by
  have:=aIw.1 hrg _ (zi i d h);simpa using this
 -- what lies ahead of a listed one is listed
 have closed:∀ (listed:Array Bool),(∀ (i:Nat) (d:OpD),ds[i]?=some d->listed.getD i false=true->∀ e∈d.o.after.toList,Region.binds .any e=true->listed.getD e.on false=true) ->
   ∀ (i:Nat) (d:OpD),ds[i]?=some d->(∀ e∈d.o.after.toList,Region.binds .any e=true->listed.getD e.on false=true)->∀ k∈d.cl,listed.getD k false=true:=by
  intro listed hc i
  induction i using Nat.strongRecOn with
  | _ i ih =>
   intro d hd0 he k hk;obtain⟨e,he1,he2,he3,he4⟩:=hcl' i d hd0 k hk;rcases he4 with rfl | ⟨d',hd',hk'⟩
   .exact he e he1 he2
   exact ih e.on he3 d' hd' (hc e.on d' hd' (he e he1 he2)) k hk'
 have opsAt:∀ (i:Nat),(ds.map fun d=>d.o).toArray[i]?=(ds[i]?).map (fun d:OpD=>d.o):=fun i=>by simp
 intro fuel
 induction fuel with
 | zero =>
  intro listed a hsz hc ha hf;have hall:∀ k,k<ds.length->listed.getD k false=true:=fun k hk=>by
   cases h:listed.getD k false with
   | true=>rfl
   | false =>
    have:k∈(List.range ds.length).filter fun i=>!listed.getD i false:=by simp[hk];simpa using h
    rw[aIA hf.symm] at this;cases this
  have e1:jS ds 0 (fun k=>listed.getD k false) L0=jS ds 0 (fun _=>true) L0:=by
   have key:∀ (l:List OpD) (m:Nat) (L:List (Nat×Value)),m+l.length<=ds.length->jS l m (fun k=>listed.getD k false) L=jS l m (fun _=>true) L:=by
    intro l
    induction l with
    | nil=>intro m L _;rfl
    | cons x xs ih=>intro m L hm;simp only[jS];simp only[aIH] at hm;rw[if_pos (hall m (by omega)),if_pos trivial];exact ih _ _ (by omega)
   exact key ds 0 L0 (by omega)
  have e2:(cnt ds 0 fun k=>listed.getD k false)=cnt ds 0 fun _=>true:=aDH ds 0 fun k hk=>by simpa using hall k hk
  rw[e2];refine⟨?_,hQ a (e1 ▸ ha)⟩;unfold Region.ready;rw[aJF];intro i hi;simp at hi;have:=hall i hi;simp only[aIC] at this ⊢;have h3:listed[i]?=some true:=by
   cases h4:listed[i]? with
   | none=>simp[h4] at this
   | some b=>simpa[h4] using this
  simp[h3]
 | succ fuel ih =>
  intro listed a hsz hc ha hf;have some_ready:Region.ready .any (ds.map (·.o)).toArray listed≠[]:=by
   have hne:((List.range ds.length).filter fun i=>!listed.getD i false)≠[]:=fun h=>by rw[h] at hf;cases hf
   obtain⟨x,hx⟩:=aJv _ hne;have hx':x<ds.length/\listed.getD x false=false:=by simpa using hx
   have hmin:∃ m,(m<ds.length/\listed.getD m false=false)/\∀ k,k<m->¬ (k<ds.length/\listed.getD k false=false):=by
    clear hx hf hne
    induction x using Nat.strongRecOn with
    | _ x ihx =>
     by_cases h:∃ k,k<x/\(k<ds.length/\listed.getD k false=false)
     .obtain⟨k,hk,hk'⟩:=h;exact ihx k hk hk'
     exact⟨x,hx',fun k hk hk'=>h ⟨k,hk,hk'⟩⟩
   obtain⟨m,⟨hm1,hm2⟩,hm3⟩:=hmin;intro hr;have:m∈Region.ready .any (ds.map (·.o)).toArray listed:=by
    unfold Region.ready;simp only[aJd,aIO,aIz,aIW];have hl:listed[m]?=some false:=by
     have h4:m<listed.size:=by omega
     simp only[aIC] at hm2;simpa[h4] using hm2
    refine⟨by simpa using hm1,by simp[hl],?_⟩;rw[opsAt];obtain⟨d,hd0⟩:∃ d,ds[m]?=some d:=⟨_,aIs hm1⟩;rw[hd0];simp only[aIT,aJb];rw[<-aKh,aIw];intro e he;by_cases hb:Region.binds .any e=true
    .have h5:=hed' m d hd0 e he hb;have h6:listed.getD e.on false=true:=by
      cases h7:listed.getD e.on false with
      | true=>rfl
      | false=>exact(hm3 e.on h5 ⟨by omega,h7⟩).elim
     simp[h6]
    simp at hb;simp[hb]
   rw[hr] at this;cases this
  refine⟨fun h=>(some_ready h).elim,fun i hi=>?_⟩;unfold Region.ready at hi;simp only[aJd,aIO,aIz,aIW] at hi;obtain⟨hi1,hi2,hi3⟩:=hi;have hi1':i<ds.length:=by simpa using hi1
  obtain⟨d,hd0⟩:∃ d,ds[i]?=some d:=⟨_,aIs hi1'⟩;have hun:listed.getD i false=false:=by
   have h4:i<listed.size:=by omega
   simp only[aIC] at hi2 ⊢;simpa[h4] using hi2
  rw[opsAt,hd0] at hi3;simp only[aIT,aJb] at hi3;rw[<-aKh,aIw] at hi3;have hed2:∀ e∈d.o.after.toList,Region.binds .any e=true->listed.getD e.on false=true:=fun e he hb=>by
   have:=hi3 e he;simpa[hb] using this
  have hcl2:=closed listed hc i d hd0 hed2;have notl:∀ k (d':OpD),ds[k]?=some d'->i∈d'.cl->listed.getD k false=false:=fun k d' hk hik=>by
   cases h:listed.getD k false with
   | false=>rfl
   | true =>
    have:=closed listed hc k d' hk (hc k d' hk h) i hik;rw[hun] at this;cases this
  have hj1:d.lo<=cnt ds 0 fun k=>listed.getD k false:=aJe (hrg' i d hd0).1 (qM ds 0 fun k d' h1 h2 h3=>by
   simp only[aLy] at h3 ⊢;exact hcl2 k (by simpa using h3))
  have hj2:(cnt ds 0 fun k=>listed.getD k false)<=d.hi:=aJe (qM ds 0 fun k d' h1 h2 h3=>by
   simp only[aLy] at h3 ⊢;simp only[aIz,bne_iff_ne,aIW,Option.any_eq_false];refine⟨fun e=>?_,fun d'' h4=>?_⟩
   .subst e;rw[hun] at h3;cases h3
   rw[h1] at h4;cases h4;simp only[List.contains_eq_mem,decide_eq_false_iff_not];intro h5;rw[notl k d' h1 h5] at h3;cases h3) (hrg' i d hd0).2
  have hop:=hO.get hd0 _ hj1 hj2;have hLi:Has n d.li a:=by
   have hs:=mJ.get 0 hR hd0;refine⟨ha.d,ha.z,fun t v hv=>ha.l t v ?_⟩;have h1:=hs.look hv;obtain⟨u,hu⟩:=sJ hv;rw[lT] at h1 ⊢;rw[<-h1];congr 1;refine lV ds 0 fun k d' hk hkd=>?_;simp only[aLy];rcases hli' i k d d' t u hd0 hk hu hkd with rfl | ⟨h2,h3⟩ | ⟨h2,h3⟩
   .rw[hun];simp
   .rw[hcl2 k h3];simp[h2]
   rw[notl k d' hk h3];simp;omega
  have goal:=fun K hk=>hop a hLi K Q hk;unfold wpOp;rw[opsAt,hd0];simp only[aIT];have hK:=goal (wpAny P .any (ds.map (·.o)).toArray Q fuel (listed.setIfInBounds i true)) ?_
  .split
   .rename_i hw;rw[if_pos hw] at hK;exact .inl hK
   rename_i hw;rw[if_neg hw] at hK;exact hK
  have hset:∀ k,(listed.setIfInBounds i true).getD k false=kT (fun k=>listed.getD k false) i k:=fun k=>by
   simp only[kT,aIC];by_cases h:k=i
   .subst h;have:k<listed.size:=by omega
    simp[this]
   rw[aJG (Ne.symm h),if_neg h]
  have hset':(fun k=>(listed.setIfInBounds i true).getD k false)=kT (fun k=>listed.getD k false) i:=funext hset;have hcnt:=vA (S:=fun k=>listed.getD k false) (j:=i) ds 0 i d hd0 (by omega) hun;have hfin:=ih (listed.setIfInBounds i true) (a.put d.o.dst d.v) (by simpa using hsz) ?_ ?_ ?_
  .rw[hset',hcnt] at hfin;exact hfin
  .intro k d' hk hl e he hb;rw[hset] at hl ⊢;simp only[kT] at hl ⊢;split
   .rfl
   split at hl
   .rename_i h1 h2;subst h2;rw[hd0] at hk;cases hk;exact hed2 e he hb
   exact hc k d' hk hl e he hb
  .have hput:=ha.put d.o.dst (fun t ht=>hd i d t hd0 ht) d.v;refine⟨hput.d,hput.z,fun t v hv=>hput.l t v ?_⟩;rw[hset'] at hv;rw[qP];rw[lT] at hv ⊢;by_cases ht:d.o.dst=some t
   .rw[if_pos ht];rw[tN ds 0 i d hd0 ht (by simp[kT]) (fun k' d' h1 h2 h3=>by
     simp only[aLy,kT];rw[if_neg (by omega)];exact notl k' d' h2 (hds' i k' d d' t hd0 h2 h1 ht h3))] at hv
    simpa using hv
   rw[if_neg ht];rw[<-hv];congr 1;refine lV ds 0 fun k d' hk hkd=>?_;simp only[aLy,kT];split
   .rename_i h1;subst h1;rw[hd0] at hk;cases hk;exact(ht hkd).elim
   rfl
  have h1:(List.range ds.length).filter (fun k=>!(listed.setIfInBounds i true).getD k false)=((List.range ds.length).filter fun k=>!listed.getD k false).filter (fun k=>k !=i):=by
   rw[aKk];apply aKp;intro k _;rw[hset];simp only[kT];by_cases h:k=i<;>simp[h]
  rw[h1];have hmem:i∈(List.range ds.length).filter fun k=>!listed.getD k false:=by
   simp only[aJd,aIO];exact⟨hi1',by rw[hun];rfl⟩
  have hnd:((List.range ds.length).filter fun k=>!listed.getD k false).Nodup:=List.nodup_range.filter _;have:=hnd.erase_eq_filter i;rw[<-this,aJZ hmem,<-hf];rfl
theorem aM {ds:List OpD} {W:Nat->World} {id:Nat} {w:World} {a:Act} (hm:P.follows .mixedOrders=true) (ha:Has n L0 a) (h0:W 0=w.drew) (hok:aAq ds=true) (hO:Obl P n (ds.map (·.o)).toArray W ds) (hR:mJ ds L0)
  (hd:(ds.all fun d=>d.o.dst.all fun t=>decide (t<n))=true) {m:Nat} (hcm:cnt ds 0 (fun _=>true)=m)
  (hQ:∀ a,Has n (jS ds 0 (fun _=>true) L0) a->Q .normal a (W m)):(Code.region id (ds.map (·.o)).toArray true).wp P Q a w:=by
 subst hcm;refine wp_region_any hm ?_;have hz:∀ k,(Array.replicate ds.length false).getD k false=false:=fun k=>by
  simp only[aIC,aJM];split<;>rfl
 have hS:(fun k=>(Array.replicate ds.length false).getD k false)=fun _=>false:=funext hz;have key:∀ (l:List OpD) (i:Nat) (L:List (Nat×Value)),jS l i (fun _=>false) L=L:=by
  intro l;induction l with
  | nil=>intro i L;rfl
  | cons x xs ih=>intro i L;simp only[jS];rw[if_neg (by simp)];exact ih _ _
 have key2:∀ (l:List OpD) (i:Nat),cnt l i (fun _=>false)=0:=by
  intro l;induction l with
  | nil=>intro i;rfl
  | cons x xs ih=>intro i;simp[cnt,ih]
 have h:=aBb (P:=P) (n:=n) (L0:=L0) (Q:=Q) hok hO hR (fun i d t hi ht=>by
  have h1:=aIw.1 hd d (aIF hi);simpa[ht] using h1) hQ ds.length (Array.replicate ds.length false) a (by simp) (fun i d _ hl=>by rw[hz] at hl;cases hl) (by rw[hS,key];exact ha) (by
   have:((List.range ds.length).filter fun i=>!(Array.replicate ds.length false).getD i false)=List.range ds.length:=by
    rw[aKe];intro k _;rw[hz];rfl
   rw[this,aKq])
 rw[hS,key2,h0] at h;have e:(ds.map (·.o)).toArray.size=ds.length:=by simp
 rw[e];exact h
end
def u1 {α γ:Type} (i:α) (f:α->γ):γ:=f i
def u2 {α β γ:Type} (i:α×β) (f:α->β->γ):γ:=f i.1 i.2
def u3 {α β δ γ:Type} (i:α×β×δ) (f:α->β->δ->γ):γ:=f i.1 i.2.1 i.2.2
def u4 {α β δ ε γ:Type} (i:α×β×δ×ε) (f:α->β->δ->ε->γ):γ:=f i.1 i.2.1 i.2.2.1 i.2.2.2
def u5 {α β δ ε ζ γ:Type} (i:α×β×δ×ε×ζ) (f:α->β->δ->ε->ζ->γ):γ:=f i.1 i.2.1 i.2.2.1 i.2.2.2.1 i.2.2.2.2
def u6 {α β δ ε ζ η γ:Type} (i:α×β×δ×ε×ζ×η) (f:α->β->δ->ε->ζ->η->γ):γ:=f i.1 i.2.1 i.2.2.1 i.2.2.2.1 i.2.2.2.2.1 i.2.2.2.2.2
def aDr:List OpD->List (Nat×Value)->List (List (Option Value))
 | [],_=>[]
 | d::ds,L=>(d.li.map fun p=>L.lookup p.1)::aDr ds (upd d.o.dst d.v L)
theorem aR:∀ {ds:List OpD} {L:List (Nat×Value)},aDr ds L=ds.map (fun d=>d.li.map fun p=>some p.2)->mJ ds L
 | [],_,_=>trivial
 | d::ds,L,h=>by
  simp only[aDr,aKf,List.cons.injEq] at h;refine⟨?_,aR h.2⟩;have key:∀ (M:List (Nat×Value)),(M.map fun p=>L.lookup p.1)=(M.map fun p=>some p.2)->aBo L M:=by
   intro M
   induction M with
   | nil=>intro _;trivial
   | cons p M ih=>intro h;simp only[aKf,List.cons.injEq] at h;exact⟨h.1,ih h.2⟩
  exact key _ h.1
section
variable {P : Program} {n : Nat} {L : List (Nat × Value)} {a : Act} {w w' : World} {Q : Exit -> Act -> World -> Prop}
theorem ltd {o:Option Nat} {n:Nat} (h:(o.all fun d=>decide (d<n))=true):∀ d,o=some d->d<n:=fun d hd=>by
 subst hd;simpa using h
theorem nt {b:Bool} (h:b≠true):b=false:=by simpa using h
theorem tn {b:Bool} (h:b=true):b≠false:=by rw[h];decide
theorem bW {b:Bool} {γ:Type} {A B:Option γ} {r:γ} {G:Prop} (h:(if b=true then A else B)=some r) (ht:b=true->A=some r->G) (hf:b≠true->B=some r->G):G:=by
 by_cases e:b=true
 .exact ht e (by rwa[if_pos e] at h)
 exact hf e (by rwa[if_neg e] at h)
theorem aEV {ops:Array Oper} {rest:List Oper} {o:Oper} {v:Value} {j t:Nat} {b c:Bool} (hg:o.guard=some (j,c)) (hj:(ops[j]?).bind (·.dst)=some t) (ha:Has n L a) (ht:L.lookup t=some (.bool b)) (hbc:b=c)
  (hd:∀ d,o.dst=some d->d<n) (h:fA P o a w v w')
  (hr:∀ a',Has n (upd o.dst v L) a'->wpList P ops Q rest a' w'):wpList P ops Q (o::rest) a w:=by
 subst hbc;exact aFR hg hj ha ht hd h hr
theorem zZ {ops:Array Oper} {j t:Nat} (hj:(ops[j]?).bind (·.dst)=some t) (ha:Has n L a) (ht:L.lookup t=some undef):yielded ops a.tmps j=none:=by
 unfold yielded;rw[hj];simp[ha.l t _ ht,undef]
theorem aFF {ops:Array Oper} {rest:List Oper} {o:Oper} {j t:Nat} {c:Bool} (hg:o.guard=some (j,c)) (hj:(ops[j]?).bind (·.dst)=some t) (ha:Has n L a) (ht:L.lookup t=some undef)
  (hd:∀ d,o.dst=some d->d<n)
  (hr:∀ a',Has n (upd o.dst undef L) a'->wpList P ops Q rest a' w):wpList P ops Q (o::rest) a w:=by
 unfold wpList;rw[if_neg (by simp[Region.wanted,hg,zZ hj ha ht])];exact hr _ (ha.put _ hd _)
theorem yC {ops:Array Oper} {o:Oper} {li:List (Nat×Value)} {j t:Nat} {c:Bool} (hg:o.guard=some (j,c)) (hj:(ops[j]?).bind (·.dst)=some t) (ht:li.lookup t=some undef) :
  pJ P n ops o li undef w w:=fun a ha K Q hk=>by
 rw[if_neg (by simp[Region.wanted,hg,zZ hj ha ht])];exact hk
theorem gW {x y:Code} {L:List (Nat×Value)} {w':World} (hk:∀ a,Has n L a->y.wp P Q a w')
  (hx:(∀ a,Has n L a->Exit.then (y.wp P Q) Q .normal a w')->x.wp P (Exit.then (y.wp P Q) Q) a w):(Code.seq x y).wp P Q a w :=
 wp_seq (hx hk)
theorem tT {x y:Code} {ι:Type} {Lf:ι->List (Nat×Value)} {wf:ι->World} {C:ι->Prop} (hk:∀ i,C i->∀ a,Has n (Lf i) a->y.wp P Q a (wf i))
  (hx:(∀ i,C i->∀ a,Has n (Lf i) a->Exit.then (y.wp P Q) Q .normal a (wf i))->x.wp P (Exit.then (y.wp P Q) Q) a w):(Code.seq x y).wp P Q a w :=
 wp_seq (hx hk)
theorem bP {c:Code} {L:List (Nat×Value)} {w':World} (hk:∀ a,Has n L a->Q .normal a w') (hx:(∀ a,Has n L a->Q .normal a w')->c.wp P Q a w):c.wp P Q a w:=hx hk
theorem gT {S R:Type} {step:S->Option (S⊕R)} {I:S->Act->World->Prop} {body:Code} {r0:R} {s0:S} {e:Exit} {L:List (Nat×Value)} {w':World}
  (hI:I s0 a w) (h:bM step s0=some r0) (hk:∀ a,Has n L a->Q e a w')
  (hb:(∀ a,Has n L a->Q e a w')->∀ s a w o,I s a w->step s=some o->(∀ r,o = .inr r->r=r0)->body.wp P (LP I Q o) a w):(Code.loop body).wp P Q a w :=
 aDK hI h (hb hk)
theorem oR {S R1 R2:Type} {step:S->Option (S⊕(R1⊕R2))} {I:S->Act->World->Prop} {body:Code} {r0:R1⊕R2} {s0:S} {e1 e2:Exit} {L1:R1->List (Nat×Value)} {w1:R1->World} {L2:R2->List (Nat×Value)} {w2:R2->World}
  (hI:I s0 a w) (h:bM step s0=some r0) (hk1:∀ i,r0 = .inl i->∀ a,Has n (L1 i) a->Q e1 a (w1 i)) (hk2:∀ i,r0 = .inr i->∀ a,Has n (L2 i) a->Q e2 a (w2 i))
  (hb:(∀ i,r0 = .inl i->∀ a,Has n (L1 i) a->Q e1 a (w1 i))->(∀ i,r0 = .inr i->∀ a,Has n (L2 i) a->Q e2 a (w2 i)) ->
   ∀ s a w o,I s a w->step s=some o->(∀ r,o = .inr r->r=r0)->body.wp P (LP I Q o) a w):(Code.loop body).wp P Q a w :=
 aDK hI h (hb hk1 hk2)
def dr (w:World):Option World:=some w.drew
theorem cY {w w':World} (h:dr w=some w'):w'=w.drew:=(Option.some.inj h).symm
theorem aA {id:Nat} {l:List Oper} (h:wpList P l.toArray Q l a w):(Code.region id l.toArray false).wp P Q a w:=wp_region_lit h
end
def B (w:World) (b:Nat):Option (List Value×TypeId):=match w.heap[b]? with | some (.cells c T fz)=>if fz=(0,0) then some (c.toList,T) else none | _=>none
def wr (w:World) (b:Nat) (cs:List Value):World:={ w with heap:=w.heap.modify b fun | .cells _ T fz=>.cells cs.toArray T fz | o=>o }
theorem nS {w:World} {b:Nat} {cs:List Value} {T:TypeId}:B w b=some (cs,T)↔w.heap[b]?=some (.cells cs.toArray T (0,0)):=by
 unfold B;constructor
 .intro h;split at h
  .rename_i c T' fz e;split at h
   .rename_i hf;subst hf;cases h;simpa using e
   cases h
  cases h
 intro h;rw[h];simp
theorem qW {w:World} {b:Nat} {x:List Value×TypeId} (h:B w b=some x):b<w.heap.size:=by
 obtain⟨cs,T⟩:=x;exact(Array.getElem?_eq_some_iff.1 (nS.1 h)).1
theorem vH {w:World} {b k:Nat} {f:Obj->Obj} (h:k≠b):(w.heap.modify b f)[k]?=w.heap[k]?:=by
 rw[aJK,if_neg (Ne.symm h)]
@[simp] theorem aGy {w:World} {b:Nat} {cs:List Value}:(wr w b cs).heap.size=w.heap.size:=by simp[wr]
theorem sK {w:World} {b k:Nat} {cs:List Value} (h:k≠b):(wr w b cs).heap[k]?=w.heap[k]?:=vH h
theorem wA {w:World} {b:Nat} {c cs:List Value} {T:TypeId} (h:B w b=some (c,T)):B (wr w b cs) b=some (cs,T):=by
 rw[nS] at h ⊢;simp[wr,aJK,h]
@[simp] theorem aFo {w:World} {cs:List Value} {T:TypeId}:B (w.alloc (.cells cs.toArray T)) w.heap.size=some (cs,T):=by
 rw[nS];exact heap_alloc_new w _
theorem aER {w:World} {o:Obj} {k:Nat} (h:k<w.heap.size):B (w.alloc o) k=B w k:=by
 unfold B;rw[Go.heap_alloc_old w o h]
@[simp] theorem aGC {w:World} {k:Nat}:B w.drew k=B w k:=rfl
@[simp] theorem aGz {w:World} {b:Nat} {cs:List Value}:wr w.drew b cs=(wr w b cs).drew:=rfl
@[simp] theorem aD (b o n:Nat):(⟨b,o,none⟩:Addr).add n=⟨b,o+n,none⟩:=by
 unfold Addr.add;split<;>simp_all
theorem pL {w:World} {b o:Nat} {cs:List Value} {T:TypeId} (h:B w b=some (cs,T)):w.cell? ⟨b,o,none⟩=cs[o]?:=by
 simp[World.cell?,nS.1 h]
theorem aEf {w:World} {b o:Nat} {cs:List Value} {T:TypeId} (h:B w b=some (cs,T)):w.frozen? ⟨b,o,none⟩=false:=by
 simp[World.frozen?,nS.1 h]
section
variable {w : World} {b o : Nat} {cs : List Value} {T : TypeId}
theorem kZ {k:IntKind} {a:Addr} {x:Int} (h:w.cell? a=some (.int k x)):ldI k w a=some x:=by simp[ldI,h]
theorem aDN {a:Addr} {x:Bool} (h:w.cell? a=some (.bool x)):ldB w a=some x:=by simp[ldB,h]
theorem aDF {a:Addr} {x:Option Addr} (h:w.cell? a=some (.pointer x)):ldP w a=some x:=by simp[ldP,h]
theorem rO {a:Addr} {s:Sl} (h:w.cell? a=some s.v):ldL w a=some s:=by simp[ldL,h,Sl.v]
theorem lP {k:IntKind} {x:Int} (h:B w b=some (cs,T)) (hx:cs[o]?=some (.int k x)):ldI k w ⟨b,o,none⟩=some x:=kZ ((pL h).trans hx)
theorem aAw {x:Bool} (h:B w b=some (cs,T)) (hx:cs[o]?=some (.bool x)):ldB w ⟨b,o,none⟩=some x:=aDN ((pL h).trans hx)
theorem qF {x:Option Addr} (h:B w b=some (cs,T)) (hx:cs[o]?=some (.pointer x)):ldP w ⟨b,o,none⟩=some x:=aDF ((pL h).trans hx)
theorem pE {s:Sl} (h:B w b=some (cs,T)) (hx:cs[o]?=some s.v):ldL w ⟨b,o,none⟩=some s:=rO ((pL h).trans hx)
theorem oY:∀ (n:Nat) (w:World) (a:Addr) (i:Nat) (l:List Value),l.length=n->(∀ j v,l[j]?=some v->w.cell? (a.add (i+j))=some v)->ldA n w a i=some l
 | 0,_,_,_,l,h,_=>by rw[aIA h];rfl
 | n+1,w,a,i,[],h,_=>by simp at h
 | n+1,w,a,i,v::l,h,hc=>by
  have h0:=hc 0 v rfl;simp only[aJs] at h0;simp only[ldA,h0,aLx];rw[oY n w a (i+1) l (by simpa using h) (fun j u hu=>by have:=hc (j+1) u (by simpa using hu);rwa[show i+(j+1)=i+1+j by omega] at this)];rfl
theorem nK {n:Nat} (h:B w b=some (cs,T)) (hn:o+n<=cs.length):ldA n w ⟨b,o,none⟩ 0=some ((cs.drop o).take n):=by
 refine oY n w _ 0 _ (by simp;omega) fun j v hv=>?_;rw[aIV] at hv;split at hv
 .simp only[aLy,aD];rw[pL h,<-hv,aJi]
 cases hv
theorem wP (k:IntKind):∀ (n:Nat) (w:World) (a:Addr) (i:Nat) (l:List Int),l.length=n->(∀ j v,l[j]?=some v->w.cell? (a.add (i+j))=some (.int k v))->ldN k n w a i=some l
 | 0,_,_,_,l,h,_=>by rw[aIA h];rfl
 | n+1,w,a,i,[],h,_=>by simp at h
 | n+1,w,a,i,v::l,h,hc=>by
  have h0:=hc 0 v rfl;simp only[aJs] at h0;simp only[ldN,kZ h0,aLx];rw[wP k n w a (i+1) l (by simpa using h) (fun j u hu=>by have:=hc (j+1) u (by simpa using hu);rwa[show i+(j+1)=i+1+j by omega] at this)];rfl
theorem aAY {v:Value} (h:B w b=some (cs,T)):w.setCell ⟨b,o,none⟩ v=wr w b (cs.set o v):=by
 have hh:=nS.1 h;have hb:=qW h;have e:w.heap.modify b (fun | .cells c elem frozen=>.cells (if (none:Option Nat).isSome then c else c.setIfInBounds o v) elem frozen | o=>o)=w.heap.modify b (fun | .cells _ T fz=>.cells (cs.set o v).toArray T fz | o=>o):=by
  apply aKX;intro i;rw[aJK,aJK];by_cases hi:b=i
  .subst hi;simp only[if_true,hh,aIT];simp
  simp[hi]
 simp only[World.setCell,wr];rw[<-e];rfl
theorem aBt {v:Value} (h:B w b=some (cs,T)) (ho:o<cs.length) (hv:v.oneCell'=true):stV w ⟨b,o,none⟩ v=some (wr w b (cs.set o v)):=by
 unfold stV;rw[if_pos ⟨hv,by rw[pL h,aIs ho];rfl,aEf h⟩,aAY h]
theorem aGw {c d:List Value}:wr (wr w b c) b d=wr w b d:=by
 simp only[wr];congr 1;apply aKX;intro i;simp only[aJK];by_cases hi:b=i
 .subst hi;simp only[if_true,Option.map_map];congr 1
  funext x
  cases x<;>rfl
 simp[hi]
theorem aEL (h:B w b=some (cs,T)):wr w b cs=w:=by
 have hh:=nS.1 h;simp only[wr];have:(w.heap.modify b fun | .cells _ T fz=>.cells cs.toArray T fz | o=>o)=w.heap:=by
  apply aKX;intro i;rw[aJK];by_cases hi:b=i
  .subst hi;simp[hh]
  simp[hi]
 rw[this]
def jQ (cs:List Value) (o:Nat) (vs:List Value):List Value:=cs.take o++vs++cs.drop (o+vs.length)
theorem rI {vs:List Value} (ho:o+vs.length<=cs.length):(jQ cs o vs).length=cs.length:=by
 simp[jQ];omega
theorem aCG {v:Value} {vs:List Value} (ho:o+(vs.length+1)<=cs.length):jQ (cs.set o v) (o+1) vs=jQ cs o (v::vs):=by
 simp only[jQ,aIH];have h1:o<cs.length:=by omega
 rw[aJD (by simpa using h1),List.take_set_of_le (aIv _),List.drop_set_of_lt (by omega),List.getElem_set_self];simp[aKz,aLl 1]
theorem wR:∀ (vs:List Value) (i:Nat) (w:World) (cs:List Value),B w b=some (cs,T)->o+i+vs.length<=cs.length->(∀ v∈vs,v.oneCell'=true)->stA w ⟨b,o,none⟩ i vs=some (wr w b (jQ cs (o+i) vs))
 | [],i,w,cs,h,ho,_=>by simp only[stA,jQ];simp[aEL h]
 | v::vs,i,w,cs,h,ho,hv=>by
  simp only[aIH] at ho;simp only[stA,aD];rw[aBt h (by omega) (hv v (by simp)),aLx,wR vs (i+1) _ _ (wA h) (by simp;omega) (fun u hu=>hv u (by simp[hu])),aGw];rw[show o+(i+1)=o+i+1 by omega,aCG (by omega)]
end
structure Fr (S:Nat->Prop) (w w':World):Prop where
 os:w'.os=w.os
 tape:w'.tape=w.tape
 output:w'.output=w.output
 size:w.heap.size<=w'.heap.size
 block:∀ k,k<w.heap.size->¬ S k->w'.heap[k]?=w.heap[k]?
section
variable {S : Nat -> Prop} {w w' w'' : World}
theorem Fr.refl:Fr S w w:=⟨rfl,rfl,rfl,aIv _,fun _ _ _=>rfl⟩
theorem Fr.trans (h:Fr S w w') (k:Fr S w' w''):Fr S w w'' :=
 ⟨k.os.trans h.os,k.tape.trans h.tape,k.output.trans h.output,aJe h.size k.size,fun i hi hs=>(k.block i (aIX hi h.size) hs).trans (h.block i hi hs)⟩
theorem Fr.trans_new {S':Nat->Prop} (h:Fr S w w') (k:Fr S' w' w'') (hs:∀ i,S' i->S i\/w.heap.size<=i):Fr S w w'' :=
 ⟨k.os.trans h.os,k.tape.trans h.tape,k.output.trans h.output,aJe h.size k.size,fun i hi hn=>(k.block i (aIX hi h.size) fun h'=>(hs i h').elim hn (fun h2=>by omega)).trans (h.block i hi hn)⟩
theorem Fr.mono {S':Nat->Prop} (h:Fr S w w') (hs:∀ i,S i->S' i\/w.heap.size<=i):Fr S' w w' :=
 ⟨h.os,h.tape,h.output,h.size,fun i hi hn=>h.block i hi fun h'=>(hs i h').elim hn (fun h2=>by omega)⟩
theorem Fr.alloc (h:Fr S w w') (o:Obj):Fr S w (w'.alloc o) :=
 h.trans ⟨rfl,rfl,rfl,by simp,fun k hk _=>Go.heap_alloc_old w' o hk⟩
theorem Fr.drew (h:Fr S w w'):Fr S w w'.drew:=⟨h.os,h.tape,h.output,h.size,h.block⟩
theorem Fr.wr (h:Fr S w w') {b:Nat} (hb:S b\/w.heap.size<=b) (cs:List Value):Fr S w (wr w' b cs) :=
 h.trans_new (S':=fun k=>k=b) ⟨rfl,rfl,rfl,by simp,fun k _ hk=>sK hk⟩ (fun i hi=>by subst hi;exact hb)
theorem Fr.B (h:Fr S w w') {k:Nat} {x:List Value×TypeId} (hk:B w k=some x) (hs:¬ S k):D.B w' k=some x:=by
 have:=h.block k (qW hk) hs;unfold D.B at hk ⊢;rwa[this]
theorem Fr.cell (h:Fr S w w') {a:Addr} {v:Value} (hc:w.cell? a=some v) (hs:¬ S a.block):w'.cell? a=some v:=by
 have hb:=World.block_lt_of_cell? w a hc;exact(World.cell?_of_block (h.block a.block hb hs)).trans hc
theorem Fr.below {n:Nat} (h:Fr S w w') (hn:n<=w.heap.size) (hs:∀ i,S i->n<=i):Go.RowKit.Below n w w' :=
 ⟨h.os,h.tape,h.output,h.size,fun k hk=>h.block k (by omega) fun h'=>by have:=hs k h';omega⟩
end
structure Rd (w:World) (s:Sl) (sz:Nat) (cs:List Value):Prop where
 len:cs.length=s.n*sz
 at_:0<s.n->∃ a,s.p=some a/\∀ j v,cs[j]?=some v->w.cell? (a.add j)=some v
theorem Rd.of_B {w:World} {g o n c sz:Nat} {cs:List Value} {T:TypeId} (h:B w g=some (cs,T)) (hn:o+n*sz<=cs.length):Rd w ⟨some ⟨g,o,none⟩,n,c⟩ sz ((cs.drop o).take (n*sz)) :=
 ⟨by simp;omega,fun _=>⟨_,rfl,fun j v hv=>by
  rw[aIV] at hv;split at hv
  .rw[aD,pL h,<-hv,aJi]
  cases hv⟩⟩
theorem Rd.fr {S : Nat -> Prop} {w w' : World} {s : Sl} {sz : Nat} {cs : List Value} (h : Rd w s sz cs) (hf : Fr S w w') (hs : ∀ a, s.p = some a -> 0 < s.n -> ¬ S a.block) : Rd w' s sz cs :=
  ⟨h.len, fun hn => by
    obtain ⟨a, e, hc⟩ := h.at_ hn
    exact ⟨a, e, fun j v hv => hf.cell (hc j v hv) (by have : (a.add j).block = a.block := by unfold Addr.add; split <;> rfl
                                                       rw [this]; exact hs a e hn)⟩⟩
theorem Rd.nil {w:World} {s:Sl} {sz:Nat} (h:s.n=0):Rd w s sz []:=⟨by simp[h],fun h'=>by omega⟩
theorem Rd.ix {w:World} {s:Sl} {sz:Nat} {cs:List Value} (h:Rd w s sz cs) {i:Nat} (hi:i<s.n):∃ a,ix s i sz=some a/\∀ j v,j<sz->cs[i*sz+j]?=some v->w.cell? (a.add j)=some v:=by
 obtain⟨a,e,hc⟩:=h.at_ (by omega);refine⟨a.add (i*sz),by unfold D.ix;rw[e,aLx,if_pos ⟨by omega,by omega⟩];simp,fun j v hj hv=>?_⟩;have:=hc _ _ hv;have e2:(a.add (i*sz)).add j=a.add (i*sz+j):=by
  unfold Addr.add;split
  .split<;>simp_all
  split
  .simp_all
  rw[if_neg (by omega)];simp[aKz]
 rwa[e2]
def nums (k:IntKind) (xs:List Int):List Value:=xs.map fun x=>.int k x
@[simp] theorem bG {k:IntKind} {xs:List Int}:(nums k xs).length=xs.length:=by simp[nums]
theorem dU {k:IntKind} {xs:List Int}:∀ v∈nums k xs,v.oneCell'=true:=by
 intro v hv;obtain⟨x,_,rfl⟩:=aIP.1 hv;rfl
theorem lY {k:IntKind} {xs:List Int} {j:Nat}:(nums k xs)[j]?=(xs[j]?).map fun x=>.int k x:=by simp[nums]
theorem pF {w:World} {s:Sl} {xs:List Int} (h:Rd w s 1 (nums .u8 xs)):b2s s w=some (strOfNums xs):=by
 have hl:=h.len;simp only[bG,aKm] at hl;unfold b2s
 cases hp:s.p with
 | none =>
  have:s.n=0:=by
   rcases aJq s.n with h0 | h0
   .exact h0
   obtain⟨a,e,_⟩:=h.at_ h0;rw[hp] at e;cases e
  rw[this] at hl;rw[aIA hl];rfl
 | some a =>
  simp only;rw[wP .u8 s.n w a 0 xs hl (fun j v hv=>by
   have hn:0<s.n:=by
    have:=(aIt.1 hv).1;omega
   obtain⟨a',e,hc⟩:=h.at_ hn;rw[hp] at e;cases e;simpa using hc j (.int .u8 v) (by rw[lY,hv];rfl))]
  rfl
structure ST (P:Program) (t e:TypeId) (sz by_:Nat) (Z:List Value):Prop where
 ht:P.underlying t=some (.slice e)
 hi:∃ (i:TypeInfo) (z:Value),P.info? e=some i/\i.zero=some z/\z.cells=Z.toArray/\i.size=sz/\i.bytes=by_
 hZ:Z.length=sz
 pos:0<sz
 bpos:0<by_
def Sl.blk (s:Sl) (k:Nat):Prop:=∃ a,s.p=some a/\a.block=k
structure Own (w:World) (T:TypeId) (s:Sl) (sz:Nat) (cs:List Value):Prop where
 len:cs.length=s.n*sz
 cap:s.n<=s.c
 max:s.c<=9223372036854775807
 h:(s.p=none/\s.n=0/\s.c=0)\/∃ g rest,s.p=some ⟨g,0,none⟩/\B w g=some (cs++rest,T)/\rest.length=(s.c-s.n)*sz
section
variable {P : Program} {t e T : TypeId} {sz by_ : Nat} {Z : List Value} {w w' : World} {s y : Sl} {cs ys : List Value}
theorem Own.nil:Own w T Sl.nil sz []:=⟨by simp[Sl.nil],aIv _,by simp[Sl.nil],.inl ⟨rfl,rfl,rfl⟩⟩
theorem Own.rd (h:Own w T s sz cs):Rd w s sz cs:=⟨h.len,fun hn=>by
 rcases h.h with⟨_,h0,_⟩ | ⟨g,rest,hp,hb,_⟩
 .omega
 refine⟨_,hp,fun j v hv=>?_⟩;rw[aD,pL hb,aID (by simpa using(aIt.1 hv).1)];simpa using hv⟩
theorem Own.fr {S:Nat->Prop} (h:Own w T s sz cs) (hf:Fr S w w') (hs:∀ k,s.blk k->¬ S k):Own w' T s sz cs :=
 ⟨h.len,h.cap,h.max,by
  rcases h.h with h0 | ⟨g,rest,hp,hb,hr⟩
  .exact .inl h0
  exact .inr ⟨g,rest,hp,hf.B hb (hs g ⟨_,hp,rfl⟩),hr⟩⟩
theorem Own.lt (h:Own w T s sz cs) {k:Nat} (hk:s.blk k):k<w.heap.size:=by
 obtain⟨a,ha,rfl⟩:=hk;rcases h.h with⟨hp,_⟩ | ⟨g,rest,hp,hb,_⟩
 .rw[hp] at ha;cases ha
 rw[hp] at ha;cases ha;exact qW hb
theorem Own.ty (h:Own w T s sz cs) {k:Nat} (hk:s.blk k):∃ c,B w k=some (c,T):=by
 obtain⟨a,ha,rfl⟩:=hk;rcases h.h with⟨hp,_⟩ | ⟨g,rest,hp,hb,_⟩
 .rw[hp] at ha;cases ha
 rw[hp] at ha;cases ha;exact⟨_,hb⟩
theorem qG (Z:List Value) (n sz:Nat) (hZ:Z.length=sz) (hp:0<sz):(madeCells Z.toArray (n*sz)).toList=(List.replicate n Z).flatten:=by
 apply List.ext_getElem?;intro i;by_cases hi:i<n*sz
 .have h1:(madeCells Z.toArray (n*sz)).toList[i]?=some (Z[i % sz]'(by rw[hZ];exact Nat.mod_lt _ hp)):=by
   simp[madeCells,hi,hZ];rw[aIs (by rw[hZ];exact Nat.mod_lt _ hp)];rfl
  rw[h1];clear h1
  induction n generalizing i with
  | zero=>simp at hi
  | succ n ih =>
   rw[List.replicate_succ,aKI];by_cases h2:i<sz
   .rw[aID (by omega),aIs (by omega)];congr 1;congr 1;exact Nat.mod_eq_of_lt h2
   rw[aII (by omega),show i-Z.length=i-sz by rw[hZ]];have h3:i-sz<n*sz:=by rw[aJg] at hi;omega
   rw[<-ih (i-sz) h3];congr 1;congr 1;exact Nat.mod_eq_sub_mod (by omega)
 rw[aKl (by simp[madeCells];omega),aKl (by simp[hZ];omega)]
theorem aFI (st:ST P t e sz by_ Z) {n:Int} (h0:0<=n) (hb:(by_:Int)*n<=281474976710656) :
  mkS P t n n w=some (⟨some ⟨w.heap.size,0,none⟩,n.toNat,n.toNat⟩,w.alloc (.cells ((List.replicate n.toNat Z).flatten).toArray e)):=by
 obtain⟨i,z,hi,hz,hzc,hs,hby⟩:=st.hi;subst hs;subst hby;have hn:n<=281474976710656:=by
  have:(1:Int)*n<=(i.bytes:Int)*n:=aKK (by have:=st.bpos;omega) h0;omega
 have hr:=run_make (P:=P) w t e i z st.ht hi hz .i64 .i64 n n h0 (aIZ _) hb (by omega);unfold mkS;rw[hr];simp only;congr 4;apply Array.ext';rw[hzc,qG Z _ _ st.hZ st.pos]
theorem aCE {w:World} {g:Nat} {c cs:List Value} {T:TypeId} (h:B w g=some (c,T)):w.setRow g cs.toArray=wr w g cs:=by
 have hh:=nS.1 h;simp only[World.setRow,wr];congr 1
theorem qA {z:Array Value} {n:Nat}:(Builtin.zeroCells z n).size=n*z.size:=size_zeroCells z n
theorem qS (st:ST P t e sz by_ Z) (h:Own w e s sz cs) (hy:Rd w y sz ys) (h1:∀ v∈ys,v.oneCell'=true) (hb:(s.n+y.n)*by_<=140737488355328) :
  ∃ s' w',apS P t s y w=some (s',w')/\Own w' e s' sz (cs++ys)/\Fr s.blk w w'/\s'.n=s.n+y.n/\(∀ k,s'.blk k->s.blk k\/w.heap.size<=k):=by
 obtain⟨i,z,hi,hz,hzc,hs,hby⟩:=st.hi;subst hs;subst hby;have h63:s.n+y.n<=140737488355328:=aJe (aKA _ st.bpos) hb;have hzs:z.cells.size=i.size:=by rw[hzc];simpa using st.hZ
 obtain⟨yp,yn,yc⟩:=y;obtain⟨sp,sn,sc⟩:=s;have hlen:=h.len;have hcap:=h.cap;have hmax:=h.max;have hylen:=hy.len
 simp only at hlen hcap hmax hylen h63 hb;have sB:∀ old,old<sn+yn->Builtin.nextslicecap (sn+yn) old*i.bytes<=281474976710656:=fun old ho=>growslice_fits ho hb
 -- a new block
 have newOwn:∀ (old:Nat) (olds:List Value),olds=cs->Own (w.drew.alloc (.cells (olds.toArray++ys.toArray++Builtin.zeroCells z.cells (grownCap w (sn+yn) old e-(sn+yn))) e)) e
   ⟨some ⟨w.heap.size,0,none⟩,sn+yn,grownCap w (sn+yn) old e⟩ i.size (cs++ys):=by
  intro old olds ho;subst ho;have hge:=grownCap_ge w (sn+yn) old e;have hle:grownCap w (sn+yn) old e<=9223372036854775807:=by
   have:=grownCap_le_maxLen w (sn+yn) old e (by simp[maxLen];omega);simpa[maxLen] using this
  refine⟨by simp[hlen,hylen,aKQ],hge,hle,.inr ⟨w.heap.size,(Builtin.zeroCells z.cells (grownCap w (sn+yn) old e-(sn+yn))).toList,rfl,?_,by simp[qA,hzs]⟩⟩;rw[nS,show(olds++ys++(Builtin.zeroCells z.cells (grownCap w (sn+yn) old e-(sn+yn))).toList).toArray=olds.toArray++ys.toArray++Builtin.zeroCells z.cells (grownCap w (sn+yn) old e-(sn+yn)) by simp];exact heap_alloc_new w.drew _
 have newFr:∀ (S:Nat->Prop) (o:Obj),Fr S w (w.drew.alloc o):=fun S o=>(Fr.refl.drew).alloc o
 cases yp with
 | none =>
  have hy0:yn=0:=by
   rcases aJq yn with h0 | h0
   .exact h0
   obtain⟨a,ha,_⟩:=hy.at_ h0;cases ha
  subst hy0;have hys:ys=[]:=aIA (by simpa using hylen);subst hys;have hr:(Builtin.append_ #[t,t] t #[.slice sp sn sc,.slice none 0 yc]).run P w = .ok (.slice sp sn sc) w:=by
   cases sp<;>simp[Builtin.append_,run_underlying st.ht,sizeOf,typeInfo,hi,Builtin.lenOf,Builtin.firstCells,hcap,storeCells]
  refine⟨⟨sp,sn,sc⟩,w,by simp[apS,Sl.v,hr],by simpa using h,Fr.refl,by simp,fun k hk=>.inl hk⟩
 | some ya =>
  have hnews:∀ j u,ys[j]?=some u->w.cell? (ya.add j)=some u:=by
   intro j u hu;have hn:0<yn:=by
    have:=(aIt.1 hu).1;rcases aJq yn with h0 | h0
    .rw[h0] at hylen;omega
    exact h0
   obtain⟨a,ha,hc⟩:=hy.at_ hn;cases ha;exact hc j u hu
  rcases h.h with⟨hp,h0,hc0⟩ | ⟨g,rest,hp,hB,hrest⟩
  .simp only at hp h0 hc0;subst hp;subst h0;subst hc0;have hcs:cs=[]:=aIA (by simpa using hlen);subst hcs;rcases aJq yn with hy0 | hy0
   .subst hy0;have hys:ys=[]:=aIA (by simpa using hylen);subst hys;have hr:(Builtin.append_ #[t,t] t #[.slice none 0 0,.slice (some ya) 0 yc]).run P w = .ok (.slice none 0 0) w:=by
     simp[Builtin.append_,run_underlying st.ht,sizeOf,typeInfo,hi,Builtin.lenOf,Builtin.firstCells,loadCells,loadCellsFrom]
    exact⟨⟨none,0,0⟩,w,by simp[apS,Sl.v,hr],by simpa using h,Fr.refl,by simp,fun k hk=>.inl hk⟩
   have hr:=run_append_nil (P:=P) w t t e i z st.ht hi hz ya yn yc ys hylen hnews hy0 (by omega) (by simp only[aLy] at hb;omega);have no:=newOwn 0 [] rfl;simp only[aLy,Array.empty_append] at no ⊢;refine⟨⟨some ⟨w.heap.size,0,none⟩,yn,grownCap w yn 0 e⟩,w.drew.alloc (.cells (ys.toArray++Builtin.zeroCells z.cells (grownCap w yn 0 e-yn)) e),by simp only[apS,Sl.v,hr],by simpa using no,newFr _ _,rfl,fun k hk=>?_⟩;obtain⟨a,ha,rfl⟩:=hk;cases ha;right;simp
  simp only at hp hrest;subst hp;by_cases hroom:sn+yn<=sc
  .have hr:=run_append_room (P:=P) w t t e i st.ht hi g sn sc (cs++rest).toArray (nS.1 hB) ya yn yc ys hylen hnews h1 hroom (by simp[hlen,hrest,hylen];rw[aLt];have:=aIJ i.size hroom;have:=aIJ i.size hcap;rw[aKQ] at *;omega);have e1:((cs++rest).toArray.toList.take (sn*i.size)++ys++(cs++rest).toArray.toList.drop (sn*i.size+ys.length))=(cs++ys)++rest.drop ys.length:=by
    simp only[<-hlen];simp
   rw[e1,aCE hB] at hr;refine⟨⟨some ⟨g,0,none⟩,sn+yn,sc⟩,wr w g (cs++ys++rest.drop ys.length),by simp only[apS,Sl.v,hr],⟨by simp[hlen,hylen,aKQ],hroom,hmax,.inr ⟨g,rest.drop ys.length,rfl,by rw[wA hB],by simp[hrest,hylen,<-aLt];congr 1;omega⟩⟩,(Fr.refl).wr (.inl ⟨_,rfl,rfl⟩) _,rfl,fun k hk=>.inl hk⟩
  have holds:∀ j u,cs[j]?=some u->w.cell? ((⟨g,0,none⟩:Addr).add j)=some u:=by
   intro j u hu;rw[aD,pL hB,aLy,aID (aIt.1 hu).1];exact hu
  have hr:=run_append_grow (P:=P) w t t e i z st.ht hi hz ⟨g,0,none⟩ sn sc cs hlen holds ya yn yc ys hylen hnews (by omega) (by omega) (sB sc (by omega));refine⟨⟨some ⟨w.heap.size,0,none⟩,sn+yn,grownCap w (sn+yn) sc e⟩,w.drew.alloc (.cells (cs.toArray++ys.toArray++Builtin.zeroCells z.cells (grownCap w (sn+yn) sc e-(sn+yn))) e),by simp only[apS,Sl.v,hr],newOwn sc cs rfl,newFr _ _,rfl,fun k hk=>?_⟩;obtain⟨a,ha,rfl⟩:=hk;cases ha;right;simp
theorem tJ {n:Nat} (hy:Rd w y sz ys) (hn:n<=y.n):(Builtin.firstCells sz n y.v).run P w = .ok (ys.take (n*sz)).toArray w:=by
 obtain⟨yp,yn,yc⟩:=y;have hylen:=hy.len;simp only at hn hylen
 cases yp with
 | none =>
  have hy0:yn=0:=by
   rcases aJq yn with h0 | h0
   .exact h0
   obtain⟨a,ha,_⟩:=hy.at_ h0;cases ha
  subst hy0;have:n=0:=by omega
  subst this;simp[Builtin.firstCells,Sl.v]
 | some ya =>
  have hl:(ys.take (n*sz)).length=n*sz:=by rw[aIN,hylen];exact aLm (aIJ _ hn)
  have:=run_loadCells_list (P:=P) w ya (ys.take (n*sz)) (fun j u hu=>by
   rw[aIV] at hu;split at hu
   .have hn:0<yn:=by
     have:=(aIt.1 hu).1;rcases aJq yn with h0 | h0
     .rw[h0] at hylen;omega
     exact h0
    obtain⟨a,ha,hc⟩:=hy.at_ hn;cases ha;exact hc j u hu
   cases hu)
  rw[hl] at this;simpa[Builtin.firstCells,Sl.v] using this
theorem aFj (st:ST P t e sz by_ Z) {u:TypeId} {g o n c:Nat} {T:TypeId} (hB:B w g=some (cs,T)) (hn:o+n*sz<=cs.length) (hy:Rd w y sz ys) (h1:∀ v∈ys,v.oneCell'=true) :
  cpS P t u ⟨some ⟨g,o,none⟩,n,c⟩ y w=some (((min y.n n:Nat):Int),wr w g (jQ cs o (ys.take (min y.n n*sz)))):=by
 obtain⟨i,z,hi,hz,hzc,hs,hby⟩:=st.hi;subst hs;have hf:=tJ (P:=P) (n:=min y.n n) hy (aLn _ _);have hlen:(ys.take (min y.n n*i.size)).length=min y.n n*i.size:=by
  rw[aIN,hy.len];exact aLm (aIJ _ (aLn _ _))
 have hle:min y.n n*i.size<=n*i.size:=aIJ _ (Nat.min_le_right _ _);have hst:=wR (o:=o) (ys.take (min y.n n*i.size)) 0 w cs hB (by omega) (fun v hv=>h1 v (aJh hv));have hsr:=uX (P:=P) hst;simp only[aJs] at hsr;have hr:(Builtin.copy_ #[t,u] 3 #[.slice (some ⟨g,o,none⟩) n c,y.v]).run P w = .ok (.int .i64 ((min y.n n:Nat):Int)) (wr w g (jQ cs o (ys.take (min y.n n*i.size)))):=by
  have hlo:(Builtin.lenOf y.v).run P w = .ok y.n w:=rfl;simp only[Builtin.copy_,aJz,aJu,aJt,Sem.run_bind,run_underlying st.ht,Result.andThen_ok,hlo];have hz':(sizeOf e).run P w = .ok i.size w:=by simp[sizeOf,typeInfo,hi]
  have hmin:Nat.min y.n n=min y.n n:=rfl;simp only[hz',Result.andThen_ok,hmin,hf,hsr,Sem.run_pure,goInt]
 unfold cpS;simp only[Sl.v] at hr ⊢;rw[hr]
end
structure Fz (n:Nat) (S:Nat->Prop) (w w':World):Prop where
 os:w'.os=w.os
 tape:w'.tape=w.tape
 output:w'.output=w.output
 size:w.heap.size<=w'.heap.size
 block:∀ k,k<n->¬ S k->w'.heap[k]?=w.heap[k]?
section
variable {n b o : Nat} {S : Nat -> Prop} {w w' w'' : World} {cs : List Value} {T : TypeId}
theorem Fz.refl:Fz n S w w:=⟨rfl,rfl,rfl,aIv _,fun _ _ _=>rfl⟩
theorem Fz.trans (h:Fz n S w w') (k:Fz n S w' w''):Fz n S w w'' :=
 ⟨k.os.trans h.os,k.tape.trans h.tape,k.output.trans h.output,aJe h.size k.size,fun i hi hs=>(k.block i hi hs).trans (h.block i hi hs)⟩
theorem Fz.fr (h:Fz w.heap.size S w w'):Fr S w w':=⟨h.os,h.tape,h.output,h.size,h.block⟩
theorem Fr.fz {S':Nat->Prop} (h:Fr S' w w') (hn:n<=w.heap.size) (hs:∀ k,S' k->S k\/n<=k):Fz n S w w' :=
 ⟨h.os,h.tape,h.output,h.size,fun k hk hS=>h.block k (by omega) fun h'=>(hs k h').elim hS (fun h2=>by omega)⟩
theorem Fz.B (h:Fz n S w w') {k:Nat} {x:List Value×TypeId} (hk:B w k=some x) (hn:k<n) (hs:¬ S k):D.B w' k=some x:=by
 have:=h.block k hn hs;unfold D.B at hk ⊢;rwa[this]
theorem Fz.mono {S':Nat->Prop} {m:Nat} (h:Fz n S w w') (hs:∀ i,i<m->S i->S' i) (hm:m<=n):Fz m S' w w' :=
 ⟨h.os,h.tape,h.output,h.size,fun i hi hn=>h.block i (by omega) fun h'=>hn (hs i hi h')⟩
structure One (b:Nat) (w w':World):Prop where
 os:w'.os=w.os
 tape:w'.tape=w.tape
 output:w'.output=w.output
 size:w'.heap.size=w.heap.size
 block:∀ k,k≠b->w'.heap[k]?=w.heap[k]?
theorem One.fz (h:One b w w') (hb:S b\/n<=b):Fz n S w w' :=
 ⟨h.os,h.tape,h.output,aKc h.size.symm,fun k hk hs=>h.block k fun e=>by subst e;exact hb.elim hs (fun h2=>by omega)⟩
theorem One.fr (h:One b w w') (hb:S b):Fr S w w':=⟨h.os,h.tape,h.output,aKc h.size.symm,fun k hk hs=>h.block k fun e=>by subst e;exact hs hb⟩
theorem One.B (h:One b w w') {k:Nat} (hk:k≠b):D.B w' k=D.B w k:=by unfold D.B;rw[h.block k hk]
theorem One.wr (w:World) (b:Nat) (cs:List Value):One b w (wr w b cs):=⟨rfl,rfl,rfl,by simp,fun k hk=>sK hk⟩
theorem One.own {e:TypeId} {s:Sl} {sz:Nat} (h:One b w w') (ho:Own w e s sz cs) (hb:¬ s.blk b):Own w' e s sz cs :=
 ho.fr (S:=fun k=>k=b) (h.fr rfl) (fun k hk e=>hb (e ▸ hk))
theorem aDA {x:Obj}:Fr S w (w.alloc x):=Fr.refl.alloc x
theorem mE {v:Value} (h:B w b=some (cs,T)) (ho:o<cs.length) (hv:v.oneCell'=true):∃ w',stV w ⟨b,o,none⟩ v=some w'/\B w' b=some (cs.set o v,T)/\One b w w' :=
 ⟨_,aBt h ho hv,wA h,One.wr _ _ _⟩
theorem xM {vs:List Value} (h:B w b=some (cs,T)) (ho:o+vs.length<=cs.length) (hv:∀ v∈vs,v.oneCell'=true):∃ w',stA w ⟨b,o,none⟩ 0 vs=some w'/\B w' b=some (jQ cs o vs,T)/\One b w w' :=
 ⟨_,wR vs 0 w cs h (by omega) hv,by simpa using wA h,One.wr _ _ _⟩
structure New (w w':World) (cs:List Value) (T:TypeId):Prop where
 b:B w' w.heap.size=some (cs,T)
 fr:∀ (n:Nat) (S:Nat->Prop),n<=w.heap.size->Fz n S w w'
 size:w'.heap.size=w.heap.size+1
 old:∀ k,k<w.heap.size->B w' k=B w k
theorem tU:New w (w.alloc (.cells cs.toArray T)) cs T :=
 ⟨aFo,fun n S hn=>(aDA (S:=S)).fz hn (fun _ h=>.inl h),by simp,fun k hk=>aER hk⟩
theorem aBn:∃ w',mk w T cs=some (⟨w.heap.size,0,none⟩,w')/\New w w' cs T:=⟨_,rfl,tU⟩
theorem wD {sz:Nat} {ps:List (List Value)} (h:∀ p∈ps,p.length=sz):∃ w',bsl w T sz ps=some (⟨some ⟨w.heap.size,0,none⟩,ps.length,ps.length⟩,w')/\New w w' ps.flatten T:=by
 refine⟨_,?_,tU⟩;unfold bsl;rw[if_pos (by simpa using h)]
theorem wW {P:Program} {t e:TypeId} {sz by_:Nat} {Z:List Value} (st:ST P t e sz by_ Z) {m:Int} (h0:0<=m) (hb:(by_:Int)*m<=281474976710656) :
  ∃ w',mkS P t m m w=some (⟨some ⟨w.heap.size,0,none⟩,m.toNat,m.toNat⟩,w')/\New w w' (List.replicate m.toNat Z).flatten e:=⟨_,aFI st h0 hb,tU⟩
theorem tQ:∃ w',dr w=some w'/\(∀ k,B w' k=B w k)/\(∀ (n:Nat) (S:Nat->Prop),Fz n S w w')/\w'.heap.size=w.heap.size/\(∀ a,w'.cell? a=w.cell? a):=⟨_,rfl,fun _=>rfl,fun _ _=>⟨rfl,rfl,rfl,aIv _,fun _ _ _=>rfl⟩,rfl,fun _=>rfl⟩
theorem aBM {P:Program} {t e u:TypeId} {sz by_ m c:Nat} {Z ys:List Value} {y:Sl} (st:ST P t e sz by_ Z) (hB:B w b=some (cs,T)) (hn:o+m*sz<=cs.length) (hy:Rd w y sz ys) (h1:∀ v∈ys,v.oneCell'=true) :
  ∃ w',cpS P t u ⟨some ⟨b,o,none⟩,m,c⟩ y w=some (((min y.n m:Nat):Int),w')/\B w' b=some (jQ cs o (ys.take (min y.n m*sz)),T)/\One b w w' :=
 ⟨_,aFj st hB hn hy h1,wA hB,One.wr _ _ _⟩
theorem Own.of_new {e:TypeId} {sz:Nat} {m:Nat} (h:New w w' cs e) (hl:cs.length=m*sz) (hm:m<=9223372036854775807):Own w' e ⟨some ⟨w.heap.size,0,none⟩,m,m⟩ sz cs :=
 ⟨hl,aIv _,hm,.inr ⟨_,[],rfl,by simpa using h.b,by simp⟩⟩
end
theorem uT {α:Type} {f:α->List Value} {sz:Nat}:∀ (l:List α) (k:Nat),(∀ x∈l,(f x).length=sz)->(hk:k<l.length)->((l.flatMap f).drop (k*sz)).take sz=f l[k]
 | [],k,_,hk=>by simp at hk
 | x::l,0,h,_=>by
  have:=h x (by simp);simp only[aKY,aJj,aIQ,List.getElem_cons_zero];rw[aJx (by omega),aIB (by omega)]
 | x::l,k+1,h,hk=>by
  have hx:=h x (by simp);simp only[aIQ,List.getElem_cons_succ];rw[aJg,aLf,aIU (by omega),aJL,show k*sz+sz-(f x).length=k*sz by omega];exact uT l k (fun y hy=>h y (by simp[hy])) (by simpa using hk)
theorem oQ {α:Type} {f:α->List Value} {sz:Nat} (l:List α) (h:∀ x∈l,(f x).length=sz):(l.flatMap f).length=l.length*sz:=by
 induction l with
 | nil=>simp
 | cons x l ih =>
  simp only[aIQ,aIE,aIH];rw[h x (by simp),ih (fun y hy=>h y (by simp[hy])),aJg];omega
theorem aFr {n k:Nat} (A C:List Value) (h:A.length=n):(A++C).take (n+k)=A++C.take k:=by
 subst h;rw[List.take_append,aIB (by omega)];simp
theorem aFg {n k:Nat} (A C:List Value) (h:A.length=n):(A++C).drop (n+k)=C.drop k:=by
 subst h;rw[aLf,aIU (by omega)];simp
theorem uO {w:World} {sz i:Nat} {cs:List Value} {s:Sl} (h:Rd w s sz cs) (hi:i<s.n):∃ a,ix s i sz=some a/\ldA sz w a 0=some ((cs.drop (i*sz)).take sz)/\(∀ j v,j<sz->cs[i*sz+j]?=some v->w.cell? (a.add j)=some v)/\(s.blk a.block):=by
 obtain⟨a,e,hc⟩:=h.ix hi;have hb:s.blk a.block:=by
  obtain⟨a',ha',_⟩:=h.at_ (by omega);unfold ix at e;rw[ha',aLx] at e;split at e
  .cases e;exact⟨a',ha',by unfold Addr.add;split<;>rfl⟩
  cases e
 refine⟨a,e,oY sz w a 0 _ ?_ (fun j v hv=>?_),hc,hb⟩
 .rw[aIN,aIY,h.len];have:(i+1)*sz<=s.n*sz:=aIJ _ hi;rw[aJg] at this;omega
 rw[aIV] at hv;split at hv
 .rename_i hj;rw[aJi] at hv;rw[aLy];exact hc j v hj hv
 cases hv
section
variable {w w' : World} {n : Nat} {F : Nat -> Prop}
def Out (F:Nat->Prop) (s:Sl):Prop:=∀ a,s.p=some a->0<s.n->¬ F a.block
theorem Out.nil:Out F Sl.nil:=fun a ha=>by cases ha
structure Arg (n:Nat) (w:World) (s:Sl) (sz:Nat) (cs:List Value):Prop where
 rd:Rd w s sz cs
 lo:∀ a,s.p=some a->0<s.n->a.block<n
theorem Arg.fr {s:Sl} {sz:Nat} {cs:List Value} (h:Arg n w s sz cs) (hf:Fr (fun k=>n<=k) w w'):Arg n w' s sz cs :=
 ⟨h.rd.fr hf (fun a ha h0=>by have:=h.lo a ha h0;omega),h.lo⟩
end
theorem wC (a:Addr) (i j:Nat):(a.add i).add j=a.add (i+j):=by
 unfold Addr.add;by_cases hi:i=0<;>by_cases hj:j=0<;>simp[hi,hj,aKz]
theorem yW {w:World} {a:Addr} {v:Value} (h:w.cell? a=some v):a.block<w.heap.size:=by
 rcases aLj a.block w.heap.size with h' | h'
 .exact h'
 simp[World.cell?,Array.getElem?_eq_none h'] at h
theorem arg_of {w:World} {s:Sl} {sz:Nat} {cs:List Value} (h:Rd w s sz cs) (hz:0<sz):Arg w.heap.size w s sz cs:=by
 refine⟨h,fun a ha h0=>?_⟩;obtain⟨a',ha',hc⟩:=h.at_ h0;rw[ha] at ha';cases ha';have hl:0<cs.length:=by rw[h.len];exact Nat.mul_pos h0 hz
 have:=yW (hc 0 cs[0] (by simp[hl]));rwa[show(a.add 0)=a by simp[Addr.add]] at this
section
variable {H : Type} {enc : TypeId × Value -> H} {P : Program} {w : World} {base fuel : Nat} {spare : Nat -> Bool} {held : Bool} {t e : TypeId} {cs : List Value} {x : DataW H × List MemPlace}
theorem open_nums {k:IntKind} (ht:P.underlying t=some (.slice e)) (he:P.underlying e=some (.int k)) (hc:P.cellsOf e=1) (h:DataW.trod enc P w base spare held fuel t cs=some x) :
  ∃ s xs,cs=[Sl.v s]/\Rd w s 1 (nums k xs)/\(∀ n∈xs,(Lit.int k n).wf=true)/\s.n<=s.c/\s.c<=maxLen:=by
 rcases ChangeShapes.open_ints ht he hc h with⟨rfl,_⟩ | ⟨a,len,cap,zs,rfl,_,hl,hm,hz,_,hcell,hw⟩
 .exact⟨Sl.nil,[],rfl,Rd.nil rfl,by simp,aIv _,aLe _⟩
 have hle:len<=zs.length:=by rw[hz];split<;>omega
 refine⟨⟨some a,len,cap⟩,zs.take len,rfl,⟨by simp;omega,fun _=>⟨a,rfl,fun j v hv=>?_⟩⟩,fun n hn=>hw n (aJh hn),hl,hm⟩;rw[lY,aIV] at hv;split at hv
 .rename_i hj;have:=hcell j (by omega);rw[aIs (by omega)] at hv;simp only[aIT,Option.some.injEq] at hv;rw[this,<-hv,aIu,aIs (by omega)];rfl
 cases hv
end
section
variable {P : Program} {t e T : TypeId} {sz by_ : Nat} {Z : List Value} {w w' : World} {s y : Sl} {cs ys : List Value}
theorem aEl (a:Addr) (i j:Nat):(a.add i).add j=a.add (i+j):=by
 unfold Addr.add;by_cases hi:i=0<;>by_cases hj:j=0<;>simp[hi,hj,aKz]
theorem uZ {s:Sl} {cs:List Value} {lo hi:Nat} (h:Rd w s 1 cs) (h1:lo<=hi) (h2:hi<=s.n) (h3:s.n<=s.c) :
  ∃ s',slS s (lo:Int) (hi:Int) (s.c:Int) 1=some s'/\Rd w s' 1 ((cs.drop lo).take (hi-lo))/\s'.n=hi-lo/\s'.n<=s'.c:=by
 have hl:cs.length=s.n:=by have:=h.len;simpa using this
 refine⟨⟨if (s.c:Int)=(lo:Int) then s.p else s.p.map (·.add lo),hi-lo,s.c-lo⟩,?_,⟨by simp;omega,fun hn=>?_⟩,rfl,by simp only;omega⟩
 .unfold slS;rw[if_pos (by omega)];simp only[aJH,aKm,Option.some.injEq,Sl.mk.injEq,true_and];constructor<;>omega
 simp only at hn;obtain⟨a,ha,hc⟩:=h.at_ (by omega);rw[if_neg (by omega),ha];refine⟨a.add lo,rfl,fun j v hv=>?_⟩;rw[aEl];refine hc _ v ?_;rw[aIV] at hv;split at hv
 .rwa[aJi] at hv
 cases hv
theorem aBP (st:ST P t e sz by_ Z) {ti:TypeId} {k:IntKind} (hti:P.underlying ti=some (.int k)) (h:Own w e s sz cs) (m:Nat) (h1:∀ v∈Z,v.oneCell'=true) (hb:(s.n+m)*by_<=140737488355328) :
  ∃ s' w',apZ P t ti s (m:Int) w=some (s',w')/\Own w' e s' sz (cs++(List.replicate m Z).flatten)/\Fr s.blk w w'/\s'.n=s.n+m/\(∀ k,s'.blk k->s.blk k\/w.heap.size<=k):=by
 obtain⟨i,z,hi,hz,hzc,hs,hby⟩:=st.hi;subst hs;subst hby;have hbp:=st.bpos;have hsz:=st.pos;have hzs:z.cells.size=i.size:=by rw[hzc];simpa using st.hZ
 have h63:s.n+m<=140737488355328:=aJe (aKA _ hbp) hb;obtain⟨sp,sn,sc⟩:=s;have hlen:=h.len;have hcap:=h.cap;have hmax:=h.max
 simp only at hlen hcap hmax h63 hb;have hw:IntKind.i64.wrap (m:Int)=m:=by rw[aIy];omega
 have hw0:IntKind.i64.wrap 0=0:=by rw[aIy];rfl
 have hneg:¬ ((m:Int)<0):=by omega
 have hmb:m*i.bytes<=140737488355328:=aJe (aIJ _ (Nat.le_add_left m sn)) hb;have hbig:¬ (281474976710656<(m:Int)*(i.bytes:Int)):=by
  rw[<-Int.natCast_mul];omega
 have hsn:i.size≠0:=by omega
 obtain⟨news,hnews⟩:∃ news,news=(List.replicate m Z).flatten:=⟨_,rfl⟩;have hna:Builtin.zeroCells z.cells m=news.toArray:=by
  apply Array.ext';rw[hnews,show Builtin.zeroCells z.cells m=madeCells Z.toArray (m*i.size) by unfold Builtin.zeroCells madeCells;rw[hzc];simp[st.hZ],qG Z _ _ st.hZ st.pos]
 have hl:news.length=m*i.size:=by
  have:=congrArg Array.size hna;rw[qA,hzs] at this;simpa using this.symm
 have hn1:∀ v∈news,v.oneCell'=true:=by
  intro v hv;rw[hnews] at hv;obtain⟨l,hl,hv⟩:=List.mem_flatten.1 hv;rw[aJk] at hl;rw[hl.2] at hv;exact h1 v hv
 rw[<-hnews];have newOwn:∀ (old:Nat),Own (w.drew.alloc (.cells (cs.toArray++news.toArray++Builtin.zeroCells z.cells (grownCap w (sn+m) old e-(sn+m))) e)) e
   ⟨some ⟨w.heap.size,0,none⟩,sn+m,grownCap w (sn+m) old e⟩ i.size (cs++news):=by
  intro old;have hge:=grownCap_ge w (sn+m) old e;have hle:grownCap w (sn+m) old e<=9223372036854775807:=by
   have:=grownCap_le_maxLen w (sn+m) old e (by simp[maxLen];omega);simpa[maxLen] using this
  refine⟨by simp[hlen,hl,aKQ],hge,hle,.inr ⟨w.heap.size,(Builtin.zeroCells z.cells (grownCap w (sn+m) old e-(sn+m))).toList,rfl,?_,by simp[qA,hzs]⟩⟩;rw[nS,show(cs++news++(Builtin.zeroCells z.cells (grownCap w (sn+m) old e-(sn+m))).toList).toArray=cs.toArray++news.toArray++Builtin.zeroCells z.cells (grownCap w (sn+m) old e-(sn+m)) by simp];exact heap_alloc_new w.drew _
 have newFr:∀ (S:Nat->Prop) (o:Obj),Fr S w (w.drew.alloc o):=fun S o=>(Fr.refl.drew).alloc o;have hnil:m=0->news=[]:=fun h=>aIA (by rw[hl,h,aKY]);have runs:∀ (A:Option Addr) (cap:Nat),cap<sn+m->(Builtin.firstCells i.size sn (.slice A sn cap)).run P w.drew = .ok cs.toArray w.drew->(Builtin.append_ #[t,ti] t #[.slice A sn cap,.int .i64 (m:Int)]).run P w =
   .ok (.slice (some ⟨w.heap.size,0,none⟩) (sn+m) (grownCap w (sn+m) cap e)) (w.drew.alloc (.cells (cs.toArray++news.toArray++Builtin.zeroCells z.cells (grownCap w (sn+m) cap e-(sn+m))) e)):=by
  intro A cap hcap hfo;have hn:¬ (sn+m<=cap):=by omega
  have h63':¬ (9223372036854775807<((sn:Int)+(m:Int))):=by omega
  have hfit:=growslice_fits hcap hb;have h48':¬ (281474976710656<Builtin.nextslicecap (sn+m) cap*i.bytes):=by omega
  by_cases hm:m=0
  .have hnl:=hnil hm;subst hm;rw[hnl];simp only[aJs] at hn h63' h48' ⊢;have h63'':¬ (9223372036854775807<(sn:Int)):=by omega
   simp[Builtin.append_,run_underlying st.ht,run_underlying hti,sizeOf,typeInfo,zeroValue,hi,hz,asInt,asIntOf,hw0,hn,h63'',h48',Question.forced,hfo,newRow,grownCap]
  have hmz:¬ (m*i.size=0):=Nat.mul_ne_zero hm hsn;simp[Builtin.append_,run_underlying st.ht,run_underlying hti,sizeOf,typeInfo,zeroValue,hi,hz,asInt,asIntOf,hw,hneg,hbig,hn,h63',h48',Question.forced,hfo,newRow,grownCap,hmz,hna];congr 2;apply Array.ext';simp[aIK]
 rcases h.h with⟨hp,h0,hc0⟩ | ⟨g,rest,hp,hB,hrest⟩
 .simp only at hp h0 hc0;subst hp;subst h0;subst hc0;have hcs:cs=[]:=aIA (by simpa using hlen);subst hcs;by_cases hm:m=0
  .have hnl:=hnil hm;subst hm;refine⟨⟨none,0,0⟩,w,?_,by rw[hnl];simpa using h,Fr.refl,rfl,fun k hk=>.inl hk⟩;have:(Builtin.append_ #[t,ti] t #[.slice none 0 0,.int .i64 ((0:Nat):Int)]).run P w = .ok (.slice none 0 0) w:=by
    simp[Builtin.append_,run_underlying st.ht,run_underlying hti,sizeOf,typeInfo,hi,asInt,asIntOf,hw0]
   simp only[apZ,Sl.v,this]
  have hr:=runs none 0 (by omega) (by simp[Builtin.firstCells]);refine⟨_,_,by simp only[apZ,Sl.v,hr],newOwn 0,newFr _ _,rfl,fun k hk=>?_⟩;obtain⟨a,ha,rfl⟩:=hk;cases ha;right;simp
 simp only at hp hrest;subst hp;by_cases hroom:sn+m<=sc
 .have hsr:=uX (P:=P) (wR (o:=sn*i.size) news 0 w (cs++rest) hB (by simp[hlen,hrest,hl];rw[aLt];have:=aIJ i.size hroom;have:=aIJ i.size hcap;rw[aKQ] at *;omega) hn1);simp only[aJs] at hsr;have e1:jQ (cs++rest) (sn*i.size) news=(cs++news)++rest.drop news.length:=by
   unfold jQ;rw[<-hlen];simp
  have hst:(storeCells ⟨g,sn*i.size,none⟩ news).run P w = .ok () (wr w g (jQ (cs++rest) (sn*i.size) news)):=hsr;have hr:(Builtin.append_ #[t,ti] t #[.slice (some ⟨g,0,none⟩) sn sc,.int .i64 (m:Int)]).run P w = .ok (.slice (some ⟨g,0,none⟩) (sn+m) sc) (wr w g (cs++news++rest.drop news.length)):=by
   rw[<-e1];by_cases hm:m=0
   .have hnl:=hnil hm;subst hm;rw[hnl] at hst ⊢;simp[Builtin.append_,run_underlying st.ht,run_underlying hti,sizeOf,typeInfo,hi,asInt,asIntOf,hw0,hcap,aD,hst]
   have hmz:¬ (m*i.size=0):=Nat.mul_ne_zero hm hsn;simp[Builtin.append_,run_underlying st.ht,run_underlying hti,sizeOf,typeInfo,zeroValue,hi,hz,asInt,asIntOf,hw,hneg,hbig,hroom,hmz,hna,aD,hst]
  refine⟨⟨some ⟨g,0,none⟩,sn+m,sc⟩,wr w g (cs++news++rest.drop news.length),by simp only[apZ,Sl.v,hr],⟨by simp[hlen,hl,aKQ],hroom,hmax,.inr ⟨g,rest.drop news.length,rfl,by rw[wA hB],by simp[hrest,hl,<-aLt];congr 1;omega⟩⟩,(Fr.refl).wr (.inl ⟨_,rfl,rfl⟩) _,rfl,fun k hk=>.inl hk⟩
 have holds:∀ j u,cs[j]?=some u->w.cell? ((⟨g,0,none⟩:Addr).add j)=some u:=by
  intro j u hu;rw[aD,pL hB,aLy,aID (aIt.1 hu).1];exact hu
 have hr:=runs (some ⟨g,0,none⟩) sc (by omega) (run_firstCells_some (P:=P) w.drew i.size sn _ sn sc cs hlen (by simpa using holds));refine⟨_,_,by simp only[apZ,Sl.v,hr],newOwn sc,newFr _ _,rfl,fun k hk=>?_⟩;obtain⟨a,ha,rfl⟩:=hk;cases ha;right;simp
end
abbrev Gh:=Nat->Prop
structure Mo (g:Gh) (w:World) (g':Gh) (w':World):Prop where
 size:w.heap.size<=w'.heap.size
 keep:∀ k,g k->g' k/\w'.heap[k]?=w.heap[k]?
theorem Mo.r {g:Gh} {w:World}:Mo g w g w:=⟨aIv _,fun k h=>⟨h,rfl⟩⟩
theorem Mo.t {g g' g'':Gh} {w w' w'':World} (h:Mo g w g' w') (k:Mo g' w' g'' w''):Mo g w g'' w'' :=
 ⟨aJe h.size k.size,fun i hi=>⟨(k.keep i (h.keep i hi).1).1,(k.keep i (h.keep i hi).1).2.trans (h.keep i hi).2⟩⟩
theorem Mo.cell {g g':Gh} {w w':World} (h:Mo g w g' w') {a:Addr} {v:Value} (hg:g a.block) (hc:w.cell? a=some v):w'.cell? a=some v :=
 (World.cell?_of_block (h.keep _ hg).2).trans hc
structure Rs where
 h:Gh->World->(Nat->Prop)->Prop
 st:∀ {g:Gh} {w:World} {F:Nat->Prop} {g':Gh} {w':World},h g w F->Mo g w g' w'->(∀ k,F k->w'.heap[k]?=w.heap[k]?)->h g' w' F
 lt:∀ {g:Gh} {w:World} {F:Nat->Prop} {k:Nat},h g w F->F k->k<w.heap.size
structure Sp (F:Nat->Prop) (g:Gh) (w:World) (g':Gh) (w':World):Prop where
 fr:Fr F w w'
 gh:∀ k,k<w.heap.size->¬ F k->(g' k↔g k)
 mo:Mo g w g' w'
 lt:∀ k,g' k->k<w'.heap.size
abbrev Nw (g:Gh) (w:World) (g':Gh) (w':World):Prop:=Sp (fun _=>False) g w g' w'
def Sep (g:Gh) (w:World):(Nat->Prop)->List Rs->Prop
 | _,[]=>True
 | A,r::L=>∃ F:Nat->Prop,r.h g w F/\(∀ k,F k->A k/\¬ g k)/\Sep g w (fun k=>A k/\¬ F k) L
structure Hp (F0:Nat->Prop) (g0:Gh) (w0:World) (g:Gh) (w:World) (L:List Rs):Prop where
 sp:Sp F0 g0 w0 g w
 sep:Sep g w (fun k=>F0 k\/w0.heap.size<=k) L
section
variable {F F' F0 A A' : Nat -> Prop} {g g' g'' g0 : Gh} {w w' w'' w0 : World} {L : List Rs} {r r' s q u v : Rs}
theorem Sp.rfl' (h:∀ k,g k->k<w.heap.size):Sp F g w g w:=⟨Fr.refl,fun _ _ _=>Iff.rfl,Mo.r,h⟩
theorem Sp.t (h : Sp F g w g' w') (k : Sp F' g' w' g'' w'') (hF : ∀ i, i < w.heap.size -> F' i -> F i) : Sp F g w g'' w'' :=
  ⟨h.fr.trans_new k.fr (fun i hi => (aLj i w.heap.size).elim (fun hl => .inl (hF i hl hi)) .inr),
   fun i hi hn => (k.gh i (aIX hi h.fr.size) (fun h' => hn (hF i hi h'))).trans (h.gh i hi hn), h.mo.t k.mo, k.lt⟩
theorem Nw.t (h:Nw g w g' w') (k:Nw g' w' g'' w''):Nw g w g'' w'':=Sp.t h k (fun _ _ h=>h)
theorem Sp.size (h:Sp F g w g' w'):w.heap.size<=w'.heap.size:=h.fr.size
theorem Sep.mono:∀ {L:List Rs} {A A':Nat->Prop},Sep g w A L->(∀ k,k<w.heap.size->A k->A' k)->Sep g w A' L
 | [],_,_,_,_=>trivial
 | r::L,A,A',⟨F,h,hF,hL⟩,hA=>⟨F,h,fun k hk=>⟨hA k (r.lt h hk) (hF k hk).1,(hF k hk).2⟩,hL.mono fun k hk h=>⟨hA k hk h.1,h.2⟩⟩
theorem Sep.step:∀ {L:List Rs} {A A':Nat->Prop},Sep g w A L->Mo g w g' w'->(∀ k,k<w.heap.size->A k->w'.heap[k]?=w.heap[k]?/\(g' k->g k)/\A' k)->Sep g' w' A' L
 | [],_,_,_,_,_=>trivial
 | r::L,A,A',⟨F,h,hF,hL⟩,m,hA =>
  ⟨F,r.st h m (fun k hk=>(hA k (r.lt h hk) (hF k hk).1).1),fun k hk=>⟨(hA k (r.lt h hk) (hF k hk).1).2.2,fun hg=>(hF k hk).2 ((hA k (r.lt h hk) (hF k hk).1).2.1 hg)⟩,
   hL.step m fun k hk h=>⟨(hA k hk h.1).1,(hA k hk h.1).2.1,(hA k hk h.1).2.2,h.2⟩⟩
theorem Sep.sw (h:Sep g w A (r::s::L)):Sep g w A (s::r::L):=by
 obtain⟨F,h1,h2,F',h3,h4,h5⟩:=h;exact⟨F',h3,fun k hk=>⟨(h4 k hk).1.1,(h4 k hk).2⟩,F,h1,fun k hk=>⟨⟨(h2 k hk).1,fun h'=>(h4 k h').1.2 hk⟩,(h2 k hk).2⟩,h5.mono fun k _ h=>⟨⟨h.1.1,h.2⟩,h.1.2⟩⟩
theorem Sep.tl (h:Sep g w A (r::L)):Sep g w A L:=by
 obtain⟨F,h1,h2,h3⟩:=h;exact h3.mono fun k _ h=>h.1
theorem Sep.sub (h:Sep g w A (r::L)) (k:∀ A,Sep g w A L->Sep g w A' []):True:=trivial
theorem Sep.cons (h:Sep g w A (r::L)) {L':List Rs} (k:∀ A,Sep g w A L->Sep g w A L'):Sep g w A (r::L'):=by
 obtain⟨F,h1,h2,h3⟩:=h;exact⟨F,h1,h2,k _ h3⟩
theorem Hp.lt (H:Hp F0 g0 w0 g w L):∀ k,g k->k<w.heap.size:=H.sp.lt
theorem Hp.tl (H:Hp F0 g0 w0 g w (r::L)):Hp F0 g0 w0 g w L:=⟨H.sp,H.sep.tl⟩
theorem Hp.sw (H:Hp F0 g0 w0 g w (r::s::L)):Hp F0 g0 w0 g w (s::r::L):=⟨H.sp,H.sep.sw⟩
theorem Hp.m2 (H:Hp F0 g0 w0 g w (r::s::q::L)):Hp F0 g0 w0 g w (q::r::s::L):=⟨H.sp,(H.sep.cons fun _ h=>h.sw).sw⟩
theorem Hp.m3 (H:Hp F0 g0 w0 g w (r::s::q::u::L)):Hp F0 g0 w0 g w (u::r::s::q::L):=⟨H.sp,((H.sep.cons fun _ h=>(h.cons fun _ h=>h.sw).sw).sw)⟩
theorem Hp.m4 (H:Hp F0 g0 w0 g w (r::s::q::u::v::L)):Hp F0 g0 w0 g w (v::r::s::q::u::L) :=
 ⟨H.sp,((H.sep.cons fun _ h=>(h.cons fun _ h=>(h.cons fun _ h=>h.sw).sw).sw).sw)⟩
theorem Hp.b2 (H:Hp F0 g0 w0 g w (q::r::s::L)):Hp F0 g0 w0 g w (r::s::q::L):=⟨H.sp,H.sep.sw.cons fun _ h=>h.sw⟩
theorem Hp.b3 (H:Hp F0 g0 w0 g w (u::r::s::q::L)):Hp F0 g0 w0 g w (r::s::q::u::L):=⟨H.sp,H.sep.sw.cons fun _ h=>h.sw.cons fun _ h=>h.sw⟩
theorem Hp.b4 (H:Hp F0 g0 w0 g w (v::r::s::q::u::L)):Hp F0 g0 w0 g w (r::s::q::u::v::L) :=
 ⟨H.sp,H.sep.sw.cons fun _ h=>h.sw.cons fun _ h=>h.sw.cons fun _ h=>h.sw⟩
theorem Hp.hd (H:Hp F0 g0 w0 g w (r::L)):∃ F,r.h g w F:=by obtain⟨F,h,_⟩:=H.sep;exact⟨F,h⟩
theorem Hp.beg (h:∀ k,g k->k<w.heap.size):Hp F0 g w g w []:=⟨Sp.rfl' h,trivial⟩
theorem Hp.nw (H:Hp F0 g0 w0 g w L) (n:Nw g w g' w'):Hp F0 g0 w0 g' w' L :=
 ⟨H.sp.t n (fun _ _ h=>h.elim),H.sep.step n.mo fun k hk hA=>⟨n.fr.block k hk id,fun hg=>(n.gh k hk id).1 hg,hA⟩⟩
theorem Hp.up (H:Hp F0 g0 w0 g w (r::L)) {Ψ:Gh->World->Prop} (f:∀ F,r.h g w F->(∀ k,F k->¬ g k)->∃ g' w' F',Ψ g' w'/\r'.h g' w' F'/\Sp F g w g' w'/\∀ k,F' k->¬ g' k/\(F k\/w.heap.size<=k)) :
  ∃ g' w',Ψ g' w'/\Hp F0 g0 w0 g' w' (r'::L)/\Mo g w g' w':=by
 obtain⟨F,h,hF,hL⟩:=H.sep;obtain⟨g',w',F',h1,h2,h3,h4⟩:=f F h (fun k hk=>(hF k hk).2);refine⟨g',w',h1,⟨H.sp.t h3 (fun i hi hf=>(hF i hf).1.elim id (fun h=>by omega)),F',h2,fun k hk=>⟨?_,(h4 k hk).1⟩,?_⟩,h3.mo⟩
 .exact(h4 k hk).2.elim (fun h=>(hF k h).1) (fun h=>.inr (aJe H.sp.size h))
 exact hL.step h3.mo fun k hk hA=>⟨h3.fr.block k hk hA.2,(h3.gh k hk hA.2).1,hA.1,fun hk'=>(h4 k hk').2.elim hA.2 (fun h=>by omega)⟩
theorem Hp.add (H:Hp F0 g0 w0 g w L) (n:Nw g w g' w') (h:r.h g' w' F) (hF:∀ k,F k->¬ g' k/\w.heap.size<=k):Hp F0 g0 w0 g' w' (r::L) :=
 ⟨(H.nw n).sp,F,h,fun k hk=>⟨.inr (aJe H.sp.size (hF k hk).2),(hF k hk).1⟩,H.sep.step n.mo fun k hk hA=>⟨n.fr.block k hk id,(n.gh k hk id).1,hA,fun hk'=>by have:=(hF k hk').2;omega⟩⟩
theorem Hp.keep (H:Hp F0 g0 w0 g w (r::L)):∃ (g':Gh) (F:Nat->Prop),r.h g' w F/\(∀ k,F k->g' k)/\Hp F0 g0 w0 g' w L/\Mo g w g' w:=by
 obtain⟨F,h,hF,hL⟩:=H.sep;have m:Mo g w (fun k=>g k\/F k) w:=⟨aIv _,fun k hk=>⟨.inl hk,rfl⟩⟩;refine⟨fun k=>g k\/F k,F,r.st h m (fun _ _=>rfl),fun k hk=>.inr hk,⟨⟨H.sp.fr,fun k hk hn=>?_,H.sp.mo.t m,fun k hk=>hk.elim (H.lt k) (r.lt h)⟩,?_⟩,m⟩
 .rw[<-H.sp.gh k hk hn];exact⟨fun h=>h.elim id (fun h=>((hF k h).1.elim hn (fun h=>by omega)).elim),.inl⟩
 exact hL.step m fun k hk hA=>⟨rfl,fun h=>h.elim id (fun h=>(hA.2 h).elim),hA.1⟩
theorem aBV (h:∀ k,g k->k<w.heap.size):Nw g w g w.drew:=⟨Fr.refl.drew,fun _ _ _=>Iff.rfl,⟨aIv _,fun k h=>⟨h,rfl⟩⟩,h⟩
theorem aAo (h:∀ k,g k->k<w.heap.size) (o:Obj):Nw g w g (w.alloc o) :=
 ⟨Fr.refl.alloc o,fun _ _ _=>Iff.rfl,⟨by simp,fun k hk=>⟨hk,Go.heap_alloc_old w o (h k hk)⟩⟩,fun k hk=>by have:=h k hk;simp;omega⟩
theorem Hp.dr (H:Hp F0 g0 w0 g w L):∃ w',dr w=some w'/\Hp F0 g0 w0 g w' L/\Mo g w g w':=⟨_,rfl,H.nw (aBV H.lt),(aBV H.lt).mo⟩
theorem vZ (h:∀ k,g k->k<w.heap.size) (f:∀ S,Fr S w w'):Nw g w g w' :=
 ⟨f _,fun _ _ _=>Iff.rfl,⟨(f (fun _=>False)).size,fun k hk=>⟨hk,(f (fun _=>False)).block k (h k hk) id⟩⟩,fun k hk=>aIX (h k hk) (f (fun _=>False)).size⟩
theorem Hp.old (H:Hp F0 g0 w0 g w L) (f:∀ S,Fr S w w'):Hp F0 g0 w0 g w' L:=H.nw (vZ H.lt f)
theorem Hp.mold (H:Hp F0 g0 w0 g w L) (f:∀ S,Fr S w w'):Mo g w g w':=(vZ H.lt f).mo
end
def bxR (b:Nat) (cs:List Value) (T:TypeId):Rs where
 h g w F:=B w b=some (cs,T)/\∀ k,F k↔k=b
 st h m hk:=⟨by have:=hk _ ((h.2 _).2 rfl);unfold B at h ⊢;rw[this];exact h.1,h.2⟩
 lt h hk:=by have:=(h.2 _).1 hk;subst this;exact qW h.1
def owR (T:TypeId) (sz:Nat) (s:Sl) (cs:List Value):Rs where
 h g w F:=Own w T s sz cs/\∀ k,F k↔s.blk k
 st h m hk:=⟨⟨h.1.len,h.1.cap,h.1.max,h.1.h.elim .inl fun ⟨b,rest,hp,hb,hr⟩=>.inr ⟨b,rest,hp,by have:=hk b ((h.2 _).2 ⟨_,hp,rfl⟩);unfold B at hb ⊢;rw[this];exact hb,hr⟩⟩,h.2⟩
 lt h hk:=h.1.lt ((h.2 _).1 hk)
section
variable {F F' F0 A A' : Nat -> Prop} {g g' g'' g0 : Gh} {w w' w'' w0 : World} {L : List Rs} {r r' s q u v : Rs} {b : Nat} {cs ys : List Value} {T : TypeId} {sz : Nat} {z y : Sl}
theorem Hp.box (H:Hp F0 g0 w0 g w L):∃ b w',D.mk w T cs=some (⟨b,0,none⟩,w')/\Hp F0 g0 w0 g w' (bxR b cs T::L)/\Mo g w g w' :=
 ⟨_,_,rfl,H.add (aAo H.lt _) (F:=fun k=>k=w.heap.size) ⟨aFo,fun _=>Iff.rfl⟩ (fun k hk=>⟨fun hg=>by have:=H.lt k hg;omega,by omega⟩),(aAo H.lt _).mo⟩
theorem Hp.bx (H:Hp F0 g0 w0 g w (bxR b cs T::L)):B w b=some (cs,T):=by obtain⟨F,h⟩:=H.hd;exact h.1
theorem Hp.ow (H:Hp F0 g0 w0 g w (owR T sz z cs::L)):Own w T z sz cs:=by obtain⟨F,h⟩:=H.hd;exact h.1
theorem aAp {c:List Value} (h:B w b=some (c,T)) (hg:¬ g b) (hF:F b) (hl:∀ k,g k->k<w.heap.size):Sp F g w g (wr w b cs) :=
 ⟨Fr.refl.wr (.inl hF) _,fun _ _ _=>Iff.rfl,⟨by simp,fun k hk=>⟨hk,sK (fun e=>hg (e ▸ hk))⟩⟩,fun k hk=>by have:=hl k hk;simpa using this⟩
theorem Hp.stV (H:Hp F0 g0 w0 g w (bxR b cs T::L)) {o:Nat} {x:Value} (ho:o<cs.length) (hx:x.oneCell'=true):∃ w',stV w ⟨b,o,none⟩ x=some w'/\Hp F0 g0 w0 g w' (bxR b (cs.set o x) T::L)/\Mo g w g w':=by
 have hb:=H.bx;obtain⟨g',w',⟨rfl,e⟩,h2,m⟩:=H.up (r':=bxR b (cs.set o x) T) (Ψ:=fun g' w'=>g'=g/\D.stV w ⟨b,o,none⟩ x=some w') fun F h hF =>
  ⟨g,_,F,⟨rfl,aBt hb ho hx⟩,⟨wA hb,h.2⟩,aAp hb (hF _ ((h.2 _).2 rfl)) ((h.2 _).2 rfl) H.lt,fun k hk=>⟨hF k hk,.inl hk⟩⟩
 exact⟨w',e,h2,m⟩
theorem Hp.stA (H:Hp F0 g0 w0 g w (bxR b cs T::L)) {o:Nat} {vs:List Value} (ho:o+vs.length<=cs.length) (hx:∀ v∈vs,v.oneCell'=true):∃ w',stA w ⟨b,o,none⟩ 0 vs=some w'/\Hp F0 g0 w0 g w' (bxR b (jQ cs o vs) T::L)/\Mo g w g w':=by
 have hb:=H.bx;obtain⟨g',w',⟨rfl,e⟩,h2,m⟩:=H.up (r':=bxR b (jQ cs o vs) T) (Ψ:=fun g' w'=>g'=g/\D.stA w ⟨b,o,none⟩ 0 vs=some w') fun F h hF =>
  ⟨g,_,F,⟨rfl,wR vs 0 w cs hb (by omega) hx⟩,⟨wA hb,h.2⟩,aAp hb (hF _ ((h.2 _).2 rfl)) ((h.2 _).2 rfl) H.lt,fun k hk=>⟨hF k hk,.inl hk⟩⟩
 exact⟨w',e,by simpa using h2,m⟩
structure PR (g:Gh) (w:World) (s:Sl) (sz:Nat) (cs:List Value):Prop where
 rd:Rd w s sz cs
 per:∀ a,s.p=some a->0<s.n->g a.block
theorem PR.mo (h:PR g w z sz cs) (m:Mo g w g' w'):PR g' w' z sz cs :=
 ⟨⟨h.rd.len,fun hn=>by
  obtain⟨a,e,hc⟩:=h.rd.at_ hn;have hb:∀ j,(a.add j).block=a.block:=fun j=>by unfold Addr.add;split<;>rfl
  exact⟨a,e,fun j v hv=>m.cell (by rw[hb];exact h.per a e hn) (hc j v hv)⟩⟩,fun a e hn=>(m.keep _ (h.per a e hn)).1⟩
theorem PR.nil (h:z.n=0):PR g w z sz []:=⟨Rd.nil h,fun a e hn=>by omega⟩
theorem Hp.keepO (H:Hp F0 g0 w0 g w (owR T sz z cs::L)):∃ g':Gh,PR g' w z sz cs/\Hp F0 g0 w0 g' w L/\Mo g w g' w:=by
 obtain⟨g',F,h1,h2,h3,h4⟩:=H.keep;exact⟨g',⟨h1.1.rd,fun a e hn=>h2 _ ((h1.2 _).2 ⟨a,e,rfl⟩)⟩,h3,h4⟩
theorem Hp.onil (H:Hp F0 g0 w0 g w L):Hp F0 g0 w0 g w (owR T sz Sl.nil []::L) :=
 H.add (Sp.rfl' H.lt) (F:=fun _=>False) ⟨Own.nil,fun k=>⟨fun h=>h.elim,fun ⟨a,ha,_⟩=>by cases ha⟩⟩ (fun k hk=>hk.elim)
variable {P : Program} {t' e : TypeId} {by_ : Nat} {Z : List Value}
theorem aDc (h:Own w T z sz cs) (hF:∀ k,F k↔z.blk k) (hn:∀ k,F k->¬ g k) (hl:∀ k,g k->k<w.heap.size) (f:Fr z.blk w w'):Sp F g w g w' :=
 ⟨f.mono fun i hi=>.inl ((hF i).2 hi),fun _ _ _=>Iff.rfl,⟨f.size,fun k hk=>⟨hk,f.block k (hl k hk) (fun hb=>hn k ((hF k).2 hb) hk)⟩⟩,fun k hk=>aIX (hl k hk) f.size⟩
theorem Hp.apS (st:ST P t' e sz by_ Z) (H:Hp F0 g0 w0 g w (owR e sz z cs::L)) (hy:Rd w y sz ys) (h1:∀ v∈ys,v.oneCell'=true) (hb:(z.n+y.n)*by_<=140737488355328) :
  ∃ z' w',apS P t' z y w=some (z',w')/\z'.n=z.n+y.n/\Hp F0 g0 w0 g w' (owR e sz z' (cs++ys)::L)/\Mo g w g w':=by
 have ho:=H.ow;obtain⟨z',w',e1,o1,f1,n1,k1⟩:=qS st ho hy h1 hb;obtain⟨g',w'',⟨rfl,rfl⟩,h2,m⟩:=H.up (r':=owR e sz z' (cs++ys)) (Ψ:=fun g' w''=>g'=g/\w''=w') fun F h hF =>
  ⟨g,w',z'.blk,⟨rfl,rfl⟩,⟨o1,fun _=>Iff.rfl⟩,aDc ho h.2 hF H.lt f1,fun k hk=>(k1 k hk).elim (fun h'=>⟨hF k ((h.2 k).2 h'),.inl ((h.2 k).2 h')⟩) (fun h'=>⟨fun hg=>by have:=H.lt k hg;omega,.inr h'⟩)⟩
 exact⟨z',w'',e1,n1,h2,m⟩
theorem Hp.apZ (st:ST P t' e sz by_ Z) {ti:TypeId} {k:IntKind} (hti:P.underlying ti=some (.int k)) (H:Hp F0 g0 w0 g w (owR e sz z cs::L)) (m:Nat) (h1:∀ v∈Z,v.oneCell'=true) (hb:(z.n+m)*by_<=140737488355328) :
  ∃ z' w',D.apZ P t' ti z (m:Int) w=some (z',w')/\z'.n=z.n+m/\Hp F0 g0 w0 g w' (owR e sz z' (cs++(List.replicate m Z).flatten)::L)/\Mo g w g w':=by
 have ho:=H.ow;obtain⟨z',w',e1,o1,f1,n1,k1⟩:=aBP st hti ho m h1 hb;obtain⟨g',w'',⟨rfl,rfl⟩,h2,m⟩:=H.up (r':=owR e sz z' (cs++(List.replicate m Z).flatten)) (Ψ:=fun g' w''=>g'=g/\w''=w') fun F h hF =>
  ⟨g,w',z'.blk,⟨rfl,rfl⟩,⟨o1,fun _=>Iff.rfl⟩,aDc ho h.2 hF H.lt f1,fun k hk=>(k1 k hk).elim (fun h'=>⟨hF k ((h.2 k).2 h'),.inl ((h.2 k).2 h')⟩) (fun h'=>⟨fun hg=>by have:=H.lt k hg;omega,.inr h'⟩)⟩
 exact⟨z',w'',e1,n1,h2,m⟩
theorem Hp.new (H:Hp F0 g0 w0 g w L) {m:Nat} (h:New w w' cs e) (hl:cs.length=m*sz) (hm:m<=9223372036854775807) :
  Hp F0 g0 w0 g w' (owR e sz ⟨some ⟨w.heap.size,0,none⟩,m,m⟩ cs::L)/\Mo g w g w':=by
 have n:=vZ H.lt (fun S=>(h.fr _ S (aIv _)).fr);refine⟨H.add n (F:=fun k=>k=w.heap.size) ⟨Own.of_new h hl hm,fun k=>⟨fun hk=>⟨_,rfl,hk.symm⟩,fun ⟨a,ha,hk⟩=>by cases ha;exact hk.symm⟩⟩ (fun k hk=>⟨fun hg=>by have:=H.lt k hg;omega,by omega⟩),n.mo⟩
theorem Hp.bsl (H:Hp F0 g0 w0 g w L) {ps:List (List Value)} (h:∀ p∈ps,p.length=sz) (hm:ps.length<=9223372036854775807) :
  ∃ z w',bsl w T sz ps=some (z,w')/\z.n=ps.length/\z.c=ps.length/\Hp F0 g0 w0 g w' (owR T sz z ps.flatten::L)/\Mo g w g w':=by
 obtain⟨w',e,n⟩:=wD (w:=w) (T:=T) h;have hl:ps.flatten.length=ps.length*sz:=by
  have:=oQ (f:=fun c:List Value=>c) ps h;rwa[List.flatMap_id'] at this
 obtain⟨h1,h2⟩:=H.new n hl hm;exact⟨_,w',e,rfl,rfl,h1,h2⟩
theorem Hp.mkS (st:ST P t' e sz by_ Z) (H:Hp F0 g0 w0 g w L) {m:Int} (h0:0<=m) (hb:(by_:Int)*m<=281474976710656) :
  ∃ z w',mkS P t' m m w=some (z,w')/\z.n=m.toNat/\z.c=m.toNat/\Hp F0 g0 w0 g w' (owR e sz z (List.replicate m.toNat Z).flatten::L)/\Mo g w g w':=by
 obtain⟨w',e1,n⟩:=wW (w:=w) st h0 hb;have hl:(List.replicate m.toNat Z).flatten.length=m.toNat*sz:=by
  have:=oQ (f:=fun c:List Value=>c) (sz:=sz) (List.replicate m.toNat Z) (fun x hx=>by rw[(aJk.1 hx).2];exact st.hZ);rw[List.flatMap_id',aIM] at this;exact this
 have hm:m.toNat<=9223372036854775807:=by
  have hp:=st.bpos;have:(1:Int)*m<=(by_:Int)*m:=aKK (by omega) h0;omega
 obtain⟨h1,h2⟩:=H.new n hl hm;exact⟨_,w',e1,rfl,rfl,h1,h2⟩
theorem Own.at_ (h:Own w T z sz cs) (hn:0<z.n):∃ b rest,z.p=some ⟨b,0,none⟩/\B w b=some (cs++rest,T)/\rest.length=(z.c-z.n)*sz:=by
 rcases h.h with⟨_,h0,_⟩ | h
 .omega
 exact h
theorem Hp.oset (H:Hp F0 g0 w0 g w (owR T sz z cs::L)) {b o:Nat} (hp:z.p=some ⟨b,0,none⟩) (hn:0<z.n) {x:Value} (ho:o<cs.length) (hx:x.oneCell'=true) :
  ∃ w',D.stV w ⟨b,o,none⟩ x=some w'/\Hp F0 g0 w0 g w' (owR T sz z (cs.set o x)::L)/\Mo g w g w':=by
 have h0:=H.ow;obtain⟨b',rest,hp',hB,hr⟩:=h0.at_ hn;rw[hp] at hp';cases hp';have e1:=aBt (o:=o) (v:=x) hB (by rw[aIE];omega) hx;rw[aJX _ _ ho] at e1;have hB':=wA (cs:=cs.set o x++rest) hB;obtain⟨g',w'',⟨rfl,rfl⟩,h2,m⟩:=H.up (r':=owR T sz z (cs.set o x)) (Ψ:=fun g' w''=>g'=g/\w''=wr w b (cs.set o x++rest)) fun F h hF =>
  ⟨g,_,F,⟨rfl,rfl⟩,⟨⟨by simpa using h0.len,h0.cap,h0.max,.inr ⟨b,rest,hp,hB',hr⟩⟩,h.2⟩,aAp hB (hF _ ((h.2 _).2 ⟨_,hp,rfl⟩)) ((h.2 _).2 ⟨_,hp,rfl⟩) H.lt,fun k hk=>⟨hF k hk,.inl hk⟩⟩
 exact⟨_,e1,h2,m⟩
theorem Hp.osetA (H:Hp F0 g0 w0 g w (owR T sz z cs::L)) {b o:Nat} (hp:z.p=some ⟨b,0,none⟩) (hn:0<z.n) {vs:List Value} (ho:o+vs.length<=cs.length) (hx:∀ v∈vs,v.oneCell'=true) :
  ∃ w',D.stA w ⟨b,o,none⟩ 0 vs=some w'/\Hp F0 g0 w0 g w' (owR T sz z (jQ cs o vs)::L)/\Mo g w g w':=by
 have h0:=H.ow;obtain⟨b',rest,hp',hB,hr⟩:=h0.at_ hn;rw[hp] at hp';cases hp';have e1:=wR (o:=o) vs 0 w (cs++rest) hB (by rw[aIE];omega) hx;have e2:jQ (cs++rest) (o+0) vs=jQ cs o vs++rest:=by
  simp only[jQ,aJs];rw[aJx (by omega),aJo (by omega)];simp
 rw[e2] at e1;have hB':=wA (cs:=jQ cs o vs++rest) hB;obtain⟨g',w'',⟨rfl,rfl⟩,h2,m⟩:=H.up (r':=owR T sz z (jQ cs o vs)) (Ψ:=fun g' w''=>g'=g/\w''=wr w b (jQ cs o vs++rest)) fun F h hF =>
  ⟨g,_,F,⟨rfl,rfl⟩,⟨⟨by rw[rI ho];exact h0.len,h0.cap,h0.max,.inr ⟨b,rest,hp,hB',hr⟩⟩,h.2⟩,aAp hB (hF _ ((h.2 _).2 ⟨_,hp,rfl⟩)) ((h.2 _).2 ⟨_,hp,rfl⟩) H.lt,fun k hk=>⟨hF k hk,.inl hk⟩⟩
 exact⟨_,e1,h2,m⟩
end
def Ex {ρ:Type} (T:Option ρ) (Φ:ρ->Prop):Prop:=∃ r,T=some r/\Φ r
section
variable {α β γ δ ε ζ ρ : Type} {Φ : ρ -> Prop}
theorem Ex.ret {r:ρ} (h:Φ r):Ex (some r) Φ:=⟨r,rfl,h⟩
theorem Ex.b1 {o:Option α} {a:α} {f:α->Option ρ} (e:o=some a) (h:Ex (f a) Φ):Ex (o.bind f) Φ:=by subst e;exact h
theorem Ex.s1 {a:α} {f:α->Option ρ} (h:Ex (f a) Φ):Ex ((some a).bind f) Φ:=h
theorem Ex.b2 {o:Option (α×β)} {a:α} {b:β} {f:α->β->Option ρ} (e:o=some (a,b)) (h:Ex (f a b) Φ):Ex (aN o f) Φ:=by subst e;exact h
theorem Ex.b3 {o:Option (α×β×γ)} {a:α} {b:β} {c:γ} {f:α->β->γ->Option ρ} (e:o=some (a,b,c)) (h:Ex (f a b c) Φ):Ex (oM o f) Φ:=by subst e;exact h
theorem Ex.b4 {o:Option (α×β×γ×δ)} {a:α} {b:β} {c:γ} {d:δ} {f:α->β->γ->δ->Option ρ} (e:o=some (a,b,c,d)) (h:Ex (f a b c d) Φ):Ex (kE o f) Φ:=by subst e;exact h
theorem Ex.b5 {o:Option (α×β×γ×δ×ε)} {a:α} {b:β} {c:γ} {d:δ} {x:ε} {f:α->β->γ->δ->ε->Option ρ} (e:o=some (a,b,c,d,x)) (h:Ex (f a b c d x) Φ):Ex (aDC o f) Φ:=by subst e;exact h
theorem Ex.ck {p:Prop} {o:Option ρ} (hp:p) (h:Ex o Φ):Ex (chk p o) Φ:=by rw[gR hp];exact h
theorem Ex.t {c:Prop} [Decidable c] {A B:Option ρ} (hc:c) (h:Ex A Φ):Ex (if c then A else B) Φ:=by rw[if_pos hc];exact h
theorem Ex.f {c:Prop} [Decidable c] {A B:Option ρ} (hc:¬ c) (h:Ex B Φ):Ex (if c then A else B) Φ:=by rw[if_neg hc];exact h
theorem Ex.c {b:Bool} {p:Prop} {A B:Option ρ} (hb:b=true↔p) (h1:p->Ex A Φ) (h2:¬ p->Ex B Φ):Ex (if b=true then A else B) Φ:=by
 by_cases h:p
 .exact Ex.t (hb.2 h) (h1 h)
 exact Ex.f (fun h'=>h (hb.1 h')) (h2 h)
theorem Ex.mono {T:Option ρ} {Ψ:ρ->Prop} (h:Ex T Ψ) (k:∀ r,Ψ r->Φ r):Ex T Φ:=by obtain⟨r,e,h⟩:=h;exact⟨r,e,k r h⟩
theorem Ex.j1 {o:Option α} {f:α->Option ρ} {Ψ:α->Prop} (h:Ex o Ψ) (k:∀ a,Ψ a->Ex (f a) Φ):Ex (o.bind f) Φ:=by obtain⟨a,e,h⟩:=h;subst e;exact k a h
theorem Ex.j2 {o:Option (α×β)} {f:α->β->Option ρ} {Ψ:α×β->Prop} (h:Ex o Ψ) (k:∀ a b,Ψ (a,b)->Ex (f a b) Φ):Ex (aN o f) Φ:=by obtain⟨⟨a,b⟩,e,h⟩:=h;subst e;exact k a b h
theorem Ex.j3 {o:Option (α×β×γ)} {f:α->β->γ->Option ρ} {Ψ:α×β×γ->Prop} (h:Ex o Ψ) (k:∀ a b c,Ψ (a,b,c)->Ex (f a b c) Φ):Ex (oM o f) Φ:=by obtain⟨⟨a,b,c⟩,e,h⟩:=h;subst e;exact k a b c h
theorem Ex.j4 {o:Option (α×β×γ×δ)} {f:α->β->γ->δ->Option ρ} {Ψ:α×β×γ×δ->Prop} (h:Ex o Ψ) (k:∀ a b c d,Ψ (a,b,c,d)->Ex (f a b c d) Φ):Ex (kE o f) Φ:=by obtain⟨⟨a,b,c,d⟩,e,h⟩:=h;subst e;exact k a b c d h
theorem Ex.j5 {o:Option (α×β×γ×δ×ε)} {f:α->β->γ->δ->ε->Option ρ} {Ψ:α×β×γ×δ×ε->Prop} (h:Ex o Ψ) (k:∀ a b c d x,Ψ (a,b,c,d,x)->Ex (f a b c d x) Φ):Ex (aDC o f) Φ:=by obtain⟨⟨a,b,c,d,x⟩,e,h⟩:=h;subst e;exact k a b c d x h
theorem Ex.loop {S R:Type} {step:S->Option (S⊕R)} {Φ:R->Prop} (I:Nat->S->Prop) (hs:∀ m s,I m s->Ex (step s) fun o=>match o with | .inl s'=>∃ m',m'<m/\I m' s' | .inr r=>Φ r) :
  ∀ (m:Nat) (s:S),I m s->Ex (bM step s) Φ:=by
 intro m
 induction m using Nat.strongRecOn with
 | _ m ih =>
  intro s h;obtain⟨o,e,ho⟩:=hs m s h
  cases o with
  | inl s' =>
   obtain⟨m',hm,h'⟩:=ho;obtain⟨r,e',h⟩:=ih m' hm s' h';exact⟨r,(cH e).trans e',h⟩
  | inr r=>exact⟨r,bS e,ho⟩
end
abbrev rn:=List.range'
theorem nm {b c:Bool} (h:b≠true) (hc:c=true:=by rfl):b≠c:=by rw[hc];exact h
abbrev iV (x:Int):Value:=.int .i64 x
abbrev pV (x:Option Addr):Value:=.pointer x
abbrev bV (x:Bool):Value:=.bool x
theorem Has.sb {n:Nat} {L M:List (Nat×Value)} {a:Act} (h:Has n L a) (hm:(M.map fun p=>L.lookup p.1)=M.map fun p=>some p.2):Has n M a:=h.sub (by
 induction M with
 | nil=>exact trivial
 | cons p M ih=>exact⟨(List.cons.inj hm).1,ih (List.cons.inj hm).2⟩)
def ltb (n:Nat) (o:Option Nat):Bool:=o.all fun d=>decide (d<n)
section
variable {P : Program} {n : Nat} {L : List (Nat × Value)} {a : Act} {w w' : World} {Q : Exit -> Act -> World -> Prop} {ops : Array Oper} {rest : List Oper}
theorem q {o:Oper} {v:Value} (ha:Has n L a) (h:fA P o a w v w') (hr:∀ a',Has n (upd o.dst v L) a'->wpList P ops Q rest a' w') (hg:o.guard=none:=by rfl) (hd:ltb n o.dst=true:=by rfl):wpList P ops Q (o::rest) a w:=aFG hg ha (ltd hd) h hr
theorem qm {d ty pos af x v} (ha:Has n L a) (hx:evO L x=some v) (hr:∀ a',Has n (upd d v L) a'->wpList P ops Q rest a' w) (hd:ltb n d=true:=by rfl):wpList P ops Q (⟨d,.move x,ty,pos,af,none⟩::rest) a w:=aFG rfl ha (ltd hd) (aC ha hx) hr
theorem qa {d ty pos af x v} (ha:Has n L a) (hx:evO L x=some v) (hr:∀ a',Has n (upd d v L) a'->wpList P ops Q rest a' w) (hd:ltb n d=true:=by rfl):wpList P ops Q (⟨d,.assign x,ty,pos,af,none⟩::rest) a w:=aFG rfl ha (ltd hd) (bD ha hx) hr
theorem qg {o:Oper} {v:Value} {j:Nat} {b c:Bool} (ha:Has n L a) (t:Nat) (hbc:b=c) (h:fA P o a w v w') (hr:∀ a',Has n (upd o.dst v L) a'->wpList P ops Q rest a' w')
  (hg:o.guard=some (j,c):=by rfl) (hj:(ops[j]?).bind (·.dst)=some t:=by rfl) (ht:L.lookup t=some (.bool b):=by rfl) (hd:ltb n o.dst=true:=by rfl):wpList P ops Q (o::rest) a w:=aEV hg hj ha ht hbc (ltd hd) h hr
theorem qn {o:Oper} {j:Nat} {b c:Bool} (ha:Has n L a) (t:Nat) (hbc:b≠c) (hr:∀ a',Has n (upd o.dst undef L) a'->wpList P ops Q rest a' w)
  (hg:o.guard=some (j,c):=by rfl) (hj:(ops[j]?).bind (·.dst)=some t:=by rfl) (ht:L.lookup t=some (.bool b):=by rfl) (hd:ltb n o.dst=true:=by rfl):wpList P ops Q (o::rest) a w:=aFz hg hj ha ht hbc (ltd hd) hr
theorem qu {o:Oper} {j:Nat} {c:Bool} (ha:Has n L a) (t:Nat) (hr:∀ a',Has n (upd o.dst undef L) a'->wpList P ops Q rest a' w)
  (hg:o.guard=some (j,c):=by rfl) (hj:(ops[j]?).bind (·.dst)=some t:=by rfl) (ht:L.lookup t=some undef:=by rfl) (hd:ltb n o.dst=true:=by rfl):wpList P ops Q (o::rest) a w:=aFF hg hj ha ht (ltd hd) hr
variable {W : Nat -> World} {lo hi : Nat} {o : Oper} {li : List (Nat × Value)} {v : Value} {e : Bool}
theorem oa (h:∀ {j a},Has n li a->fA P o a (W j) v (W j)) (hg:o.guard=none:=by rfl) (he:e=false:=by rfl):∀ j,lo<=j->j<=hi->pJ P n ops o li v (W j) (W (j+if e=true then 1 else 0)):=fun j _ _=>by
 subst he;exact aFp hg fun a ha=>h ha
theorem oag {k t:Nat} {b c:Bool} (t':Nat) (hbc:b=c) (h:∀ {j a},Has n li a->fA P o a (W j) v (W j)) (htt:t'=t:=by rfl) (hg:o.guard=some (k,c):=by rfl) (hj:(ops[k]?).bind (·.dst)=some t:=by rfl) (ht:li.lookup t=some (.bool b):=by rfl) (he:e=false:=by rfl):∀ j,lo<=j->j<=hi->pJ P n ops o li v (W j) (W (j+if e=true then 1 else 0)):=fun j _ _=>by
 subst he;exact aBF hg hj ht hbc fun a ha=>h ha
theorem on {k t:Nat} {b c:Bool} (t':Nat) (hbc:b≠c) (htt:t'=t:=by rfl) (hg:o.guard=some (k,c):=by rfl) (hj:(ops[k]?).bind (·.dst)=some t:=by rfl) (ht:li.lookup t=some (.bool b):=by rfl) (he:e=false:=by rfl):∀ j,lo<=j->j<=hi->pJ P n ops o li undef (W j) (W (j+if e=true then 1 else 0)):=fun j _ _=>by
 subst he;exact aEN hg hj ht hbc
theorem oc (c:Nat) (h:pJ P n ops o li v (W c) (W (c+if e=true then 1 else 0))) (h1:lo=c:=by rfl) (h2:hi=c:=by rfl):∀ j,lo<=j->j<=hi->pJ P n ops o li v (W j) (W (j+if e=true then 1 else 0)):=fun j hj1 hj2=>by
 obtain rfl:j=c:=by omega
 exact h
variable {w1 w2 : World}
theorem kd (h:∀ {a},Has n li a->fA P o a w1 v w2) (hg:o.guard=none:=by rfl):pJ P n ops o li v w1 w2:=aFp hg fun a ha=>h ha
theorem kg {k t:Nat} {b c:Bool} (t':Nat) (hbc:b=c) (h:∀ {a},Has n li a->fA P o a w1 v w2) (htt:t'=t:=by rfl) (hg:o.guard=some (k,c):=by rfl) (hj:(ops[k]?).bind (·.dst)=some t:=by rfl) (ht:li.lookup t=some (.bool b):=by rfl):pJ P n ops o li v w1 w2:=aBF hg hj ht hbc fun a ha=>h ha
variable {d : Option Nat} {ty : TypeId} {pos : String} {af : Array Edge} {g : Option (Nat × Bool)} {f : FuncId} {ts : Array TypeId} {x1 x2 x3 x4 : Operand} {v1 v2 v3 v4 : Value}
theorem dc1 (ha:Has n L a) (h1:evO L x1=some v1) (hf:∀ (args:Array Value) (w:World),(callFunc f args).run P w = .ok (.enter f args) w) (h:Calls P f #[v1] w fun e w''=>e = .returned v/\w''=w'):fA P ⟨d,.call { callee:=.value (.func f),args:=#[x1],argTypes:=ts },ty,pos,af,g⟩ a w v w':=mO (xs:=[x1]) (vs:=[v1]) ha ⟨h1,trivial⟩ hf h
theorem dc2 (ha:Has n L a) (h1:evO L x1=some v1) (h2:evO L x2=some v2) (hf:∀ (args:Array Value) (w:World),(callFunc f args).run P w = .ok (.enter f args) w) (h:Calls P f #[v1,v2] w fun e w''=>e = .returned v/\w''=w'):fA P ⟨d,.call { callee:=.value (.func f),args:=#[x1,x2],argTypes:=ts },ty,pos,af,g⟩ a w v w':=mO (xs:=[x1,x2]) (vs:=[v1,v2]) ha ⟨h1,h2,trivial⟩ hf h
theorem dc3 (ha:Has n L a) (h1:evO L x1=some v1) (h2:evO L x2=some v2) (h3:evO L x3=some v3) (hf:∀ (args:Array Value) (w:World),(callFunc f args).run P w = .ok (.enter f args) w) (h:Calls P f #[v1,v2,v3] w fun e w''=>e = .returned v/\w''=w'):fA P ⟨d,.call { callee:=.value (.func f),args:=#[x1,x2,x3],argTypes:=ts },ty,pos,af,g⟩ a w v w':=mO (xs:=[x1,x2,x3]) (vs:=[v1,v2,v3]) ha ⟨h1,h2,h3,trivial⟩ hf h
end
section
variable {P : Program} {n : Nat} {L : List (Nat × Value)} {a : Act} {w w' : World} {Q : Exit -> Act -> World -> Prop}
theorem aGt {d ty pos af g f} {xs:List Operand} {vs:List Value} (ha:Has n L a) (hx:evs L xs vs):fA P ⟨d,.makeFunc (.func f) #[] xs.toArray,ty,pos,af,g⟩ a w (.func (.func f) #[] vs.toArray) w:=by
 refine cP ?_;have e:=qT ha hx;simp only[execOp,Instr.makeFunc,Sem.run_bind,Sem.run_pure,Result.andThen_ok];simp[<-e]
theorem yH {d ty pos af g f} {fx:Operand} {xs:List Operand} {ts:Array TypeId} {vs cv:List Value} {v:Value} (ha:Has n L a) (hfx:evO L fx=some (.func (.func f) #[] cv.toArray)) (hx:evs L xs vs) (hf:∀ (args:Array Value) (w:World),(callFunc f args).run P w = .ok (.enter f args) w)
  (h:Calls P f (vs++cv).toArray w fun e w''=>e = .returned v/\w''=w'):fA P ⟨d,.call { callee:=.value fx,args:=xs.toArray,argTypes:=ts },ty,pos,af,g⟩ a w v w':=by
 refine aDa (w1:=w) (f:=f) (args:=(vs++cv).toArray) ?_ h;have e:=qT ha hx;simp[execOp,resolve,Deferred.ofValue,invoke,ha.ev hfx,hf,<-e]
def aET (P:Program) (L:List (Nat×Value)) (w:World):List ResultVar->List Value->Prop
 | [],[]=>True
 | .tmp t::rs,v::vs=>L.lookup t=some v/\aET P L w rs vs
 | .cell t T::rs,v::vs=>(∃ ad,L.lookup t=some (.pointer (some ad))/\(loadVar T ad).run P w = .ok v w)/\aET P L w rs vs
 | _,_=>False
def aAj (vs:List Value):Value:=match vs with | [v]=>v | _=>.tuple vs.toArray
theorem uI {T:TypeId} {ad:Addr} {cs:List Value} {sz:Nat} (ht:∀ w,(isAgg T).run P w = .ok true w) (hz:∀ w,(sizeOf T).run P w = .ok sz w) (h:ldA sz w ad 0=some cs):(loadVar T ad).run P w = .ok (.agg cs.toArray) w:=by
 obtain⟨h1,h2⟩:=kR h;have hl:=run_loadCells_list (P:=P) w ad cs (fun j v hv=>by simpa using h2 j v hv);rw[h1] at hl;simp[loadVar,ht,hz,hl]
def xK (tmps:Array Value):ResultVar->Sem Value
 | .tmp t=>pure (tmps.getD t undef)
 | .cell b t=>do loadVar t (<- asAddr (tmps.getD b undef))
theorem xW (ha:Has n L a):∀ (rs:List ResultVar) (vs:List Value),aET P L w rs vs->(rs.mapM (xK a.tmps)).run P w = .ok vs w
 | [],[],_=>by simp
 | [],_::_,h=>h.elim
 | _::_,[],h=>by rename_i r _;cases r<;>exact h.elim
 | .tmp t::rs,v::vs,h=>by
  have h1:(xK a.tmps (.tmp t)).run P w = .ok v w:=by
   have:=ha.l t v h.1;simp[xK,aIC,this]
  simp only[List.mapM_cons,Sem.run_bind,h1,Result.andThen_ok,xW ha rs vs h.2,Sem.run_pure]
 | .cell t T::rs,v::vs,h=>by
  obtain⟨⟨ad,h1,h3⟩,h2⟩:=h;have h1:(xK a.tmps (.cell t T)).run P w = .ok v w:=by
   have:=ha.l t _ h1;simp[xK,aIC,this,asAddr,h3]
  simp only[List.mapM_cons,Sem.run_bind,h1,Result.andThen_ok,xW ha rs vs h2,Sem.run_pure]
theorem uH {fn:Func} {R:Ending->World->Prop} {rs:List ResultVar} {vs:List Value} (hr:fn.results=rs.toArray) (ha:Has n L a) (hv:aET P L w rs vs) (hR:R (.returned (aAj vs)) w):bodyPost P fn R .ret a w:=by
 refine⟨ha.d,aAj vs,?_,hR⟩;have h2:=xW ha rs vs hv;have e:results fn a.tmps=(fn.results.mapM (xK a.tmps) >>= fun vs=>pure (if h:vs.size=1 then vs[0] else .tuple vs)):=rfl;rw[e,hr];simp only[List.mapM_toArray,Sem.run_bind,map_eq_pure_bind,h2,Result.andThen_ok,Sem.run_pure]
 match vs with
 | []=>simp[aAj]
 | [v]=>simp[aAj]
 | v::u::r=>simp[aAj]
end
def lR (a0:Int) (w:World):Option ((Option Addr)×Int×World) :=
 aN (if (decide (a0<1))=true then
 (some (true,w))
 else
 (some ((decide (512<a0)),w))) fun v1 w2 =>
 if v1=true then
 (some (none,2,w2))
 else
 (aN (mkS Try.prog 108 a0 a0 w2) fun s7 w8 =>
 aN (mk w8 111 ([Sl.v s7,.slice none 0 0,.int .i64 0,.bool false,.int .i64 0])) fun p10 w11 =>
 some ((some p10),0,w11))
theorem sG {a0 w w' r0 r1} (h:lR a0 w=some (r0,r1,w')):Calls Try.prog 30 #[(.int .i64 a0)] w fun e w''=>e=.returned (.tuple #[(.pointer r0),(.int .i64 r1)])/\w''=w':=by
 refine aP (n:=14) Try.func30 rfl Try.ntmps30 (by simp) fun a u=>?_;unfold lR at h;refine wp_seq<|aA<|qa u rfl fun a u=>qa u rfl fun a u=>aB<|t_n<|wp_seq<|wp_seq<|?_;have⟨v1,w2,e3,h⟩:=bs2 h;refine bP (n:=14) (L:=[(9,(bV v1)),(0,(iV a0))]) (w':=w2) (fun a u=>?_) (fun hk4=>?_)
 .refine t_n<|?_;refine aO u rfl h (fun b6 h=>?_) (fun b6 h=>?_)
  .refine wp_seq<|aA<|qa u rfl fun a u=>qa u rfl fun a u=>aB<|t_n<|wp_ret<|t_r<|?_;have y:=u;cases h;exact jA Try.results30 y rfl rfl ⟨rfl,rfl⟩
  refine wp_skip<|t_n<|wp_seq<|aA<|qm u rfl fun a u=>?_;have⟨s7,w8,e9,h⟩:=bs2 h;refine q u (uQ u rfl rfl e9) fun a u=>q u (dZ (vs:=[(0,(Sl.v s7))]) (pl:=#[(0,1),(1,1),(2,1),(3,1),(4,1)]) (cs:=([Sl.v s7,.slice none 0 0,.int .i64 0,.bool false,.int .i64 0])) u ⟨rfl,rfl,aLz⟩ Try.zeroValue111 aGV (by intro w;kernel_rfl) (by kernel_rfl)) fun a u=>?_;have⟨p10,w11,e12,h⟩:=bs2 h;refine q u (rF u rfl rfl e12) fun a u=>qa u rfl fun a u=>qa u rfl fun a u=>aB<|t_n<|wp_ret<|?_;have y:=u;cases h;exact jA Try.results30 y rfl rfl ⟨rfl,rfl⟩
 clear h;have h:=e3;refine aA<|qm u rfl fun a u=>q u (dK u rfl rfl) fun a u=>qm u rfl fun a u=>?_;refine bW h (fun b5 h=>?_) (fun b5 h=>?_)
 .refine qn u 6 (tn b5) fun a u=>qn u 6 (tn b5) fun a u=>q u (aF u rfl b5 rfl) fun a u=>aB<|?_;have y:=u;cases h;exact hk4 _ (y.sb rfl)
 refine qg u 6 (nt b5) (aC u rfl) fun a u=>qg u 6 (nt b5) (gF u rfl rfl) fun a u=>q u (aL u rfl b5 rfl) fun a u=>aB<|?_;have y:=u;cases h;exact hk4 _ (y.sb rfl)
noncomputable def gZ (a0:Option Addr) (w:World):Option (Int×World) :=
 if (a0.isNone)=true then
 (some (0,w))
 else
 ((a0).bind fun p2 =>
 (ldL w (p2.add 1)).bind fun v4 =>
 some ((v4.n:Int),w))
theorem rM {a0 w w' r0} (h:gZ a0 w=some (r0,w')):Calls Try.prog 34 #[(.pointer a0)] w fun e w''=>e=.returned (.int .i64 r0)/\w''=w':=by
 refine aP (n:=10) Try.func34 rfl Try.ntmps34 (by simp) fun a u=>?_;unfold gZ at h;refine wp_seq<|aA<|qa u rfl fun a u=>aB<|t_n<|wp_seq<|wp_seq<|aA<|qm u rfl fun a u=>q u (jJ u rfl rfl aHt) fun a u=>aB<|t_n<|?_;refine aO u rfl h (fun b1 h=>?_) (fun b1 h=>?_)
 .refine wp_seq<|aA<|qa u rfl fun a u=>aB<|t_n<|wp_ret<|t_r<|?_;have y:=u;cases h;exact bI Try.results34 y rfl ⟨rfl,rfl⟩
 refine wp_skip<|t_n<|wp_seq<|aA<|qm u rfl fun a u=>?_;have⟨p2,e3,h⟩:=bs1 h;refine q u (aH u rfl e3) fun a u=>q u (aK u rfl aGV rfl rfl aHK) fun a u=>?_;have⟨v4,e5,h⟩:=bs1 h;refine q u (aJ u rfl aIb (aV e5)) fun a u=>q u (aZ u rfl aHH) fun a u=>qa u rfl fun a u=>aB<|t_n<|wp_ret<|?_;have y:=u;cases h;exact bI Try.results34 y rfl ⟨rfl,rfl⟩
noncomputable def gL (a0:Option Addr) (a1:Int) (w:World):Option (Int×World) :=
 if (a0.isNone)=true then
 (some (1,w))
 else
 ((a0).bind fun p2 =>
 (ldB w (p2.add 3)).bind fun v4 =>
 if v4=true then
 (some (10,w))
 else
 (if (decide (a1<0))=true then
 (some (2,w))
 else
 ((stV w (p2.add 2) (.int .i64 a1)).bind fun w8 =>
 some (0,w8))))
theorem oJ {a0 a1 w w' r0} (h:gL a0 a1 w=some (r0,w')):Calls Try.prog 35 #[(.pointer a0),(.int .i64 a1)] w fun e w''=>e=.returned (.int .i64 r0)/\w''=w':=by
 refine aP (n:=20) Try.func35 rfl Try.ntmps35 (by simp) fun a u=>?_;unfold gL at h;refine wp_seq<|aA<|qa u rfl fun a u=>aB<|t_n<|wp_seq<|wp_block<|wp_seq<|aA<|qm u rfl fun a u=>q u (jJ u rfl rfl aHt) fun a u=>qa u rfl fun a u=>aB<|t_n<|?_;refine aO u rfl h (fun b1 h=>?_) (fun b1 h=>?_)
 .refine wp_seq<|aA<|qa u rfl fun a u=>aB<|t_n<|wp_ret<|b_r<|t_r<|?_;have y:=u;cases h;exact bI Try.results35 y rfl ⟨rfl,rfl⟩
 refine wp_seq<|aA<|qm u rfl fun a u=>?_;have⟨p2,e3,h⟩:=bs1 h;refine q u (aH u rfl e3) fun a u=>q u (aK u rfl aGV rfl rfl aHz) fun a u=>?_;have⟨v4,e5,h⟩:=bs1 h;refine q u (aJ u rfl aHR (oO e5)) fun a u=>qa u rfl fun a u=>aB<|t_n<|?_;refine aO u rfl h (fun b6 h=>?_) (fun b6 h=>?_)
 .refine wp_seq<|aA<|qa u rfl fun a u=>aB<|t_n<|wp_ret<|b_r<|t_r<|?_;have y:=u;cases h;exact bI Try.results35 y rfl ⟨rfl,rfl⟩
 refine wp_seq<|aA<|qm u rfl fun a u=>q u (dK u rfl rfl) fun a u=>qa u rfl fun a u=>aB<|t_n<|?_;refine aO u rfl h (fun b7 h=>?_) (fun b7 h=>?_)
 .refine wp_seq<|aA<|qa u rfl fun a u=>aB<|t_n<|wp_ret<|b_r<|t_r<|?_;have y:=u;cases h;exact bI Try.results35 y rfl ⟨rfl,rfl⟩
 refine wp_skip<|b_n<|t_n<|wp_seq<|aA<|qm u rfl fun a u=>qm u rfl fun a u=>q u (aH u rfl e3) fun a u=>q u (aK u rfl aGV rfl rfl aGL) fun a u=>?_;have⟨w8,e9,h⟩:=bs1 h;refine q u (fO u rfl rfl aGL e9) fun a u=>aB<|t_n<|wp_seq<|aA<|qa u rfl fun a u=>aB<|t_n<|wp_ret<|?_;have y:=u;cases h;exact bI Try.results35 y rfl ⟨rfl,rfl⟩
noncomputable def iX (a0:Option Addr) (w:World):Option (Bool×World) :=
 (a0).bind fun p1 =>
 (ldI .i64 w (p1.add 2)).bind fun v3 =>
 if (v3==0)=true then
 (some (false,w))
 else
 ((ldI .i64 w (p1.add 2)).bind fun v6 =>
 (stV w (p1.add 2) (.int .i64 (IntKind.wrap .i64 (v6-1)))).bind fun w8 =>
 (ldI .i64 w8 (p1.add 2)).bind fun v10 =>
 (stV w8 (p1.add 3) (.bool (v10==0))).bind fun w12 =>
 (ldB w12 (p1.add 3)).bind fun v14 =>
 some (v14,w12))
theorem nX {a0 w w' r0} (h:iX a0 w=some (r0,w')):Calls Try.prog 78 #[(.pointer a0)] w fun e w''=>e=.returned (.bool r0)/\w''=w':=by
 refine aP (n:=27) Try.func78 rfl Try.ntmps78 (by simp) fun a u=>?_;unfold iX at h;refine wp_seq<|aA<|qa u rfl fun a u=>aB<|t_n<|wp_seq<|wp_seq<|aA<|qm u rfl fun a u=>?_;have⟨p1,e2,h⟩:=bs1 h;refine q u (aH u rfl e2) fun a u=>q u (aK u rfl aGV rfl rfl aGL) fun a u=>?_;have⟨v3,e4,h⟩:=bs1 h;refine q u (aJ u rfl aGN (aQ e4)) fun a u=>q u (gD u rfl rfl) fun a u=>aB<|t_n<|?_;refine aO u rfl h (fun b5 h=>?_) (fun b5 h=>?_)
 .refine wp_seq<|aA<|qa u rfl fun a u=>aB<|t_n<|wp_ret<|t_r<|?_;have y:=u;cases h;exact bI Try.results78 y rfl ⟨rfl,rfl⟩
 refine wp_skip<|t_n<|wp_seq<|aA<|qm u rfl fun a u=>q u (aH u rfl e2) fun a u=>q u (aK u rfl aGV rfl rfl aGL) fun a u=>?_;have⟨v6,e7,h⟩:=bs1 h;refine q u (aJ u rfl aGN (aQ e7)) fun a u=>q u (iB u rfl rfl) fun a u=>q u (aH u rfl e2) fun a u=>q u (aK u rfl aGV rfl rfl aGL) fun a u=>?_;have⟨w8,e9,h⟩:=bs1 h;refine q u (fO u rfl rfl aGL e9) fun a u=>aB<|t_n<|wp_seq<|aA<|qm u rfl fun a u=>qm u rfl fun a u=>q u (aH u rfl e2) fun a u=>q u (aK u rfl aGV rfl rfl aGL) fun a u=>?_;have⟨v10,e11,h⟩:=bs1 h;refine q u (aJ u rfl aGN (aQ e11)) fun a u=>q u (gD u rfl rfl) fun a u=>q u (aH u rfl e2) fun a u=>q u (aK u rfl aGV rfl rfl aHz) fun a u=>?_;have⟨w12,e13,h⟩:=bs1 h;refine q u (fO u rfl rfl aHz e13) fun a u=>aB<|t_n<|wp_seq<|aA<|qm u rfl fun a u=>q u (aH u rfl e2) fun a u=>q u (aK u rfl aGV rfl rfl aHz) fun a u=>?_;have⟨v14,e15,h⟩:=bs1 h;refine q u (aJ u rfl aHR (oO e15)) fun a u=>qa u rfl fun a u=>aB<|t_n<|wp_ret<|?_;have y:=u;cases h;exact bI Try.results78 y rfl ⟨rfl,rfl⟩
noncomputable def fR (v17:Sl) (a0:Option Addr) (x19:Int) (w20:World):Option ((Int×World)⊕(World)) :=
 if (decide (x19<(v17.n:Int)))=true then
 ((ix v17 x19 65).bind fun p27 =>
 (ldA 65 w20 p27 0).bind fun c29 =>
 aN (mk w20 140 ([.int .i64 0]++List.replicate 64 (.int .u8 0))) fun p31 w32 =>
 (stA w32 p31 0 c29).bind fun w34 =>
 (dr w34).bind fun w36 =>
 (a0).bind fun p38 =>
 (ldL w36 (p38.add 0)).bind fun v40 =>
 (ldI .i64 w36 (p31.add 0)).bind fun v42 =>
 (ldA 64 w36 (p31.add 1) 0).bind fun c44 =>
 (ix v40 v42 64).bind fun p46 =>
 (stA w36 p46 0 c44).bind fun w48 =>
 some (.inl ((IntKind.wrap .i64 (x19+1)),w48)))
 else
 (some (.inr w20))
noncomputable def bY (a0:Option Addr) (w:World):Option (Int×World) :=
 if (a0.isNone)=true then
 (some (1,w))
 else
 (aN ((a0).bind fun p6 =>
 (ldB w (p6.add 3)).bind fun v8 =>
 if v8=true then
 (some (v8,w))
 else
 (aN (iX a0 w) fun v11 w12 =>
 some (v11,w12))) fun v2 w3 =>
 if v2=true then
 (some (10,w3))
 else
 ((a0).bind fun p15 =>
 (ldL w3 (p15.add 1)).bind fun v17 =>
 (bM (fun s:Int×World=>fR v17 a0 s.1 s.2) (0,w3)).bind fun w23 =>
 (stV w23 (p15.add 1) (Sl.v Sl.nil)).bind fun w50 =>
 some (0,w50)))
theorem jB {a0 w w' r0} (h:bY a0 w=some (r0,w')):Calls Try.prog 36 #[(.pointer a0)] w fun e w''=>e=.returned (.int .i64 r0)/\w''=w':=by
 refine aP (n:=37) Try.func36 rfl Try.ntmps36 (by simp) fun a u=>?_;unfold bY at h;refine wp_seq<|aA<|qa u rfl fun a u=>aB<|t_n<|wp_seq<|wp_block<|wp_seq<|aA<|qm u rfl fun a u=>q u (jJ u rfl rfl aHt) fun a u=>qa u rfl fun a u=>aB<|t_n<|?_;refine aO u rfl h (fun b1 h=>?_) (fun b1 h=>?_)
 .refine wp_seq<|aA<|qa u rfl fun a u=>aB<|t_n<|wp_ret<|b_r<|t_r<|?_;have y:=u;cases h;exact bI Try.results36 y rfl ⟨rfl,rfl⟩
 have⟨v2,w3,e4,h⟩:=bs2 h;refine gW (n:=37) (L:=[(8,(bV v2)),(0,(pV a0))]) (w':=w3) (fun a u=>?_) (fun hk5=>?_)
 .refine aO u rfl h (fun b14 h=>?_) (fun b14 h=>?_)
  .refine wp_seq<|aA<|qa u rfl fun a u=>aB<|t_n<|wp_ret<|b_r<|t_r<|?_;have y:=u;cases h;exact bI Try.results36 y rfl ⟨rfl,rfl⟩
  refine wp_skip<|b_n<|t_n<|wp_seq<|wp_seq<|aA<|qm u rfl fun a u=>?_;have⟨p15,e16,h⟩:=bs1 h;refine q u (aH u rfl e16) fun a u=>q u (aK u rfl aGV rfl rfl aHK) fun a u=>?_;have⟨v17,e18,h⟩:=bs1 h;refine q u (aJ u rfl aIb (aV e18)) fun a u=>q u (aZ u rfl aHH) fun a u=>qm u rfl fun a u=>aB<|t_n<|wp_block<|?_;have⟨w23,e22,h⟩:=bs1 h;refine gT (n:=37) (L:=[(0,(pV a0))]) (w':=w23) (e:=.exit 1) (I:=fun (s:Int×World) a w=>Has 37 [(20,(iV s.1)),(0,(pV a0)),(18,(Sl.v v17)),(19,(iV (v17.n:Int)))] a/\w=s.2) ⟨u.sub ⟨rfl,rfl,rfl,rfl,aLz⟩,rfl⟩ e22 (fun a u=>?_) (fun hk24=>?_)
  .refine eC<|t_n<|wp_seq<|aA<|qm u rfl fun a u=>q u (aH u rfl e16) fun a u=>q u (aK u rfl aGV rfl rfl aHK) fun a u=>?_;have⟨w50,e51,h⟩:=bs1 h;refine q u (fO u rfl rfl aHK e51) fun a u=>aB<|t_n<|wp_seq<|aA<|qa u rfl fun a u=>aB<|t_n<|wp_ret<|?_;have y:=u;cases h;exact bI Try.results36 y rfl ⟨rfl,rfl⟩
  clear h;rintro⟨x19,w20⟩ a wq o ⟨u,hwq⟩ h hr25;obtain rfl:w20=wq:=hwq.symm;have u:Has 37 [(20,(iV x19)),(0,(pV a0)),(18,(Sl.v v17)),(19,(iV (v17.n:Int)))] a:=u;have h:fR v17 a0 x19 w20=some o:=h;unfold fR at h;refine wp_seq<|aA<|q u (dK u rfl rfl) fun a u=>aB<|t_n<|wp_seq<|?_;refine aO u rfl h (fun b26 h=>?_) (fun b26 h=>?_)
  .refine wp_skip<|t_n<|wp_seq<|wp_block<|wp_seq<|aA<|?_;have⟨p27,e28,h⟩:=bs1 h;refine q u (bZ u rfl rfl aHH aHT e28) fun a u=>?_;have⟨c29,e30,h⟩:=bs1 h;refine q u (gC u rfl Try.isAgg140 aHT e30) fun a u=>?_;have⟨p31,w32,e33,h⟩:=bs2 h;refine q u (eX aIe (by kernel_rfl) e33) fun a u=>?_;have⟨w34,e35,h⟩:=bs1 h;refine q u (eW u rfl rfl aHT ((kR e30).1) e35) fun a u=>aB<|t_n<|?_;have⟨w36,e37,h⟩:=bs1 h;have⟨p38,e39,h⟩:=bs1 h;have⟨v40,e41,h⟩:=bs1 h;have⟨v42,e43,h⟩:=bs1 h;have⟨c44,e45,h⟩:=bs1 h;have⟨p46,e47,h⟩:=bs1 h;have⟨w48,e49,h⟩:=bs1 h;have u:Has 37 [(0,(pV a0)),(4,(pV (some p31))),(18,(Sl.v v17)),(19,(iV (v17.n:Int))),(20,(iV x19))] a:=u.sb rfl;refine aM (n:=37) (ds:=(aS (pV a0) 0 [] 0::aG (pV (some p38)) 0 [0] 24 (pV a0)::aG (pV (some (p38.add 0))) 0 [0,1] 25 (pV (some p38))::aG (Sl.v v40) 0 [0,1,2] 26 (pV (some (p38.add 0)))::aG (pV (some (p31.add 0))) 0 [] 4 (pV (some p31))::aG (iV v42) 0 [4] 28 (pV (some (p31.add 0)))::aG (pV (some (p31.add 1))) 0 [] 4 (pV (some p31))::aG (.agg (List.toArray c44)) 0 [6] 30 (pV (some (p31.add 1)))::aT (pV (some p46)) 0 (rn 0 8) [(27,(Sl.v v40)),(29,(iV v42))]::aI (undef) true 0 0 (rn 0 9) [(32,(pV (some p46))),(31,(.agg (List.toArray c44)))]::[])) (W:=(fun j=>match j with | 0=>w36 | 1=>w48 | _=>w48)) (by kernel_rfl) u (cY e37) (by kernel_rfl) ?_ (aR (by kernel_rfl)) (by kernel_rfl) (m:=1) (by kernel_rfl) (fun a u=>?_)
   .exact⟨oa (aC · rfl),oa (aH · rfl e39),oa (aK · rfl aGV rfl rfl aIc),oc 0 (kd (aJ · rfl aIg (aV e41))),oa (aK · rfl aHB rfl rfl aGL),oc 0 (kd (aJ · rfl aGN (aQ e43))),oa (aK · rfl aHB rfl rfl aHC),oc 0 (kd (gC · rfl aIo aHC e45)),oa (bZ · rfl rfl aHO aHC e47),oc 0 (kd (eW · rfl rfl aHC ((kR e45).1) e49)),aLz⟩
   have u:Has 37 [(0,(pV a0)),(18,(Sl.v v17)),(19,(iV (v17.n:Int))),(20,(iV x19))] a:=u.sb rfl;refine b_n<|t_n<|aA<|q u (bJ u rfl rfl) fun a u=>qm u rfl fun a u=>aB<|?_;have y:=u;cases h;exact dS ⟨y.sb rfl,rfl⟩
  refine wp_exit<|t_x<|?_;have y:=u;cases h;cases hr25 _ rfl;refine lM<|?_;exact hk24 _ (y.sb rfl)
 clear h;have h:=e4;refine wp_seq<|aA<|qm u rfl fun a u=>?_;have⟨p6,e7,h⟩:=bs1 h;refine q u (aH u rfl e7) fun a u=>q u (aK u rfl aGV rfl rfl aHz) fun a u=>?_;have⟨v8,e9,h⟩:=bs1 h;refine q u (aJ u rfl aHR (oO e9)) fun a u=>qa u rfl fun a u=>aB<|t_n<|?_;refine aO u rfl h (fun b10 h=>?_) (fun b10 h=>?_)
 .refine wp_skip<|?_;have y:=u;cases h;exact hk5 _ (y.sb rfl)
 refine aA<|qm u rfl fun a u=>?_;have⟨v11,w12,e13,h⟩:=bs2 h;refine q u (dc1 u rfl Try.call78 (nX e13)) fun a u=>qa u rfl fun a u=>aB<|?_;have y:=u;cases h;exact hk5 _ (y.sb rfl)
noncomputable def dB (a0:Option Addr) (w:World):Option (Bool×World) :=
 aN (if (!(a0.isNone))=true then
 ((a0).bind fun p6 =>
 (ldB w (p6.add 3)).bind fun v8 =>
 some (v8,w))
 else
 (some (false,w))) fun v1 w2 =>
 some (v1,w2)
theorem hJ {a0 w w' r0} (h:dB a0 w=some (r0,w')):Calls Try.prog 47 #[(.pointer a0)] w fun e w''=>e=.returned (.bool r0)/\w''=w':=by
 refine aP (n:=11) Try.func47 rfl Try.ntmps47 (by simp) fun a u=>?_;unfold dB at h;refine wp_seq<|aA<|qa u rfl fun a u=>aB<|t_n<|wp_seq<|?_;have⟨v1,w2,e3,h⟩:=bs2 h;refine bP (n:=11) (L:=[(2,(bV v1))]) (w':=w2) (fun a u=>?_) (fun hk4=>?_)
 .refine t_n<|wp_ret<|?_;have y:=u;cases h;exact bI Try.results47 y rfl ⟨rfl,rfl⟩
 clear h;have h:=e3;refine aA<|qm u rfl fun a u=>q u (aFt u rfl rfl aHt) fun a u=>qm u rfl fun a u=>?_;refine bW h (fun b5 h=>?_) (fun b5 h=>?_)
 .refine qg u 5 b5 (aC u rfl) fun a u=>?_;have⟨p6,e7,h⟩:=bs1 h;refine qg u 5 b5 (aH u rfl e7) fun a u=>qg u 5 b5 (aK u rfl aGV rfl rfl aHz) fun a u=>?_;have⟨v8,e9,h⟩:=bs1 h;refine qg u 5 b5 (aJ u rfl aHR (oO e9)) fun a u=>q u (aF u rfl b5 rfl) fun a u=>qa u rfl fun a u=>aB<|?_;have y:=u;cases h;exact hk4 _ (y.sb rfl)
 refine qn u 5 (nm b5) fun a u=>qn u 5 (nm b5) fun a u=>qn u 5 (nm b5) fun a u=>qn u 5 (nm b5) fun a u=>q u (aL u rfl b5 rfl) fun a u=>qa u rfl fun a u=>aB<|?_;have y:=u;cases h;exact hk4 _ (y.sb rfl)
noncomputable def eL (a0:Option Addr) (w:World):Option (Int×World) :=
 if (a0.isNone)=true then
 (some (0,w))
 else
 ((a0).bind fun p2 =>
 (ldL w (p2.add 0)).bind fun v4 =>
 some ((v4.n:Int),w))
theorem oI {a0 w w' r0} (h:eL a0 w=some (r0,w')):Calls Try.prog 67 #[(.pointer a0)] w fun e w''=>e=.returned (.int .i64 r0)/\w''=w':=by
 refine aP (n:=10) Try.func67 rfl Try.ntmps67 (by simp) fun a u=>?_;unfold eL at h;refine wp_seq<|aA<|qa u rfl fun a u=>aB<|t_n<|wp_seq<|wp_seq<|aA<|qm u rfl fun a u=>q u (jJ u rfl rfl aHt) fun a u=>aB<|t_n<|?_;refine aO u rfl h (fun b1 h=>?_) (fun b1 h=>?_)
 .refine wp_seq<|aA<|qa u rfl fun a u=>aB<|t_n<|wp_ret<|t_r<|?_;have y:=u;cases h;exact bI Try.results67 y rfl ⟨rfl,rfl⟩
 refine wp_skip<|t_n<|wp_seq<|aA<|qm u rfl fun a u=>?_;have⟨p2,e3,h⟩:=bs1 h;refine q u (aH u rfl e3) fun a u=>q u (aK u rfl aGV rfl rfl aIc) fun a u=>?_;have⟨v4,e5,h⟩:=bs1 h;refine q u (aJ u rfl aIg (aV e5)) fun a u=>q u (aZ u rfl aHO) fun a u=>qa u rfl fun a u=>aB<|t_n<|wp_ret<|?_;have y:=u;cases h;exact bI Try.results67 y rfl ⟨rfl,rfl⟩
noncomputable def iC (a0:Option Addr) (w:World):Option (Int×World) :=
 if (a0.isNone)=true then
 (some (0,w))
 else
 ((a0).bind fun p2 =>
 (ldI .i64 w (p2.add 4)).bind fun v4 =>
 some (v4,w))
theorem pI {a0 w w' r0} (h:iC a0 w=some (r0,w')):Calls Try.prog 68 #[(.pointer a0)] w fun e w''=>e=.returned (.int .i64 r0)/\w''=w':=by
 refine aP (n:=9) Try.func68 rfl Try.ntmps68 (by simp) fun a u=>?_;unfold iC at h;refine wp_seq<|aA<|qa u rfl fun a u=>aB<|t_n<|wp_seq<|wp_seq<|aA<|qm u rfl fun a u=>q u (jJ u rfl rfl aHt) fun a u=>aB<|t_n<|?_;refine aO u rfl h (fun b1 h=>?_) (fun b1 h=>?_)
 .refine wp_seq<|aA<|qa u rfl fun a u=>aB<|t_n<|wp_ret<|t_r<|?_;have y:=u;cases h;exact bI Try.results68 y rfl ⟨rfl,rfl⟩
 refine wp_skip<|t_n<|wp_seq<|aA<|qm u rfl fun a u=>?_;have⟨p2,e3,h⟩:=bs1 h;refine q u (aH u rfl e3) fun a u=>q u (aK u rfl aGV rfl rfl aGL) fun a u=>?_;have⟨v4,e5,h⟩:=bs1 h;refine q u (aJ u rfl aGN (aQ e5)) fun a u=>qa u rfl fun a u=>aB<|t_n<|wp_ret<|?_;have y:=u;cases h;exact bI Try.results68 y rfl ⟨rfl,rfl⟩
noncomputable def dT (v4:Sl) (a1:Sl) (a0:Option Addr) (x6:Int) (w7:World):Option ((Int×World)⊕(World)) :=
 if (decide (x6<(v4.n:Int)))=true then
 (((ix v4 x6 65).bind fun p17 =>
 (ldA 65 w7 p17 0).bind fun c19 =>
 aN (mk w7 140 ([.int .i64 0]++List.replicate 64 (.int .u8 0))) fun p21 w22 =>
 (stA w22 p21 0 c19).bind fun w24 =>
 aN (if (decide (x6<(a1.n:Int)))=true then
 ((ix a1 x6 1).bind fun p31 =>
 (ldI .i64 w24 p31).bind fun v33 =>
 some ((IntKind.wrap .u64 v33),w24))
 else
 (some (0,w24))) fun v26 w27 =>
 (rmI v26 3).bind fun v35 =>
 if (v35==1)=true then
 ((dr w27).bind fun w38 =>
 (a0).bind fun p40 =>
 (ldL w38 (p40.add 0)).bind fun v42 =>
 (ldI .i64 w38 (p21.add 0)).bind fun v44 =>
 (ldA 64 w38 (p21.add 1) 0).bind fun c46 =>
 (ix v42 v44 64).bind fun p48 =>
 (stA w38 p48 0 c46).bind fun w50 =>
 some w50)
 else
 (if (v35==2)=true then
 ((dr w27).bind fun w53 =>
 (a0).bind fun p55 =>
 (ldL w53 (p55.add 0)).bind fun v57 =>
 (ldI .i64 w53 (p21.add 0)).bind fun v59 =>
 (ix v57 v59 64).bind fun p61 =>
 (dvI .u64 v26 3).bind fun v63 =>
 (rmI v63 64).bind fun v65 =>
 (slA p61 64 0 v65 64 1).bind fun s67 =>
 (slA (p21.add 1) 64 0 64 64 1).bind fun s69 =>
 aN (cpS Try.prog 72 72 s67 s69 w53) fun v71 w72 =>
 some w72)
 else
 (some w27))).bind fun w14 =>
 some (.inl ((IntKind.wrap .i64 (x6+1)),w14)))
 else
 (some (.inr w7))
noncomputable def fW (a0:Option Addr) (a1:Sl) (w:World):Option (Int×World) :=
 if (a0.isNone)=true then
 (some (1,w))
 else
 ((a0).bind fun p2 =>
 (ldL w (p2.add 1)).bind fun v4 =>
 (bM (fun s:Int×World=>dT v4 a1 a0 s.1 s.2) (0,w)).bind fun w10 =>
 (stV w10 (p2.add 1) (Sl.v Sl.nil)).bind fun w74 =>
 (stV w74 (p2.add 2) (.int .i64 0)).bind fun w76 =>
 (stV w76 (p2.add 3) (.bool false)).bind fun w78 =>
 (ldI .i64 w78 (p2.add 4)).bind fun v80 =>
 (stV w78 (p2.add 4) (.int .i64 (IntKind.wrap .i64 (v80+1)))).bind fun w82 =>
 some (0,w82))
theorem lQ {a0 a1 w w' r0} (h:fW a0 a1 w=some (r0,w')):Calls Try.prog 79 #[(.pointer a0),(Sl.v a1)] w fun e w''=>e=.returned (.int .i64 r0)/\w''=w':=by
 refine aP (n:=75) Try.func79 rfl Try.ntmps79 (by simp) fun a u=>?_;unfold fW at h;refine wp_seq<|aA<|qa u rfl fun a u=>aB<|t_n<|wp_seq<|wp_seq<|aA<|qm u rfl fun a u=>q u (jJ u rfl rfl aHt) fun a u=>aB<|t_n<|?_;refine aO u rfl h (fun b1 h=>?_) (fun b1 h=>?_)
 .refine wp_seq<|aA<|qa u rfl fun a u=>aB<|t_n<|wp_ret<|t_r<|?_;have y:=u;cases h;exact bI Try.results79 y rfl ⟨rfl,rfl⟩
 refine wp_skip<|t_n<|wp_seq<|wp_seq<|aA<|qm u rfl fun a u=>?_;have⟨p2,e3,h⟩:=bs1 h;refine q u (aH u rfl e3) fun a u=>q u (aK u rfl aGV rfl rfl aHK) fun a u=>?_;have⟨v4,e5,h⟩:=bs1 h;refine q u (aJ u rfl aIb (aV e5)) fun a u=>q u (aZ u rfl aHH) fun a u=>qm u rfl fun a u=>aB<|t_n<|wp_block<|?_;have⟨w10,e9,h⟩:=bs1 h;refine gT (n:=75) (L:=[(0,(pV a0))]) (w':=w10) (e:=.exit 0) (I:=fun (s:Int×World) a w=>Has 75 [(15,(iV s.1)),(0,(pV a0)),(1,(Sl.v a1)),(13,(Sl.v v4)),(14,(iV (v4.n:Int)))] a/\w=s.2) ⟨u.sub ⟨rfl,rfl,rfl,rfl,rfl,aLz⟩,rfl⟩ e9 (fun a u=>?_) (fun hk11=>?_)
 .refine eC<|t_n<|wp_seq<|aA<|qm u rfl fun a u=>qm u rfl fun a u=>qm u rfl fun a u=>q u (aH u rfl e3) fun a u=>q u (aK u rfl aGV rfl rfl aHK) fun a u=>?_;have⟨w74,e75,h⟩:=bs1 h;refine q u (fO u rfl rfl aHK e75) fun a u=>q u (aH u rfl e3) fun a u=>q u (aK u rfl aGV rfl rfl aGL) fun a u=>?_;have⟨w76,e77,h⟩:=bs1 h;refine q u (fO u rfl rfl aGL e77) fun a u=>q u (aH u rfl e3) fun a u=>q u (aK u rfl aGV rfl rfl aHz) fun a u=>?_;have⟨w78,e79,h⟩:=bs1 h;refine q u (fO u rfl rfl aHz e79) fun a u=>aB<|t_n<|wp_seq<|aA<|qm u rfl fun a u=>q u (aH u rfl e3) fun a u=>q u (aK u rfl aGV rfl rfl aGL) fun a u=>?_;have⟨v80,e81,h⟩:=bs1 h;refine q u (aJ u rfl aGN (aQ e81)) fun a u=>q u (bJ u rfl rfl) fun a u=>q u (aH u rfl e3) fun a u=>q u (aK u rfl aGV rfl rfl aGL) fun a u=>?_;have⟨w82,e83,h⟩:=bs1 h;refine q u (fO u rfl rfl aGL e83) fun a u=>aB<|t_n<|wp_seq<|aA<|qa u rfl fun a u=>aB<|t_n<|wp_ret<|?_;have y:=u;cases h;exact bI Try.results79 y rfl ⟨rfl,rfl⟩
 clear h;rintro⟨x6,w7⟩ a wq o ⟨u,hwq⟩ h hr12;obtain rfl:w7=wq:=hwq.symm;have u:Has 75 [(15,(iV x6)),(0,(pV a0)),(1,(Sl.v a1)),(13,(Sl.v v4)),(14,(iV (v4.n:Int)))] a:=u;have h:dT v4 a1 a0 x6 w7=some o:=h;unfold dT at h;refine wp_seq<|aA<|q u (dK u rfl rfl) fun a u=>aB<|t_n<|wp_seq<|?_;refine aO u rfl h (fun b13 h=>?_) (fun b13 h=>?_)
 .refine wp_skip<|t_n<|?_;have⟨w14,e15,h⟩:=bs1 h;refine gW (n:=75) (L:=[(0,(pV a0)),(1,(Sl.v a1)),(13,(Sl.v v4)),(14,(iV (v4.n:Int))),(15,(iV x6))]) (w':=w14) (fun a u=>?_) (fun hk16=>?_)
  .refine aA<|q u (bJ u rfl rfl) fun a u=>qm u rfl fun a u=>aB<|?_;have y:=u;cases h;exact dS ⟨y.sb rfl,rfl⟩
  clear h;have h:=e15;refine wp_block<|wp_seq<|aA<|qm u rfl fun a u=>?_;have⟨p17,e18,h⟩:=bs1 h;refine q u (bZ u rfl rfl aHH aHT e18) fun a u=>?_;have⟨c19,e20,h⟩:=bs1 h;refine q u (gC u rfl Try.isAgg140 aHT e20) fun a u=>?_;have⟨p21,w22,e23,h⟩:=bs2 h;refine q u (eX aIe (by kernel_rfl) e23) fun a u=>qa u rfl fun a u=>?_;have⟨w24,e25,h⟩:=bs1 h;refine q u (eW u rfl rfl aHT ((kR e20).1) e25) fun a u=>aB<|t_n<|wp_seq<|aA<|qa u rfl fun a u=>aB<|t_n<|?_;have⟨v26,w27,e28,h⟩:=bs2 h;refine gW (n:=75) (L:=[(7,(.int .u64 v26)),(0,(pV a0)),(1,(Sl.v a1)),(6,(pV (some p21))),(13,(Sl.v v4)),(14,(iV (v4.n:Int))),(15,(iV x6))]) (w':=w27) (fun a u=>?_) (fun hk29=>?_)
  .refine wp_seq<|aA<|qm u rfl fun a u=>?_;have⟨v35,e36,h⟩:=bs1 h;refine q u (sH u rfl rfl e36) fun a u=>aB<|t_n<|wp_block<|wp_seq<|aA<|q u (gD u rfl rfl) fun a u=>qa u rfl fun a u=>aB<|t_n<|?_;refine aO u rfl h (fun b37 h=>?_) (fun b37 h=>?_)
   .have⟨w38,e39,h⟩:=bs1 h;have⟨p40,e41,h⟩:=bs1 h;have⟨v42,e43,h⟩:=bs1 h;have⟨v44,e45,h⟩:=bs1 h;have⟨c46,e47,h⟩:=bs1 h;have⟨p48,e49,h⟩:=bs1 h;have⟨w50,e51,h⟩:=bs1 h;have u:Has 75 [(0,(pV a0)),(1,(Sl.v a1)),(6,(pV (some p21))),(7,(.int .u64 v26)),(13,(Sl.v v4)),(14,(iV (v4.n:Int))),(15,(iV x6)),(30,(.int .u64 v35)),(31,(bV (v35==1)))] a:=u.sb rfl;refine aM (n:=75) (ds:=(aS (pV a0) 0 [] 0::aG (pV (some p40)) 0 [0] 33 (pV a0)::aG (pV (some (p40.add 0))) 0 [0,1] 34 (pV (some p40))::aG (Sl.v v42) 0 [0,1,2] 35 (pV (some (p40.add 0)))::aG (pV (some (p21.add 0))) 0 [] 6 (pV (some p21))::aG (iV v44) 0 [4] 37 (pV (some (p21.add 0)))::aG (pV (some (p21.add 1))) 0 [] 6 (pV (some p21))::aG (.agg (List.toArray c46)) 0 [6] 39 (pV (some (p21.add 1)))::aT (pV (some p48)) 0 (rn 0 8) [(36,(Sl.v v42)),(38,(iV v44))]::aI (undef) true 0 0 (rn 0 9) [(41,(pV (some p48))),(40,(.agg (List.toArray c46)))]::[])) (W:=(fun j=>match j with | 0=>w38 | 1=>w50 | _=>w50)) (by kernel_rfl) u (cY e39) (by kernel_rfl) ?_ (aR (by kernel_rfl)) (by kernel_rfl) (m:=1) (by kernel_rfl) (fun a u=>?_)
    .exact⟨oa (aC · rfl),oa (aH · rfl e41),oa (aK · rfl aGV rfl rfl aIc),oc 0 (kd (aJ · rfl aIg (aV e43))),oa (aK · rfl aHB rfl rfl aGL),oc 0 (kd (aJ · rfl aGN (aQ e45))),oa (aK · rfl aHB rfl rfl aHC),oc 0 (kd (gC · rfl aIo aHC e47)),oa (bZ · rfl rfl aHO aHC e49),oc 0 (kd (eW · rfl rfl aHC ((kR e47).1) e51)),aLz⟩
    have u:Has 75 [(0,(pV a0)),(1,(Sl.v a1)),(13,(Sl.v v4)),(14,(iV (v4.n:Int))),(15,(iV x6))] a:=u.sb rfl;refine b_n<|b_n<|?_;have y:=u;cases h;exact hk16 _ (y.sb rfl)
   refine wp_seq<|aA<|q u (gD u rfl rfl) fun a u=>qa u rfl fun a u=>aB<|t_n<|?_;refine aO u rfl h (fun b52 h=>?_) (fun b52 h=>?_)
   .have⟨w53,e54,h⟩:=bs1 h;have⟨p55,e56,h⟩:=bs1 h;have⟨v57,e58,h⟩:=bs1 h;have⟨v59,e60,h⟩:=bs1 h;have⟨p61,e62,h⟩:=bs1 h;have⟨v63,e64,h⟩:=bs1 h;have⟨v65,e66,h⟩:=bs1 h;have⟨s67,e68,h⟩:=bs1 h;have⟨s69,e70,h⟩:=bs1 h;have⟨v71,w72,e73,h⟩:=bs2 h;have u:Has 75 [(0,(pV a0)),(1,(Sl.v a1)),(6,(pV (some p21))),(7,(.int .u64 v26)),(13,(Sl.v v4)),(14,(iV (v4.n:Int))),(15,(iV x6)),(42,(bV (v35==2)))] a:=u.sb rfl;refine aM (n:=75) (ds:=(aS (pV a0) 0 [] 0::aG (pV (some p55)) 0 [0] 44 (pV a0)::aG (pV (some (p55.add 0))) 0 [0,1] 45 (pV (some p55))::aG (Sl.v v57) 0 [0,1,2] 46 (pV (some (p55.add 0)))::aG (pV (some (p21.add 0))) 0 [] 6 (pV (some p21))::aG (iV v59) 0 [4] 48 (pV (some (p21.add 0)))::aT (pV (some p61)) 0 (rn 0 6) [(47,(Sl.v v57)),(49,(iV v59))]::aS (.int .u64 v26) 0 [] 7::aG (.int .u64 v63) 0 [7] 51 (.int .u64 v26)::aG (.int .u64 v65) 0 [7,8] 52 (.int .u64 v63)::aT (Sl.v s67) 0 (rn 0 10) [(50,(pV (some p61))),(53,(.int .u64 v65))]::aG (pV (some (p21.add 1))) 0 [] 6 (pV (some p21))::aG (Sl.v s69) 0 [11] 55 (pV (some (p21.add 1)))::aI (iV v71) true 0 0 (rn 0 13) [(54,(Sl.v s67)),(56,(Sl.v s69))]::[])) (W:=(fun j=>match j with | 0=>w53 | 1=>w72 | _=>w72)) (by kernel_rfl) u (cY e54) (by kernel_rfl) ?_ (aR (by kernel_rfl)) (by kernel_rfl) (m:=1) (by kernel_rfl) (fun a u=>?_)
    .exact⟨oa (aC · rfl),oa (aH · rfl e56),oa (aK · rfl aGV rfl rfl aIc),oc 0 (kd (aJ · rfl aIg (aV e58))),oa (aK · rfl aHB rfl rfl aGL),oc 0 (kd (aJ · rfl aGN (aQ e60))),oa (bZ · rfl rfl aHO aHC e62),oa (aC · rfl),oa (aAl · rfl rfl e64),oa (sH · rfl rfl e66),oa (aBE · rfl aId aGT rfl ⟨_,rfl⟩ rfl (by simp) e68),oa (aK · rfl aHB rfl rfl aHC),oa (aBE · rfl aId aGT rfl rfl rfl (by simp) e70),oc 0 (kd (aAg · rfl rfl e73)),aLz⟩
    have u:Has 75 [(0,(pV a0)),(1,(Sl.v a1)),(13,(Sl.v v4)),(14,(iV (v4.n:Int))),(15,(iV x6))] a:=u.sb rfl;refine b_n<|b_n<|?_;have y:=u;cases h;exact hk16 _ (y.sb rfl)
   refine wp_skip<|b_n<|b_n<|?_;have y:=u;cases h;exact hk16 _ (y.sb rfl)
  clear h;have h:=e28;refine wp_seq<|aA<|qm u rfl fun a u=>qm u rfl fun a u=>q u (aZ u rfl aIf) fun a u=>q u (dK u rfl rfl) fun a u=>aB<|t_n<|?_;refine aO u rfl h (fun b30 h=>?_) (fun b30 h=>?_)
  .refine aA<|qm u rfl fun a u=>qm u rfl fun a u=>?_;have⟨p31,e32,h⟩:=bs1 h;refine q u (bZ u rfl rfl aIf aGL e32) fun a u=>?_;have⟨v33,e34,h⟩:=bs1 h;refine q u (aJ u rfl aGN (aQ e34)) fun a u=>q u (iP u rfl aHl aHu) fun a u=>qa u rfl fun a u=>aB<|?_;have y:=u;cases h;exact hk29 _ (y.sb rfl)
  refine wp_skip<|?_;have y:=u;cases h;exact hk29 _ (y.sb rfl)
 refine wp_exit<|t_x<|?_;have y:=u;cases h;cases hr12 _ rfl;refine lM<|?_;exact hk11 _ (y.sb rfl)
noncomputable def cD (a0:Option Addr) (a1:Int) (a2:Sl) (w:World):Option (Int×World) :=
 if (a0.isNone)=true then
 (some (1,w))
 else
 ((a0).bind fun p2 =>
 (ldB w (p2.add 3)).bind fun v4 =>
 if v4=true then
 (some (10,w))
 else
 (aN (if (decide (a1<0))=true then
 (some (true,w))
 else
 ((ldL w (p2.add 0)).bind fun v12 =>
 some ((decide ((v12.n:Int)<=a1)),w))) fun v7 w8 =>
 if v7=true then
 (some (2,w8))
 else
 (if (decide (64<(a2.n:Int)))=true then
 (some (6,w8))
 else
 (aN (iX a0 w8) fun v16 w17 =>
 if v16=true then
 (some (10,w17))
 else
 (aN (mk w17 140 ([.int .i64 0]++List.replicate 64 (.int .u8 0))) fun p20 w21 =>
 (stA w21 p20 0 ([.int .i64 a1]++List.replicate 64 (.int .u8 0))).bind fun w23 =>
 (slA (p20.add 1) 64 0 64 64 1).bind fun s25 =>
 aN (cpS Try.prog 72 72 s25 a2 w23) fun v27 w28 =>
 (dr w28).bind fun w30 =>
 (ldL w30 (p2.add 1)).bind fun v32 =>
 (ldA 65 w30 p20 0).bind fun c34 =>
 aN (bsl w30 140 65 [c34]) fun s36 w37 =>
 aN (apS Try.prog 109 v32 s36 w37) fun s39 w40 =>
 (stV w40 (p2.add 1) (Sl.v s39)).bind fun w42 =>
 chk (ldL w37 (p2.add 1)=some v32) <|
 some (0,w42))))))
theorem fC {a0 a1 a2 w w' r0} (h:cD a0 a1 a2 w=some (r0,w')):Calls Try.prog 84 #[(.pointer a0),(.int .i64 a1),(Sl.v a2)] w fun e w''=>e=.returned (.int .i64 r0)/\w''=w':=by
 refine aP (n:=51) Try.func84 rfl Try.ntmps84 (by simp) fun a u=>?_;unfold cD at h;refine wp_seq<|aA<|qa u rfl fun a u=>aB<|t_n<|wp_seq<|wp_block<|wp_seq<|aA<|qm u rfl fun a u=>q u (jJ u rfl rfl aHt) fun a u=>qa u rfl fun a u=>aB<|t_n<|?_;refine aO u rfl h (fun b1 h=>?_) (fun b1 h=>?_)
 .refine wp_seq<|aA<|qa u rfl fun a u=>aB<|t_n<|wp_ret<|b_r<|t_r<|?_;have y:=u;cases h;exact bI Try.results84 y rfl ⟨rfl,rfl⟩
 refine wp_seq<|aA<|qm u rfl fun a u=>?_;have⟨p2,e3,h⟩:=bs1 h;refine q u (aH u rfl e3) fun a u=>q u (aK u rfl aGV rfl rfl aHz) fun a u=>?_;have⟨v4,e5,h⟩:=bs1 h;refine q u (aJ u rfl aHR (oO e5)) fun a u=>qa u rfl fun a u=>aB<|t_n<|?_;refine aO u rfl h (fun b6 h=>?_) (fun b6 h=>?_)
 .refine wp_seq<|aA<|qa u rfl fun a u=>aB<|t_n<|wp_ret<|b_r<|t_r<|?_;have y:=u;cases h;exact bI Try.results84 y rfl ⟨rfl,rfl⟩
 refine wp_seq<|?_;have⟨v7,w8,e9,h⟩:=bs2 h;refine bP (n:=51) (L:=[(16,(bV v7)),(0,(pV a0)),(1,(iV a1)),(2,(Sl.v a2))]) (w':=w8) (fun a u=>?_) (fun hk10=>?_)
 .refine t_n<|?_;refine aO u rfl h (fun b14 h=>?_) (fun b14 h=>?_)
  .refine wp_seq<|aA<|qa u rfl fun a u=>aB<|t_n<|wp_ret<|b_r<|t_r<|?_;have y:=u;cases h;exact bI Try.results84 y rfl ⟨rfl,rfl⟩
  refine wp_seq<|aA<|qm u rfl fun a u=>q u (aZ u rfl aGK) fun a u=>q u (gF u rfl rfl) fun a u=>qa u rfl fun a u=>aB<|t_n<|?_;refine aO u rfl h (fun b15 h=>?_) (fun b15 h=>?_)
  .refine wp_seq<|aA<|qa u rfl fun a u=>aB<|t_n<|wp_ret<|b_r<|t_r<|?_;have y:=u;cases h;exact bI Try.results84 y rfl ⟨rfl,rfl⟩
  refine wp_seq<|aA<|qm u rfl fun a u=>?_;have⟨v16,w17,e18,h⟩:=bs2 h;refine q u (dc1 u rfl Try.call78 (nX e18)) fun a u=>qa u rfl fun a u=>aB<|t_n<|?_;refine aO u rfl h (fun b19 h=>?_) (fun b19 h=>?_)
  .refine wp_seq<|aA<|qa u rfl fun a u=>aB<|t_n<|wp_ret<|b_r<|t_r<|?_;have y:=u;cases h;exact bI Try.results84 y rfl ⟨rfl,rfl⟩
  refine wp_skip<|b_n<|t_n<|wp_seq<|aA<|qm u rfl fun a u=>q u (dZ (vs:=[(0,(iV a1))]) (pl:=#[(0,1),(1,64)]) (cs:=([.int .i64 a1]++List.replicate 64 (.int .u8 0))) u ⟨rfl,rfl,aLz⟩ aIe aHB (by intro w;kernel_rfl) (by kernel_rfl)) fun a u=>?_;have⟨p20,w21,e22,h⟩:=bs2 h;refine q u (eX aIe (by kernel_rfl) e22) fun a u=>?_;have⟨w23,e24,h⟩:=bs1 h;refine q u (eW u rfl rfl aHT rfl e24) fun a u=>aB<|t_n<|wp_seq<|aA<|q u (aK u rfl aHB rfl rfl aHC) fun a u=>?_;have⟨s25,e26,h⟩:=bs1 h;refine q u (aBE u rfl aId aGT rfl rfl rfl (by simp) e26) fun a u=>qm u rfl fun a u=>?_;have⟨v27,w28,e29,h⟩:=bs2 h;refine q u (aAg u rfl rfl e29) fun a u=>aB<|t_n<|wp_seq<|?_;have⟨w30,e31,h⟩:=bs1 h;have⟨v32,e33,h⟩:=bs1 h;have⟨c34,e35,h⟩:=bs1 h;have⟨s36,w37,e38,h⟩:=bs2 h;have⟨s39,w40,e41,h⟩:=bs2 h;have⟨w42,e43,h⟩:=bs1 h;obtain⟨e44,h⟩:=bO h;have u:Has 51 [(0,(pV a0)),(7,(pV (some p20)))] a:=u.sb rfl;refine aM (n:=51) (ds:=(aI (pV a0) false 0 2 [] [(0,(pV a0))]::aI (pV a0) false 0 1 [] [(0,(pV a0))]::aI (pV (some p2)) false 0 1 [1] [(42,(pV a0))]::aI (pV (some (p2.add 1))) false 0 1 [1,2] [(43,(pV (some p2)))]::aI (Sl.v v32) false 0 1 [1,2,3] [(44,(pV (some (p2.add 1))))]::aG (.agg (List.toArray c34)) 0 [] 7 (pV (some p20))::aI (Sl.v s36) true 0 0 [5] [(46,(.agg (List.toArray c34)))]::aI (Sl.v s39) true 1 1 (rn 1 6) [(45,(Sl.v v32)),(47,(Sl.v s36))]::aG (pV (some p2)) 2 (rn 0 8) 41 (pV a0)::aG (pV (some (p2.add 1))) 2 (rn 0 9) 49 (pV (some p2))::aI (undef) true 2 2 (rn 0 10) [(50,(pV (some (p2.add 1)))),(48,(Sl.v s39))]::[])) (W:=(fun j=>match j with | 0=>w30 | 1=>w37 | 2=>w40 | 3=>w42 | _=>w42)) (by kernel_rfl) u (cY e31) (by kernel_rfl) ?_ (aR (by kernel_rfl)) (by kernel_rfl) (m:=3) (by kernel_rfl) (fun a u=>?_)
  .refine⟨oa (aC · rfl),oa (aC · rfl),oa (aH · rfl e3),oa (aK · rfl aGV rfl rfl aHK),?_,oc 0 (kd (gC · rfl Try.isAgg140 aHT e35)),oc 0 (kd (iK (vs:=[(0,(.agg (List.toArray c34)))]) (ps:=[c34]) · ⟨rfl,rfl,aLz⟩ ⟨rfl,rfl,aLz⟩ rfl aHH aHT aIe (by decide) e38)),oc 1 (kd (iF · rfl rfl e41)),oa (aH · rfl e3),oa (aK · rfl aGV rfl rfl aHK),oc 2 (kd (fO · rfl rfl aHK e43)),aLz⟩;intro j h1 h2;have h1:0<=j:=h1;have h2:j<=1:=h2;rcases(by omega:j=0\/j=1) with rfl | rfl
   .exact kd (aJ · rfl aIb (aV e33))
   exact kd (aJ · rfl aIb (aV e44))
  have u:Has 51 [] a:=u.sb rfl;refine t_n<|wp_seq<|aA<|qa u rfl fun a u=>aB<|t_n<|wp_ret<|?_;have y:=u;cases h;exact bI Try.results84 y rfl ⟨rfl,rfl⟩
 clear h;have h:=e9;refine aA<|qm u rfl fun a u=>q u (dK u rfl rfl) fun a u=>qm u rfl fun a u=>?_;refine bW h (fun b11 h=>?_) (fun b11 h=>?_)
 .refine qn u 19 (tn b11) fun a u=>qn u 19 (tn b11) fun a u=>qn u 19 (tn b11) fun a u=>qn u 19 (tn b11) fun a u=>qn u 19 (tn b11) fun a u=>qn u 19 (tn b11) fun a u=>qn u 19 (tn b11) fun a u=>q u (aF u rfl b11 rfl) fun a u=>qa u rfl fun a u=>aB<|?_;have y:=u;cases h;exact hk10 _ (y.sb rfl)
 refine qg u 19 (nt b11) (aC u rfl) fun a u=>qg u 19 (nt b11) (aC u rfl) fun a u=>qg u 19 (nt b11) (aH u rfl e3) fun a u=>qg u 19 (nt b11) (aK u rfl aGV rfl rfl aIc) fun a u=>?_;have⟨v12,e13,h⟩:=bs1 h;refine qg u 19 (nt b11) (aJ u rfl aIg (aV e13)) fun a u=>qg u 19 (nt b11) (aZ u rfl aHO) fun a u=>qg u 19 (nt b11) (pP u rfl rfl) fun a u=>q u (aL u rfl b11 rfl) fun a u=>qa u rfl fun a u=>aB<|?_;have y:=u;cases h;exact hk10 _ (y.sb rfl)
noncomputable def nQ (a0:Option Addr) (a1:Int) (w:World):Option (Sl×Int×World) :=
 if (a0.isNone)=true then
 (some (Sl.nil,1,w))
 else
 (aN (if (decide (a1<0))=true then
 (some (true,w))
 else
 ((a0).bind fun p7 =>
 (ldL w (p7.add 0)).bind fun v9 =>
 some ((decide ((v9.n:Int)<=a1)),w))) fun v2 w3 =>
 if v2=true then
 (some (Sl.nil,2,w3))
 else
 ((a0).bind fun p12 =>
 (ldL w3 (p12.add 0)).bind fun v14 =>
 (ix v14 a1 64).bind fun p16 =>
 (ldA 64 w3 p16 0).bind fun c18 =>
 aN (mk w3 138 (List.replicate 64 (.int .u8 0))) fun p20 w21 =>
 (stA w21 p20 0 c18).bind fun w23 =>
 (slA p20 64 0 64 64 1).bind fun s25 =>
 some (s25,0,w23)))
noncomputable def fT (a0:Option Addr) (a1:Int) (p21:Addr) (x28:Int) (w29:World):Option ((Int×World)⊕(World)) :=
 if (decide (0<=x28))=true then
 ((a0).bind fun p36 =>
 (ldL w29 (p36.add 1)).bind fun v38 =>
 (ix v38 x28 65).bind fun p40 =>
 (ldI .i64 w29 (p40.add 0)).bind fun v42 =>
 if (v42==a1)=true then
 ((ldL w29 (p36.add 1)).bind fun v45 =>
 (ix v45 x28 65).bind fun p47 =>
 (ldA 64 w29 (p47.add 1) 0).bind fun c49 =>
 (stA w29 p21 0 c49).bind fun w51 =>
 some (.inr w51))
 else
 (some (.inl ((IntKind.wrap .i64 (x28-1)),w29))))
 else
 (some (.inr w29))
noncomputable def eK (a0:Option Addr) (a1:Int) (w:World):Option (Sl×Int×World) :=
 if (a0.isNone)=true then
 (some (Sl.nil,1,w))
 else
 ((a0).bind fun p2 =>
 (ldB w (p2.add 3)).bind fun v4 =>
 if v4=true then
 (some (Sl.nil,10,w))
 else
 (aN (if (decide (a1<0))=true then
 (some (true,w))
 else
 ((ldL w (p2.add 0)).bind fun v12 =>
 some ((decide ((v12.n:Int)<=a1)),w))) fun v7 w8 =>
 if v7=true then
 (some (Sl.nil,2,w8))
 else
 ((ldL w8 (p2.add 0)).bind fun v15 =>
 (ix v15 a1 64).bind fun p17 =>
 (ldA 64 w8 p17 0).bind fun c19 =>
 aN (mk w8 138 (List.replicate 64 (.int .u8 0))) fun p21 w22 =>
 (stA w22 p21 0 c19).bind fun w24 =>
 (ldL w24 (p2.add 1)).bind fun v26 =>
 (bM (fun s:Int×World=>fT a0 a1 p21 s.1 s.2) ((IntKind.wrap .i64 ((v26.n:Int)-1)),w24)).bind fun w32 =>
 (slA p21 64 0 64 64 1).bind fun s53 =>
 some (s53,0,w32))))
theorem mN {a0 a1 w w' r0 r1} (h:eK a0 a1 w=some (r0,r1,w')):Calls Try.prog 99 #[(.pointer a0),(.int .i64 a1)] w fun e w''=>e=.returned (.tuple #[(Sl.v r0),(.int .i64 r1)])/\w''=w':=by
 refine aP (n:=64) Try.func99 rfl Try.ntmps99 (by simp) fun a u=>?_;unfold eK at h;refine wp_seq<|aA<|qa u rfl fun a u=>qa u rfl fun a u=>aB<|t_n<|wp_seq<|wp_block<|wp_seq<|aA<|qm u rfl fun a u=>q u (jJ u rfl rfl aHt) fun a u=>qa u rfl fun a u=>aB<|t_n<|?_;refine aO u rfl h (fun b1 h=>?_) (fun b1 h=>?_)
 .refine wp_seq<|aA<|qa u rfl fun a u=>qa u rfl fun a u=>aB<|t_n<|wp_ret<|b_r<|t_r<|?_;have y:=u;cases h;exact jA Try.results99 y rfl rfl ⟨rfl,rfl⟩
 refine wp_seq<|aA<|qm u rfl fun a u=>?_;have⟨p2,e3,h⟩:=bs1 h;refine q u (aH u rfl e3) fun a u=>q u (aK u rfl aGV rfl rfl aHz) fun a u=>?_;have⟨v4,e5,h⟩:=bs1 h;refine q u (aJ u rfl aHR (oO e5)) fun a u=>qa u rfl fun a u=>aB<|t_n<|?_;refine aO u rfl h (fun b6 h=>?_) (fun b6 h=>?_)
 .refine wp_seq<|aA<|qa u rfl fun a u=>qa u rfl fun a u=>aB<|t_n<|wp_ret<|b_r<|t_r<|?_;have y:=u;cases h;exact jA Try.results99 y rfl rfl ⟨rfl,rfl⟩
 refine wp_seq<|?_;have⟨v7,w8,e9,h⟩:=bs2 h;refine bP (n:=64) (L:=[(16,(bV v7)),(0,(pV a0)),(1,(iV a1))]) (w':=w8) (fun a u=>?_) (fun hk10=>?_)
 .refine t_n<|?_;refine aO u rfl h (fun b14 h=>?_) (fun b14 h=>?_)
  .refine wp_seq<|aA<|qa u rfl fun a u=>qa u rfl fun a u=>aB<|t_n<|wp_ret<|b_r<|t_r<|?_;have y:=u;cases h;exact jA Try.results99 y rfl rfl ⟨rfl,rfl⟩
  refine wp_skip<|b_n<|t_n<|wp_seq<|aA<|qm u rfl fun a u=>q u (aH u rfl e3) fun a u=>q u (aK u rfl aGV rfl rfl aIc) fun a u=>?_;have⟨v15,e16,h⟩:=bs1 h;refine q u (aJ u rfl aIg (aV e16)) fun a u=>qm u rfl fun a u=>?_;have⟨p17,e18,h⟩:=bs1 h;refine q u (bZ u rfl rfl aHO aHC e18) fun a u=>?_;have⟨c19,e20,h⟩:=bs1 h;refine q u (gC u rfl aIo aHC e20) fun a u=>?_;have⟨p21,w22,e23,h⟩:=bs2 h;refine q u (eX Try.zeroValue138 (by kernel_rfl) e23) fun a u=>?_;have⟨w24,e25,h⟩:=bs1 h;refine q u (eW u rfl rfl aHC ((kR e20).1) e25) fun a u=>aB<|t_n<|wp_seq<|wp_seq<|aA<|qm u rfl fun a u=>q u (aH u rfl e3) fun a u=>q u (aK u rfl aGV rfl rfl aHK) fun a u=>?_;have⟨v26,e27,h⟩:=bs1 h;refine q u (aJ u rfl aIb (aV e27)) fun a u=>q u (aZ u rfl aHH) fun a u=>q u (iB u rfl rfl) fun a u=>qa u rfl fun a u=>aB<|t_n<|wp_block<|?_;have⟨w32,e31,h⟩:=bs1 h;refine gT (n:=64) (L:=[(6,(pV (some p21)))]) (w':=w32) (e:=.exit 1) (I:=fun (s:Int×World) a w=>Has 64 [(7,(iV s.1)),(0,(pV a0)),(1,(iV a1)),(6,(pV (some p21)))] a/\w=s.2) ⟨u.sub ⟨rfl,rfl,rfl,rfl,aLz⟩,rfl⟩ e31 (fun a u=>?_) (fun hk33=>?_)
  .refine eC<|t_n<|wp_seq<|aA<|?_;have⟨s53,e54,h⟩:=bs1 h;refine q u (aBE u rfl aId aGT rfl rfl rfl (by simp) e54) fun a u=>qa u rfl fun a u=>qa u rfl fun a u=>aB<|t_n<|wp_ret<|?_;have y:=u;cases h;exact jA Try.results99 y rfl rfl ⟨rfl,rfl⟩
  clear h;rintro⟨x28,w29⟩ a wq o ⟨u,hwq⟩ h hr34;obtain rfl:w29=wq:=hwq.symm;have u:Has 64 [(7,(iV x28)),(0,(pV a0)),(1,(iV a1)),(6,(pV (some p21)))] a:=u;have h:fT a0 a1 p21 x28 w29=some o:=h;unfold fT at h;refine wp_seq<|wp_seq<|aA<|qm u rfl fun a u=>q u (pP u rfl rfl) fun a u=>aB<|t_n<|?_;refine aO u rfl h (fun b35 h=>?_) (fun b35 h=>?_)
  .refine wp_skip<|t_n<|wp_seq<|wp_block<|wp_seq<|aA<|qm u rfl fun a u=>?_;have⟨p36,e37,h⟩:=bs1 h;refine q u (aH u rfl e37) fun a u=>q u (aK u rfl aGV rfl rfl aHK) fun a u=>?_;have⟨v38,e39,h⟩:=bs1 h;refine q u (aJ u rfl aIb (aV e39)) fun a u=>qm u rfl fun a u=>?_;have⟨p40,e41,h⟩:=bs1 h;refine q u (bZ u rfl rfl aHH aHT e41) fun a u=>q u (aK u rfl aHB rfl rfl aGL) fun a u=>?_;have⟨v42,e43,h⟩:=bs1 h;refine q u (aJ u rfl aGN (aQ e43)) fun a u=>qm u rfl fun a u=>q u (gD u rfl rfl) fun a u=>aB<|t_n<|?_;refine aO u rfl h (fun b44 h=>?_) (fun b44 h=>?_)
   .refine wp_seq<|aA<|qm u rfl fun a u=>q u (aH u rfl e37) fun a u=>q u (aK u rfl aGV rfl rfl aHK) fun a u=>?_;have⟨v45,e46,h⟩:=bs1 h;refine q u (aJ u rfl aIb (aV e46)) fun a u=>qm u rfl fun a u=>?_;have⟨p47,e48,h⟩:=bs1 h;refine q u (bZ u rfl rfl aHH aHT e48) fun a u=>q u (aK u rfl aHB rfl rfl aHC) fun a u=>?_;have⟨c49,e50,h⟩:=bs1 h;refine q u (gC u rfl aIo aHC e50) fun a u=>?_;have⟨w51,e52,h⟩:=bs1 h;refine q u (eW u rfl rfl aHC ((kR e50).1) e52) fun a u=>aB<|t_n<|wp_exit<|b_x (by decide)<|t_x<|?_;have y:=u;cases h;cases hr34 _ rfl;refine lM<|?_;exact hk33 _ (y.sb rfl)
   refine wp_skip<|b_n<|t_n<|aA<|qm u rfl fun a u=>q u (iB u rfl rfl) fun a u=>qa u rfl fun a u=>aB<|?_;have y:=u;cases h;exact dS ⟨y.sb rfl,rfl⟩
  refine wp_exit<|t_x<|?_;have y:=u;cases h;cases hr34 _ rfl;refine lM<|?_;exact hk33 _ (y.sb rfl)
 clear h;have h:=e9;refine aA<|qm u rfl fun a u=>q u (dK u rfl rfl) fun a u=>qm u rfl fun a u=>?_;refine bW h (fun b11 h=>?_) (fun b11 h=>?_)
 .refine qn u 19 (tn b11) fun a u=>qn u 19 (tn b11) fun a u=>qn u 19 (tn b11) fun a u=>qn u 19 (tn b11) fun a u=>qn u 19 (tn b11) fun a u=>qn u 19 (tn b11) fun a u=>qn u 19 (tn b11) fun a u=>q u (aF u rfl b11 rfl) fun a u=>qa u rfl fun a u=>aB<|?_;have y:=u;cases h;exact hk10 _ (y.sb rfl)
 refine qg u 19 (nt b11) (aC u rfl) fun a u=>qg u 19 (nt b11) (aC u rfl) fun a u=>qg u 19 (nt b11) (aH u rfl e3) fun a u=>qg u 19 (nt b11) (aK u rfl aGV rfl rfl aIc) fun a u=>?_;have⟨v12,e13,h⟩:=bs1 h;refine qg u 19 (nt b11) (aJ u rfl aIg (aV e13)) fun a u=>qg u 19 (nt b11) (aZ u rfl aHO) fun a u=>qg u 19 (nt b11) (pP u rfl rfl) fun a u=>q u (aL u rfl b11 rfl) fun a u=>qa u rfl fun a u=>aB<|?_;have y:=u;cases h;exact hk10 _ (y.sb rfl)
structure Dk where
 S:List (List Int)
 W:List (Int×List Int)
 left:Int
 down:Bool
 age:Int
structure Dk.Wf (D:Dk):Prop where
 s64:∀ s∈D.S,s.length=64
 w64:∀ x∈D.W,x.2.length=64
 wat:∀ x∈D.W,0<=x.1/\x.1<D.S.length
 l0:0<=D.left
 l1:D.left<=9223372036854775807
 n:1<=D.S.length/\D.S.length<=512
def pad (b:List Int):List Int:=b++List.replicate (64-b.length) 0
def Dk.trips (D:Dk):Bool×Dk:=if D.left=0 then (false,D) else (D.left-1==0,{ D with left:=D.left-1,down:=D.left-1==0 })
def Dk.bad (D:Dk) (i:Int):Bool:=decide (i<0)||decide ((D.S.length:Int)<=i)
def Dk.write (D:Dk) (i:Int) (b:List Int):Int×Dk :=
 if D.down=true then (10,D) else if D.bad i=true then (2,D) else if 64<b.length then (6,D) else
 if D.trips.1=true then (10,D.trips.2) else (0,{ D.trips.2 with W:=D.W++[(i,pad b)] })
def Dk.cur (D:Dk) (i:Int):List Int:=D.W.foldl (fun b x=>if x.1=i then x.2 else b) (D.S.getD i.toNat [])
def Dk.read (D:Dk) (i:Int):List Int×Int:=if D.down=true then ([],10) else if D.bad i=true then ([],2) else (D.cur i,0)
def Dk.sure (D:Dk) (i:Int):List Int×Int:=if D.bad i=true then ([],2) else (D.S.getD i.toNat [],0)
def oA (S:List (List Int)) (x:Int×List Int) (m:Nat):List (List Int):=S.set x.1.toNat (x.2.take m++(S.getD x.1.toNat []).drop m)
def Dk.sync (D:Dk):Int×Dk:=if D.down=true then (10,D) else if D.trips.1=true then (10,D.trips.2) else (0,{ D.trips.2 with S:=D.W.foldl (fun S x=>oA S x 64) D.S,W:=[] })
def Dk.trip (D:Dk) (n:Int):Int×Dk:=if D.down=true then (10,D) else if n<0 then (2,D) else (0,{ D with left:=n })
def lN (fs:List Int) (k:Nat):Int:=if k<fs.length then IntKind.wrap .u64 (fs.getD k 0) else 0
def kA (fs:List Int) (k:Nat) (S:List (List Int)) (x:Int×List Int):List (List Int) :=
 if (lN fs k).tmod 3=1 then oA S x 64 else if (lN fs k).tmod 3=2 then oA S x (((lN fs k).tdiv 3).tmod 64).toNat else S
def pD (fs:List Int):Nat->List (Int×List Int)->List (List Int)->List (List Int)
 | _,[],S=>S
 | k,x::l,S=>pD fs (k+1) l (kA fs k S x)
def Dk.crash (D:Dk) (fs:List Int):Dk:={ S:=pD fs 0 D.W D.S,W:=[],left:=0,down:=false,age:=IntKind.wrap .i64 (D.age+1) }
def Dk.new (n:Nat):Dk:={ S:=List.replicate n (List.replicate 64 0),W:=[],left:=0,down:=false,age:=0 }
theorem Dk.Wf.trips {D:Dk} (h:D.Wf):D.trips.2.Wf:=by
 unfold Dk.trips;split
 .exact h
 exact⟨h.s64,h.w64,h.wat,by have:=h.l0;simp only;omega,by have:=h.l1;simp only;omega,h.n⟩
theorem jY (D:Dk):D.trips.2.S=D.S:=by unfold Dk.trips;split<;>rfl
theorem jE (D:Dk):D.trips.2.W=D.W:=by unfold Dk.trips;split<;>rfl
theorem iM {S:List (List Int)} {x:Int×List Int} {m:Nat}:(oA S x m).length=S.length:=by simp[oA]
theorem tB {S:List (List Int)} {x:Int×List Int} {m:Nat} (hS:∀ s∈S,s.length=64) (hx:x.2.length=64) (hm:m<=64) (hi:x.1.toNat<S.length):∀ s∈oA S x m,s.length=64:=by
 intro s hs;rcases aKv hs with h | h
 .exact hS s h
 subst h;have:(S.getD x.1.toNat []).length=64:=by
  rw[aIu,aIs hi];exact hS _ (aJy hi)
 rw[aIE,aIN,aIY,hx,this];omega
def oB (S:List (List Int)):List Value:=S.flatMap (nums .u8)
def tP (W:List (Int×List Int)):List Value:=W.flatMap fun x=>.int .i64 x.1::nums .u8 x.2
def zb:List Value:=List.replicate 64 (.int .u8 0)
theorem aEO:zb=nums .u8 (List.replicate 64 0):=by simp[zb,nums]
theorem aGH:ST Try.prog 108 138 64 64 zb:=⟨Try.underlying108,⟨Try.t138,.agg zb.toArray,by kernel_rfl,by kernel_rfl,rfl,rfl,rfl⟩,by simp[zb],by decide,by decide⟩
theorem aGB:ST Try.prog 109 140 65 72 (.int .i64 0::zb):=⟨Try.underlying109,⟨Try.t140,.agg (.int .i64 0::zb).toArray,by kernel_rfl,by kernel_rfl,rfl,rfl,rfl⟩,by simp[zb],by decide,by decide⟩
theorem mS:ST Try.prog 72 5 1 1 [.int .u8 0]:=⟨Try.underlying72,⟨Try.t5,.int .u8 0,by kernel_rfl,by kernel_rfl,rfl,rfl,rfl⟩,rfl,by decide,by decide⟩
structure Bk where
 b:Nat
 c:Nat
 r:List Value
def dkC (sb:Bk) (n:Nat) (s:Sl) (left:Int) (down:Bool) (age:Int):List Value:=[(⟨some ⟨sb.b,0,none⟩,n,sb.c⟩:Sl).v,s.v,.int .i64 left,.bool down,.int .i64 age]
structure DAt (w:World) (p:Nat) (sb:Bk) (s:Sl) (D:Dk):Prop where
 wf:D.Wf
 blk:B w p=some (dkC sb D.S.length s D.left D.down D.age,111)
 sure:B w sb.b=some (oB D.S++sb.r,138)
 waits:Own w 140 s 65 (tP D.W)
 n:s.n=D.W.length
def DAt.foot (p:Nat) (sb:Bk) (s:Sl) (k:Nat):Prop:=k=p\/k=sb.b\/s.blk k
def gQ (w:World) (p:Nat) (F:Nat->Prop) (D:Dk):Prop:=∃ sb s,DAt w p sb s D/\∀ k,DAt.foot p sb s k->F k
def qE (F:Nat->Prop) (w w':World) (k:Nat):Prop:=F k\/(w.heap.size<=k/\k<w'.heap.size)
section
variable {w w' : World} {p : Nat} {sb : Bk} {s : Sl} {D : Dk} {F G : Nat -> Prop}
theorem DAt.ne (h:DAt w p sb s D):p≠sb.b/\¬ s.blk p/\¬ s.blk sb.b:=by
 refine⟨fun e=>?_,fun e=>?_,fun e=>?_⟩
 .have:=h.blk;rw[e,h.sure] at this;simp at this
 .obtain⟨c,hc⟩:=h.waits.ty e;rw[h.blk] at hc;simp at hc
 obtain⟨c,hc⟩:=h.waits.ty e;rw[h.sure] at hc;simp at hc
theorem DAt.fr (h:DAt w p sb s D) (hf:Fr G w w') (hg:∀ k,DAt.foot p sb s k->¬ G k):DAt w' p sb s D :=
 ⟨h.wf,hf.B h.blk (hg _ (.inl rfl)),hf.B h.sure (hg _ (.inr (.inl rfl))),h.waits.fr hf (fun k hk=>hg _ (.inr (.inr hk))),h.n⟩
theorem gQ.fr (h:gQ w p F D) (hf:Fr G w w') (hg:∀ k,F k->¬ G k):gQ w' p F D:=by
 obtain⟨sb,s,h,hF⟩:=h;exact⟨sb,s,h.fr hf (fun k hk=>hg k (hF k hk)),hF⟩
theorem gQ.mono (h:gQ w p F D) (hg:∀ k,k<w.heap.size->F k->G k):gQ w p G D:=by
 obtain⟨sb,s,h,hF⟩:=h;refine⟨sb,s,h,fun k hk=>hg k ?_ (hF k hk)⟩;rcases hk with rfl | rfl | hk
 .exact qW h.blk
 .exact qW h.sure
 exact h.waits.lt hk
theorem DAt.lt (h:DAt w p sb s D) {k:Nat} (hk:DAt.foot p sb s k):k<w.heap.size:=by
 rcases hk with rfl | rfl | hk
 .exact qW h.blk
 .exact qW h.sure
 exact h.waits.lt hk
theorem One.refl {b:Nat}:One b w w:=⟨rfl,rfl,rfl,rfl,fun _ _=>rfl⟩
theorem One.trans {b:Nat} {w'':World} (h:One b w w') (k:One b w' w''):One b w w'' :=
 ⟨k.os.trans h.os,k.tape.trans h.tape,k.output.trans h.output,k.size.trans h.size,fun i hi=>(k.block i hi).trans (h.block i hi)⟩
theorem DAt.one (h:DAt w p sb s D) {D':Dk} (ho:One p w w') (hb:B w' p=some (dkC sb D'.S.length s D'.left D'.down D'.age,111)) (hS:D'.S=D.S) (hW:D'.W=D.W) (hwf:D'.Wf):DAt w' p sb s D':=by
 have hne:=h.ne;exact⟨hwf,hb,by rw[ho.B (Ne.symm hne.1),hS];exact h.sure,by rw[hW];exact ho.own h.waits hne.2.1,by rw[hW];exact h.n⟩
theorem zY (h:DAt w p sb s D):∃ w',iX (some ⟨p,0,none⟩) w=some (D.trips.1,w')/\DAt w' p sb s D.trips.2/\One p w w':=by
 have hl:ldI .i64 w ⟨p,0+2,none⟩=some D.left:=lP h.blk rfl;unfold iX;simp only[aLx,aD,hl];by_cases h0:D.left=0
 .exact⟨w,by simp[h0,Dk.trips],by simpa[h0,Dk.trips] using h,One.refl⟩
 have e0:(D.left==0)=false:=by simpa using h0
 have hw:IntKind.wrap .i64 (D.left-1)=D.left-1:=by rw[aIy];have:=h.wf.l0;have:=h.wf.l1;omega
 obtain⟨w1,e1,b1,o1⟩:=mE (o:=0+2) (v:=.int .i64 (D.left-1)) h.blk (by simp[dkC]) rfl;obtain⟨w2,e2,b2,o2⟩:=mE (o:=0+3) (v:=.bool (D.left-1==0)) b1 (by simp[dkC]) rfl;have l1:ldI .i64 w1 ⟨p,0+2,none⟩=some (D.left-1):=lP b1 rfl;have l2:ldB w2 ⟨p,0+3,none⟩=some (D.left-1==0):=aAw b2 rfl;refine⟨w2,?_,h.one (o1.trans o2) ?_ (jY D) (jE D) h.wf.trips,o1.trans o2⟩
 .simp only[e0,hw,e1,l1,e2,l2,aLx,aIx,if_false,Dk.trips,if_neg h0]
 rw[jY,b2];simp only[Dk.trips,if_neg h0];rfl
theorem aFM {m:Int} (h1:1<=m) (h2:m<=512):∃ w',lR m w=some (some ⟨w.heap.size+1,0,none⟩,0,w')/\DAt w' (w.heap.size+1) ⟨w.heap.size,m.toNat,[]⟩ Sl.nil (Dk.new m.toNat)/\(∀ n S,n<=w.heap.size->Fz n S w w')/\w'.heap.size=w.heap.size+2:=by
 have t1:¬ m<1:=by omega
 have t2:¬ 512<m:=by omega
 obtain⟨w1,e1,n1⟩:=wW (w:=w) aGH (m:=m) (by omega) (by omega);obtain⟨w2,e2,n2⟩:=aBn (w:=w1) (T:=111) (cs:=dkC ⟨w.heap.size,m.toNat,[]⟩ m.toNat Sl.nil 0 false 0);have z1:w1.heap.size=w.heap.size+1:=n1.size;unfold lR;have e2':mk w1 111 [Sl.v ⟨some ⟨w.heap.size,0,none⟩,m.toNat,m.toNat⟩,.slice none 0 0,.int .i64 0,.bool false,.int .i64 0]=some (⟨w1.heap.size,0,none⟩,w2):=e2;refine⟨w2,?_,⟨⟨?_,?_,?_,by simp[Dk.new],by simp[Dk.new],by simp[Dk.new];omega⟩,?_,?_,?_,rfl⟩,fun n S hn=>(n1.fr n S hn).trans (n2.fr n S (by omega)),by have:=n2.size;omega⟩
 .simp only[t1,t2,decide_false,aIx,if_false,aE,e1,e2',z1]
 .intro x hx;simp[Dk.new] at hx;obtain⟨_,rfl⟩:=hx;simp
 .intro x hx;simp[Dk.new] at hx
 .intro x hx;simp[Dk.new] at hx
 .have:=n2.b;rw[z1] at this;simpa[Dk.new] using this
 .rw[n2.old _ (by simp only;omega),n1.b,aKa];rw[show oB (Dk.new m.toNat).S=(List.replicate m.toNat zb).flatten by simp only[Dk.new,oB,aEO,List.flatMap,List.map_replicate]]
 exact Own.nil
theorem aCc (h:DAt w p sb s D):ldL w ⟨p,0,none⟩=some ⟨some ⟨sb.b,0,none⟩,D.S.length,sb.c⟩:=pE h.blk rfl
theorem uK (h:DAt w p sb s D):ldL w ⟨p,1,none⟩=some s:=pE h.blk rfl
theorem zL (h:DAt w p sb s D):ldB w ⟨p,3,none⟩=some D.down:=aAw h.blk rfl
theorem aGh (h:DAt w p sb s D):ldI .i64 w ⟨p,4,none⟩=some D.age:=lP h.blk rfl
theorem aEI (h:DAt w p sb s D):eL (some ⟨p,0,none⟩) w=some ((D.S.length:Int),w):=by
 unfold eL;simp[aCc h]
theorem aCU (h:DAt w p sb s D):gZ (some ⟨p,0,none⟩) w=some ((D.W.length:Int),w):=by
 unfold gZ;simp[uK h,h.n]
theorem aEF (h:DAt w p sb s D):dB (some ⟨p,0,none⟩) w=some (D.down,w):=by
 unfold dB;simp[zL h]
theorem aFx (h:DAt w p sb s D):iC (some ⟨p,0,none⟩) w=some (D.age,w):=by
 unfold iC;simp[aGh h]
theorem aEK {m:Int} (h:DAt w p sb s D) (hm:m<=9223372036854775807):∃ w',gL (some ⟨p,0,none⟩) m w=some ((D.trip m).1,w')/\DAt w' p sb s (D.trip m).2/\One p w w':=by
 unfold gL Dk.trip;simp only[aJf,aIx,if_false,aLx,aD,aLy,zL h];by_cases hd:D.down=true
 .exact⟨w,by simp[hd],by simpa[hd] using h,One.refl⟩
 by_cases hm0:m<0
 .exact⟨w,by simp[hd,hm0],by simpa[hd,hm0] using h,One.refl⟩
 obtain⟨w1,e1,b1,o1⟩:=mE (o:=2) (v:=.int .i64 m) h.blk (by simp[dkC]) rfl;refine⟨w1,by simp[hd,hm0,e1],?_,o1⟩;simp only[hd,if_neg hm0,aIx,if_false];have hdf:D.down=false:=by simpa using hd
 exact h.one o1 (by rw[b1,hdf];rfl) rfl rfl ⟨h.wf.s64,h.wf.w64,h.wf.wat,by simp only;omega,hm,h.wf.n⟩
theorem DAt.bytes (h:DAt w p sb s D) {b:Sl} {bs:List Int} (hb:Rd w b 1 (nums .u8 bs)):∀ a,b.p=some a->0<b.n->a.block≠p:=by
 intro a ha hn e;obtain⟨a',ha',hc⟩:=hb.at_ hn;rw[ha] at ha';cases ha';have hl:=hb.len;simp only[bG,aKm] at hl;have h0:=hc 0 (.int .u8 (bs[0]'(by omega))) (by rw[lY,aIs (by omega)];rfl);have e0:a.add 0=a:=by simp[Addr.add]
 rw[e0] at h0;obtain⟨ab,ao,asp⟩:=a;simp only at e;subst e;simp only[World.cell?,nS.1 h.blk] at h0;split at h0
 .cases h0
 simp[dkC,Sl.v] at h0;rcases ao with _ | _ | _ | _ | _ | ao<;>simp at h0
theorem pA {cs vs:List Value} (h:vs.length=cs.length):jQ cs 0 vs=vs:=by simp[jQ,h]
theorem aAW {W:List (Int×List Int)} {x:Int×List Int}:tP (W++[x])=tP W++(.int .i64 x.1::nums .u8 x.2):=by simp[tP]
theorem aAx {v:Value} {l:List Value} (hv:v.oneCell'=true) (hl:∀ u∈l,u.oneCell'=true):∀ u∈v::l,u.oneCell'=true:=by
 intro u hu;rcases aJI.1 hu with rfl | hu
 .exact hv
 exact hl u hu
theorem aDo {i:Int} {b:Sl} {bs:List Int} (h:DAt w p sb s D) (hb:Rd w b 1 (nums .u8 bs)) (hbd:D.W.length<1000000) :
  ∃ w' s',cD (some ⟨p,0,none⟩) i b w=some ((D.write i bs).1,w')/\DAt w' p sb s' (D.write i bs).2/\Fr (DAt.foot p sb s) w w'/\(∀ k,s'.blk k->s.blk k\/w.heap.size<=k):=by
 have hbn:bs.length=b.n:=by have:=hb.len;simpa using this
 unfold cD;simp only[aJf,aIx,if_false,aLx,aD,aLy,zL h,aCc h];have stay:∀ (r:Int),(D.write i bs)=(r,D)->∃ w' s',(some (r,w):Option (Int×World))=some ((D.write i bs).1,w')/\DAt w' p sb s' (D.write i bs).2/\Fr (DAt.foot p sb s) w w'/\(∀ k,s'.blk k->s.blk k\/w.heap.size<=k) :=
  fun r e=>⟨w,s,by rw[e],by rw[e];exact h,Fr.refl,fun k hk=>.inl hk⟩
 have hbad:(if decide (i<0)=true then some (true,w) else some (decide ((D.S.length:Int)<=i),w))=some (D.bad i,w):=by
  unfold Dk.bad;by_cases hi:i<0<;>simp[hi]
 rw[hbad];simp only[aE];by_cases hd:D.down=true
 .simp only[hd,if_true];exact stay 10 (by simp[Dk.write,hd])
 simp only[hd,aIx,if_false];by_cases hi:D.bad i=true
 .simp only[hi,if_true];exact stay 2 (by simp[Dk.write,hd,hi])
 simp only[hi,aIx,if_false];by_cases h64:64<b.n
 .have e:(64:Int)<(b.n:Int):=by omega
  simp only[e,decide_true,if_true];exact stay 6 (by simp[Dk.write,hd,hi,hbn,h64])
 have e:¬ (64:Int)<(b.n:Int):=by omega
 simp only[e,decide_false,aIx,if_false];obtain⟨w1,e1,h1,o1⟩:=zY h;rw[e1];simp only[aE];have hwr:D.write i bs=if D.trips.1=true then (10,D.trips.2) else (0,{ D.trips.2 with W:=D.W++[(i,pad bs)] }):=by
  unfold Dk.write;rw[if_neg hd,if_neg hi,if_neg (by omega)]
 by_cases ht:D.trips.1=true
 .simp only[ht,if_true];rw[hwr,if_pos ht];exact⟨w1,s,rfl,h1,o1.fr (.inl rfl),fun k hk=>.inl hk⟩
 simp only[ht,aIx,if_false];rw[hwr,if_neg ht];obtain⟨w2,e2,n2⟩:=aBn (w:=w1) (T:=140) (cs:=[.int .i64 0]++List.replicate 64 (.int .u8 0));have z2:=n2.size;obtain⟨w3,e3,b3,o3⟩:=xM (o:=0) (vs:=[.int .i64 i]++List.replicate 64 (.int .u8 0)) n2.b (by simp) (by intro v hv;simp at hv;rcases hv with rfl | rfl<;>rfl);rw[pA (by simp)] at b3;have f13:Fz w1.heap.size (fun _=>False) w1 w3:=(n2.fr _ _ (aIv _)).trans (o3.fz (.inr (aIv _)));have hb3:Rd w3 b 1 (nums .u8 bs):=(hb.fr (o1.fr (S:=fun k=>k=p) rfl) (h.bytes hb)).fr f13.fr (fun _ _ _ h=>h);obtain⟨w4,e4,b4,o4⟩:=aBM (u:=72) (m:=64) (c:=64) mS (o:=1) b3 (by simp) hb3 dU;have hmin:min b.n 64=b.n:=by omega
 have htk:(nums .u8 bs).take (min b.n 64*1)=nums .u8 bs:=by rw[hmin,aKm,<-hbn];exact aIB (by simp)
 have hc4:jQ ([.int .i64 i]++List.replicate 64 (.int .u8 0)) 1 (nums .u8 bs) = .int .i64 i::nums .u8 (pad bs):=by
  simp[jQ,pad,nums,hbn,aLl 1,-List.reduceReplicate]
 rw[htk,hc4] at b4;obtain⟨w5,e5,d5,g5,z5,_⟩:=tQ (w:=w4);have f15:Fz w1.heap.size (fun _=>False) w1 w5:=(f13.trans (o4.fz (.inr (aIv _)))).trans (g5 _ _);have hlen:(Value.int .i64 i::nums .u8 (pad bs)).length=65:=by simp[pad];omega
 have l5:ldA 65 w5 ⟨w1.heap.size,0,none⟩ 0=some (.int .i64 i::nums .u8 (pad bs)):=by
  have:=nK (n:=65) (o:=0) ((d5 _).trans b4) (by simp only[hlen];omega);rw[this,aJj,aIB (by omega)]
 obtain⟨w6,e6,n6⟩:=wD (w:=w5) (T:=140) (sz:=65) (ps:=[.int .i64 i::nums .u8 (pad bs)]) (by simp only[aJr,forall_eq];exact hlen);have z3:=o3.size;have z4:=o4.size;have f16:Fz w1.heap.size (fun _=>False) w1 w6:=f15.trans (n6.fr _ _ (by omega));have h5:=h1.fr f15.fr (fun _ _ h=>h);have h6:=h1.fr f16.fr (fun _ _ h=>h);have own6:Own w6 140 ⟨some ⟨w5.heap.size,0,none⟩,1,1⟩ 65 (.int .i64 i::nums .u8 (pad bs)):=by
  refine Own.of_new (w:=w5) ?_ (by rw[hlen]) (by omega);simpa using n6
 obtain⟨s',w7,e7,own7,f7,n7,k7⟩:=qS aGB h6.waits own6.rd (aAx rfl dU) (by rw[h6.n,jE];simp only;omega);have hne6:=h6.ne;have b7:B w7 p=some (dkC sb D.trips.2.S.length s D.trips.2.left D.trips.2.down D.trips.2.age,111):=f7.B h6.blk hne6.2.1;obtain⟨w8,e8,b8,o8⟩:=mE (o:=1) (v:=s'.v) b7 (by simp[dkC]) rfl;have hp1:p<w1.heap.size:=qW h1.blk;have hsz:w.heap.size=w1.heap.size:=o1.size.symm;have z6:=n6.size;have ps':¬ s'.blk p:=fun hk=>(k7 p hk).elim hne6.2.1 (fun h2=>by omega);refine⟨w8,s',?_,⟨?_,?_,?_,?_,?_⟩,?_,?_⟩
 .have l6:=uK h6;simp only[e2,aE,e3,aLx,aD,aLy];have sl:slA ⟨w1.heap.size,1,none⟩ 64 0 64 64 1=some ⟨some ⟨w1.heap.size,1,none⟩,64,64⟩:=by simp[slA]
  simp only[sl,aLx,e4,aE,e5,uK h5,l5,e6,aIH,aIS,aLy,e7,e8];rw[gR l6]
 .refine⟨?_,?_,?_,?_,?_,?_⟩
  .simp only[jY];exact h.wf.s64
  .intro x hx;simp only[aIG,aJr] at hx;rcases hx with hx | rfl
   .exact h.wf.w64 x hx
   simp[pad];omega
  .intro x hx;simp only[aIG,aJr,jY] at hx ⊢;rcases hx with hx | rfl
   .exact h.wf.wat x hx
   simp only[Dk.bad,aJc,decide_eq_true_eq,not_or] at hi;omega
  .exact h.wf.trips.l0
  .exact h.wf.trips.l1
  exact h.wf.trips.n
 .rw[b8];rfl
 .rw[o8.B (Ne.symm hne6.1)];exact f7.B h6.sure hne6.2.2
 .have:=o8.own own7 ps';rw[jE] at this;simpa[aAW] using this
 .rw[n7,h6.n,jE];simp
 .refine(o1.fr (S:=DAt.foot p sb s) (.inl rfl)).trans ?_;refine(f16.fr.mono (fun _ h=>h.elim)).trans_new ((f7.mono (S':=DAt.foot p sb s) (fun i hi=>.inl (.inr (.inr hi)))).trans (o8.fr (.inl rfl))) (fun i hi=>.inl hi)
 intro k hk;rcases k7 k hk with h' | h'
 .exact .inl h'
 exact .inr (by omega)
theorem sV {a r vs:List Value} {o:Nat} (h:o+vs.length<=a.length):jQ (a++r) o vs=jQ a o vs++r:=by
 unfold jQ;rw[aJx (by omega),aJo h];simp[aIK]
theorem tS {S:List (List Int)} {x:Int×List Int} {m:Nat} (hS:∀ s∈S,s.length=64) (hx:x.2.length=64) (hm:m<=64) (hi:x.1.toNat<S.length) :
  jQ (oB S) (x.1.toNat*64) (nums .u8 (x.2.take m))=oB (oA S x m):=by
 obtain⟨i,b⟩:=x;simp only at hx hi ⊢;generalize hj:i.toNat=j at hi;simp only[oA,hj];clear hj
 induction S generalizing j with
 | nil=>simp at hi
 | cons s S ih =>
  have hs:=hS s (by simp);have hln:(nums .u8 s).length=64:=by simp[hs]
  have htl:(nums .u8 (b.take m)).length=m:=by simp[hx];omega
  cases j with
  | zero =>
   simp only[jQ,oB,aIQ,aKY,List.take_zero,aJL,List.set_cons_zero,aLy,htl,List.getD_cons_zero];rw[aJo (by omega)];simp[nums,aIK,aKB]
  | succ j =>
   have:=ih (fun y hy=>hS y (by simp[hy])) j (by simpa using hi);simp only[oB,aIQ,aKZ,List.getD_cons_succ] at this ⊢;rw[<-this];have e1:(j+1)*64=64+j*64:=by rw[aJg];omega
   simp only[jQ,e1];rw[aFr _ _ hln,show 64+j*64+(nums .u8 (b.take m)).length=64+(j*64+(nums .u8 (b.take m)).length) by omega,aFg _ _ hln];simp only[aIK]
theorem aFE {W:List (Int×List Int)} (h:∀ x∈W,x.2.length=64):∀ x∈W,(Value.int .i64 x.1::nums .u8 x.2).length=65:=fun x hx=>by simp[h x hx]
theorem aCV {S:List (List Int)} (h:∀ s∈S,s.length=64):∀ s∈S,(nums .u8 s).length=64:=fun s hs=>by simp[h s hs]
theorem cC {k:Nat} (h:k<9223372036854775807):IntKind.wrap .i64 ((k:Int)+1)=((k+1:Nat):Int):=by rw[aIy];omega
theorem aDS {x:Int×List Int} (hx:x.2.length=64):∃ w2 w3,mk w 140 ([.int .i64 0]++List.replicate 64 (.int .u8 0))=some (⟨w.heap.size,0,none⟩,w2)/\stA w2 ⟨w.heap.size,0,none⟩ 0 (.int .i64 x.1::nums .u8 x.2)=some w3 /\
  B w3 w.heap.size=some (.int .i64 x.1::nums .u8 x.2,140)/\(∀ S,Fz w.heap.size S w w3)/\w3.heap.size=w.heap.size+1:=by
 obtain⟨w2,e2,n2⟩:=aBn (w:=w) (T:=140) (cs:=[.int .i64 0]++List.replicate 64 (.int .u8 0));obtain⟨w3,e3,b3,o3⟩:=xM (o:=0) (vs:=.int .i64 x.1::nums .u8 x.2) n2.b (by simp[hx]) (aAx rfl dU);rw[pA (by simp[hx])] at b3;exact⟨w2,w3,e2,e3,b3,fun S=>(n2.fr _ _ (aIv _)).trans (o3.fz (.inr (aIv _))),by have:=n2.size;have:=o3.size;omega⟩
theorem aCg {n:Nat} {left age:Int} {down:Bool} {W:List (Int×List Int)} (hne:p≠sb.b) (hsb:¬ s.blk sb.b) (hn:s.n=W.length) (hW:W.length<1000000) (h64:∀ x∈W,x.2.length=64) (hat:∀ x∈W,0<=x.1/\x.1<n) :
  ∀ (suf:List (Int×List Int)) (pre:List (Int×List Int)) (S:List (List Int)) (w:World),W=pre++suf->S.length=n->(∀ s∈S,s.length=64)->B w p=some (dkC sb n s left down age,111)->B w sb.b=some (oB S++sb.r,138)->Rd w s 65 (tP W) ->
   ∃ w',bM (fun r:Int×World=>fR s (some ⟨p,0,none⟩) r.1 r.2) ((pre.length:Int),w)=some w'/\B w' sb.b=some (oB (suf.foldl (fun S x=>oA S x 64) S)++sb.r,138)/\Fr (fun k=>k=sb.b) w w':=by
 intro suf
 induction suf with
 | nil =>
  intro pre S w hpre hSn hS hp hsbk hrd;refine⟨w,bS ?_,hsbk,Fr.refl⟩;have:W.length=pre.length:=by rw[hpre];simp
  simp[fR,hn,this]
 | cons x suf ih =>
  intro pre S w hpre hSn hS hp hsbk hrd;have hxW:x∈W:=by rw[hpre];simp
  have hlen:pre.length<W.length:=by rw[hpre];simp
  have hat':=hat x hxW;have hx:=h64 x hxW;obtain⟨a,ea,la,ca,_⟩:=uO (i:=pre.length) hrd (by omega);have hchunk:((tP W).drop (pre.length*65)).take 65 = .int .i64 x.1::nums .u8 x.2:=by
   have:=uT (f:=fun x=>.int .i64 x.1::nums .u8 x.2) W pre.length (aFE h64) hlen;have hg:W[pre.length]=x:=by simp[hpre]
   rw[hg] at this;exact this
  rw[hchunk] at la;obtain⟨w2,w3,e2,e3,b3,f3,z3⟩:=aDS (w:=w) hx;obtain⟨w4,e4,d4,g4,z4,_⟩:=tQ (w:=w3);have f4:∀ S,Fz w.heap.size S w w4:=fun S=>(f3 S).trans (g4 _ _);have hp4:=(f4 (fun _=>False)).B hp (qW hp) id;have hs4:=(f4 (fun _=>False)).B hsbk (qW hsbk) id;have b4:=(d4 w.heap.size).trans b3;have i1:ldI .i64 w4 ⟨w.heap.size,0,none⟩=some x.1:=lP b4 rfl;have i2:ldA 64 w4 ⟨w.heap.size,1,none⟩ 0=some (nums .u8 x.2):=by
   rw[nK (n:=64) (o:=1) b4 (by simp[hx])];simp[aIB,hx]
  have i3:ldL w4 ⟨p,0,none⟩=some ⟨some ⟨sb.b,0,none⟩,n,sb.c⟩:=pE hp4 rfl;have hxn:x.1.toNat<S.length:=by omega
  have hfl:(oB S).length=S.length*64:=oQ S (aCV hS);have i4:ix ⟨some ⟨sb.b,0,none⟩,n,sb.c⟩ x.1 64=some ⟨sb.b,x.1.toNat*64,none⟩:=by
   simp[ix,hat'.1,hat'.2]
  have hle:x.1.toNat*64+64<=S.length*64:=by
   have:=aIJ 64 hxn;rw[aJg] at this;exact this
  obtain⟨w5,e5,b5,o5⟩:=xM (o:=x.1.toNat*64) (vs:=nums .u8 x.2) hs4 (by rw[aIE,hfl];simp only[bG,hx];omega) dU;have htk:nums .u8 x.2=nums .u8 (x.2.take 64):=by rw[aIB (by omega)]
  rw[htk,sV (by rw[hfl];simp[hx];exact hle),tS hS hx (aIv _) hxn] at b5;have f5:Fr (fun k=>k=sb.b) w w5:=((f4 (fun k=>k=sb.b)).trans (o5.fz (.inl rfl))).fr;obtain⟨w',e',b',f'⟩:=ih (pre++[x]) (oA S x 64) w5 (by rw[hpre];simp) (by rw[iM];exact hSn) (tB hS hx (aIv _) hxn) (by rw[o5.B hne];exact hp4) b5
   ((hrd.fr (f4 (fun _=>False)).fr (fun _ _ _ h=>h)).fr (o5.fr (S:=fun k=>k=sb.b) rfl) (fun a ha _ e=>hsb ⟨a,ha,e⟩))
  refine⟨w',?_,b',f5.trans f'⟩;rw[<-e',show((pre++[x]).length:Int)=((pre.length+1:Nat):Int) by simp];refine cH ?_;have hlt:(pre.length:Int)<(s.n:Int):=by omega
  simp only[fR,hlt,decide_true,if_true,ea,aLx,la,e2,aE,e3,e4,aD,aLy,i3,i1,i2,i4,e5];rw[cC (by omega)]
theorem aFa (h:DAt w p sb s D) (hbd:D.W.length<1000000) :
  ∃ w' s',bY (some ⟨p,0,none⟩) w=some (D.sync.1,w')/\DAt w' p sb s' D.sync.2/\Fr (DAt.foot p sb s) w w'/\(∀ k,s'.blk k->s.blk k\/w.heap.size<=k):=by
 unfold bY Dk.sync;simp only[aJf,aIx,if_false,aLx,aD,aLy,zL h];by_cases hd:D.down=true
 .exact⟨w,s,by simp[hd],by simpa[hd] using h,Fr.refl,fun k hk=>.inl hk⟩
 obtain⟨w1,e1,h1,o1⟩:=zY h;simp only[hd,aIx,if_false,e1,aE];by_cases ht:D.trips.1=true
 .simp only[ht,if_true];exact⟨w1,s,rfl,h1,o1.fr (.inl rfl),fun k hk=>.inl hk⟩
 simp only[ht,aIx,if_false,uK h1,aLx];have hne:=h1.ne;obtain⟨w2,e2,b2,f2⟩:=aCg (n:=D.trips.2.S.length) (W:=D.trips.2.W) hne.1 hne.2.2 h1.n (by rw[jE];exact hbd) h1.wf.w64 h1.wf.wat D.trips.2.W [] D.trips.2.S w1 rfl rfl h1.wf.s64 h1.blk h1.sure h1.waits.rd;simp only[aIS,aJQ] at e2;have bp2:=f2.B h1.blk hne.1;obtain⟨w3,e3,b3,o3⟩:=mE (o:=1) (v:=Sl.nil.v) bp2 (by simp[dkC]) rfl;have e2':bM (fun s_1=>fR s (some ⟨p,0,none⟩) s_1.1 s_1.2) (0,w1)=some w2:=e2;have hfold:∀ (l:List (Int×List Int)) (S:List (List Int)),(∀ x∈l,x.2.length=64/\0<=x.1/\x.1<S.length)->(∀ s∈S,s.length=64)->(l.foldl (fun S x=>oA S x 64) S).length=S.length/\∀ s∈l.foldl (fun S x=>oA S x 64) S,s.length=64:=by
  intro l
  induction l with
  | nil=>intro S _ hS;exact⟨rfl,hS⟩
  | cons x l ih =>
   intro S hx hS;have hx0:=hx x (by simp);obtain⟨a1,a2⟩:=ih (oA S x 64) (fun y hy=>by rw[iM];exact hx y (by simp[hy])) (tB hS hx0.1 (aIv _) (by omega));exact⟨by simp only[aJn];rw[a1,iM],by simpa only[aJn] using a2⟩
 have hF:=hfold D.W D.S (fun x hx=>⟨h.wf.w64 x hx,h.wf.wat x hx⟩) h.wf.s64;refine⟨w3,Sl.nil,by simp only[e2',aLx,e3],⟨⟨?_,by simp,by simp,h.wf.trips.l0,h.wf.trips.l1,by simp only;rw[hF.1];exact h.wf.n⟩,?_,?_,Own.nil,rfl⟩,?_,fun k hk=>?_⟩
 .exact hF.2
 .rw[b3];simp only;rw[hF.1,<-jY D];rfl
 .rw[o3.B (Ne.symm hne.1),b2,jY,jE]
 .exact((o1.fr (.inl rfl)).trans (f2.mono fun i hi=>.inl (.inr (.inl hi)))).trans (o3.fr (.inl rfl))
 obtain⟨a,ha,_⟩:=hk;cases ha
theorem aBx {f:Sl} {fs:List Int} {k:Nat} (hf:Rd w f 1 (nums .i64 fs)):(if decide ((k:Int)<(f.n:Int))=true then (ix f (k:Int) 1).bind fun p=>(ldI .i64 w p).bind fun v=>some (IntKind.wrap .u64 v,w) else some (0,w))=some (lN fs k,w):=by
 have hl:fs.length=f.n:=by have:=hf.len;simpa using this
 unfold lN;by_cases hk:k<fs.length
 .have h1:(k:Int)<(f.n:Int):=by omega
  obtain⟨a,ea,_,ca,_⟩:=uO (i:=k) hf (by omega);have hv:=ca 0 (.int .i64 (fs.getD k 0)) (by omega) (by rw[lY];simp[List.getD,hk]);have e0:a.add 0=a:=by simp[Addr.add]
  rw[e0] at hv;simp only[h1,decide_true,if_true,hk,ea,aLx,kZ hv]
 have h1:¬ (k:Int)<(f.n:Int):=by omega
 simp only[h1,decide_false,aIx,if_false,hk]
theorem sP (fs:List Int) (k:Nat):0<=lN fs k/\lN fs k<18446744073709551616:=by
 unfold lN;split
 .have h:∀ x:Int,IntKind.wrap .u64 x=x % 18446744073709551616:=fun x=>by simp[IntKind.wrap,IntKind.bits,IntKind.signed]
  rw[h];omega
 omega
theorem uN {fs:List Int} {k:Nat} {S:List (List Int)} {x:Int×List Int} (hS:∀ s∈S,s.length=64) (hx:x.2.length=64) (hi:x.1.toNat<S.length):(kA fs k S x).length=S.length/\∀ s∈kA fs k S x,s.length=64:=by
 have hr:=sP fs k;unfold kA;split
 .exact⟨iM,tB hS hx (aIv _) hi⟩
 split
 .have h1:((lN fs k).tdiv 3).tmod 64<64:=aKC _ (by omega);exact⟨iM,tB hS hx (by omega) hi⟩
 exact⟨rfl,hS⟩
theorem aBp {n:Nat} {left age:Int} {down:Bool} {W:List (Int×List Int)} {f:Sl} {fs:List Int} (hne:p≠sb.b) (hsb:¬ s.blk sb.b) (hn:s.n=W.length) (hW:W.length<1000000) (h64:∀ x∈W,x.2.length=64) (hat:∀ x∈W,0<=x.1/\x.1<n) (hfb:∀ a,f.p=some a->0<f.n->a.block≠sb.b) :
  ∀ (suf:List (Int×List Int)) (pre:List (Int×List Int)) (S:List (List Int)) (w:World),W=pre++suf->S.length=n->(∀ s∈S,s.length=64)->B w p=some (dkC sb n s left down age,111)->B w sb.b=some (oB S++sb.r,138)->Rd w s 65 (tP W)->Rd w f 1 (nums .i64 fs) ->
   ∃ w',bM (fun r:Int×World=>dT s f (some ⟨p,0,none⟩) r.1 r.2) ((pre.length:Int),w)=some w'/\B w' sb.b=some (oB (pD fs pre.length suf S)++sb.r,138)/\Fr (fun k=>k=sb.b) w w':=by
 intro suf
 induction suf with
 | nil =>
  intro pre S w hpre hSn hS hp hsbk hrd hf;refine⟨w,bS ?_,hsbk,Fr.refl⟩;have:W.length=pre.length:=by rw[hpre];simp
  simp[dT,hn,this]
 | cons x suf ih =>
  intro pre S w hpre hSn hS hp hsbk hrd hf;have hxW:x∈W:=by rw[hpre];simp
  have hlen:pre.length<W.length:=by rw[hpre];simp
  have hat':=hat x hxW;have hx:=h64 x hxW;obtain⟨a,ea,la,ca,_⟩:=uO (i:=pre.length) hrd (by omega);have hchunk:((tP W).drop (pre.length*65)).take 65 = .int .i64 x.1::nums .u8 x.2:=by
   have:=uT (f:=fun x=>.int .i64 x.1::nums .u8 x.2) W pre.length (aFE h64) hlen;have hg:W[pre.length]=x:=by simp[hpre]
   rw[hg] at this;exact this
  rw[hchunk] at la;obtain⟨w2,w3,e2,e3,b3,f3,z3⟩:=aDS (w:=w) hx;obtain⟨w4,e4,d4,g4,z4,_⟩:=tQ (w:=w3);have f4:∀ S,Fz w.heap.size S w w4:=fun S=>(f3 S).trans (g4 _ _);have hp4:=(f4 (fun _=>False)).B hp (qW hp) id;have hs4:=(f4 (fun _=>False)).B hsbk (qW hsbk) id;have b4:=(d4 w.heap.size).trans b3;have i1:ldI .i64 w4 ⟨w.heap.size,0,none⟩=some x.1:=lP b4 rfl;have i2:ldA 64 w4 ⟨w.heap.size,1,none⟩ 0=some (nums .u8 x.2):=by
   rw[nK (n:=64) (o:=1) b4 (by simp[hx])];simp[aIB,hx]
  have i3:ldL w4 ⟨p,0,none⟩=some ⟨some ⟨sb.b,0,none⟩,n,sb.c⟩:=pE hp4 rfl;have hxn:x.1.toNat<S.length:=by omega
  have hfl:(oB S).length=S.length*64:=oQ S (aCV hS);have i4:ix ⟨some ⟨sb.b,0,none⟩,n,sb.c⟩ x.1 64=some ⟨sb.b,x.1.toNat*64,none⟩:=by
   simp[ix,hat'.1,hat'.2]
  have hle:x.1.toNat*64+64<=S.length*64:=by
   have:=aIJ 64 hxn;rw[aJg] at this;exact this
  have hf3:Rd w3 f 1 (nums .i64 fs):=hf.fr (f3 (fun _=>False)).fr (fun _ _ _ h=>h);have hfate:=aBx (k:=pre.length) hf3;have hr:=sP fs pre.length
  -- what the round leaves
  have round:∃ w5,dT s f (some ⟨p,0,none⟩) (pre.length:Int) w=some (.inl (((pre.length+1:Nat):Int),w5))/\B w5 sb.b=some (oB (kA fs pre.length S x)++sb.r,138)/\Fr (fun k=>k=sb.b) w w5/\B w5 p=B w4 p:=by
   have hlt:(pre.length:Int)<(s.n:Int):=by omega
   simp only[decide_eq_true_eq] at hfate;have h3:rmI (lN fs pre.length) 3=some ((lN fs pre.length).tmod 3):=by simp[rmI]
   simp only[dT,hlt,decide_true,if_true,ea,aLx,la,e2,aE,e3,hfate,h3,aD,aLy,beq_iff_eq,decide_eq_true_eq,cC (show pre.length<9223372036854775807 by omega)];by_cases c1:(lN fs pre.length).tmod 3=1
   .obtain⟨w5,e5,b5,o5⟩:=xM (o:=x.1.toNat*64) (vs:=nums .u8 x.2) hs4 (by rw[aIE,hfl];simp only[bG,hx];omega) dU;have htk:nums .u8 x.2=nums .u8 (x.2.take 64):=by rw[aIB (by omega)]
    rw[htk,sV (by rw[hfl];simp[hx];exact hle),tS hS hx (aIv _) hxn] at b5;refine⟨w5,?_,?_,((f4 (fun k=>k=sb.b)).trans (o5.fz (.inl rfl))).fr,o5.B hne⟩
    .simp only[c1,if_true,e4,aLx,i3,i1,i2,i4,e5]
    rw[b5];simp only[kA,c1,if_true]
   by_cases c2:(lN fs pre.length).tmod 3=2
   .have hm0:0<=((lN fs pre.length).tdiv 3).tmod 64:=Int.tmod_nonneg _ (Int.tdiv_nonneg hr.1 (by omega));have hm1:((lN fs pre.length).tdiv 3).tmod 64<64:=aKC _ (by omega);have hdv:dvI .u64 (lN fs pre.length) 3=some ((lN fs pre.length).tdiv 3):=by
     have h:∀ x:Int,IntKind.wrap .u64 x=x % 18446744073709551616:=fun x=>by simp[IntKind.wrap,IntKind.bits,IntKind.signed]
     have h1:(lN fs pre.length).tdiv 3=lN fs pre.length / 3:=aJE hr.1;simp only[dvI,h,h1];rw[if_neg (by omega)];congr 1;omega
    have hrm:rmI ((lN fs pre.length).tdiv 3) 64=some (((lN fs pre.length).tdiv 3).tmod 64):=by simp[rmI]
    obtain⟨m,hm⟩:∃ m,((lN fs pre.length).tdiv 3).tmod 64=m:=⟨_,rfl⟩;rw[hm] at hm0 hm1 hrm;have s1:slA ⟨sb.b,x.1.toNat*64,none⟩ 64 0 m 64 1=some ⟨some ⟨sb.b,x.1.toNat*64,none⟩,m.toNat,64⟩:=by
     simp[slA,hm0];omega
    have s2:slA ⟨w.heap.size,1,none⟩ 64 0 64 64 1=some ⟨some ⟨w.heap.size,1,none⟩,64,64⟩:=by simp[slA]
    have rd4:Rd w4 ⟨some ⟨w.heap.size,1,none⟩,64,64⟩ 1 (nums .u8 x.2):=by
     have:=Rd.of_B (n:=64) (c:=64) (sz:=1) (o:=1) b4 (by simp[hx]);simpa[aIB,hx] using this
    obtain⟨w5,e5,b5,o5⟩:=aBM (u:=72) (m:=m.toNat) (c:=64) mS (o:=x.1.toNat*64) hs4 (by rw[aIE,hfl];omega) rd4 dU;have hmin:min 64 m.toNat*1=m.toNat:=by omega
    have htk:(nums .u8 x.2).take m.toNat=nums .u8 (x.2.take m.toNat):=by simp[nums,aKN]
    simp only[hmin] at b5;rw[htk,sV (by rw[hfl];simp[hx];omega),tS hS hx (by omega) hxn] at b5;refine⟨w5,?_,?_,((f4 (fun k=>k=sb.b)).trans (o5.fz (.inl rfl))).fr,o5.B hne⟩
    .have c1':¬ (2:Int)=1:=by omega
     simp only[c2,c1',if_true,if_false,e4,aLx,i3,i1,i4,hdv,hrm,s1,s2,e5,aE]
    rw[b5];simp only[kA];rw[if_neg c1,if_pos c2,hm]
   refine⟨w3,?_,?_,(f3 _).fr,?_⟩
   .simp only[c1,c2,if_false,aLx]
   .rw[(f3 (fun _=>False)).B hsbk (qW hsbk) id];simp only[kA,c1,c2,if_false]
   exact(d4 p).symm
  obtain⟨w5,e5,b5,f5,bp5⟩:=round;have hk:=uN (fs:=fs) (k:=pre.length) hS hx hxn;have hfr:∀ a,f.p=some a->0<f.n->¬ a.block=sb.b:=hfb;obtain⟨w',e',b',f'⟩:=ih (pre++[x]) (kA fs pre.length S x) w5 (by rw[hpre];simp) (by rw[hk.1];exact hSn) hk.2 (bp5.trans hp4) b5
   (hrd.fr f5 (fun a ha _ e=>hsb ⟨a,ha,e⟩)) (hf.fr f5 hfr)
  refine⟨w',?_,by simpa[pD] using b',f5.trans f'⟩;rw[<-e',show((pre++[x]).length:Int)=((pre.length+1:Nat):Int) by simp];exact cH e5
theorem uU {fs:List Int}:∀ (l:List (Int×List Int)) (k:Nat) (S:List (List Int)),(∀ x∈l,x.2.length=64/\0<=x.1/\x.1<S.length)->(∀ s∈S,s.length=64)->(pD fs k l S).length=S.length/\∀ s∈pD fs k l S,s.length=64
 | [],_,S,_,hS=>⟨rfl,hS⟩
 | x::l,k,S,hx,hS=>by
  have hx0:=hx x (by simp);have hk:=uN (fs:=fs) (k:=k) hS hx0.1 (by omega);have:=uU (fs:=fs) l (k+1) (kA fs k S x) (fun y hy=>by rw[hk.1];exact hx y (by simp[hy])) hk.2;exact⟨this.1.trans hk.1,this.2⟩
theorem aDB {f:Sl} {fs:List Int} (h:DAt w p sb s D) (hbd:D.W.length<1000000) (hf:Rd w f 1 (nums .i64 fs)) (hfb:∀ a,f.p=some a->0<f.n->a.block≠sb.b) :
  ∃ w',fW (some ⟨p,0,none⟩) f w=some (0,w')/\DAt w' p sb Sl.nil (D.crash fs)/\Fr (DAt.foot p sb s) w w':=by
 have hne:=h.ne;obtain⟨w1,e1,b1,f1⟩:=aBp (f:=f) (fs:=fs) (n:=D.S.length) (W:=D.W) hne.1 hne.2.2 h.n hbd h.wf.w64 h.wf.wat hfb D.W [] D.S w rfl rfl h.wf.s64 h.blk h.sure h.waits.rd hf;simp only[aIS,aJQ] at e1;have bp1:=f1.B h.blk hne.1;obtain⟨w2,e2,b2,o2⟩:=mE (o:=1) (v:=Sl.nil.v) bp1 (by simp[dkC]) rfl;obtain⟨w3,e3,b3,o3⟩:=mE (o:=2) (v:=.int .i64 0) b2 (by simp[dkC]) rfl;obtain⟨w4,e4,b4,o4⟩:=mE (o:=3) (v:=.bool false) b3 (by simp[dkC]) rfl;have l4:ldI .i64 w4 ⟨p,4,none⟩=some D.age:=lP b4 rfl;obtain⟨w5,e5,b5,o5⟩:=mE (o:=4) (v:=.int .i64 (IntKind.wrap .i64 (D.age+1))) b4 (by simp[dkC]) rfl;have o25:One p w1 w5:=o2.trans (o3.trans (o4.trans o5));have e1':bM (fun r:Int×World=>dT s f (some ⟨p,0,none⟩) r.1 r.2) (0,w)=some w1:=e1;have hk:=uU (fs:=fs) D.W 0 D.S (fun x hx=>⟨h.wf.w64 x hx,h.wf.wat x hx⟩) h.wf.s64;refine⟨w5,?_,⟨⟨?_,by simp[Dk.crash],by simp[Dk.crash],by simp[Dk.crash],by simp[Dk.crash],?_⟩,?_,?_,Own.nil,rfl⟩,?_⟩
 .unfold fW;simp only[aJf,aIx,if_false,aLx,aD,aLy,uK h,e1',e2,e3,e4,l4,e5]
 .exact hk.2
 .simp only[Dk.crash];rw[hk.1];exact h.wf.n
 .rw[b5];simp only[Dk.crash];rw[hk.1];rfl
 .rw[o25.B (Ne.symm hne.1),b1];rfl
 exact(f1.mono fun i hi=>.inl (.inr (.inl hi))).trans (o25.fr (.inl rfl))
theorem aDk {S:List (List Int)} {r:List Value} {i:Nat} (hS:∀ s∈S,s.length=64) (hi:i<S.length):((oB S++r).drop (i*64)).take 64=nums .u8 (S.getD i []):=by
 have hfl:(oB S).length=S.length*64:=oQ S (aCV hS);have hle:i*64+64<=S.length*64:=by
  have:=aIJ 64 hi;rw[aJg] at this;exact this
 rw[aJo (by omega),aJx (by rw[aIY];omega)];have:=uT (f:=nums .u8) S i (aCV hS) hi;rw[show S.getD i []=S[i] by rw[aIu,aIs hi];rfl];exact this
structure Row (w w':World) (o:Sl) (xs:List Int):Prop where
 own:∃ T,Own w' T o 1 (nums .u8 xs)
 new:∀ a,o.p=some a->w.heap.size<=a.block
 fr:∀ S,Fr S w w'
theorem Row.rd {o:Sl} {xs:List Int} (h:Row w w' o xs):Rd w' o 1 (nums .u8 xs):=by obtain⟨T,h⟩:=h.own;exact h.rd
theorem Row.cap {o:Sl} {xs:List Int} (h:Row w w' o xs):o.n<=o.c:=by obtain⟨T,h⟩:=h.own;exact h.cap
theorem Row.n {o:Sl} {xs:List Int} (h:Row w w' o xs):o.n=xs.length:=by have:=h.rd.len;simpa using this.symm
theorem Row.none:Row w w Sl.nil []:=⟨⟨0,Own.nil⟩,fun a h=>(by cases h),fun S=>Fr.refl⟩
theorem aBK (h:DAt w p sb s D) {i:Int} (hi:D.bad i=false):∃ a w1 w2,ix ⟨some ⟨sb.b,0,none⟩,D.S.length,sb.c⟩ i 64=some a/\ldA 64 w a 0=some (nums .u8 (D.S.getD i.toNat [])) /\
  mk w 138 (List.replicate 64 (.int .u8 0))=some (⟨w.heap.size,0,none⟩,w1)/\stA w1 ⟨w.heap.size,0,none⟩ 0 (nums .u8 (D.S.getD i.toNat []))=some w2 /\
  B w2 w.heap.size=some (nums .u8 (D.S.getD i.toNat []),138)/\(∀ S,Fr S w w2)/\w2.heap.size=w.heap.size+1:=by
 have hb:¬ i<0/\¬ (D.S.length:Int)<=i:=by simpa[Dk.bad] using hi
 have hn:i.toNat<D.S.length:=by omega
 have hl:(D.S.getD i.toNat []).length=64:=by
  rw[aIu,aIs hn];exact h.wf.s64 _ (aJy hn)
 have hfl:(oB D.S).length=D.S.length*64:=oQ D.S (aCV h.wf.s64);have hle:i.toNat*64+64<=D.S.length*64:=by
  have:=aIJ 64 hn;rw[aJg] at this;exact this
 obtain⟨w1,e1,n1⟩:=aBn (w:=w) (T:=138) (cs:=List.replicate 64 (.int .u8 0));obtain⟨w2,e2,b2,o2⟩:=xM (o:=0) (vs:=nums .u8 (D.S.getD i.toNat [])) n1.b (by simp only[bG,hl,aIM];omega) dU;rw[pA (by simp only[bG,hl,aIM])] at b2;refine⟨⟨sb.b,i.toNat*64,none⟩,w1,w2,?_,?_,e1,e2,b2,fun S=>((n1.fr _ _ (aIv _)).trans (o2.fz (.inr (aIv _)))).fr,by have:=n1.size;have:=o2.size;omega⟩
 .unfold ix;simp[show 0<=i by omega,show i<(D.S.length:Int) by omega]
 rw[nK h.sure (by rw[aIE,hfl];omega),aDk h.wf.s64 hn]
theorem aGi {b:Nat}:slA ⟨b,0,none⟩ 64 0 64 64 1=some ⟨some ⟨b,0,none⟩,64,64⟩:=by simp[slA]
theorem pH (h:D.Wf) {i:Int} (hi:D.bad i=false):(D.S.getD i.toNat []).length=64:=by
 have hb:¬ i<0/\¬ (D.S.length:Int)<=i:=by simpa[Dk.bad] using hi
 have hn:i.toNat<D.S.length:=by omega
 rw[aIu,aIs hn];exact h.s64 _ (aJy hn)
theorem aDw {w2:World} {xs:List Int} {T:TypeId} (hb:B w2 w.heap.size=some (nums .u8 xs,T)) (hx:xs.length=64) (hf:∀ S,Fr S w w2):Row w w2 ⟨some ⟨w.heap.size,0,none⟩,64,64⟩ xs:=by
 exact⟨⟨T,by simp only[bG,hx],aIv _,by simp only;omega,.inr ⟨_,[],rfl,by rw[aKa];exact hb,by simp⟩⟩,fun a ha=>by cases ha;exact aIv _,hf⟩
theorem aEY {i:Int} (h:DAt w p sb s D):∃ o w',nQ (some ⟨p,0,none⟩) i w=some (o,(D.sure i).2,w')/\Row w w' o (D.sure i).1:=by
 unfold nQ Dk.sure;have hbad:(if decide (i<0)=true then some (true,w) else some (decide ((D.S.length:Int)<=i),w))=some (D.bad i,w):=by
  unfold Dk.bad;by_cases h0:i<0<;>simp[h0]
 simp only[aJf,aIx,if_false,aLx,aD,aLy,aCc h,hbad,aE];by_cases hi:D.bad i=true
 .simp only[hi,if_true];exact⟨_,_,rfl,Row.none⟩
 have hi':D.bad i=false:=by simpa using hi
 obtain⟨a,w1,w2,ea,el,e1,e2,b2,f2,z2⟩:=aBK h hi';simp only[hi',aIx,if_false,ea,aLx,el,e1,aE,e2,aGi];exact⟨_,_,rfl,aDw b2 (pH h.wf hi') f2⟩
theorem rX (h:D.Wf) {i:Int} (hi:D.bad i=false):∀ (l:List (Int×List Int)) (b:List Int),(∀ x∈l,x.2.length=64)->b.length=64->(l.foldl (fun b x=>if x.1=i then x.2 else b) b).length=64
 | [],b,_,hb=>hb
 | x::l,b,hl,hb=>by
  rw[aJn];refine rX h hi l _ (fun y hy=>hl y (by simp[hy])) ?_;split
  .exact hl x (by simp)
  exact hb
theorem aCs {T:TypeId} {i:Int} {g:Nat} {b:List Int} (h:DAt w p sb s D) (hbd:D.W.length<1000000) (hg:B w g=some (nums .u8 b,T)) (hb:b.length=64) (hnew:¬ DAt.foot p sb s g) :
  ∀ n,n<=D.W.length->∃ w',bM (fun r:Int×World=>fT (some ⟨p,0,none⟩) i ⟨g,0,none⟩ r.1 r.2) ((n:Int)-1,w)=some w'/\B w' g=some (nums .u8 ((D.W.take n).foldl (fun b x=>if x.1=i then x.2 else b) b),T)/\One g w w':=by
 intro n
 induction n with
 | zero =>
  intro _;refine⟨w,bS ?_,by simpa using hg,One.refl⟩;simp[fT]
 | succ n ih =>
  intro hn;have hlen:n<D.W.length:=by omega
  obtain⟨a,ea,la,ca,_⟩:=uO (i:=n) h.waits.rd (by rw[h.n];omega);have hx:=h.wf.w64 (D.W[n]) (aJy hlen);have hchunk:((tP D.W).drop (n*65)).take 65 = .int .i64 D.W[n].1::nums .u8 D.W[n].2:=uT (f:=fun x=>.int .i64 x.1::nums .u8 x.2) D.W n (aFE h.wf.w64) hlen;have hj:∀ j v,(Value.int .i64 D.W[n].1::nums .u8 D.W[n].2)[j]?=some v->w.cell? (a.add j)=some v:=by
   intro j v hv;have hj:j<65:=by have:=(aIt.1 hv).1;simpa[hx] using this
   refine ca j v hj ?_;rw[<-hchunk,aIV,if_pos hj,aJi] at hv;exact hv
  have i1:ldI .i64 w (a.add 0)=some D.W[n].1:=kZ (hj 0 _ rfl);have ewr:IntKind.wrap .i64 ((n:Int)-1)=(n:Int)-1:=by rw[aIy];omega
  have etk:(D.W.take (n+1)).foldl (fun b x=>if x.1=i then x.2 else b) b=if D.W[n].1=i then D.W[n].2 else (D.W.take n).foldl (fun b x=>if x.1=i then x.2 else b) b:=by
   rw[aJD hlen,aLb];rfl
  rw[etk,show((n+1:Nat):Int)-1=(n:Int) by omega];have h0:(0:Int)<=(n:Int):=by omega
  by_cases hc:D.W[n].1=i
  .have i2:ldA 64 w (a.add 1) 0=some (nums .u8 D.W[n].2):=by
    refine oY 64 w (a.add 1) 0 _ (by simp[hx]) (fun j v hv=>?_);have:=hj (1+j) v (by rw[aLl];simpa using hv);rw[<-this,aLy];congr 1;unfold Addr.add;simp[aKz]
   obtain⟨w',e',b',o'⟩:=xM (o:=0) (vs:=nums .u8 D.W[n].2) hg (by simp[hx,hb]) dU;rw[pA (by simp[hx,hb])] at b';refine⟨w',bS ?_,by simpa[hc] using b',o'⟩;simp only[fT,h0,decide_true,if_true,aLx,aD,aLy,uK h,ea,i1,i2,e',hc,beq_self_eq_true]
  obtain⟨w',e',b',o'⟩:=ih (by omega);refine⟨w',?_,by simpa[hc] using b',o'⟩;rw[<-e'];refine cH ?_;have hc':(D.W[n].1==i)=false:=by simpa using hc
  simp only[fT,h0,decide_true,if_true,aLx,aD,aLy,uK h,ea,i1,hc',aIx,if_false,ewr]
theorem aEz {i:Int} (h:DAt w p sb s D) (hbd:D.W.length<1000000):∃ o w',eK (some ⟨p,0,none⟩) i w=some (o,(D.read i).2,w')/\Row w w' o (D.read i).1:=by
 unfold eK Dk.read;have hbad:(if decide (i<0)=true then some (true,w) else some (decide ((D.S.length:Int)<=i),w))=some (D.bad i,w):=by
  unfold Dk.bad;by_cases h0:i<0<;>simp[h0]
 simp only[aJf,aIx,if_false,aLx,aD,aLy,zL h,aCc h,hbad,aE];by_cases hd:D.down=true
 .simp only[hd,if_true];exact⟨_,_,rfl,Row.none⟩
 simp only[hd,aIx,if_false];by_cases hi:D.bad i=true
 .simp only[hi,if_true];exact⟨_,_,rfl,Row.none⟩
 have hi':D.bad i=false:=by simpa using hi
 obtain⟨a,w1,w2,ea,el,e1,e2,b2,f2,z2⟩:=aBK h hi';have h2:DAt w2 p sb s D:=h.fr (f2 (fun _=>False)) (fun _ _ h=>h);obtain⟨w3,e3,b3,o3⟩:=aCs (i:=i) h2 hbd b2 (pH h.wf hi') (fun hk=>by have:=h.lt hk;omega) D.W.length (aIv _);rw[List.take_length] at b3;have ewr:IntKind.wrap .i64 ((s.n:Int)-1)=(D.W.length:Int)-1:=by rw[aIy,h.n];omega
 simp only[hi',aIx,if_false,ea,aLx,el,e1,aE,e2,uK h2,ewr,e3,aGi];refine⟨_,_,rfl,aDw b3 (rX h.wf hi' _ _ h.wf.w64 (pH h.wf hi')) (fun S=>(f2 S).trans_new (o3.fr (S:=fun k=>k=w.heap.size) rfl) (fun i hi=>.inr (aKc hi.symm)))⟩
end
section
variable {w w' : World} {p n : Nat} {D : Dk} {F : Nat -> Prop}
theorem aGe {t T:TypeId} {ps:List (List Value)} {P:Program} {m:Nat} (hm:ps.length=m) (ht:P.underlying t=some (.slice T)) (he:P.underlying T=some (.int .u8)) (h:∀ p∈ps,p.length=1) :
  ∃ w1 w2,bsl w T 1 ps=some (⟨some ⟨w.heap.size,0,none⟩,m,m⟩,w1)/\cvS P t ⟨some ⟨w.heap.size,0,none⟩,m,m⟩ w1=some (⟨some ⟨w.heap.size,0,none⟩,m,m⟩,w2) /\
   Rd w2 ⟨some ⟨w.heap.size,0,none⟩,m,m⟩ 1 ps.flatten/\(∀ S,Fr S w w2):=by
 subst hm;have hl:ps.flatten.length=ps.length*1:=by
  induction ps with
  | nil=>rfl
  | cons p ps ih=>rw[aKI,aIE,h p (by simp),ih (fun q hq=>h q (by simp[hq]))];simp;omega
 refine⟨w.alloc (.cells ps.flatten.toArray T),w.alloc (.cells ps.flatten.toArray T (ps.flatten.toArray.size,ps.flatten.toArray.size+1)),?_,?_,⟨hl,fun _=>⟨_,rfl,fun j v hv=>?_⟩⟩,fun S=>aDA⟩
 .unfold bsl;rw[if_pos (by simpa using h)]
 .unfold cvS;simp only[Sl.v];rw[Go.Lib.run_convert_bytes_const w t T ps.flatten.toArray ps.length ps.length ht he]
 rw[aD];simp only[World.cell?,World.alloc,Array.getElem?_push,if_true];simpa using hv
theorem gQ.new {m:Int} (h1:1<=m) (h2:m<=512):∃ q w',lR m w=some (some ⟨q,0,none⟩,0,w')/\gQ w' q (fun k=>w.heap.size<=k) (Dk.new m.toNat)/\(∀ S,Fr S w w')/\w.heap.size<=q:=by
 obtain⟨w',e,d,f,z⟩:=aFM (w:=w) h1 h2;refine⟨_,w',e,⟨_,_,d,?_⟩,fun S=>(f _ S (aIv _)).fr,by omega⟩;rintro k (rfl | rfl | ⟨a,ha,_⟩)
 .omega
 .exact aIv _
 cases ha
theorem gQ.wf (h:gQ w p F D):D.Wf:=by obtain⟨_,_,h,_⟩:=h;exact h.wf
theorem gQ.keep {q:Bk} {s s':Sl} {D':Dk} (hF:∀ k,DAt.foot p q s k->F k) (h':DAt w' p q s' D') (hs:∀ k,s'.blk k->s.blk k\/w.heap.size<=k):gQ w' p (qE F w w') D':=by
 refine⟨q,s',h',fun k hk=>?_⟩;have hl:=h'.lt hk;rcases hk with rfl | rfl | hk
 .exact .inl (hF _ (.inl rfl))
 .exact .inl (hF _ (.inr (.inl rfl)))
 exact(hs k hk).elim (fun h=>.inl (hF _ (.inr (.inr h)))) (fun h=>.inr ⟨h,hl⟩)
theorem gQ.write {i:Int} {b:Sl} {bs:List Int} (h:gQ w p F D) (hb:Rd w b 1 (nums .u8 bs)) (hbd:D.W.length<1000000) :
  ∃ w',cD (some ⟨p,0,none⟩) i b w=some ((D.write i bs).1,w')/\gQ w' p (qE F w w') (D.write i bs).2/\Fr F w w':=by
 obtain⟨sb,s,h,hF⟩:=h;obtain⟨w',s',e,h',f,k⟩:=aDo (i:=i) h hb hbd;exact⟨w',e,gQ.keep hF h' k,f.mono fun i hi=>.inl (hF i hi)⟩
theorem gQ.sync (h:gQ w p F D) (hbd:D.W.length<1000000) :
  ∃ w',bY (some ⟨p,0,none⟩) w=some (D.sync.1,w')/\gQ w' p (qE F w w') D.sync.2/\Fr F w w':=by
 obtain⟨sb,s,h,hF⟩:=h;obtain⟨w',s',e,h',f,k⟩:=aFa h hbd;exact⟨w',e,gQ.keep hF h' k,f.mono fun i hi=>.inl (hF i hi)⟩
theorem gQ.trip {m:Int} (h:gQ w p F D) (hm:m<=9223372036854775807):∃ w',gL (some ⟨p,0,none⟩) m w=some ((D.trip m).1,w')/\gQ w' p (qE F w w') (D.trip m).2/\Fr F w w':=by
 obtain⟨sb,s,h,hF⟩:=h;obtain⟨w',e,h',o⟩:=aEK h hm;exact⟨w',e,gQ.keep hF h' (fun k hk=>.inl hk),o.fr (hF _ (.inl rfl))⟩
theorem gQ.crash {f:Sl} {fs:List Int} (h:gQ w p F D) (hbd:D.W.length<1000000) (hf:Rd w f 1 (nums .i64 fs)) (ho:Out F f) :
  ∃ w',fW (some ⟨p,0,none⟩) f w=some (0,w')/\gQ w' p (qE F w w') (D.crash fs)/\Fr F w w':=by
 obtain⟨sb,s,h,hF⟩:=h;obtain⟨w',e,h',fr⟩:=aDB h hbd hf (fun a ha h0 e=>ho a ha h0 (hF _ (.inr (.inl e))));exact⟨w',e,gQ.keep hF h' (fun k hk=>by obtain⟨a,ha,_⟩:=hk;cases ha),fr.mono fun i hi=>.inl (hF i hi)⟩
theorem gQ.size (h:gQ w p F D):eL (some ⟨p,0,none⟩) w=some ((D.S.length:Int),w):=by obtain⟨_,_,h,_⟩:=h;exact aEI h
theorem gQ.waits (h:gQ w p F D):gZ (some ⟨p,0,none⟩) w=some ((D.W.length:Int),w):=by obtain⟨_,_,h,_⟩:=h;exact aCU h
theorem gQ.downs (h:gQ w p F D):dB (some ⟨p,0,none⟩) w=some (D.down,w):=by obtain⟨_,_,h,_⟩:=h;exact aEF h
theorem gQ.ages (h:gQ w p F D):iC (some ⟨p,0,none⟩) w=some (D.age,w):=by obtain⟨_,_,h,_⟩:=h;exact aFx h
theorem gQ.read {i:Int} (h:gQ w p F D) (hbd:D.W.length<1000000):∃ o w',eK (some ⟨p,0,none⟩) i w=some (o,(D.read i).2,w')/\Row w w' o (D.read i).1:=by
 obtain⟨_,_,h,_⟩:=h;exact aEz h hbd
theorem gQ.sure {i:Int} (h:gQ w p F D):∃ o w',nQ (some ⟨p,0,none⟩) i w=some (o,(D.sure i).2,w')/\Row w w' o (D.sure i).1:=by
 obtain⟨_,_,h,_⟩:=h;exact aEY h
theorem Fr.all {S:Nat->Prop} (h:Fr (fun k=>w.heap.size<=k) w w'):Fr S w w':=h.mono fun i hi=>.inr hi
theorem Fr.up {m:Nat} (h:Fr (fun k=>n<=k/\k<m) w w'):Fr (fun k=>n<=k) w w':=h.mono fun i hi=>.inl hi.1
theorem Fr.sz {S:Nat->Prop} (h:Fr S w w'):w.heap.size<=w'.heap.size:=h.size
theorem gQ.below (h:gQ w p (fun k=>n<=k) D):gQ w p (fun k=>n<=k/\k<w.heap.size) D:=h.mono fun k hk h=>⟨h,hk⟩
end
def dkR (x:Nat) (D:Dk):Rs where
 h g w F:=gQ w x F D/\∀ k,F k->k<w.heap.size
 st h m hk:=⟨by
  obtain⟨sb,s,h1,hF⟩:=h.1;refine⟨sb,s,⟨h1.wf,?_,?_,?_,h1.n⟩,hF⟩
  .have:=hk _ (hF _ (.inl rfl));have h2:=h1.blk;unfold B at h2 ⊢;rw[this];exact h2
  .have:=hk _ (hF _ (.inr (.inl rfl)));have h2:=h1.sure;unfold B at h2 ⊢;rw[this];exact h2
  refine⟨h1.waits.len,h1.waits.cap,h1.waits.max,h1.waits.h.elim .inl fun ⟨b,rest,hp,hb,hr⟩=>.inr ⟨b,rest,hp,?_,hr⟩⟩;have:=hk b (hF _ (.inr (.inr ⟨_,hp,rfl⟩)));unfold B at hb ⊢;rw[this];exact hb,fun k hk'=>aIX (h.2 k hk') m.size⟩
 lt h hk:=h.2 _ hk
section
variable {F F0 : Nat -> Prop} {g g' g0 : Gh} {w w' w0 : World} {L : List Rs} {x y : Nat} {D D' : Dk} {i m : Int} {b o : Sl} {bs : List Int}
theorem Hp.dk (H:Hp F0 g0 w0 g w (dkR x D::L)):∃ F,gQ w x F D:=by obtain⟨F,h⟩:=H.hd;exact⟨F,h.1⟩
theorem Hp.dwf (H:Hp F0 g0 w0 g w (dkR x D::L)):D.Wf:=by obtain⟨F,h⟩:=H.dk;exact h.wf
theorem aFf {F:Nat->Prop} (hF:∀ k,F k->¬ g k) (hl:∀ k,g k->k<w.heap.size) (f:Fr F w w'):Sp F g w g w' :=
 ⟨f,fun _ _ _=>Iff.rfl,⟨f.size,fun k hk=>⟨hk,f.block k (hl k hk) (fun h=>hF k h hk)⟩⟩,fun k hk=>aIX (hl k hk) f.size⟩
theorem Hp.dup (H:Hp F0 g0 w0 g w (dkR x D::L)) {Ψ:World->Prop} (f:∀ F,gQ w x F D->(∀ k,F k->¬ g k)->∃ w',Ψ w'/\gQ w' x (qE F w w') D'/\Fr F w w') :
  ∃ w',Ψ w'/\Hp F0 g0 w0 g w' (dkR x D'::L)/\Mo g w g w':=by
 obtain⟨g',w',⟨rfl,e⟩,h2,m⟩:=H.up (r':=dkR x D') (Ψ:=fun g' w'=>g'=g/\Ψ w') fun F h hF=>by
  obtain⟨w',e,d,fr⟩:=f F h.1 hF;exact⟨g,w',qE F w w',⟨rfl,e⟩,⟨d,fun k hk=>hk.elim (fun h'=>aIX (h.2 k h') fr.size) (fun h=>h.2)⟩,aFf hF H.lt fr,
   fun k hk=>hk.elim (fun h'=>⟨hF k h',.inl h'⟩) (fun h'=>⟨fun hg=>by have:=H.lt k hg;omega,.inr h'.1⟩)⟩
 exact⟨w',e,h2,m⟩
theorem Hp.dnew (H:Hp F0 g0 w0 g w L) (h1:1<=m) (h2:m<=512):∃ q w',lR m w=some (some ⟨q,0,none⟩,0,w')/\Hp F0 g0 w0 g w' (dkR q (Dk.new m.toNat)::L)/\Mo g w g w':=by
 obtain⟨q,w',e,d,f,hq⟩:=gQ.new (w:=w) h1 h2;refine⟨q,w',e,H.add (vZ H.lt f) (F:=fun k=>w.heap.size<=k/\k<w'.heap.size) ⟨d.mono fun k hk h=>⟨h,hk⟩,fun k hk=>hk.2⟩ (fun k hk=>⟨fun hg=>by have:=H.lt k hg;omega,hk.1⟩),H.mold f⟩
theorem Hp.dwrite (H:Hp F0 g0 w0 g w (dkR x D::L)) (hb:Rd w b 1 (nums .u8 bs)) (hbd:D.W.length<1000000) :
  ∃ w',cD (some ⟨x,0,none⟩) i b w=some ((D.write i bs).1,w')/\Hp F0 g0 w0 g w' (dkR x (D.write i bs).2::L)/\Mo g w g w':=H.dup fun F h _=>h.write hb hbd
theorem Hp.dsync (H:Hp F0 g0 w0 g w (dkR x D::L)) (hbd:D.W.length<1000000) :
  ∃ w',bY (some ⟨x,0,none⟩) w=some (D.sync.1,w')/\Hp F0 g0 w0 g w' (dkR x D.sync.2::L)/\Mo g w g w':=H.dup fun F h _=>h.sync hbd
theorem Hp.dtrip (H:Hp F0 g0 w0 g w (dkR x D::L)) (hm:m<=9223372036854775807) :
  ∃ w',gL (some ⟨x,0,none⟩) m w=some ((D.trip m).1,w')/\Hp F0 g0 w0 g w' (dkR x (D.trip m).2::L)/\Mo g w g w':=H.dup fun F h _=>h.trip hm
theorem Hp.dcrash {f:Sl} {fs:List Int} (H:Hp F0 g0 w0 g w (dkR x D::L)) (hf:PR g w f 1 (nums .i64 fs)) (hbd:D.W.length<1000000) :
  ∃ w',fW (some ⟨x,0,none⟩) f w=some (0,w')/\Hp F0 g0 w0 g w' (dkR x (D.crash fs)::L)/\Mo g w g w':=H.dup fun F h hF=>h.crash hbd hf.rd (fun a ha h0 hk=>hF _ hk (hf.per a ha h0))
theorem Hp.dsize (H:Hp F0 g0 w0 g w (dkR x D::L)):eL (some ⟨x,0,none⟩) w=some ((D.S.length:Int),w):=by obtain⟨F,h⟩:=H.dk;exact h.size
theorem Hp.dwaits (H:Hp F0 g0 w0 g w (dkR x D::L)):gZ (some ⟨x,0,none⟩) w=some ((D.W.length:Int),w):=by obtain⟨F,h⟩:=H.dk;exact h.waits
theorem Hp.ddown (H:Hp F0 g0 w0 g w (dkR x D::L)):dB (some ⟨x,0,none⟩) w=some (D.down,w):=by obtain⟨F,h⟩:=H.dk;exact h.downs
theorem Hp.dage (H:Hp F0 g0 w0 g w (dkR x D::L)):iC (some ⟨x,0,none⟩) w=some (D.age,w):=by obtain⟨F,h⟩:=H.dk;exact h.ages
theorem Hp.row {xs:List Int} (H:Hp F0 g0 w0 g w L) (r:Row w w' o xs):∃ T,Hp F0 g0 w0 g w' (owR T 1 o (nums .u8 xs)::L)/\Mo g w g w':=by
 obtain⟨T,h⟩:=r.own;exact⟨T,H.add (vZ H.lt r.fr) (F:=o.blk) ⟨h,fun _=>Iff.rfl⟩ (fun k ⟨a,ha,hk⟩=>by have:=r.new a ha;exact⟨fun hg=>by have:=H.lt k hg;omega,by omega⟩),H.mold r.fr⟩
theorem Hp.dread (H:Hp F0 g0 w0 g w (dkR x D::L)) (i:Int) (hbd:D.W.length<1000000):∃ o w' T,eK (some ⟨x,0,none⟩) i w=some (o,(D.read i).2,w')/\Hp F0 g0 w0 g w' (owR T 1 o (nums .u8 (D.read i).1)::dkR x D::L)/\Mo g w g w':=by
 obtain⟨F,h⟩:=H.dk;obtain⟨o,w',e,r⟩:=h.read (i:=i) hbd;obtain⟨T,h1,m⟩:=H.row r;exact⟨o,w',T,e,h1,m⟩
end
section
variable {F F' F0 A A' : Nat -> Prop} {g g' g'' g0 : Gh} {w w' w'' w0 : World} {L L' : List Rs} {r r' s q u v : Rs} {b : Nat} {cs ys : List Value} {T : TypeId} {sz : Nat} {z y : Sl}
theorem Sep.perm (p:L.Perm L'):∀ {A:Nat->Prop},Sep g w A L->Sep g w A L':=by
 induction p with
 | nil=>exact id
 | cons r _ ih=>intro A h;exact h.cons fun _ h=>ih h
 | swap r s L=>intro A h;exact h.sw
 | trans _ _ ih1 ih2=>intro A h;exact ih2 (ih1 h)
theorem Hp.perm (p:L.Perm L') (H:Hp F0 g0 w0 g w L):Hp F0 g0 w0 g w L':=⟨H.sp,H.sep.perm p⟩
theorem Hp.at_ {n i:Nat} {f:Nat->Rs} (hi:i<n) (H:Hp F0 g0 w0 g w ((List.range n).map f++L)):Hp F0 g0 w0 g w (f i::(((List.range n).erase i).map f++L)):=by
 refine H.perm ?_;have h:=(List.perm_cons_erase (aIO.2 hi)).map f;exact(h.append_right L)
theorem Hp.cons_app (H:Hp F0 g0 w0 g w (r::(L++L'))):Hp F0 g0 w0 g w (L++r::L'):=H.perm aKi.symm
theorem Hp.app_cons (H:Hp F0 g0 w0 g w (L++r::L')):Hp F0 g0 w0 g w (r::(L++L')):=H.perm aKi
def uW (g:Gh) (w:World):(Nat->Prop)->List Rs->Prop
 | F,[]=>∀ k,¬ F k
 | F,r::L=>∃ F1 F2:Nat->Prop,r.h g w F1/\(∀ k,F k↔F1 k\/F2 k)/\(∀ k,F1 k->¬ F2 k)/\uW g w F2 L
theorem uW.st:∀ {L:List Rs} {F:Nat->Prop},uW g w F L->Mo g w g' w'->(∀ k,F k->w'.heap[k]?=w.heap[k]?)->uW g' w' F L
 | [],_,h,_,_=>h
 | r::L,F,⟨F1,F2,h1,h2,h3,h4⟩,m,hk=>⟨F1,F2,r.st h1 m (fun k h=>hk k ((h2 k).2 (.inl h))),h2,h3,h4.st m (fun k h=>hk k ((h2 k).2 (.inr h)))⟩
theorem uW.lt:∀ {L:List Rs} {F:Nat->Prop} {k:Nat},uW g w F L->F k->k<w.heap.size
 | [],_,_,h,hk=>(h _ hk).elim
 | r::L,F,k,⟨F1,F2,h1,h2,h3,h4⟩,hk=>((h2 k).1 hk).elim (r.lt h1) h4.lt
theorem uW.sep:∀ {l:List Rs} {F A:Nat->Prop},uW g w F l->(∀ k,F k->A k/\¬ g k)->Sep g w (fun k=>A k/\¬ F k) L->Sep g w A (l++L)
 | [],F,A,h,hA,hL=>hL.mono fun k _ h=>h.1
 | r::l,F,A,⟨F1,F2,h1,h2,h3,h4⟩,hA,hL =>
  ⟨F1,h1,fun k hk=>hA k ((h2 k).2 (.inl hk)),h4.sep (fun k hk=>⟨⟨(hA k ((h2 k).2 (.inr hk))).1,fun h=>h3 k h hk⟩,(hA k ((h2 k).2 (.inr hk))).2⟩)
   (hL.mono fun k _ h=>⟨⟨h.1,fun h'=>h.2 ((h2 k).2 (.inl h'))⟩,fun h'=>h.2 ((h2 k).2 (.inr h'))⟩)⟩
theorem Sep.sepx:∀ {l:List Rs} {A:Nat->Prop},Sep g w A (l++L)->∃ F:Nat->Prop,uW g w F l/\(∀ k,F k->A k/\¬ g k)/\Sep g w (fun k=>A k/\¬ F k) L
 | [],A,h=>⟨fun _=>False,fun _ h=>h,fun k h=>h.elim,Sep.mono h fun k _ h=>⟨h,fun h=>h⟩⟩
 | r::l,A,⟨F1,h1,h2,h3⟩=>by
  obtain⟨F2,h4,h5,h6⟩:=Sep.sepx (l:=l) h3;refine⟨fun k=>F1 k\/F2 k,⟨F1,F2,h1,fun k=>Iff.rfl,fun k hk hk'=>(h5 k hk').1.2 hk,h4⟩,fun k hk=>hk.elim (h2 k) (fun h=>⟨(h5 k h).1.1,(h5 k h).2⟩),h6.mono fun k _ h=>⟨h.1.1,fun h'=>h'.elim h.1.2 h.2⟩⟩
def aEe {ι:Type} (Ls:ι->List Rs) (ok:ι->Prop):Rs where
 h g w F:=∃ i,ok i/\uW g w F (Ls i)
 st:=fun ⟨i,h1,h2⟩ m hk=>⟨i,h1,h2.st m hk⟩
 lt:=fun ⟨i,h1,h2⟩ hk=>h2.lt hk
theorem Hp.unpack {ι:Type} {Ls:ι->List Rs} {ok:ι->Prop} (H:Hp F0 g0 w0 g w (aEe Ls ok::L)):∃ i,ok i/\Hp F0 g0 w0 g w (Ls i++L):=by
 obtain⟨sp,F,⟨i,h1,h2⟩,h3,h4⟩:=H;exact⟨i,h1,sp,h2.sep h3 h4⟩
theorem Hp.pack {ι:Type} {Ls:ι->List Rs} {ok:ι->Prop} {i:ι} (h:ok i) (H:Hp F0 g0 w0 g w (Ls i++L)):Hp F0 g0 w0 g w (aEe Ls ok::L):=by
 obtain⟨F,h1,h2,h3⟩:=H.sep.sepx;exact⟨H.sp,F,⟨i,h,h1⟩,h2,h3⟩
def rg (n:Nat) (f:Nat->Value):List Value:=(List.range n).map f
@[simp] theorem aGE {n:Nat} {f:Nat->Value}:(rg n f).length=n:=by simp[rg]
theorem Hp.ldI (H:Hp F0 g0 w0 g w (bxR b cs T::L)) {k:IntKind} {o:Nat} {x:Int} (h:cs[o]?=some (.int k x)):D.ldI k w ⟨b,o,none⟩=some x:=lP H.bx h
theorem Hp.ldB (H:Hp F0 g0 w0 g w (bxR b cs T::L)) {o:Nat} {x:Bool} (h:cs[o]?=some (.bool x)):D.ldB w ⟨b,o,none⟩=some x:=aAw H.bx h
theorem Hp.ldP (H:Hp F0 g0 w0 g w (bxR b cs T::L)) {o:Nat} {x:Option Addr} (h:cs[o]?=some (.pointer x)):D.ldP w ⟨b,o,none⟩=some x:=qF H.bx h
theorem Hp.ldL (H:Hp F0 g0 w0 g w (bxR b cs T::L)) {o:Nat} {x:Sl} (h:cs[o]?=some x.v):D.ldL w ⟨b,o,none⟩=some x:=pE H.bx h
theorem Hp.rd (H:Hp F0 g0 w0 g w (owR T sz z cs::L)):Rd w z sz cs:=H.ow.rd
theorem Own.ix (h:Own w T z 1 cs) {i:Nat} {x:Value} (hx:cs[i]?=some x):∃ a,D.ix z (i:Int) 1=some a/\w.cell? a=some x:=by
 have hi:i<z.n:=by have:=h.len;have h2:=(aIt.1 hx).1;omega
 obtain⟨a,ha,hc⟩:=h.rd.at_ (by omega);refine⟨a.add (i*1),?_,by rw[aKm];exact hc i x hx⟩;unfold D.ix;rw[ha];simp only[aLx];rw[if_pos ⟨by omega,by omega⟩];simp
theorem Own.ixI (h:Own w T z 1 cs) {i:Nat} {k:IntKind} {x:Int} (hx:cs[i]?=some (.int k x)):∃ a,D.ix z (i:Int) 1=some a/\D.ldI k w a=some x:=by
 obtain⟨a,h1,h2⟩:=h.ix hx;exact⟨a,h1,kZ h2⟩
theorem iD {x:Int} (h1 : -9223372036854775808<=x) (h2:x<=9223372036854775807):IntKind.wrap .i64 x=x:=by
 simp[IntKind.wrap,IntKind.bits,IntKind.signed];omega
variable {P : Program} {t e : TypeId} {by_ : Nat} {Z : List Value}
end
section
variable {w w' : World}
theorem tM {s:Sl} {xs:List Int} {i:Nat} (h:Rd w s 1 (nums .u8 xs)) (hi:i<xs.length):∃ a,ix s (i:Int) 1=some a/\ldI .u8 w a=some (xs.getD i 0):=by
 have hl:xs.length=s.n:=by have:=h.len;simpa using this
 obtain⟨a,ea,_,ca,_⟩:=uO (i:=i) h (by omega);have hv:=ca 0 (.int .u8 (xs.getD i 0)) (by omega) (by rw[lY];simp[List.getD,hi]);have e0:a.add 0=a:=by simp[Addr.add]
 rw[e0] at hv;exact⟨a,ea,kZ hv⟩
theorem kW (x:Int):IntKind.wrap .u64 x=x % 18446744073709551616:=by simp[IntKind.wrap,IntKind.bits,IntKind.signed]
theorem aDf (s:ByteArray):sEq s s=true:=by simp[sEq]
theorem aFB {T:TypeId} {s:Sl} {xs:List Int} {k:Nat} (h:Own w T s 1 (nums .u8 xs)) (hk:k<s.n):∃ g rest,s.p=some ⟨g,0,none⟩/\B w g=some (nums .u8 xs++rest,T)/\rest.length=(s.c-s.n)*1/\ix s (k:Int) 1=some ⟨g,k,none⟩:=by
 rcases h.h with⟨_,h0,_⟩ | ⟨g,rest,hp,hB,hl⟩
 .omega
 refine⟨g,rest,hp,hB,hl,?_⟩;unfold ix;rw[hp,aLx,if_pos (by omega),aD];simp
theorem aBL {T:TypeId} {s:Sl} {xs:List Int} {k:Nat} (v:Int) (h:Own w T s 1 (nums .u8 xs)) (hk:k<s.n) :
  ∃ g w',ix s (k:Int) 1=some ⟨g,k,none⟩/\s.blk g/\ldI .u8 w ⟨g,k,none⟩=some (xs.getD k 0)/\stV w ⟨g,k,none⟩ (.int .u8 v)=some w'/\Own w' T s 1 (nums .u8 (xs.set k v))/\Fr s.blk w w':=by
 have hl:xs.length=s.n:=by have:=h.len;simpa using this
 obtain⟨g,rest,hp,hB,hr,e⟩:=aFB h hk;obtain⟨w',e',b',o'⟩:=mE (o:=k) (v:=.int .u8 v) hB (by rw[aIE,bG];omega) rfl;refine⟨g,w',e,⟨_,hp,rfl⟩,lP hB ?_,e',⟨by simp[hl],h.cap,h.max,.inr ⟨g,rest,hp,?_,hr⟩⟩,o'.fr ⟨_,hp,rfl⟩⟩
 .rw[aID (by simp;omega),lY];simp[List.getD,hl,hk]
 rw[b',aJX _ _ (by simp;omega)];simp[nums,aLo]
theorem lH (D:Dk) (i:Int) (b:List Int):(D.write i b).2.W.length<=D.W.length+1:=by
 unfold Dk.write;split;· simp
 split;· simp
 split;· simp
 split
 .simp[jE]
 simp
end
def iS (w:World) (s:Sl) (xs:List Int):Prop:=Own w 5 s 1 (nums .u8 xs)
theorem sQ {g o n c k:Nat} (h:(⟨some ⟨g,o,none⟩,n,c⟩:Sl).blk k):k=g:=by obtain⟨a,ha,hk⟩:=h;cases ha;exact hk.symm
theorem nV (m:Nat):(List.replicate m [Value.int .u8 0]).flatten=nums .u8 (List.replicate m 0):=by
 induction m with
 | zero=>rfl
 | succ m ih=>simp only[List.replicate_succ,aKI,ih,nums,aKf];rfl
end
end Go.Proofs.Ytejkaciimmfgcaa.D
