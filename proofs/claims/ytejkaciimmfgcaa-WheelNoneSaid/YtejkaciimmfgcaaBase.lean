/- Words and laws by which a Go function's operations are told as plain functions on the memory. -/
import Derived.Test.YtejkaciimmfgcaaProg
import Derived.WalkKit
namespace Go.Proofs.Ytejkaciimmfgcaa.D
open Go
set_option linter.unusedVariables false
set_option linter.unusedSimpArgs false

/-! ### Plain words -/
structure Sl where
  p : Option Addr
  n : Nat
  c : Nat
def Sl.v (s : Sl) : Value := .slice s.p s.n s.c
def Sl.nil : Sl := ⟨none, 0, 0⟩

def bind2 {α β γ : Type} (o : Option (α × β)) (f : α → β → Option γ) : Option γ := match o with | some (a, b) => f a b | none => none
def bind3 {α β γ δ : Type} (o : Option (α × β × γ)) (f : α → β → γ → Option δ) : Option δ := match o with | some (a, b, c) => f a b c | none => none
def bind4 {α β γ δ ε : Type} (o : Option (α × β × γ × δ)) (f : α → β → γ → δ → Option ε) : Option ε := match o with | some (a, b, c, d) => f a b c d | none => none
def bind5 {α β γ δ ε ζ : Type} (o : Option (α × β × γ × δ × ε)) (f : α → β → γ → δ → ε → Option ζ) : Option ζ := match o with | some (a, b, c, d, e) => f a b c d e | none => none
def bind6 {α β γ δ ε ζ η : Type} (o : Option (α × β × γ × δ × ε × ζ)) (f : α → β → γ → δ → ε → ζ → Option η) : Option η := match o with | some (a, b, c, d, e, g) => f a b c d e g | none => none
def bind7 {α β γ δ ε ζ η θ : Type} (o : Option (α × β × γ × δ × ε × ζ × η)) (f : α → β → γ → δ → ε → ζ → η → Option θ) : Option θ := match o with | some (a, b, c, d, e, g, i) => f a b c d e g i | none => none
def bindX {ρ α γ : Type} (o : Option (ρ ⊕ α)) (g : ρ → Option γ) (f : α → Option γ) : Option γ := match o with | some (.inl r) => g r | some (.inr a) => f a | none => none
@[simp] theorem bind2_some {α β γ : Type} (a : α) (b : β) (f : α → β → Option γ) : bind2 (some (a, b)) f = f a b := rfl
@[simp] theorem bind3_some {α β γ δ : Type} (a : α) (b : β) (c : γ) (f : α → β → γ → Option δ) : bind3 (some (a, b, c)) f = f a b c := rfl
@[simp] theorem bind4_some {α β γ δ ε : Type} (a : α) (b : β) (c : γ) (d : δ) (f : α → β → γ → δ → Option ε) : bind4 (some (a, b, c, d)) f = f a b c d := rfl
@[simp] theorem bind5_some {α β γ δ ε ζ : Type} (a : α) (b : β) (c : γ) (d : δ) (e : ε) (f : α → β → γ → δ → ε → Option ζ) : bind5 (some (a, b, c, d, e)) f = f a b c d e := rfl
@[simp] theorem bind6_some {α β γ δ ε ζ η : Type} (a : α) (b : β) (c : γ) (d : δ) (e : ε) (g : ζ) (f : α → β → γ → δ → ε → ζ → Option η) : bind6 (some (a, b, c, d, e, g)) f = f a b c d e g := rfl
@[simp] theorem bind7_some {α β γ δ ε ζ η θ : Type} (a : α) (b : β) (c : γ) (d : δ) (e : ε) (g : ζ) (i : η) (f : α → β → γ → δ → ε → ζ → η → Option θ) : bind7 (some (a, b, c, d, e, g, i)) f = f a b c d e g i := rfl
@[simp] theorem bindX_inl {ρ α γ : Type} (r : ρ) (g : ρ → Option γ) (f : α → Option γ) : bindX (some (.inl r)) g f = g r := rfl
@[simp] theorem bindX_inr {ρ α γ : Type} (a : α) (g : ρ → Option γ) (f : α → Option γ) : bindX (some (.inr a)) g f = f a := rfl
theorem bs1 {α γ : Type} {o : Option α} {f : α → Option γ} {r : γ} (h : o.bind f = some r) : ∃ a, o = some a ∧ f a = some r := by
  cases o with
  | none => cases h
  | some a => exact ⟨a, rfl, h⟩
theorem bs2 {α β γ : Type} {o : Option (α × β)} {f : α → β → Option γ} {r : γ} (h : bind2 o f = some r) : ∃ a b, o = some (a, b) ∧ f a b = some r := by
  cases o with
  | none => cases h
  | some a => exact ⟨_, _, rfl, h⟩
theorem bs3 {α β γ δ : Type} {o : Option (α × β × γ)} {f : α → β → γ → Option δ} {r : δ} (h : bind3 o f = some r) : ∃ a b c, o = some (a, b, c) ∧ f a b c = some r := by
  cases o with
  | none => cases h
  | some a => exact ⟨_, _, _, rfl, h⟩
theorem bs4 {α β γ δ ε : Type} {o : Option (α × β × γ × δ)} {f : α → β → γ → δ → Option ε} {r : ε} (h : bind4 o f = some r) : ∃ a b c d, o = some (a, b, c, d) ∧ f a b c d = some r := by
  cases o with
  | none => cases h
  | some a => exact ⟨_, _, _, _, rfl, h⟩
theorem bs5 {α β γ δ ε ζ : Type} {o : Option (α × β × γ × δ × ε)} {f : α → β → γ → δ → ε → Option ζ} {r : ζ} (h : bind5 o f = some r) : ∃ a b c d e, o = some (a, b, c, d, e) ∧ f a b c d e = some r := by
  cases o with
  | none => cases h
  | some a => exact ⟨_, _, _, _, _, rfl, h⟩
theorem bs6 {α β γ δ ε ζ η : Type} {o : Option (α × β × γ × δ × ε × ζ)} {f : α → β → γ → δ → ε → ζ → Option η} {r : η} (h : bind6 o f = some r) : ∃ a b c d e g, o = some (a, b, c, d, e, g) ∧ f a b c d e g = some r := by
  cases o with
  | none => cases h
  | some a => exact ⟨_, _, _, _, _, _, rfl, h⟩
theorem bs7 {α β γ δ ε ζ η θ : Type} {o : Option (α × β × γ × δ × ε × ζ × η)} {f : α → β → γ → δ → ε → ζ → η → Option θ} {r : θ} (h : bind7 o f = some r) : ∃ a b c d e g i, o = some (a, b, c, d, e, g, i) ∧ f a b c d e g i = some r := by
  cases o with
  | none => cases h
  | some a => exact ⟨_, _, _, _, _, _, _, rfl, h⟩
theorem bsX {ρ α γ : Type} {o : Option (ρ ⊕ α)} {g : ρ → Option γ} {f : α → Option γ} {r : γ} (h : bindX o g f = some r) : ∃ x, o = some x ∧ bindX (some x) g f = some r := by
  cases o with
  | none => cases h
  | some x => exact ⟨x, rfl, h⟩

noncomputable def chk {α : Type} (p : Prop) (o : Option α) : Option α := open Classical in if p then o else none
theorem chk_pos {α : Type} {p : Prop} (h : p) (o : Option α) : chk p o = o := by unfold chk; rw [if_pos h]
theorem chk_some {α : Type} {p : Prop} {o : Option α} {r : α} (h : chk p o = some r) : p ∧ o = some r := by
  unfold chk at h
  split at h
  · exact ⟨‹_›, h⟩
  · cases h

/-! ### Loops -/
def iter {S R : Type} (step : S → Option (S ⊕ R)) : Nat → S → Option R
  | 0, _ => none
  | k + 1, s => match step s with
    | some (.inl s') => iter step k s'
    | some (.inr r) => some r
    | none => none
theorem iter_more {S R : Type} {step : S → Option (S ⊕ R)} : ∀ (k : Nat) (s : S) (r : R), iter step k s = some r → iter step (k + 1) s = some r
  | 0, _, _, h => by cases h
  | k + 1, s, r, h => by
    unfold iter at h ⊢
    split
    · rename_i s' e; simp only [e] at h; exact iter_more k s' r h
    · rename_i r' e; simp only [e] at h; exact h
    · rename_i e; simp only [e] at h; cases h
theorem iter_le {S R : Type} {step : S → Option (S ⊕ R)} {k m : Nat} {s : S} {r : R} (h : iter step k s = some r) (hm : k ≤ m) : iter step m s = some r := by
  induction hm with
  | refl => exact h
  | step _ ih => exact iter_more _ _ _ ih
theorem iter_one {S R : Type} {step : S → Option (S ⊕ R)} {k m : Nat} {s : S} {r r' : R} (h : iter step k s = some r) (h' : iter step m s = some r') : r = r' := by
  have a := iter_le h (Nat.le_max_left k m)
  have b := iter_le h' (Nat.le_max_right k m)
  rw [a] at b
  exact Option.some.inj b
open Classical in
noncomputable def loopF {S R : Type} (step : S → Option (S ⊕ R)) (s : S) : Option R :=
  if h : ∃ k r, iter step k s = some r then some (Classical.choose (Classical.choose_spec h)) else none
theorem loopF_iter {S R : Type} {step : S → Option (S ⊕ R)} {s : S} {r : R} : loopF step s = some r ↔ ∃ k, iter step k s = some r := by
  unfold loopF
  constructor
  · intro h
    split at h
    · rename_i hx
      exact ⟨_, (Classical.choose_spec (Classical.choose_spec hx)).trans h⟩
    · cases h
  · rintro ⟨k, hk⟩
    have hx : ∃ k r, iter step k s = some r := ⟨k, r, hk⟩
    rw [dif_pos hx]
    exact congrArg some (iter_one (Classical.choose_spec (Classical.choose_spec hx)) hk)
theorem loopF_next {S R : Type} {step : S → Option (S ⊕ R)} {s s' : S} (h : step s = some (.inl s')) : loopF step s = loopF step s' := by
  cases e : loopF step s' with
  | some r =>
    obtain ⟨k, hk⟩ := loopF_iter.1 e
    exact loopF_iter.2 ⟨k + 1, by unfold iter; simp only [h]; exact hk⟩
  | none =>
    cases e' : loopF step s with
    | none => rfl
    | some r =>
      obtain ⟨k, hk⟩ := loopF_iter.1 e'
      cases k with
      | zero => cases hk
      | succ k =>
        unfold iter at hk
        simp only [h] at hk
        rw [loopF_iter.2 ⟨k, hk⟩] at e
        cases e
theorem loopF_done {S R : Type} {step : S → Option (S ⊕ R)} {s : S} {r : R} (h : step s = some (.inr r)) : loopF step s = some r :=
  loopF_iter.2 ⟨1, by unfold iter; simp only [h]⟩

/-! ### The slots of a frame -/
def enterL : Nat → List Value → List (Nat × Value)
  | _, [] => []
  | i, v :: l => (i, v) :: enterL (i + 1) l
structure Has (n : Nat) (L : List (Nat × Value)) (a : Act) : Prop where
  d : a.defers = []
  z : a.tmps.size = n
  l : ∀ i v, L.lookup i = some v → a.tmps[i]? = some v
def evO (L : List (Nat × Value)) : Operand → Option Value
  | .tmp i => L.lookup i
  | .const v => some v
  | .global g => some (.pointer (some ⟨g, 0, none⟩))
  | .func f => some (.func (.func f) #[] #[])
def upd (dst : Option Nat) (v : Value) (L : List (Nat × Value)) : List (Nat × Value) := match dst with | some d => (d, v) :: L | none => L
section
variable {P : Program} {n : Nat} {L : List (Nat × Value)} {a : Act}
theorem Has.ev (h : Has n L a) {x : Operand} {v : Value} (hx : evO L x = some v) : a.eval x = v := by
  cases x with
  | tmp i =>
    have := h.l i v hx
    simp [Act.eval, Array.getD_eq_getD_getElem?, this]
  | const u => simpa [evO, Act.eval] using hx
  | global g => simpa [evO, Act.eval] using hx
  | func f => simpa [evO, Act.eval] using hx
theorem Has.put (h : Has n L a) (dst : Option Nat) (hd : ∀ d, dst = some d → d < n) (v : Value) : Has n (upd dst v L) (a.put dst v) := by
  cases dst with
  | none => exact h
  | some d =>
    refine ⟨h.d, by simpa [Act.put] using h.z, fun i u hu => ?_⟩
    simp only [Act.put, upd, List.lookup_cons] at hu ⊢
    have hdn : d < a.tmps.size := h.z ▸ hd d rfl
    by_cases e : i = d
    · subst e
      simp at hu
      subst hu
      simp [hdn]
    · have e1 : (i == d) = false := by simpa using e
      rw [e1] at hu
      rw [Array.getElem?_setIfInBounds_ne (Ne.symm e)]
      exact h.l i u hu
def SubL (L : List (Nat × Value)) : List (Nat × Value) → Prop
  | [] => True
  | (i, v) :: M => L.lookup i = some v ∧ SubL L M
theorem Has.sub (h : Has n L a) {M : List (Nat × Value)} (hm : SubL L M) : Has n M a := by
  refine ⟨h.d, h.z, fun i v hv => h.l i v ?_⟩
  induction M with
  | nil => cases hv
  | cons p M ih =>
    obtain ⟨j, u⟩ := p
    obtain ⟨h1, h2⟩ := hm
    rw [List.lookup_cons] at hv
    by_cases e : i = j
    · subst e; simp at hv; subst hv; exact h1
    · have e1 : (i == j) = false := by simpa using e
      rw [e1] at hv
      exact ih h2 hv
theorem has_enter {args : Array Value} (hs : args.size ≤ n) : Has n (enterL 0 args.toList) { tmps := args ++ Array.replicate (n - args.size) undef, defers := [] } := by
  refine ⟨rfl, by simp; omega, fun i v hv => ?_⟩
  have key : ∀ (l : List Value) (k i : Nat) (v : Value), (enterL k l).lookup i = some v → k ≤ i ∧ l[i - k]? = some v := by
    intro l
    induction l with
    | nil => intro k i v h; cases h
    | cons x l ih =>
      intro k i v h
      simp only [enterL, List.lookup_cons] at h
      by_cases e : i = k
      · subst e; simp at h; subst h; simp
      · have e1 : (i == k) = false := by simpa using e
        rw [e1] at h
        obtain ⟨h1, h2⟩ := ih _ _ _ h
        refine ⟨by omega, ?_⟩
        obtain ⟨m, hm⟩ : ∃ m, i - k = m + 1 := ⟨i - k - 1, by omega⟩
        rw [hm, List.getElem?_cons_succ]
        rwa [show i - (k + 1) = m by omega] at h2
  obtain ⟨_, h2⟩ := key _ _ _ _ hv
  simp only [Nat.sub_zero] at h2
  have hi : i < args.size := by
    rcases Nat.lt_or_ge i args.size with h | h
    · exact h
    · rw [List.getElem?_eq_none (by simpa using h)] at h2; cases h2
  simp only [Array.getElem?_append, hi, if_true]
  simpa using h2
theorem calls_dec {f : FuncId} {fn : Func} {c : Code} {args : Array Value} {w : World} {R : Ending → World → Prop} {n : Nat}
    (hf : P.funcs[f]? = some fn) (hb : fn.body = some c) (hn : fn.ntmps = n) (hs : args.size ≤ n)
    (h : ∀ a, Has n (enterL 0 args.toList) a → c.wp P (bodyPost P fn R) a w) : Calls P f args w R := by
  refine calls_of_wp hf hb ?_
  rw [hn]
  exact h _ (has_enter hs)

/-! ### What an operation does -/
def Does (P : Program) (o : Oper) (a : Act) (w : World) (v : Value) (w' : World) : Prop :=
  ∀ (K : Act → World → Prop) (Q : Exit → Act → World → Prop), K (a.put o.dst v) w' → o.wp P a w K Q
theorem does_v {o : Oper} {w w' : World} {v : Value} (h : (execOp a.eval o).run P w = .ok (.value v) w') : Does P o a w v w' := fun K Q hk => by
  unfold Oper.wp; rw [h]; exact hk
theorem does_u {o : Oper} {w w' : World} (h : (execOp a.eval o).run P w = .ok .skip w') : Does P o a w undef w' := fun K Q hk => by
  unfold Oper.wp; rw [h]; exact hk
theorem does_c {o : Oper} {w w1 w' : World} {v : Value} {f : FuncId} {args : Array Value} (h : (execOp a.eval o).run P w = .ok (.enter f args) w1)
    (hc : Calls P f args w1 fun e w'' => e = .returned v ∧ w'' = w') : Does P o a w v w' := fun K Q hk => by
  unfold Oper.wp; rw [h]
  exact hc.mono fun e w'' ⟨he, hw⟩ => by subst he; subst hw; exact hk

/-! ### A region in the order of the text -/
section
variable {ops : Array Oper} {Q : Exit → Act → World → Prop} {w : World} {rest : List Oper}
theorem s_nil (h : Q .normal a w) : wpList P ops Q [] a w := h
theorem s_do {o : Oper} {v : Value} {w' : World} (hg : o.guard = none) (ha : Has n L a) (hd : ∀ d, o.dst = some d → d < n) (h : Does P o a w v w')
    (hr : ∀ a', Has n (upd o.dst v L) a' → wpList P ops Q rest a' w') : wpList P ops Q (o :: rest) a w := by
  unfold wpList
  rw [if_pos (by simp [Region.wanted, hg])]
  exact .inl (h _ _ (hr _ (ha.put _ hd v)))
theorem yields_of {j t : Nat} {b : Bool} (hj : (ops[j]?).bind (·.dst) = some t) (ha : Has n L a) (ht : L.lookup t = some (.bool b)) : yielded ops a.tmps j = some b := by
  unfold yielded
  rw [hj]
  simp [ha.l t _ ht]
theorem s_do_g {o : Oper} {v : Value} {w' : World} {j t : Nat} {b : Bool} (hg : o.guard = some (j, b)) (hj : (ops[j]?).bind (·.dst) = some t) (ha : Has n L a) (ht : L.lookup t = some (.bool b))
    (hd : ∀ d, o.dst = some d → d < n) (h : Does P o a w v w')
    (hr : ∀ a', Has n (upd o.dst v L) a' → wpList P ops Q rest a' w') : wpList P ops Q (o :: rest) a w := by
  unfold wpList
  rw [if_pos (by simp [Region.wanted, hg, yields_of hj ha ht])]
  exact .inl (h _ _ (hr _ (ha.put _ hd v)))
theorem s_no_g {o : Oper} {j t : Nat} {b c : Bool} (hg : o.guard = some (j, c)) (hj : (ops[j]?).bind (·.dst) = some t) (ha : Has n L a) (ht : L.lookup t = some (.bool b)) (hbc : b ≠ c)
    (hd : ∀ d, o.dst = some d → d < n)
    (hr : ∀ a', Has n (upd o.dst undef L) a' → wpList P ops Q rest a' w) : wpList P ops Q (o :: rest) a w := by
  unfold wpList
  rw [if_neg (by simp [Region.wanted, hg, yields_of hj ha ht, hbc])]
  exact hr _ (ha.put _ hd _)
end

/-! ### Code -/
section
variable {Q : Exit → Act → World → Prop} {w : World} {K : Act → World → Prop}
theorem t_n (h : K a w) : Exit.then K Q .normal a w := h
theorem t_x {i : Nat} (h : Q (.exit i) a w) : Exit.then K Q (.exit i) a w := h
theorem t_r (h : Q .ret a w) : Exit.then K Q .ret a w := h
theorem b_n {i : Nat} (h : Q .normal a w) : Exit.inBlock i Q .normal a w := h
theorem b_hit {i : Nat} (h : Q .normal a w) : Exit.inBlock i Q (.exit i) a w := by unfold Exit.inBlock; simpa using h
theorem b_x {i j : Nat} (hij : j ≠ i) (h : Q (.exit j) a w) : Exit.inBlock i Q (.exit j) a w := by unfold Exit.inBlock; simpa [hij] using h
theorem b_r {i : Nat} (h : Q .ret a w) : Exit.inBlock i Q .ret a w := h
theorem s_cond {c : Operand} {x y : Code} {b : Bool} {γ : Type} {A B : Option γ} {r : γ} (ha : Has n L a) (hc : evO L c = some (.bool b)) (h : (if b = true then A else B) = some r)
    (ht : b = true → A = some r → x.wp P Q a w) (hf : b = false → B = some r → y.wp P Q a w) : (Code.cond c x y).wp P Q a w := by
  refine wp_cond_split (ha.ev hc) (fun e => ht e ?_) (fun e => hf e ?_)
  · rwa [if_pos e] at h
  · rwa [if_neg (by simp [e])] at h
/-- What a loop's body leaves behind: the next round's state, or an exit. -/
def LP {S R : Type} (I : S → Act → World → Prop) (Q : Exit → Act → World → Prop) : (S ⊕ R) → Exit → Act → World → Prop
  | .inl s, .normal, a, w => I s a w
  | .inl _, _, _, _ => False
  | .inr _, .normal, _, _ => False
  | .inr _, e, a, w => Q e a w
theorem lp_next {S R : Type} {I : S → Act → World → Prop} {Q : Exit → Act → World → Prop} {s : S} (h : I s a w) : LP (R := R) I Q (.inl s) .normal a w := h
theorem lp_x {S R : Type} {I : S → Act → World → Prop} {Q : Exit → Act → World → Prop} {r : R} {i : Nat} (h : Q (.exit i) a w) : LP (S := S) I Q (.inr r) (.exit i) a w := h
theorem lp_r {S R : Type} {I : S → Act → World → Prop} {Q : Exit → Act → World → Prop} {r : R} (h : Q .ret a w) : LP (S := S) I Q (.inr r) .ret a w := h
theorem s_loop {S R : Type} {step : S → Option (S ⊕ R)} {I : S → Act → World → Prop} {body : Code} {r0 : R} {s0 : S}
    (hI : I s0 a w) (h : loopF step s0 = some r0)
    (hb : ∀ s a w o, I s a w → step s = some o → (∀ r, o = .inr r → r = r0) → body.wp P (LP I Q o) a w) : (Code.loop body).wp P Q a w := by
  obtain ⟨k, hk⟩ := loopF_iter.1 h
  refine wp_loop_rounds k ?_
  clear h
  induction k generalizing s0 a w with
  | zero => cases hk
  | succ k ih =>
    rw [rounds_succ]
    unfold iter at hk
    split at hk
    · rename_i s' e
      refine wp_mono (hb s0 a w _ hI e (fun r hr => by cases hr)) fun x a' w' hx => ?_
      cases x <;> first | exact ih hx hk | exact hx.elim
    · rename_i r' e
      cases hk
      refine wp_mono (hb s0 a w _ hI e (fun r hr => by cases hr; rfl)) fun x a' w' hx => ?_
      cases x <;> first | exact hx | exact hx.elim
    · cases hk
end
end
end Go.Proofs.Ytejkaciimmfgcaa.D
