/- Programs that may end in more than one way: what must hold of all of these ways. -/
import Derived.Test.YtejkaciimmfgcaaShort
import Derived.Scope
namespace Go.Proofs.Ytejkaciimmfgcaa.D
open Go
set_option linter.unusedVariables false
set_option linter.unusedSimpArgs false
structure ND (α : Type) where
  t : (α → Prop) → Prop
  m : ∀ {Q Q' : α → Prop}, (∀ a, Q a → Q' a) → t Q → t Q'
section
variable {α β γ δ ε ζ ρ S R ι : Type}
def nret (a : α) : ND α := ⟨fun Q => Q a, fun h k => h _ k⟩
def nfail : ND α := ⟨fun _ => False, fun _ k => k⟩
def nck (p : Prop) (x : ND α) : ND α := ⟨fun Q => p ∧ x.t Q, fun h k => ⟨k.1, x.m h k.2⟩⟩
def lb1 (o : Option α) (f : α → ND ρ) : ND ρ := ⟨fun Q => ∃ a, o = some a ∧ (f a).t Q, fun h ⟨a, e, k⟩ => ⟨a, e, (f a).m h k⟩⟩
def lb2 (o : Option (α × β)) (f : α → β → ND ρ) : ND ρ := ⟨fun Q => ∃ a b, o = some (a, b) ∧ (f a b).t Q, fun h ⟨a, b, e, k⟩ => ⟨a, b, e, (f a b).m h k⟩⟩
def lb3 (o : Option (α × β × γ)) (f : α → β → γ → ND ρ) : ND ρ := ⟨fun Q => ∃ a b c, o = some (a, b, c) ∧ (f a b c).t Q, fun h ⟨a, b, c, e, k⟩ => ⟨a, b, c, e, (f a b c).m h k⟩⟩
def lb4 (o : Option (α × β × γ × δ)) (f : α → β → γ → δ → ND ρ) : ND ρ := ⟨fun Q => ∃ a b c d, o = some (a, b, c, d) ∧ (f a b c d).t Q, fun h ⟨a, b, c, d, e, k⟩ => ⟨a, b, c, d, e, (f a b c d).m h k⟩⟩
def lb5 (o : Option (α × β × γ × δ × ε)) (f : α → β → γ → δ → ε → ND ρ) : ND ρ := ⟨fun Q => ∃ a b c d x, o = some (a, b, c, d, x) ∧ (f a b c d x).t Q, fun h ⟨a, b, c, d, x, e, k⟩ => ⟨a, b, c, d, x, e, (f a b c d x).m h k⟩⟩
def cb1 (x : ND α) (f : α → ND ρ) : ND ρ := ⟨fun Q => x.t fun i => (f i).t Q, fun h => x.m fun i => (f i).m h⟩
def cb2 (x : ND (α × β)) (f : α → β → ND ρ) : ND ρ := ⟨fun Q => x.t fun i => (f i.1 i.2).t Q, fun h => x.m fun i => (f i.1 i.2).m h⟩
def cb3 (x : ND (α × β × γ)) (f : α → β → γ → ND ρ) : ND ρ := ⟨fun Q => x.t fun i => (f i.1 i.2.1 i.2.2).t Q, fun h => x.m fun i => (f i.1 i.2.1 i.2.2).m h⟩
def cb4 (x : ND (α × β × γ × δ)) (f : α → β → γ → δ → ND ρ) : ND ρ := ⟨fun Q => x.t fun i => (f i.1 i.2.1 i.2.2.1 i.2.2.2).t Q, fun h => x.m fun i => (f i.1 i.2.1 i.2.2.1 i.2.2.2).m h⟩
def cb5 (x : ND (α × β × γ × δ × ε)) (f : α → β → γ → δ → ε → ND ρ) : ND ρ := ⟨fun Q => x.t fun i => (f i.1 i.2.1 i.2.2.1 i.2.2.2.1 i.2.2.2.2).t Q, fun h => x.m fun i => (f i.1 i.2.1 i.2.2.1 i.2.2.2.1 i.2.2.2.2).m h⟩
def cb6 (x : ND (α × β × γ × δ × ε × ζ)) (f : α → β → γ → δ → ε → ζ → ND ρ) : ND ρ := ⟨fun Q => x.t fun i => (f i.1 i.2.1 i.2.2.1 i.2.2.2.1 i.2.2.2.2.1 i.2.2.2.2.2).t Q, fun h => x.m fun i => (f i.1 i.2.1 i.2.2.1 i.2.2.2.1 i.2.2.2.2.1 i.2.2.2.2.2).m h⟩
/-- One that may leave for good. -/
def cbX (x : ND (ρ ⊕ α)) (f : α → ND ρ) : ND ρ := ⟨fun Q => x.t (Sum.elim Q fun i => (f i).t Q), fun h => x.m fun i => by cases i with | inl r => exact h r | inr i => exact (f i).m h⟩
def nloop (step : S → ND (S ⊕ R)) (s : S) : ND R :=
  ⟨fun Q => ∀ X : S → Prop, (∀ s, (step s).t (Sum.elim X Q) → X s) → X s, fun h k X hX => k X fun s hs => hX s ((step s).m (fun i => by cases i with | inl x => exact id | inr r => exact h r) hs)⟩
variable {Q : ρ → Prop}
theorem un1 {x : ND α} {f : α → ND ρ} (h : (cb1 x f).t Q) : x.t fun i => (f i).t Q := h
theorem un2 {x : ND (α × β)} {f : α → β → ND ρ} (h : (cb2 x f).t Q) : x.t fun i => (f i.1 i.2).t Q := h
theorem un3 {x : ND (α × β × γ)} {f : α → β → γ → ND ρ} (h : (cb3 x f).t Q) : x.t fun i => (f i.1 i.2.1 i.2.2).t Q := h
theorem un4 {x : ND (α × β × γ × δ)} {f : α → β → γ → δ → ND ρ} (h : (cb4 x f).t Q) : x.t fun i => (f i.1 i.2.1 i.2.2.1 i.2.2.2).t Q := h
theorem un5 {x : ND (α × β × γ × δ × ε)} {f : α → β → γ → δ → ε → ND ρ} (h : (cb5 x f).t Q) : x.t fun i => (f i.1 i.2.1 i.2.2.1 i.2.2.2.1 i.2.2.2.2).t Q := h
theorem un6 {x : ND (α × β × γ × δ × ε × ζ)} {f : α → β → γ → δ → ε → ζ → ND ρ} (h : (cb6 x f).t Q) : x.t fun i => (f i.1 i.2.1 i.2.2.1 i.2.2.2.1 i.2.2.2.2.1 i.2.2.2.2.2).t Q := h
theorem unX {x : ND (ρ ⊕ α)} {f : α → ND ρ} (h : (cbX x f).t Q) : x.t (Sum.elim Q fun i => (f i).t Q) := h
theorem unL {x : ND ρ} {K : α → Prop} (h : (cb1 x fun g => nret (.inl g)).t (Sum.elim Q K)) : x.t Q := h
theorem ite_n {b : Bool} {A B : ND ρ} {G : Prop} (h : (if b = true then A else B).t Q) (ht : b = true → A.t Q → G) (hf : b ≠ true → B.t Q → G) : G := by
  by_cases e : b = true
  · exact ht e (by rwa [if_pos e] at h)
  · exact hf e (by rwa [if_neg e] at h)
end
section
variable {ρ ι : Type} {P : Program} {n : Nat} {L : List (Nat × Value)} {a : Act} {w : World} {Q : Exit → Act → World → Prop}
theorem s_condN {c : Operand} {x y : Code} {b : Bool} {A B : ND ρ} {C : ρ → Prop} (ha : Has n L a) (hc : evO L c = some (.bool b)) (h : (if b = true then A else B).t C)
    (ht : b = true → A.t C → x.wp P Q a w) (hf : b = false → B.t C → y.wp P Q a w) : (Code.cond c x y).wp P Q a w := by
  refine wp_cond_split (ha.ev hc) (fun e => ht e ?_) (fun e => hf e ?_)
  · rwa [if_pos e] at h
  · rwa [if_neg (by simp [e])] at h
theorem seq_joinN {x y : Code} {X : ND ι} {Lf : ι → List (Nat × Value)} {wf : ι → World} {C : ι → Prop} (h : X.t C) (hk : ∀ i, C i → ∀ a, Has n (Lf i) a → y.wp P Q a (wf i))
    (hx : X.t C → (∀ i, C i → ∀ a, Has n (Lf i) a → Exit.then (y.wp P Q) Q .normal a (wf i)) → x.wp P (Exit.then (y.wp P Q) Q) a w) : (Code.seq x y).wp P Q a w :=
  wp_seq (hx h hk)
theorem seq_joinNX {x y : Code} {X : ND (ρ ⊕ ι)} {Lf : ι → List (Nat × Value)} {wf : ι → World} {C0 : ρ → Prop} {C : ι → Prop} (h : X.t (Sum.elim C0 C)) (hk : ∀ i, C i → ∀ a, Has n (Lf i) a → y.wp P Q a (wf i))
    (hx : X.t (Sum.elim C0 C) → (∀ i, C i → ∀ a, Has n (Lf i) a → Exit.then (y.wp P Q) Q .normal a (wf i)) → x.wp P (Exit.then (y.wp P Q) Q) a w) : (Code.seq x y).wp P Q a w :=
  wp_seq (hx h hk)
theorem reg_joinN {c : Code} {X : ND ι} {Lf : ι → List (Nat × Value)} {wf : ι → World} {C : ι → Prop} (h : X.t C) (hk : ∀ i, C i → ∀ a, Has n (Lf i) a → Q .normal a (wf i))
    (hx : X.t C → (∀ i, C i → ∀ a, Has n (Lf i) a → Q .normal a (wf i)) → c.wp P Q a w) : c.wp P Q a w := hx h hk
theorem s_loopN {S R : Type} {step : S → ND (S ⊕ R)} {I : S → Act → World → Prop} {C : R → Prop} {body : Code} {s0 : S}
    (h : (nloop step s0).t C) (hI : I s0 a w)
    (hb : ∀ (X : S → Prop) s a w, I s a w → (step s).t (Sum.elim X C) → body.wp P (Exit.then (fun a w => ∃ s, I s a w ∧ X s) Q) a w) : (Code.loop body).wp P Q a w := by
  have key := h (fun s => ∀ a w, I s a w → ∀ (b : Frame) (k : List Item) (cs : List Frame), ∃ e a' w', Q e a' w' ∧ Arrives P (lone (b.at a (.code body :: .inLoop body :: k)) cs w) b k cs e a' w') ?_
  · intro b k cs
    obtain ⟨e, a', w', hq, harr⟩ := key a w hI b k cs
    exact ⟨e, a', w', hq, .of_steps (.one step_loop) harr⟩
  · intro s hs a w hIs b k cs
    obtain ⟨e, a₁, w₁, hq, harr⟩ := hb _ s a w hIs hs b (.inLoop body :: k) cs
    cases e with
    | normal =>
      obtain ⟨s', hI', hX⟩ := hq
      obtain ⟨e₂, a₂, w₂, hq₂, harr₂⟩ := hX a₁ w₁ hI' b k cs
      exact ⟨e₂, a₂, w₂, hq₂, .of_steps (Steps.trans harr (.one step_inLoop)) harr₂⟩
    | exit id => exact ⟨_, a₁, w₁, hq, .pass rfl (fun _ _ => .inl (by simp)) harr⟩
    | goto l => exact ⟨_, a₁, w₁, hq, .pass rfl (fun _ _ => .inl (by simp)) harr⟩
    | ret => exact ⟨_, a₁, w₁, hq, .pass rfl (fun _ _ => .inl (by simp)) harr⟩
    | panic ch => exact ⟨_, a₁, w₁, hq, .pass rfl (fun _ _ => .inl (by simp)) harr⟩
    | outgrown => exact ⟨_, a₁, w₁, hq, .pass rfl (fun _ _ => .inl (by simp)) harr⟩
theorem s_loopN1 {S R : Type} {step : S → ND (S ⊕ R)} {I : S → Act → World → Prop} {C : R → Prop} {body : Code} {s0 : S} {e : Exit} {Lr : R → List (Nat × Value)} {wr : R → World}
    (h : (nloop step s0).t C) (hI : I s0 a w) (hk : ∀ i, C i → ∀ a, Has n (Lr i) a → Q e a (wr i))
    (hb : (∀ i, C i → ∀ a, Has n (Lr i) a → Q e a (wr i)) → ∀ (X : S → Prop) s a w, I s a w → (step s).t (Sum.elim X C) → body.wp P (Exit.then (fun a w => ∃ s, I s a w ∧ X s) Q) a w) : (Code.loop body).wp P Q a w := s_loopN h hI (hb hk)
theorem s_loopN2 {S R1 R2 : Type} {step : S → ND (S ⊕ (R1 ⊕ R2))} {I : S → Act → World → Prop} {C : R1 ⊕ R2 → Prop} {body : Code} {s0 : S} {e1 e2 : Exit} {L1 : R1 → List (Nat × Value)} {w1 : R1 → World} {L2 : R2 → List (Nat × Value)} {w2 : R2 → World}
    (h : (nloop step s0).t C) (hI : I s0 a w) (hk1 : ∀ i, C (.inl i) → ∀ a, Has n (L1 i) a → Q e1 a (w1 i)) (hk2 : ∀ i, C (.inr i) → ∀ a, Has n (L2 i) a → Q e2 a (w2 i))
    (hb : (∀ i, C (.inl i) → ∀ a, Has n (L1 i) a → Q e1 a (w1 i)) → (∀ i, C (.inr i) → ∀ a, Has n (L2 i) a → Q e2 a (w2 i)) → ∀ (X : S → Prop) s a w, I s a w → (step s).t (Sum.elim X C) → body.wp P (Exit.then (fun a w => ∃ s, I s a w ∧ X s) Q) a w) : (Code.loop body).wp P Q a w := s_loopN h hI (hb hk1 hk2)
/-- A call of one that may end in more than one way. -/
theorem s_callN {ops : Array Oper} {rest : List Oper} {d ty pos af f} {xs : List Operand} {ts : Array TypeId} {vs : List Value} {pk : ι → Value} {wf : ι → World} {C : ι → Prop} (ha : Has n L a) (hx : evs L xs vs) (hf : ∀ (args : Array Value) (w : World), (callFunc f args).run P w = .ok (.enter f args) w)
    (h : Calls P f vs.toArray w fun e w'' => ∃ i, e = .returned (pk i) ∧ C i ∧ w'' = wf i) (hr : ∀ i, C i → ∀ a', Has n (upd d (pk i) L) a' → wpList P ops Q rest a' (wf i)) (hd : ltb n d = true := by rfl) :
    wpList P ops Q (⟨d, .call { callee := .value (.func f), args := xs.toArray, argTypes := ts }, ty, pos, af, none⟩ :: rest) a w := by
  unfold wpList
  rw [if_pos (by simp [Region.wanted])]
  left
  unfold Oper.wp
  have hrun : (execOp a.eval ⟨d, .call { callee := .value (.func f), args := xs.toArray, argTypes := ts }, ty, pos, af, none⟩).run P w = .ok (.enter f vs.toArray) w := by
    simp [execOp, resolve, Deferred.ofValue, invoke, Act.eval, hf]
    have := evs_map ha hx
    exact this
  rw [hrun]
  refine h.mono fun e w' ⟨i, he, hC, hw⟩ => ?_
  subst he; subst hw
  exact hr i hC _ (ha.put _ (ltd hd) _)
end
/-! ### Steps of such programs -/
section
variable {α β γ δ ε ζ ρ S R : Type} {Φ : ρ → Prop}
theorem Nd.ret {r : ρ} (h : Φ r) : (nret r).t Φ := h
theorem Nd.b1 {o : Option α} {a : α} {f : α → ND ρ} (e : o = some a) (h : (f a).t Φ) : (lb1 o f).t Φ := ⟨a, e, h⟩
theorem Nd.s1 {a : α} {f : α → ND ρ} (h : (f a).t Φ) : (lb1 (some a) f).t Φ := ⟨a, rfl, h⟩
theorem Nd.b2 {o : Option (α × β)} {a : α} {b : β} {f : α → β → ND ρ} (e : o = some (a, b)) (h : (f a b).t Φ) : (lb2 o f).t Φ := ⟨a, b, e, h⟩
theorem Nd.b3 {o : Option (α × β × γ)} {a : α} {b : β} {c : γ} {f : α → β → γ → ND ρ} (e : o = some (a, b, c)) (h : (f a b c).t Φ) : (lb3 o f).t Φ := ⟨a, b, c, e, h⟩
theorem Nd.b4 {o : Option (α × β × γ × δ)} {a : α} {b : β} {c : γ} {d : δ} {f : α → β → γ → δ → ND ρ} (e : o = some (a, b, c, d)) (h : (f a b c d).t Φ) : (lb4 o f).t Φ := ⟨a, b, c, d, e, h⟩
theorem Nd.b5 {o : Option (α × β × γ × δ × ε)} {a : α} {b : β} {c : γ} {d : δ} {x : ε} {f : α → β → γ → δ → ε → ND ρ} (e : o = some (a, b, c, d, x)) (h : (f a b c d x).t Φ) : (lb5 o f).t Φ := ⟨a, b, c, d, x, e, h⟩
theorem Nd.ck {p : Prop} {x : ND ρ} (hp : p) (h : x.t Φ) : (nck p x).t Φ := ⟨hp, h⟩
theorem Nd.t {c : Prop} [Decidable c] {A B : ND ρ} (hc : c) (h : A.t Φ) : (if c then A else B).t Φ := by rw [if_pos hc]; exact h
theorem Nd.f {c : Prop} [Decidable c] {A B : ND ρ} (hc : ¬ c) (h : B.t Φ) : (if c then A else B).t Φ := by rw [if_neg hc]; exact h
theorem Nd.j1 {x : ND α} {f : α → ND ρ} {Ψ : α → Prop} (h : x.t Ψ) (k : ∀ a, Ψ a → (f a).t Φ) : (cb1 x f).t Φ := x.m k h
theorem Nd.j2 {x : ND (α × β)} {f : α → β → ND ρ} {Ψ : α × β → Prop} (h : x.t Ψ) (k : ∀ a b, Ψ (a, b) → (f a b).t Φ) : (cb2 x f).t Φ := x.m (fun i hi => k _ _ hi) h
theorem Nd.j3 {x : ND (α × β × γ)} {f : α → β → γ → ND ρ} {Ψ : α × β × γ → Prop} (h : x.t Ψ) (k : ∀ a b c, Ψ (a, b, c) → (f a b c).t Φ) : (cb3 x f).t Φ := x.m (fun i hi => k _ _ _ hi) h
theorem Nd.j4 {x : ND (α × β × γ × δ)} {f : α → β → γ → δ → ND ρ} {Ψ : α × β × γ × δ → Prop} (h : x.t Ψ) (k : ∀ a b c d, Ψ (a, b, c, d) → (f a b c d).t Φ) : (cb4 x f).t Φ := x.m (fun i hi => k _ _ _ _ hi) h
theorem Nd.j5 {x : ND (α × β × γ × δ × ε)} {f : α → β → γ → δ → ε → ND ρ} {Ψ : α × β × γ × δ × ε → Prop} (h : x.t Ψ) (k : ∀ a b c d e, Ψ (a, b, c, d, e) → (f a b c d e).t Φ) : (cb5 x f).t Φ := x.m (fun i hi => k _ _ _ _ _ hi) h
theorem Nd.jX {x : ND (ρ ⊕ α)} {f : α → ND ρ} {Ψ : α → Prop} (h : x.t (Sum.elim Φ Ψ)) (k : ∀ a, Ψ a → (f a).t Φ) : (cbX x f).t Φ := x.m (fun i => by cases i with | inl r => exact id | inr i => exact k i) h
theorem Nd.mono {x : ND ρ} {Ψ : ρ → Prop} (h : x.t Ψ) (k : ∀ r, Ψ r → Φ r) : x.t Φ := x.m k h
theorem Nd.next {step : S → ND (S ⊕ R)} {s : S} {Φ : R → Prop} (h : (step s).t (Sum.elim (fun s' => (nloop step s').t Φ) Φ)) : (nloop step s).t Φ := fun X hX =>
  hX s ((step s).m (fun i => by cases i with | inl x => exact fun h => h X hX | inr r => exact id) h)
theorem Nd.loop {step : S → ND (S ⊕ R)} {Φ : R → Prop} (I : Nat → S → Prop) (hs : ∀ m s, I m s → (step s).t (Sum.elim (fun s' => ∃ m', m' < m ∧ I m' s') Φ)) : ∀ (m : Nat) (s : S), I m s → (nloop step s).t Φ := by
  intro m
  induction m using Nat.strongRecOn with
  | _ m ih =>
    intro s h
    refine Nd.next ((step s).m (fun i => ?_) (hs m s h))
    cases i with
    | inl x => exact fun ⟨m', hm, h'⟩ => ih m' hm x h'
    | inr r => exact id
/-- What ends in one way alone. -/
theorem Nd.of_some {o : Option α} {Ψ : α → Prop} {a : α} (e : o = some a) (h : Ψ a) : ∃ r, o = some r ∧ Ψ r := ⟨a, e, h⟩
end
end Go.Proofs.Ytejkaciimmfgcaa.D
