/- What the printed walks are put together with. -/
import Derived.Test.YtejkaciimmfgcaaReg
import Derived.KernelRfl
namespace Go.Proofs.Ytejkaciimmfgcaa.D
open Go
set_option linter.unusedVariables false
set_option linter.unusedSimpArgs false
def u1 {α γ : Type} (i : α) (f : α → γ) : γ := f i
def u2 {α β γ : Type} (i : α × β) (f : α → β → γ) : γ := f i.1 i.2
def u3 {α β δ γ : Type} (i : α × β × δ) (f : α → β → δ → γ) : γ := f i.1 i.2.1 i.2.2
def u4 {α β δ ε γ : Type} (i : α × β × δ × ε) (f : α → β → δ → ε → γ) : γ := f i.1 i.2.1 i.2.2.1 i.2.2.2
def u5 {α β δ ε ζ γ : Type} (i : α × β × δ × ε × ζ) (f : α → β → δ → ε → ζ → γ) : γ := f i.1 i.2.1 i.2.2.1 i.2.2.2.1 i.2.2.2.2
def u6 {α β δ ε ζ η γ : Type} (i : α × β × δ × ε × ζ × η) (f : α → β → δ → ε → ζ → η → γ) : γ := f i.1 i.2.1 i.2.2.1 i.2.2.2.1 i.2.2.2.2.1 i.2.2.2.2.2
def looks : List OpD → List (Nat × Value) → List (List (Option Value))
  | [], _ => []
  | d :: ds, L => (d.li.map fun p => L.lookup p.1) :: looks ds (upd d.o.dst d.v L)
theorem reads_of : ∀ {ds : List OpD} {L : List (Nat × Value)}, looks ds L = ds.map (fun d => d.li.map fun p => some p.2) → Reads ds L
  | [], _, _ => trivial
  | d :: ds, L, h => by
    simp only [looks, List.map_cons, List.cons.injEq] at h
    refine ⟨?_, reads_of h.2⟩
    have key : ∀ (M : List (Nat × Value)), (M.map fun p => L.lookup p.1) = (M.map fun p => some p.2) → SubL L M := by
      intro M
      induction M with
      | nil => intro _; trivial
      | cons p M ih => intro h; simp only [List.map_cons, List.cons.injEq] at h; exact ⟨h.1, ih h.2⟩
    exact key _ h.1
section
variable {P : Program} {n : Nat} {L : List (Nat × Value)} {a : Act} {w w' : World} {Q : Exit → Act → World → Prop}
theorem ltd {o : Option Nat} {n : Nat} (h : (o.all fun d => decide (d < n)) = true) : ∀ d, o = some d → d < n := fun d hd => by
  subst hd; simpa using h
theorem nt {b : Bool} (h : b ≠ true) : b = false := by simpa using h
theorem tn {b : Bool} (h : b = true) : b ≠ false := by rw [h]; decide
theorem nn {b : Bool} (h : b ≠ true) (c : Bool) (hc : c = true) : b ≠ c := by rw [hc]; exact h
theorem ite_s {b : Bool} {γ : Type} {A B : Option γ} {r : γ} {G : Prop} (h : (if b = true then A else B) = some r) (ht : b = true → A = some r → G) (hf : b ≠ true → B = some r → G) : G := by
  by_cases e : b = true
  · exact ht e (by rwa [if_pos e] at h)
  · exact hf e (by rwa [if_neg e] at h)
theorem s_do_g2 {ops : Array Oper} {rest : List Oper} {o : Oper} {v : Value} {j t : Nat} {b c : Bool} (hg : o.guard = some (j, c)) (hj : (ops[j]?).bind (·.dst) = some t) (ha : Has n L a) (ht : L.lookup t = some (.bool b)) (hbc : b = c)
    (hd : ∀ d, o.dst = some d → d < n) (h : Does P o a w v w')
    (hr : ∀ a', Has n (upd o.dst v L) a' → wpList P ops Q rest a' w') : wpList P ops Q (o :: rest) a w := by
  subst hbc; exact s_do_g hg hj ha ht hd h hr
theorem yields_u {ops : Array Oper} {j t : Nat} (hj : (ops[j]?).bind (·.dst) = some t) (ha : Has n L a) (ht : L.lookup t = some undef) : yielded ops a.tmps j = none := by
  unfold yielded
  rw [hj]
  simp [ha.l t _ ht, undef]
theorem s_no_u {ops : Array Oper} {rest : List Oper} {o : Oper} {j t : Nat} {c : Bool} (hg : o.guard = some (j, c)) (hj : (ops[j]?).bind (·.dst) = some t) (ha : Has n L a) (ht : L.lookup t = some undef)
    (hd : ∀ d, o.dst = some d → d < n)
    (hr : ∀ a', Has n (upd o.dst undef L) a' → wpList P ops Q rest a' w) : wpList P ops Q (o :: rest) a w := by
  unfold wpList
  rw [if_neg (by simp [Region.wanted, hg, yields_u hj ha ht])]
  exact hr _ (ha.put _ hd _)
theorem ok_no_u {ops : Array Oper} {o : Oper} {li : List (Nat × Value)} {j t : Nat} {c : Bool} (hg : o.guard = some (j, c)) (hj : (ops[j]?).bind (·.dst) = some t) (ht : li.lookup t = some undef) :
    OpOK P n ops o li undef w w := fun a ha K Q hk => by
  rw [if_neg (by simp [Region.wanted, hg, yields_u hj ha ht])]
  exact hk
theorem seq_join {x y : Code} {L : List (Nat × Value)} {w' : World} (hk : ∀ a, Has n L a → y.wp P Q a w')
    (hx : (∀ a, Has n L a → Exit.then (y.wp P Q) Q .normal a w') → x.wp P (Exit.then (y.wp P Q) Q) a w) : (Code.seq x y).wp P Q a w :=
  wp_seq (hx hk)
theorem seq_joinF {x y : Code} {ι : Type} {Lf : ι → List (Nat × Value)} {wf : ι → World} {C : ι → Prop} (hk : ∀ i, C i → ∀ a, Has n (Lf i) a → y.wp P Q a (wf i))
    (hx : (∀ i, C i → ∀ a, Has n (Lf i) a → Exit.then (y.wp P Q) Q .normal a (wf i)) → x.wp P (Exit.then (y.wp P Q) Q) a w) : (Code.seq x y).wp P Q a w :=
  wp_seq (hx hk)
theorem reg_join {c : Code} {L : List (Nat × Value)} {w' : World} (hk : ∀ a, Has n L a → Q .normal a w') (hx : (∀ a, Has n L a → Q .normal a w') → c.wp P Q a w) : c.wp P Q a w := hx hk
theorem s_loop1 {S R : Type} {step : S → Option (S ⊕ R)} {I : S → Act → World → Prop} {body : Code} {r0 : R} {s0 : S} {e : Exit} {L : List (Nat × Value)} {w' : World}
    (hI : I s0 a w) (h : loopF step s0 = some r0) (hk : ∀ a, Has n L a → Q e a w')
    (hb : (∀ a, Has n L a → Q e a w') → ∀ s a w o, I s a w → step s = some o → (∀ r, o = .inr r → r = r0) → body.wp P (LP I Q o) a w) : (Code.loop body).wp P Q a w :=
  s_loop hI h (hb hk)
theorem s_loop2 {S R1 R2 : Type} {step : S → Option (S ⊕ (R1 ⊕ R2))} {I : S → Act → World → Prop} {body : Code} {r0 : R1 ⊕ R2} {s0 : S} {e1 e2 : Exit} {L1 : R1 → List (Nat × Value)} {w1 : R1 → World} {L2 : R2 → List (Nat × Value)} {w2 : R2 → World}
    (hI : I s0 a w) (h : loopF step s0 = some r0) (hk1 : ∀ i, r0 = .inl i → ∀ a, Has n (L1 i) a → Q e1 a (w1 i)) (hk2 : ∀ i, r0 = .inr i → ∀ a, Has n (L2 i) a → Q e2 a (w2 i))
    (hb : (∀ i, r0 = .inl i → ∀ a, Has n (L1 i) a → Q e1 a (w1 i)) → (∀ i, r0 = .inr i → ∀ a, Has n (L2 i) a → Q e2 a (w2 i)) →
      ∀ s a w o, I s a w → step s = some o → (∀ r, o = .inr r → r = r0) → body.wp P (LP I Q o) a w) : (Code.loop body).wp P Q a w :=
  s_loop hI h (hb hk1 hk2)
def dr (w : World) : Option World := some w.drew
theorem dr_w {w w' : World} (h : dr w = some w') : w' = w.drew := (Option.some.inj h).symm
theorem region_lit {id : Nat} {l : List Oper} (h : wpList P l.toArray Q l a w) : (Code.region id l.toArray false).wp P Q a w := wp_region_lit h
end
end Go.Proofs.Ytejkaciimmfgcaa.D
