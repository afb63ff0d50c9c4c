/- Short words for the printed walks. -/
import Derived.Test.YtejkaciimmfgcaaGlue
namespace Go.Proofs.Ytejkaciimmfgcaa.D
open Go
set_option linter.unusedVariables false
set_option linter.unusedSimpArgs false
def ltb (n : Nat) (o : Option Nat) : Bool := o.all fun d => decide (d < n)
section
variable {P : Program} {n : Nat} {L : List (Nat × Value)} {a : Act} {w w' : World} {Q : Exit → Act → World → Prop} {ops : Array Oper} {rest : List Oper}
theorem q {o : Oper} {v : Value} (ha : Has n L a) (h : Does P o a w v w') (hr : ∀ a', Has n (upd o.dst v L) a' → wpList P ops Q rest a' w') (hg : o.guard = none := by rfl) (hd : ltb n o.dst = true := by rfl) : wpList P ops Q (o :: rest) a w := s_do hg ha (ltd hd) h hr
theorem qm {d ty pos af x v} (ha : Has n L a) (hx : evO L x = some v) (hr : ∀ a', Has n (upd d v L) a' → wpList P ops Q rest a' w) (hd : ltb n d = true := by rfl) : wpList P ops Q (⟨d, .move x, ty, pos, af, none⟩ :: rest) a w := s_do rfl ha (ltd hd) (d_move ha hx) hr
theorem qa {d ty pos af x v} (ha : Has n L a) (hx : evO L x = some v) (hr : ∀ a', Has n (upd d v L) a' → wpList P ops Q rest a' w) (hd : ltb n d = true := by rfl) : wpList P ops Q (⟨d, .assign x, ty, pos, af, none⟩ :: rest) a w := s_do rfl ha (ltd hd) (d_assign ha hx) hr
theorem qg {o : Oper} {v : Value} {j : Nat} {b c : Bool} (ha : Has n L a) (t : Nat) (hbc : b = c) (h : Does P o a w v w') (hr : ∀ a', Has n (upd o.dst v L) a' → wpList P ops Q rest a' w')
    (hg : o.guard = some (j, c) := by rfl) (hj : (ops[j]?).bind (·.dst) = some t := by rfl) (ht : L.lookup t = some (.bool b) := by rfl) (hd : ltb n o.dst = true := by rfl) : wpList P ops Q (o :: rest) a w := s_do_g2 hg hj ha ht hbc (ltd hd) h hr
theorem qn {o : Oper} {j : Nat} {b c : Bool} (ha : Has n L a) (t : Nat) (hbc : b ≠ c) (hr : ∀ a', Has n (upd o.dst undef L) a' → wpList P ops Q rest a' w)
    (hg : o.guard = some (j, c) := by rfl) (hj : (ops[j]?).bind (·.dst) = some t := by rfl) (ht : L.lookup t = some (.bool b) := by rfl) (hd : ltb n o.dst = true := by rfl) : wpList P ops Q (o :: rest) a w := s_no_g hg hj ha ht hbc (ltd hd) hr
theorem qu {o : Oper} {j : Nat} {c : Bool} (ha : Has n L a) (t : Nat) (hr : ∀ a', Has n (upd o.dst undef L) a' → wpList P ops Q rest a' w)
    (hg : o.guard = some (j, c) := by rfl) (hj : (ops[j]?).bind (·.dst) = some t := by rfl) (ht : L.lookup t = some undef := by rfl) (hd : ltb n o.dst = true := by rfl) : wpList P ops Q (o :: rest) a w := s_no_u hg hj ha ht (ltd hd) hr
/-! ### Drawn regions -/
variable {W : Nat → World} {lo hi : Nat} {o : Oper} {li : List (Nat × Value)} {v : Value} {e : Bool}
theorem oa (h : ∀ j a, Has n li a → Does P o a (W j) v (W j)) (hg : o.guard = none := by rfl) (he : e = false := by rfl) : ∀ j, lo ≤ j → j ≤ hi → OpOK P n ops o li v (W j) (W (j + if e = true then 1 else 0)) := fun j _ _ => by
  subst he; exact ok_do hg (h j)
theorem oag {k t : Nat} {b c : Bool} (t' : Nat) (hbc : b = c) (h : ∀ j a, Has n li a → Does P o a (W j) v (W j)) (htt : t' = t := by rfl) (hg : o.guard = some (k, c) := by rfl) (hj : (ops[k]?).bind (·.dst) = some t := by rfl) (ht : li.lookup t = some (.bool b) := by rfl) (he : e = false := by rfl) : ∀ j, lo ≤ j → j ≤ hi → OpOK P n ops o li v (W j) (W (j + if e = true then 1 else 0)) := fun j _ _ => by
  subst he; exact ok_do_g hg hj ht hbc (h j)
theorem on {k t : Nat} {b c : Bool} (t' : Nat) (hbc : b ≠ c) (htt : t' = t := by rfl) (hg : o.guard = some (k, c) := by rfl) (hj : (ops[k]?).bind (·.dst) = some t := by rfl) (ht : li.lookup t = some (.bool b) := by rfl) (he : e = false := by rfl) : ∀ j, lo ≤ j → j ≤ hi → OpOK P n ops o li undef (W j) (W (j + if e = true then 1 else 0)) := fun j _ _ => by
  subst he; exact ok_no_g hg hj ht hbc
theorem oc (c : Nat) (h : OpOK P n ops o li v (W c) (W (c + if e = true then 1 else 0))) (h1 : lo = c := by rfl) (h2 : hi = c := by rfl) : ∀ j, lo ≤ j → j ≤ hi → OpOK P n ops o li v (W j) (W (j + if e = true then 1 else 0)) := fun j hj1 hj2 => by
  obtain rfl : j = c := by omega
  exact h
end
end Go.Proofs.Ytejkaciimmfgcaa.D
