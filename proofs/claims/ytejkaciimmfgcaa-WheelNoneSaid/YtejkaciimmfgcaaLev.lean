/- Levels of ticks: what parts at a higher bit is later; lists of due timers. No program. -/
import Derived.Test.YtejkaciimmfgcaaHpx
import Derived.Lib.BitFns
import Derived.Lib.ItoaNum
namespace Go.Proofs.Ytejkaciimmfgcaa.D
open Go
set_option linter.unusedVariables false
set_option linter.unusedSimpArgs false
theorem bxor_nat {a c : Nat} (ha : a < 2199023255552) (hc : c < 2199023255552) : bxor .i64 (a : Int) (c : Int) = ((a ^^^ c : Nat) : Int) ∧ a ^^^ c < 2199023255552 := by
  have h : a ^^^ c < 2 ^ 41 := Nat.xor_lt_two_pow (by omega) (by omega)
  refine ⟨?_, by omega⟩
  change IntKind.wrap .i64 ((BitVec.ofInt 64 (a : Int) ^^^ BitVec.ofInt 64 (c : Int)).toNat : Int) = _
  rw [BitVec.toNat_xor, BitVec.ofInt_natCast, BitVec.ofInt_natCast, BitVec.toNat_ofNat, BitVec.toNat_ofNat]
  rw [Nat.mod_eq_of_lt (by omega), Nat.mod_eq_of_lt (by omega)]
  simp [IntKind.wrap, IntKind.bits, IntKind.signed]
  omega
theorem len_of {x : Int} (h0 : 0 ≤ x) (h1 : x ≤ 1099511627776) {y : Int} (g0 : 0 ≤ y) (g1 : y ≤ 1099511627776) : 0 ≤ bxor .i64 x y ∧ bxor .i64 x y < 2199023255552 := by
  obtain ⟨a, rfl⟩ : ∃ k : Nat, x = k := ⟨x.toNat, by omega⟩
  obtain ⟨c, rfl⟩ : ∃ k : Nat, y = k := ⟨y.toNat, by omega⟩
  obtain ⟨e, h⟩ := bxor_nat (a := a) (c := c) (by omega) (by omega)
  rw [e]
  omega
/-- Of how many bits two ticks part. -/
noncomputable def lev (now a : Int) : Nat := if now < a then min (1 + Lib.bitLen (bxor .i64 a now).toNat) 42 else 1
theorem lev_le {now a : Int} : lev now a ≤ 42 ∧ 1 ≤ lev now a := by
  unfold lev
  split <;> omega
theorem bitLen_zero : Lib.bitLen 0 = 0 := by unfold Lib.bitLen; exact Lib.bitLenAux_zero _
theorem bitLen_lt {a b : Nat} (ha : a < 2199023255552) (hb : b < 2199023255552) (h : Lib.bitLen a < Lib.bitLen b) : ∃ k, a < 2 ^ k ∧ 2 ^ k ≤ b := by
  have hb0 : b ≠ 0 := by rintro rfl; rw [bitLen_zero] at h; omega
  obtain ⟨b1, b2, b3⟩ := Lib.bitLenAux_bounds 64 b (by omega) hb0
  refine ⟨Lib.bitLen a, ?_, Nat.le_trans (Nat.pow_le_pow_right (by omega) (by unfold Lib.bitLen at h ⊢; omega)) b2⟩
  by_cases h0 : a = 0
  · subst h0; exact Nat.two_pow_pos _
  · exact (Lib.bitLenAux_bounds 64 a (by omega) h0).2.2
theorem lev_lt {now x y : Int} (hn : 0 ≤ now ∧ now ≤ 1099511627776) (hx : 0 ≤ x ∧ x ≤ 1099511627776) (hy : 0 ≤ y ∧ y ≤ 1099511627776) (h : lev now x < lev now y) : x < y := by
  obtain ⟨n, rfl⟩ : ∃ k : Nat, now = k := ⟨now.toNat, by omega⟩
  obtain ⟨a, rfl⟩ : ∃ k : Nat, x = k := ⟨x.toNat, by omega⟩
  obtain ⟨c, rfl⟩ : ∃ k : Nat, y = k := ⟨y.toNat, by omega⟩
  obtain ⟨ea, la⟩ := bxor_nat (a := a) (c := n) (by omega) (by omega)
  obtain ⟨ec, lc⟩ := bxor_nat (a := c) (c := n) (by omega) (by omega)
  have h2 := @lev_le n a
  unfold lev at h h2
  rw [ea, Int.toNat_natCast] at h h2
  rw [ec, Int.toNat_natCast] at h
  by_cases hc : (n : Int) < c
  · rw [if_pos hc] at h
    by_cases ha : (n : Int) < a
    · rw [if_pos ha] at h
      obtain ⟨k, k1, k2⟩ := bitLen_lt la lc (by omega)
      have s1 : (a ^^^ n) >>> k = 0 := by rw [Nat.shiftRight_eq_div_pow]; exact Nat.div_eq_of_lt k1
      have s2 : (c ^^^ n) >>> k ≠ 0 := by rw [Nat.shiftRight_eq_div_pow]; exact Nat.ne_of_gt (Nat.div_pos k2 (Nat.two_pow_pos k))
      rw [Nat.shiftRight_xor_distrib] at s1 s2
      have t1 : a >>> k = n >>> k := by
        have := congrArg (· ^^^ (n >>> k)) s1
        simpa [Nat.xor_assoc] using this
      have t2 : c >>> k ≠ n >>> k := fun e => s2 (by rw [e]; exact Nat.xor_self _)
      have t3 : n >>> k ≤ c >>> k := by rw [Nat.shiftRight_eq_div_pow, Nat.shiftRight_eq_div_pow]; exact Nat.div_le_div_right (by omega)
      have t4 : a >>> k < c >>> k := by omega
      rw [Nat.shiftRight_eq_div_pow, Nat.shiftRight_eq_div_pow] at t4
      have : ¬ c ≤ a := fun hle => by have := Nat.div_le_div_right (c := 2 ^ k) hle; omega
      omega
    · omega
  · rw [if_neg hc] at h
    omega
/-! ### Due timers -/
def TLt (T : Nat → Option Int) (i j : Nat) : Prop := ∃ a b, T i = some a ∧ T j = some b ∧ (a < b ∨ a = b ∧ i < j)
/-- These are told, in this order. -/
structure Told (T : Nat → Option Int) (to : Int) (l : List Nat) : Prop where
  ord : l.Pairwise (TLt T)
  mem : ∀ i, i ∈ l ↔ ∃ a, T i = some a ∧ a ≤ to
theorem TLt.asymm {T : Nat → Option Int} {i j : Nat} (h : TLt T i j) (k : TLt T j i) : False := by
  obtain ⟨a, b, h1, h2, h3⟩ := h
  obtain ⟨c, d, h4, h5, h6⟩ := k
  rw [h1] at h5; rw [h2] at h4
  cases h5; cases h4
  omega
theorem sorted_uniq {R : Nat → Nat → Prop} (hR : ∀ i j, R i j → R j i → False) : ∀ {l l' : List Nat}, l.Pairwise R → l'.Pairwise R → (∀ i, i ∈ l ↔ i ∈ l') → l = l'
  | [], [], _, _, _ => rfl
  | [], x :: l', _, _, h => absurd ((h x).2 (List.mem_cons_self ..)) (by simp)
  | x :: l, [], _, _, h => absurd ((h x).1 (List.mem_cons_self ..)) (by simp)
  | x :: l, y :: l', h1, h2, h => by
    rw [List.pairwise_cons] at h1 h2
    have e : x = y := by
      rcases List.mem_cons.1 ((h x).1 (List.mem_cons_self ..)) with e | e
      · exact e
      · rcases List.mem_cons.1 ((h y).2 (List.mem_cons_self ..)) with e' | e'
        · exact e'.symm
        · exact (hR _ _ (h1.1 y e') (h2.1 x e)).elim
    subst e
    rw [sorted_uniq hR h1.2 h2.2 fun i => ?_]
    constructor
    · intro hi
      rcases List.mem_cons.1 ((h i).1 (List.mem_cons_of_mem _ hi)) with e | e
      · subst e; exact (hR _ _ (h1.1 i hi) (h1.1 i hi)).elim
      · exact e
    · intro hi
      rcases List.mem_cons.1 ((h i).2 (List.mem_cons_of_mem _ hi)) with e | e
      · subst e; exact (hR _ _ (h2.1 i hi) (h2.1 i hi)).elim
      · exact e
theorem Told.uniq {T : Nat → Option Int} {to : Int} {l l' : List Nat} (h : Told T to l) (h' : Told T to l') : l = l' :=
  sorted_uniq (R := TLt T) (fun _ _ h k => h.asymm k) h.ord h'.ord fun i => (h.mem i).trans (h'.mem i).symm
/-- The timers behind an advance. -/
def aft (T : Nat → Option Int) (to : Int) (i : Nat) : Option Int := match T i with | some a => if a ≤ to then none else some a | none => none
/-- All timers' numbers. -/
def idsL (T : Nat → Option Int) : List Nat := (List.range' 1 64).filter fun i => (T i).isSome
/-- The first timer's tick. -/
def Nxt (T : Nat → Option Int) (n : Int) (some_ : Bool) : Prop := (some_ = false ∧ n = 0 ∧ ∀ i, T i = none) ∨ (some_ = true ∧ (∃ i, T i = some n) ∧ ∀ i a, T i = some a → n ≤ a)
theorem Nxt.uniq {T : Nat → Option Int} {n m : Int} {a b : Bool} (h : Nxt T n a) (k : Nxt T m b) : n = m ∧ a = b := by
  rcases h with ⟨rfl, rfl, h⟩ | ⟨rfl, ⟨i, hi⟩, h⟩ <;> rcases k with ⟨rfl, rfl, k⟩ | ⟨rfl, ⟨j, hj⟩, k⟩
  · exact ⟨rfl, rfl⟩
  · rw [h j] at hj; cases hj
  · rw [k i] at hi; cases hi
  · have := h j m hj
    have := k i n hi
    exact ⟨by omega, rfl⟩
end Go.Proofs.Ytejkaciimmfgcaa.D
