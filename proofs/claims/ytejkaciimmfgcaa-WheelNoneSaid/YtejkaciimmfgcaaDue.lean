/- What the closure of Advance tells; the order of due timers. -/
import Derived.Test.YtejkaciimmfgcaaNd
import Derived.Test.YtejkaciimmfgcaaFnC
import Derived.Test.YtejkaciimmfgcaaSlice
import Derived.Shelf.SlSortCmp.Insertion
namespace Go.Proofs.Ytejkaciimmfgcaa.D
open Go Go.Shelf Go.RowKit Go.Lib Go.Sort
set_option linter.unusedVariables false
set_option linter.unusedSimpArgs false
def encF (x : Fin 65) : Value := .int .i64 (x.val : Int)
/-- As the closure compares. -/
def cfD (f : Fin 65 → Int) (x y : Fin 65) : Int := if f x - f y ≠ 0 then f x - f y else (x.val : Int) - (y.val : Int)
theorem ltD {f : Fin 65 → Int} {x y : Fin 65} : ltOf (cfD f) x y = true ↔ f x < f y ∨ f x = f y ∧ x.val < y.val := by
  unfold ltOf cfD
  split <;> simp <;> omega
theorem ltD' {f : Fin 65 → Int} {x y : Fin 65} : ltOf (cfD f) x y = false ↔ f y < f x ∨ f y = f x ∧ y.val ≤ x.val := by
  rw [← Bool.not_eq_true, ltD]
  omega
theorem swoD (f : Fin 65 → Int) : SWO (ltOf (cfD f)) where
  irrefl x := by rw [ltD']; omega
  trans x y z h1 h2 := by rw [ltD] at *; omega
  ntrans x y z h1 h2 := by rw [ltD'] at *; omega
theorem totD (f : Fin 65 → Int) (x y : Fin 65) (h1 : ltOf (cfD f) x y = false) (h2 : ltOf (cfD f) y x = false) : x = y := by
  rw [ltD'] at *
  exact Fin.ext (by omega)
noncomputable def sortD (f : Fin 65 → Int) (l : List (Fin 65)) : List (Fin 65) := l.mergeSort fun x y => !(ltOf (cfD f)) y x
theorem w64 {x : Int} (h1 : -9223372036854775808 ≤ x) (h2 : x ≤ 9223372036854775807) : IntKind.wrap .i64 x = x := by
  simp [IntKind.wrap, IntKind.bits, IntKind.signed]; omega
theorem cmpOr (x y : Int) {s : Sl} {w : World} {T : TypeId} {b : Nat} (hs : s = ⟨some ⟨b, 0, none⟩, 2, 2⟩) (hB : B w b = some ([.int .i64 x, .int .i64 y], T)) : cmp_Or_int s w = some (if x ≠ 0 then x else y, w) := by
  subst hs
  have l0 : ldI .i64 w ⟨b, 0, none⟩ = some x := ldI_B hB rfl
  have l1 : ldI .i64 w ⟨b, 1, none⟩ = some y := ldI_B hB rfl
  have st : ∀ i : Int, cmp_Or_int_l1 ⟨some ⟨b, 0, none⟩, 2, 2⟩ i w = if i < 2 then (if 0 ≤ i then (ldI .i64 w ⟨b, i.toNat, none⟩).bind fun v => if (v != 0) = true then some (.inr (.inr (v, w))) else some (.inl (IntKind.wrap .i64 (i + 1), w)) else none) else some (.inr (.inl w)) := by
    intro i
    unfold cmp_Or_int_l1
    by_cases h : i < 2
    · by_cases h0 : 0 ≤ i
      · simp [h, h0, ix]
      · simp [h, h0, ix]
    · simp [h]
  unfold cmp_Or_int
  have s0 := st 0
  rw [if_pos (by omega), if_pos (by omega)] at s0
  simp only [Int.toNat_zero, l0, Option.bind_some] at s0
  by_cases hx : x = 0
  · subst hx
    have s1 := st 1
    rw [if_pos (by omega), if_pos (by omega)] at s1
    simp only [show (1 : Int).toNat = 1 from rfl, l1, Option.bind_some] at s1
    rw [if_neg (by simp), w64 (by omega) (by omega)] at s0
    rw [loopF_next (s' := ((1 : Int), w)) s0]
    by_cases hy : y = 0
    · subst hy
      rw [if_neg (by simp), w64 (by omega) (by omega)] at s1
      rw [loopF_next (s' := ((2 : Int), w)) s1]
      have s2 := st 2
      rw [if_neg (by omega)] at s2
      rw [loopF_done s2]
      simp [u1, u2]
    · rw [if_pos (by simpa using hy)] at s1
      rw [loopF_done s1]
      simp [u1, u2]
  · rw [if_pos (by simpa using hx)] at s0
    rw [loopF_done s0]
    simp [u1, u2, hx]
theorem closureD {w : World} {pb qb : Nat} {T T' : TypeId} {cs : List Value} {f : Fin 65 → Int} (hp : B w pb = some ([.pointer (some ⟨qb, 0, none⟩)], T)) (hq : B w qb = some (cs, T')) (hc : ∀ i : Fin 65, cs[1 + i.val]? = some (.int .i64 (f i))) (hf : ∀ i, 0 ≤ f i ∧ f i ≤ 1099511627776) (x y : Fin 65) :
    wheel_Wheel_Advance_1 x.val y.val ⟨pb, 0, none⟩ w = some (cfD f x y, grow (w.drewN 1) #[.cells #[.int .i64 (f x - f y), .int .i64 ((x.val : Int) - y.val)] 3]) := by
  have hp' : B w.drew pb = some ([.pointer (some ⟨qb, 0, none⟩)], T) := hp
  have hq' : B w.drew qb = some (cs, T') := hq
  have a1 : ∀ i : Fin 65, ixA ⟨qb, 1, none⟩ (i.val : Int) 65 1 = some ⟨qb, 1 + i.val, none⟩ := fun i => by
    unfold ixA
    rw [if_pos ⟨by omega, by have := i.isLt; omega⟩]
    simp
  have l1 : ∀ i : Fin 65, ldI .i64 w.drew ⟨qb, 1 + i.val, none⟩ = some (f i) := fun i => ldI_B hq' (hc i)
  have hx := hf x; have hy := hf y; have hxl := x.isLt; have hyl := y.isLt
  have lp : ldP w.drew ⟨pb, 0, none⟩ = some (some ⟨qb, 0, none⟩) := ldP_B hp' rfl
  unfold wheel_Wheel_Advance_1
  simp only [dr, Option.bind_some, lp, add_mk, Nat.zero_add, a1, l1]
  rw [w64 (x := f x - f y) (by omega) (by omega), w64 (x := (x.val : Int) - y.val) (by omega) (by omega)]
  simp only [bsl, List.all_cons, List.all_nil, List.length_cons, List.length_nil, Nat.zero_add, beq_self_eq_true, Bool.and_self, if_true, bind2_some]
  have e := cmpOr (w := w.drew.alloc (.cells #[.int .i64 (f x - f y), .int .i64 ((x.val : Int) - y.val)] 3)) (f x - f y) ((x.val : Int) - y.val) (b := w.drew.heap.size) (T := 3) rfl (B_new (cs := [.int .i64 (f x - f y), .int .i64 ((x.val : Int) - y.val)]))
  have e2 : w.drew.alloc (.cells #[.int .i64 (f x - f y), .int .i64 ((x.val : Int) - y.val)] 3) = grow (w.drewN 1) #[.cells #[.int .i64 (f x - f y), .int .i64 ((x.val : Int) - y.val)] 3] := alloc_eq_grow _ _
  rw [e2] at e
  have e' : cmp_Or_int ⟨some ⟨w.drew.heap.size, 0, none⟩, 1 + 1, 1 + 1⟩ (w.drew.alloc (.cells [[.int .i64 (f x - f y)], [.int .i64 ((x.val : Int) - y.val)]].flatten.toArray 3)) = some (if f x - f y ≠ 0 then f x - f y else (x.val : Int) - y.val, grow (w.drewN 1) #[.cells #[.int .i64 (f x - f y), .int .i64 ((x.val : Int) - y.val)] 3]) := by
    rw [show [[Value.int .i64 (f x - f y)], [.int .i64 ((x.val : Int) - y.val)]].flatten.toArray = #[.int .i64 (f x - f y), .int .i64 ((x.val : Int) - y.val)] from rfl, e2]
    exact e
  rw [e', bind2_some]
  rfl
end Go.Proofs.Ytejkaciimmfgcaa.D
