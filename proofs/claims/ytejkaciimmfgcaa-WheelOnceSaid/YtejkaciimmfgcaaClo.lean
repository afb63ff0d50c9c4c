/- Function values, results in cells, scopes, values of arrays. -/
import Derived.Test.YtejkaciimmfgcaaShort
import Derived.Test.YtejkaciimmfgcaaArr
import Derived.Scope
namespace Go.Proofs.Ytejkaciimmfgcaa.D
open Go
set_option linter.unusedVariables false
set_option linter.unusedSimpArgs false
section
variable {P : Program} {n : Nat} {L : List (Nat × Value)} {a : Act} {w w' : World} {Q : Exit → Act → World → Prop}
theorem d_mkF {d ty pos af g f} {xs : List Operand} {vs : List Value} (ha : Has n L a) (hx : evs L xs vs) : Does P ⟨d, .makeFunc (.func f) #[] xs.toArray, ty, pos, af, g⟩ a w (.func (.func f) #[] vs.toArray) w := by
  refine does_v ?_
  have e := evs_map ha hx
  simp only [execOp, Instr.makeFunc, Sem.run_bind, Sem.run_pure, Result.andThen_ok]
  simp [← e]
theorem d_callF {d ty pos af g f} {fx : Operand} {xs : List Operand} {ts : Array TypeId} {vs cv : List Value} {v : Value} (ha : Has n L a) (hfx : evO L fx = some (.func (.func f) #[] cv.toArray)) (hx : evs L xs vs) (hf : ∀ (args : Array Value) (w : World), (callFunc f args).run P w = .ok (.enter f args) w)
    (h : Calls P f (vs ++ cv).toArray w fun e w'' => e = .returned v ∧ w'' = w') : Does P ⟨d, .call { callee := .value fx, args := xs.toArray, argTypes := ts }, ty, pos, af, g⟩ a w v w' := by
  refine does_c (w1 := w) (f := f) (args := (vs ++ cv).toArray) ?_ h
  have e := evs_map ha hx
  simp [execOp, resolve, Deferred.ofValue, invoke, ha.ev hfx, hf, ← e]
theorem sc_n (h : Q .normal a w) : Exit.noGoto Q .normal a w := h
theorem sc_x {i : Nat} (h : Q (.exit i) a w) : Exit.noGoto Q (.exit i) a w := h
theorem sc_r (h : Q .ret a w) : Exit.noGoto Q .ret a w := h
/-! ### A value that is an array -/
def ixV (c : List Value) (i : Int) (n : Nat) : Option Value := if 0 ≤ i ∧ i < n then c[i.toNat]? else none
def vB : Value → Option Bool | .bool b => some b | _ => none
def vS : Value → Option ByteArray | .string b => some b | _ => none
def vP : Value → Option (Option Addr) | .pointer b => some b | _ => none
def vL : Value → Option Sl | .slice p n c => some ⟨p, n, c⟩ | _ => none
def vI (k : IntKind) : Value → Option Int | .int k' x => if k' = k then some x else none | _ => none
theorem vL_ix {c : List Value} {i : Int} {n : Nat} {s : Sl} (h : (ixV c i n).bind vL = some s) : 0 ≤ i ∧ i < n ∧ c[i.toNat]? = some s.v := by
  obtain ⟨v, h1, h2⟩ := Option.bind_eq_some_iff.1 h
  unfold ixV at h1
  split at h1
  · rename_i hi
    refine ⟨hi.1, hi.2, h1.trans ?_⟩
    unfold vL at h2
    split at h2 <;> cases h2
    rfl
  · cases h1
theorem vI_ix {k : IntKind} {c : List Value} {i : Int} {n : Nat} {s : Int} (h : (ixV c i n).bind (vI k) = some s) : 0 ≤ i ∧ i < n ∧ c[i.toNat]? = some (.int k s) := by
  obtain ⟨v, h1, h2⟩ := Option.bind_eq_some_iff.1 h
  unfold ixV at h1
  split at h1
  · rename_i hi
    refine ⟨hi.1, hi.2, h1.trans ?_⟩
    unfold vI at h2
    split at h2
    · split at h2
      · rename_i hk; cases h2; subst hk; rfl
      · cases h2
    · cases h2
  · cases h1
theorem run_part {e : TypeId} {c : List Value} {off : Nat} {v : Value} (ha : ∀ w, (isAgg e).run P w = .ok false w) (h : c[off]? = some v) : (part e c.toArray off).run P w = .ok v w := by
  simp [part, ha, h]
theorem d_ixV {d ty pos af g t x y k e v} {m : Nat} {c : List Value} {i : Int} (ha : Has n L a) (hx : evO L x = some (.agg c.toArray)) (hy : evO L y = some (.int k i)) (ht : ∀ w, (underlying t).run P w = .ok (.array m e) w) (hs : ∀ w, (sizeOf e).run P w = .ok 1 w)
    (hg : ∀ w, (isAgg e).run P w = .ok false w) (h : 0 ≤ i ∧ i < m ∧ c[i.toNat]? = some v) : Does P ⟨d, .index t x y, ty, pos, af, g⟩ a w v w := by
  refine does_v ?_
  have h2 : i.toNat * 1 = i.toNat := Nat.mul_one _
  simp [execOp, ha.ev hx, ha.ev hy, Instr.index, asIntOf, ht, h.1, h.2.1, hs, run_part hg h.2.2]
def clS (P : Program) (t : TypeId) (x : Sl) (w : World) : Option World := match (Builtin.clear_ #[t] 3 #[x.v]).run P w with | .ok _ w' => some w' | _ => none
theorem run_clear_u {t ty : TypeId} {x v : Value} (h : (Builtin.clear_ #[t] ty #[x]).run P w = .ok v w') : v = .tuple #[] := by
  unfold Builtin.clear_ at h
  simp only [List.getElem?_toArray, List.getElem?_cons_zero] at h
  rw [Sem.run_bind] at h
  cases e : (underlying t).run P w with
  | halt z w1 => rw [e] at h; cases h
  | ok z w1 =>
    rw [e] at h
    simp only [Result.andThen_ok] at h
    split at h
    · simp at h; exact h.1.symm
    · simp at h; exact h.1.symm
    · simp at h; exact h.1.symm
    · rename_i r
      rw [Sem.run_bind] at h
      cases e2 : (getObj r).run P w1 with
      | halt z w2 => rw [e2] at h; cases h
      | ok z w2 =>
        rw [e2] at h
        simp only [Result.andThen_ok] at h
        split at h
        · rename_i clock
          rw [Sem.run_bind] at h
          cases e3 : (setObj r (.map #[] clock)).run P w2 with
          | halt z w3 => rw [e3] at h; cases h
          | ok z w3 => rw [e3] at h; simp at h; exact h.1.symm
        · simp at h
    · rename_i elem b m c _
      rw [Sem.run_bind] at h
      cases e2 : (zeroValue elem).run P w1 with
      | halt z w2 => rw [e2] at h; cases h
      | ok z w2 =>
        rw [e2] at h
        simp only [Result.andThen_ok] at h
        rw [Sem.run_bind] at h
        cases e3 : (storeCells b (Builtin.zeroCells z.cells m).toList).run P w2 with
        | halt z w3 => rw [e3] at h; cases h
        | ok z w3 => rw [e3] at h; simp at h; exact h.1.symm
    · simp at h
theorem d_clS {d ty pos af g t x} {p : Sl} (ha : Has n L a) (hx : evO L x = some p.v) (h : clS P t p w = some w') :
    Does P ⟨d, .call { callee := .builtin .clear, args := #[x], argTypes := #[t] }, ty, pos, af, g⟩ a w (.tuple #[]) w' := by
  unfold clS at h
  split at h
  · rename_i r w1 e
    cases h
    have hr := run_clear_u e
    subst hr
    have e' : (Builtin.clear_ #[t] ty #[p.v]).run P w = .ok (.tuple #[]) w' := e
    exact does_v (by simp [execOp, resolve, invoke, builtin, ha.ev hx, e'])
  · cases h
/-! ### Results -/
def resL (P : Program) (L : List (Nat × Value)) (w : World) : List ResultVar → List Value → Prop
  | [], [] => True
  | .tmp t :: rs, v :: vs => L.lookup t = some v ∧ resL P L w rs vs
  | .cell t T :: rs, v :: vs => (∃ ad, L.lookup t = some (.pointer (some ad)) ∧ (loadVar T ad).run P w = .ok v w) ∧ resL P L w rs vs
  | _, _ => False
def packL (vs : List Value) : Value := match vs with | [v] => v | _ => .tuple vs.toArray
theorem lv_1 {T : TypeId} {ad : Addr} {v : Value} (ht : ∀ w, (isAgg T).run P w = .ok false w) (h : w.cell? ad = some v) : (loadVar T ad).run P w = .ok v w := by
  simp [loadVar, ht, run_load, h]
theorem lv_A {T : TypeId} {ad : Addr} {cs : List Value} {sz : Nat} (ht : ∀ w, (isAgg T).run P w = .ok true w) (hz : ∀ w, (sizeOf T).run P w = .ok sz w) (h : ldA sz w ad 0 = some cs) : (loadVar T ad).run P w = .ok (.agg cs.toArray) w := by
  obtain ⟨h1, h2⟩ := ldA_c h
  have hl := run_loadCells_list (P := P) w ad cs (fun j v hv => by simpa using h2 j v hv)
  rw [h1] at hl
  simp [loadVar, ht, hz, hl]
def rvRun (tmps : Array Value) : ResultVar → Sem Value
  | .tmp t => pure (tmps.getD t undef)
  | .cell b t => do loadVar t (← asAddr (tmps.getD b undef))
theorem rv_list (ha : Has n L a) : ∀ (rs : List ResultVar) (vs : List Value), resL P L w rs vs → (rs.mapM (rvRun a.tmps)).run P w = .ok vs w
  | [], [], _ => by simp
  | [], _ :: _, h => h.elim
  | _ :: _, [], h => by rename_i r _; cases r <;> exact h.elim
  | .tmp t :: rs, v :: vs, h => by
    have h1 : (rvRun a.tmps (.tmp t)).run P w = .ok v w := by
      have := ha.l t v h.1
      simp [rvRun, Array.getD_eq_getD_getElem?, this]
    simp only [List.mapM_cons, Sem.run_bind, h1, Result.andThen_ok, rv_list ha rs vs h.2, Sem.run_pure]
  | .cell t T :: rs, v :: vs, h => by
    obtain ⟨⟨ad, h1, h3⟩, h2⟩ := h
    have h1 : (rvRun a.tmps (.cell t T)).run P w = .ok v w := by
      have := ha.l t _ h1
      simp [rvRun, Array.getD_eq_getD_getElem?, this, asAddr, h3]
    simp only [List.mapM_cons, Sem.run_bind, h1, Result.andThen_ok, rv_list ha rs vs h2, Sem.run_pure]
theorem retG {fn : Func} {R : Ending → World → Prop} {rs : List ResultVar} {vs : List Value} (hr : fn.results = rs.toArray) (ha : Has n L a) (hv : resL P L w rs vs) (hR : R (.returned (packL vs)) w) : bodyPost P fn R .ret a w := by
  refine ⟨ha.d, packL vs, ?_, hR⟩
  have h2 := rv_list ha rs vs hv
  have e : results fn a.tmps = (fn.results.mapM (rvRun a.tmps) >>= fun vs => pure (if h : vs.size = 1 then vs[0] else .tuple vs)) := rfl
  rw [e, hr]
  simp only [List.mapM_toArray, Sem.run_bind, map_eq_pure_bind, h2, Result.andThen_ok, Sem.run_pure]
  match vs with
  | [] => simp [packL]
  | [v] => simp [packL]
  | v :: u :: r => simp [packL]
end
end Go.Proofs.Ytejkaciimmfgcaa.D
