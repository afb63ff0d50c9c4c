/- Arrays that are built. -/
import Derived.Test.YtejkaciimmfgcaaGlue
namespace Go.Proofs.Ytejkaciimmfgcaa.D
open Go
set_option linter.unusedVariables false
set_option linter.unusedSimpArgs false
theorem d_buildA {P : Program} {n : Nat} {L : List (Nat × Value)} {a : Act} {w : World} {d ty pos af g t m e sz} {xs : List (Nat × Operand)} {vs : List (Nat × Value)} {z : Value} {cs : List Value} (ha : Has n L a) (hx : evp L xs vs) (hz : ∀ w, (zeroValue t).run P w = .ok z w) (ht : ∀ w, (underlying t).run P w = .ok (.array m e) w)
    (hs : ∀ w, (sizeOf e).run P w = .ok sz w) (hf : Instr.fill (fun i => some (i * sz, sz)) z.cells vs = some cs.toArray) :
    Does P ⟨d, .build t xs.toArray, ty, pos, af, g⟩ a w (.agg cs.toArray) w := by
  refine does_v ?_
  have e : (xs.toArray.map fun (i, x) => (i, a.eval x)) = vs.toArray := by rw [← evp_map ha hx]; simp
  simp only [execOp, e, Instr.build, Sem.run_bind, hz, Result.andThen_ok, ht, hs, hf, Sem.run_pure]
end Go.Proofs.Ytejkaciimmfgcaa.D
