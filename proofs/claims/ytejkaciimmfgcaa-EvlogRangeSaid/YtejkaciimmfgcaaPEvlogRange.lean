/- Rows.EvlogRangeSaid: the law of grapevine gives true for every input, and each argument reads as it did. No conditions. -/
import Derived.Test.YtejkaciimmfgcaaRows
import Derived.WalkKit
import Derived.ProofKit
import Derived.OpenShut
import Derived.Below
import Derived.ChangeOld
import Derived.Carry
import Derived.SizedLaws
import Derived.Test.YtejkaciimmfgcaaPEvlogRangeA
import Derived.Test.YtejkaciimmfgcaaPEvlogRangeB
import Derived.Test.YtejkaciimmfgcaaPEvlogRangeC
import Derived.Test.YtejkaciimmfgcaaPEvlogRangeD
import Derived.Test.YtejkaciimmfgcaaPEvlogRangeE
import Derived.Test.YtejkaciimmfgcaaPEvlogRangeF
namespace Go.Proofs.Ytejkaciimmfgcaa.evlogRangeP
open Go.ChangeShapes Go.WideShapes Go.ChangeAt Go.RowKit
open Go.Proofs.Ytejkaciimmfgcaa.D (Sl Arg Fr Rd nums open_nums arg_of)
set_option linter.unusedVariables false
set_option linter.unusedSimpArgs false

theorem own : ownKnob Try.prog.godebug = none := by kernel_rfl
theorem laidOut : laidOutB Try.prog = true := by kernel_rfl
set_option maxRecDepth 100000 in
theorem lifted (os : Os) (started : os.Started) (H : Type) (enc : TypeId × Value → H) :
    ReturnsInHanded {} Try.checked os 13 .any (Rows.evlogRangeSpec.pre6 enc Try.prog Try.f13 Rows.evlogRangeRow.domain false) (Rows.evlogRangeSpec.post enc Try.prog Try.f13 false true false false) := by
  refine returnsInHanded_of_change_sized (C := Try.checked) own started (by kernel_rfl) Try.func13
    (ChangeSpec.witness6 (enc := enc) (C := Try.checked) false ⟨#[], #[.slice none 0 0, .int .i64 0, .int .i64 0], []⟩ 8 (by kernel_rfl) (by kernel_rfl) (by kernel_rfl) (by kernel_rfl)) ?_
  intro W base args ds gs before hval0 hW hcnd hsz _
  have hval : ∀ (j : Nat) t v, Try.f13.params[j]? = some t → args[j]? = some v → Value.okWide Try.prog W .any base t v := hval0
  have hW' := hW
  obtain ⟨p, q, hA0, hV, rfl, hfz, hnd⟩ := hW
  have hA : DataW.TrodAll enc Try.prog W 0 (fun _ => true) true Try.f13.params.toList args.toList ds p := hA0
  rw [Try.params13] at hA hval hsz
  obtain ⟨v0, vs0, d0, ds0, p0, q0, hargs, rfl, rfl, h0, r0⟩ := trodAll_cons hA
  obtain ⟨v1, vs1, d1, ds1, p1, q1, rfl, rfl, rfl, h1, r1⟩ := trodAll_cons r0
  obtain ⟨v2, vs2, d2, ds2, p2, q2, rfl, rfl, rfl, h2, r2⟩ := trodAll_cons r1
  obtain ⟨rfl, rfl, rfl⟩ := trodAll_nil r2
  obtain rfl : args = #[v0, v1, v2] := by cases args; simp_all
  obtain ⟨rfl, rfl⟩ := trodVars_none hV
  have k0 := h0
  have lt0 : ∀ x ∈ p0, x.block < W.heap.size := by obtain ⟨m, hm⟩ := k0; exact DataW.trod_lt m _ _ _ hm
  obtain ⟨m0, hm0⟩ := h0
  obtain ⟨b0, l0, c0, rfl⟩ := okWide_slice Try.underlying77 (hval 0 77 v0 rfl rfl)
  obtain ⟨s0, D0, e0, sc0⟩ := Go.Proofs.Ytejkaciimmfgcaa.D.open_dgs hm0 (Go.Proofs.Ytejkaciimmfgcaa.D.sized_arg hsz (i := 0) rfl rfl)
  obtain ⟨rfl, rfl, rfl⟩ : b0 = s0.p ∧ l0 = s0.n ∧ c0 = s0.c := by simpa [Value.cells, Sl.v] using e0
  obtain ⟨a1, rfl, rfl, rfl, w1⟩ := open_int Try.underlying3 (hval 1 3 v1 rfl rfl) h1
  obtain ⟨a2, rfl, rfl, rfl, w2⟩ := open_int Try.underlying3 (hval 2 3 v2 rfl rfl) h2
  clear hA0 hval0
  have law := Go.Proofs.Ytejkaciimmfgcaa.D.EvlogRange_law (w := W) s0 D0 sc0 a1 w1 a2 w2
  refine (Go.Proofs.Ytejkaciimmfgcaa.D.grapevinelaw11_EvlogRange_ok law).mono fun e W' ⟨i, he, ⟨ht, f1⟩, hw⟩ => ?_
  have bel : Below W.heap.size W i.2 := Fr.below f1 (Nat.le_refl _) (fun i hi => hi)
  subst he
  subst hw
  rw [ht]
  exact ⟨_, rfl, _, _, _, [], _, [], hW', trodAll_mk1 (shut_bool Try.underlying4 _), (trodAll_cons_mk (Below.trod laidOut (by kernel_rfl) (of_decide_eq_true (by kernel_rfl)) k0 bel lt0) (trodAll_cons_mk (shut_int Try.underlying3 w1) (trodAll_cons_mk (shut_int Try.underlying3 w2) trodAll_mk0))), rfl, bel.frame _, fun h => by cases h⟩

theorem over : Rows.evlogRangeRow.holds Try.pinned (OpenSpec.ofChange Rows.evlogRangeSpec) :=
  OpenClaim.holds_of_wide 13 Try.f13 rfl rfl rfl rfl rfl rfl rfl ⟨rfl, rfl, rfl, rfl, rfl⟩ rfl rfl rfl rfl rfl (by kernel_rfl) Try.func13 (by kernel_rfl)
    (of_decide_eq_true (by kernel_rfl)) (by unfold Func.isWrapper; first | (rw [if_pos (by decide +kernel)]; kernel_rfl) | (rw [if_neg (by decide +kernel)]; exact ⟨rfl, rfl⟩))
    (fun os started H enc _ => lifted os started H enc)

theorem proved : Rows.EvlogRangeSaid := over
#print axioms proved
end Go.Proofs.Ytejkaciimmfgcaa.evlogRangeP
