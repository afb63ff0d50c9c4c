/- Rows.CoverChainSaid: the law of grapevine gives true for every input, and each argument reads as it did. No conditions. -/
import Derived.Test.YtggheaclnklhaaaRows
import Derived.WalkKit
import Derived.ProofKit
import Derived.OpenShut
import Derived.Below
import Derived.ChangeOld
import Derived.Carry
import Derived.SizedLaws
import Derived.Test.YtggheaclnklhaaaPCoverChainA
import Derived.Test.YtggheaclnklhaaaPCoverChainB
import Derived.Test.YtggheaclnklhaaaPCoverChainC
namespace Go.Proofs.Ytggheaclnklhaaa.coverChainP
open Go.ChangeShapes Go.WideShapes Go.ChangeAt Go.RowKit
open Go.Proofs.Ytggheaclnklhaaa.D (Sl Arg Fr Rd nums)
set_option linter.unusedVariables false
set_option linter.unusedSimpArgs false

theorem own : ownKnob Try.prog.godebug = none := by kernel_rfl
theorem laidOut : laidOutB Try.prog = true := by kernel_rfl
set_option maxRecDepth 100000 in
theorem lifted (os : Os) (started : os.Started) (H : Type) (enc : TypeId × Value → H) :
    ReturnsInHanded {} Try.checked os 5 .any (Rows.coverChainSpec.pre6 enc Try.prog Try.f5 Rows.coverChainRow.domain false) (Rows.coverChainSpec.post enc Try.prog Try.f5 false true false false) := by
  refine returnsInHanded_of_change_sized (C := Try.checked) own started (by kernel_rfl) Try.func5
    (ChangeSpec.witness6 (enc := enc) (C := Try.checked) false ⟨#[], #[.slice none 0 0, .slice none 0 0, .slice none 0 0], []⟩ 8 (by kernel_rfl) (by kernel_rfl) (by kernel_rfl) (by kernel_rfl)) ?_
  intro W base args ds gs before hval0 hW hcnd hsz _
  have hval : ∀ (j : Nat) t v, Try.f5.params[j]? = some t → args[j]? = some v → Value.okWide Try.prog W .any base t v := hval0
  have hW' := hW
  obtain ⟨p, q, hA0, hV, rfl, hfz, hnd⟩ := hW
  have hA : DataW.TrodAll enc Try.prog W 0 (fun _ => true) true Try.f5.params.toList args.toList ds p := hA0
  rw [Try.params5] at hA hval hsz
  obtain ⟨v0, vs0, d0, ds0, p0, q0, hargs, rfl, rfl, h0, r0⟩ := trodAll_cons hA
  obtain ⟨v1, vs1, d1, ds1, p1, q1, rfl, rfl, rfl, h1, r1⟩ := trodAll_cons r0
  obtain ⟨v2, vs2, d2, ds2, p2, q2, rfl, rfl, rfl, h2, r2⟩ := trodAll_cons r1
  obtain ⟨rfl, rfl, rfl⟩ := trodAll_nil r2
  obtain rfl : args = #[v0, v1, v2] := by cases args; simp_all
  obtain ⟨rfl, rfl⟩ := trodVars_none hV
  have k0 := h0
  have lt0 : ∀ x ∈ p0, x.block < W.heap.size := by obtain ⟨m, hm⟩ := k0; exact DataW.trod_lt m _ _ _ hm
  obtain ⟨m0, hm0⟩ := h0
  obtain ⟨b0, l0, c0, rfl⟩ := okWide_slice Try.underlying22 (hval 0 22 v0 rfl rfl)
  obtain ⟨s0, D0, e0, sc0⟩ := Go.Proofs.Ytggheaclnklhaaa.D.open_sds hm0 (Go.Proofs.Ytggheaclnklhaaa.D.sized_arg hsz (i := 0) rfl rfl)
  obtain ⟨rfl, rfl, rfl⟩ : b0 = s0.p ∧ l0 = s0.n ∧ c0 = s0.c := by simpa [Value.cells, Sl.v] using e0
  have k1 := h1
  have lt1 : ∀ x ∈ p1, x.block < W.heap.size := by obtain ⟨m, hm⟩ := k1; exact DataW.trod_lt m _ _ _ hm
  obtain ⟨m1, hm1⟩ := h1
  obtain ⟨b1, l1, c1, rfl⟩ := okWide_slice Try.underlying22 (hval 1 22 v1 rfl rfl)
  obtain ⟨s1, D1, e1, sc1⟩ := Go.Proofs.Ytggheaclnklhaaa.D.open_sds hm1 (Go.Proofs.Ytggheaclnklhaaa.D.sized_arg hsz (i := 1) rfl rfl)
  obtain ⟨rfl, rfl, rfl⟩ : b1 = s1.p ∧ l1 = s1.n ∧ c1 = s1.c := by simpa [Value.cells, Sl.v] using e1
  have k2 := h2
  have lt2 : ∀ x ∈ p2, x.block < W.heap.size := by obtain ⟨m, hm⟩ := k2; exact DataW.trod_lt m _ _ _ hm
  obtain ⟨m2, hm2⟩ := h2
  obtain ⟨b2, l2, c2, rfl⟩ := okWide_slice Try.underlying22 (hval 2 22 v2 rfl rfl)
  obtain ⟨s2, D2, e2, sc2⟩ := Go.Proofs.Ytggheaclnklhaaa.D.open_sds hm2 (Go.Proofs.Ytggheaclnklhaaa.D.sized_arg hsz (i := 2) rfl rfl)
  obtain ⟨rfl, rfl, rfl⟩ : b2 = s2.p ∧ l2 = s2.n ∧ c2 = s2.c := by simpa [Value.cells, Sl.v] using e2
  clear hA0 hval0
  have law := Go.Proofs.Ytggheaclnklhaaa.D.CoverChain_law (w := W) s0 D0 sc0 s1 D1 sc1 s2 D2 sc2
  refine (Go.Proofs.Ytggheaclnklhaaa.D.grapevinelaw06_CoverChain_ok law).mono fun e W' ⟨i, he, ⟨ht, f1⟩, hw⟩ => ?_
  have bel : Below W.heap.size W i.2 := Fr.below f1 (Nat.le_refl _) (fun i hi => hi)
  subst he
  subst hw
  rw [ht]
  exact ⟨_, rfl, _, _, _, [], _, [], hW', trodAll_mk1 (shut_bool Try.underlying4 _), (trodAll_cons_mk (Below.trod laidOut (by kernel_rfl) (of_decide_eq_true (by kernel_rfl)) k0 bel lt0) (trodAll_cons_mk (Below.trod laidOut (by kernel_rfl) (of_decide_eq_true (by kernel_rfl)) k1 bel lt1) (trodAll_cons_mk (Below.trod laidOut (by kernel_rfl) (of_decide_eq_true (by kernel_rfl)) k2 bel lt2) trodAll_mk0))), rfl, bel.frame _, fun h => by cases h⟩

theorem over : Rows.coverChainRow.holds Try.pinned (OpenSpec.ofChange Rows.coverChainSpec) :=
  OpenClaim.holds_of_wide 5 Try.f5 rfl rfl rfl rfl rfl rfl rfl ⟨rfl, rfl, rfl, rfl, rfl⟩ rfl rfl rfl rfl rfl (by kernel_rfl) Try.func5 (by kernel_rfl)
    (of_decide_eq_true (by kernel_rfl)) (by unfold Func.isWrapper; first | (rw [if_pos (by decide +kernel)]; kernel_rfl) | (rw [if_neg (by decide +kernel)]; exact ⟨rfl, rfl⟩))
    (fun os started H enc _ => lifted os started H enc)

theorem proved : Rows.CoverChainSaid := over
#print axioms proved
end Go.Proofs.Ytggheaclnklhaaa.coverChainP
