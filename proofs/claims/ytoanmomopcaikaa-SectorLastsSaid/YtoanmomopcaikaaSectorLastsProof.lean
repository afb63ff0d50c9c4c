/- Rows.SectorLastsSaid: the law of grapevine gives true for every input, and each argument reads as it did. No conditions. -/
import Derived.Test.YtoanmomopcaikaaRows
import Derived.WalkKit
import Derived.ProofKit
import Derived.OpenShut
import Derived.Below
import Derived.ChangeOld
import Derived.Carry
import Derived.SizedLaws
import Derived.Test.YtoanmomopcaikaaLasts
namespace Go.Proofs.Ytoanmomopcaikaa.sectorLastsP
open Go.ChangeShapes Go.WideShapes Go.ChangeAt Go.RowKit
open Go.Proofs.Ytoanmomopcaikaa.D (Sl Arg Fr Rd nums open_nums open_elems arg_of)
set_option linter.unusedVariables false
set_option linter.unusedSimpArgs false

theorem own : ownKnob Try.prog.godebug = none := by kernel_rfl
theorem laidOut : laidOutB Try.prog = true := by kernel_rfl
set_option maxRecDepth 100000 in
theorem lifted (os : Os) (started : os.Started) (H : Type) (enc : TypeId × Value → H) :
    ReturnsInHanded {} Try.checked os 6 .any (Rows.sectorLastsSpec.pre6 enc Try.prog Try.f6 Rows.sectorLastsRow.domain false) (Rows.sectorLastsSpec.post enc Try.prog Try.f6 false true false false) := by
  refine returnsInHanded_of_change_sized (C := Try.checked) own started (by kernel_rfl) Try.func6
    (ChangeSpec.witness6 (enc := enc) (C := Try.checked) false ⟨#[], #[.slice none 0 0, .slice none 0 0, .agg #[.int .i64 0, .slice none 0 0, .slice none 0 0]], []⟩ 8 (by kernel_rfl) (by kernel_rfl) (by kernel_rfl) (by kernel_rfl)) ?_
  intro W base args ds gs before hval0 hW hcnd hsz _
  have hval : ∀ (j : Nat) t v, Try.f6.params[j]? = some t → args[j]? = some v → Value.okWide Try.prog W .any base t v := hval0
  have hW' := hW
  obtain ⟨p, q, hA0, hV, rfl, hfz, hnd⟩ := hW
  have hA : DataW.TrodAll enc Try.prog W 0 (fun _ => true) true Try.f6.params.toList args.toList ds p := hA0
  rw [Try.params6] at hA hval hsz
  obtain ⟨v0, vs0, d0, ds0, p0, q0, hargs, rfl, rfl, h0, r0⟩ := trodAll_cons hA
  obtain ⟨v1, vs1, d1, ds1, p1, q1, rfl, rfl, rfl, h1, r1⟩ := trodAll_cons r0
  obtain ⟨v2, vs2, d2, ds2, p2, q2, rfl, rfl, rfl, h2, r2⟩ := trodAll_cons r1
  obtain ⟨rfl, rfl, rfl⟩ := trodAll_nil r2
  obtain rfl : args = #[v0, v1, v2] := by cases args; simp_all
  obtain ⟨rfl, rfl⟩ := trodVars_none hV
  have k0 := h0
  have lt0 : ∀ x ∈ p0, x.block < W.heap.size := by obtain ⟨m, hm⟩ := k0; exact DataW.trod_lt m _ _ _ hm
  obtain ⟨m0, hm0⟩ := h0
  obtain ⟨b0, l0, c0, rfl⟩ := okWide_slice Try.underlying37 (hval 0 37 v0 rfl rfl)
  obtain ⟨s0, L0, D0, e0, sc0⟩ := Go.Proofs.Ytoanmomopcaikaa.D.open_script hm0 (Go.Proofs.Ytoanmomopcaikaa.D.sized_arg hsz (i := 0) rfl rfl)
  obtain ⟨rfl, rfl, rfl⟩ : b0 = s0.p ∧ l0 = s0.n ∧ c0 = s0.c := by simpa [Value.cells, Sl.v] using e0
  have k1 := h1
  have lt1 : ∀ x ∈ p1, x.block < W.heap.size := by obtain ⟨m, hm⟩ := k1; exact DataW.trod_lt m _ _ _ hm
  obtain ⟨m1, hm1⟩ := h1
  obtain ⟨b1, l1, c1, rfl⟩ := okWide_slice Try.underlying29 (hval 1 29 v1 rfl rfl)
  obtain ⟨s1, xs1, e1, rd1, wf1, le1, mx1⟩ := open_nums (e := 5) (k := .u8) Try.underlying29 Try.underlying5 (by kernel_rfl) hm1
  obtain ⟨rfl, rfl, rfl⟩ : b1 = s1.p ∧ l1 = s1.n ∧ c1 = s1.c := by simpa [Value.cells, Sl.v] using e1
  have k2 := h2
  have lt2 : ∀ x ∈ p2, x.block < W.heap.size := by obtain ⟨m, hm⟩ := k2; exact DataW.trod_lt m _ _ _ hm
  obtain ⟨m2, hm2⟩ := h2
  obtain ⟨k'2, rfl, z2⟩ := okWide_struct Try.underlying43 (hval 2 43 v2 rfl rfl)
  obtain ⟨c2, rfl⟩ : ∃ l : List Value, k'2 = l.toArray := ⟨k'2.toList, by simp⟩
  have hm'2 : DataW.trod enc Try.prog W 0 (fun _ => true) true m2 43 c2 = some (d2, p2) := by simpa [Value.cells] using hm2
  clear hA0 hval0
  obtain ⟨W1, e1, f1⟩ := Go.Proofs.Ytoanmomopcaikaa.D.SectorLasts_law s0 L0 D0 sc0 s1 xs1 (arg_of rd1 (by decide)) wf1 le1 mx1 c2 (Go.Proofs.Ytoanmomopcaikaa.D.open_behind hm'2 (Go.Proofs.Ytoanmomopcaikaa.D.sized_arg hsz (i := 2) rfl rfl))
  have bel : Below W.heap.size W W1 := Fr.below f1 (Nat.le_refl _) (fun i hi => hi)
  refine (Go.Proofs.Ytoanmomopcaikaa.D.grapevinelaw09_SectorLasts_ok e1).mono fun e W' ⟨he, hw⟩ => ?_
  subst he
  subst hw
  exact ⟨_, rfl, _, _, _, [], _, [], hW', trodAll_mk1 (shut_bool Try.underlying4 _), (trodAll_cons_mk (Below.trod laidOut (by kernel_rfl) (of_decide_eq_true (by kernel_rfl)) k0 bel lt0) (trodAll_cons_mk (Below.trod laidOut (by kernel_rfl) (of_decide_eq_true (by kernel_rfl)) k1 bel lt1) (trodAll_cons_mk (Below.trod laidOut (by kernel_rfl) (of_decide_eq_true (by kernel_rfl)) k2 bel lt2) trodAll_mk0))), rfl, bel.frame _, fun h => by cases h⟩

theorem over : Rows.sectorLastsRow.holds Try.pinned (OpenSpec.ofChange Rows.sectorLastsSpec) :=
  OpenClaim.holds_of_wide 6 Try.f6 rfl rfl rfl rfl rfl rfl rfl ⟨rfl, rfl, rfl, rfl, rfl⟩ rfl rfl rfl rfl rfl (by kernel_rfl) Try.func6 (by kernel_rfl)
    (of_decide_eq_true (by kernel_rfl)) (by unfold Func.isWrapper; first | (rw [if_pos (by decide +kernel)]; kernel_rfl) | (rw [if_neg (by decide +kernel)]; exact ⟨rfl, rfl⟩))
    (fun os started H enc _ => lifted os started H enc)

theorem proved : Rows.SectorLastsSaid := over
#print axioms proved
end Go.Proofs.Ytoanmomopcaikaa.sectorLastsP
