/- Rows.EvlogNoneSaid: the law of grapevine gives true for every input, and each argument reads as it did. No conditions. -/
import Derived.Test.YtejkaciimmfgcaaRows
import Derived.WalkKit
import Derived.ProofKit
import Derived.OpenShut
import Derived.Below
import Derived.ChangeOld
import Derived.Carry
import Derived.Test.YtejkaciimmfgcaaPEvlogNoneA
import Derived.Test.YtejkaciimmfgcaaPEvlogNoneB
import Derived.Test.YtejkaciimmfgcaaPEvlogNoneC
import Derived.Test.YtejkaciimmfgcaaPEvlogNoneD
namespace Go.Proofs.Ytejkaciimmfgcaa.evlogNoneP
open Go.ChangeShapes Go.WideShapes Go.ChangeAt Go.RowKit
open Go.Proofs.Ytejkaciimmfgcaa.D (Sl Arg Fr Rd nums open_nums arg_of)
set_option linter.unusedVariables false
set_option linter.unusedSimpArgs false

theorem own : ownKnob Try.prog.godebug = none := by kernel_rfl
theorem laidOut : laidOutB Try.prog = true := by kernel_rfl
set_option maxRecDepth 100000 in
theorem lifted (os : Os) (started : os.Started) (H : Type) (enc : TypeId × Value → H) :
    ReturnsInHanded {} Try.checked os 10 .any (Rows.evlogNoneSpec.pre6 enc Try.prog Try.f10 Rows.evlogNoneRow.domain false) (Rows.evlogNoneSpec.post enc Try.prog Try.f10 false true false false) := by
  refine returnsInHanded_of_change (C := Try.checked) own started (by kernel_rfl) Try.func10
    (ChangeSpec.witness6 (enc := enc) (C := Try.checked) false ⟨#[], #[.int .i64 0, .slice none 0 0], []⟩ 8 (by kernel_rfl) (by kernel_rfl) (by kernel_rfl) (by kernel_rfl)) ?_
  intro W base args ds gs before hval0 hW hcnd _
  have hval : ∀ (j : Nat) t v, Try.f10.params[j]? = some t → args[j]? = some v → Value.okWide Try.prog W .any base t v := hval0
  have hW' := hW
  obtain ⟨p, q, hA0, hV, rfl, hfz, hnd⟩ := hW
  have hA : DataW.TrodAll enc Try.prog W 0 (fun _ => true) true Try.f10.params.toList args.toList ds p := hA0
  rw [Try.params10] at hA hval
  obtain ⟨v0, vs0, d0, ds0, p0, q0, hargs, rfl, rfl, h0, r0⟩ := trodAll_cons hA
  obtain ⟨v1, vs1, d1, ds1, p1, q1, rfl, rfl, rfl, h1, r1⟩ := trodAll_cons r0
  obtain ⟨rfl, rfl, rfl⟩ := trodAll_nil r1
  obtain rfl : args = #[v0, v1] := by cases args; simp_all
  obtain ⟨rfl, rfl⟩ := trodVars_none hV
  obtain ⟨a0, rfl, rfl, rfl, w0⟩ := open_int Try.underlying3 (hval 0 3 v0 rfl rfl) h0
  have k1 := h1
  have lt1 : ∀ x ∈ p1, x.block < W.heap.size := by obtain ⟨m, hm⟩ := k1; exact DataW.trod_lt m _ _ _ hm
  obtain ⟨m1, hm1⟩ := h1
  obtain ⟨b1, l1, c1, rfl⟩ := okWide_slice Try.underlying72 (hval 1 72 v1 rfl rfl)
  obtain ⟨s1, xs1, e1, rd1, wf1, le1, mx1⟩ := open_nums (e := 5) (k := .u8) Try.underlying72 Try.underlying5 (by kernel_rfl) hm1
  obtain ⟨rfl, rfl, rfl⟩ : b1 = s1.p ∧ l1 = s1.n ∧ c1 = s1.c := by simpa [Value.cells, Sl.v] using e1
  clear hA0 hval0
  have law := Go.Proofs.Ytejkaciimmfgcaa.D.EvlogNone_law (w := W) a0 w0 s1 xs1 (arg_of rd1 (by decide)) wf1 le1 mx1
  refine (Go.Proofs.Ytejkaciimmfgcaa.D.grapevinelaw11_EvlogNone_ok law).mono fun e W' ⟨i, he, ⟨ht, f1⟩, hw⟩ => ?_
  have bel : Below W.heap.size W i.2 := Fr.below f1 (Nat.le_refl _) (fun i hi => hi)
  subst he
  subst hw
  rw [ht]
  exact ⟨_, rfl, _, _, _, [], _, [], hW', trodAll_mk1 (shut_bool Try.underlying4 _), (trodAll_cons_mk (shut_int Try.underlying3 w0) (trodAll_cons_mk (Below.trod laidOut (by kernel_rfl) (of_decide_eq_true (by kernel_rfl)) k1 bel lt1) trodAll_mk0)), rfl, bel.frame _, fun h => by cases h⟩

theorem over : Rows.evlogNoneRow.holds Try.pinned (OpenSpec.ofChange Rows.evlogNoneSpec) :=
  OpenClaim.holds_of_wide 10 Try.f10 rfl rfl rfl rfl rfl rfl rfl ⟨rfl, rfl, rfl, rfl, rfl⟩ rfl rfl rfl rfl rfl (by kernel_rfl) Try.func10 (by kernel_rfl)
    (of_decide_eq_true (by kernel_rfl)) (by unfold Func.isWrapper; first | (rw [if_pos (by decide +kernel)]; kernel_rfl) | (rw [if_neg (by decide +kernel)]; exact ⟨rfl, rfl⟩))
    (fun os started H enc _ => lifted os started H enc)

theorem proved : Rows.EvlogNoneSaid := over
#print axioms proved
end Go.Proofs.Ytejkaciimmfgcaa.evlogNoneP
