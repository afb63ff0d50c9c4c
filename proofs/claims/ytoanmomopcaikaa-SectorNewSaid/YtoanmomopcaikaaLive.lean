/- What each law of chapter 9 asks first, and the laws that need no other disk. -/
import Derived.Test.YtoanmomopcaikaaDisk
namespace Go.Proofs.Ytoanmomopcaikaa.D
open Go
set_option linter.unusedVariables false
set_option linter.unusedSimpArgs false
section
variable {w w' : World} {p n : Nat} {D : Dk} {F : Nat → Prop}
theorem ld_u8 {s : Sl} {xs : List Int} {i : Nat} (h : Rd w s 1 (nums .u8 xs)) (hi : i < xs.length) : ∃ a, ix s (i : Int) 1 = some a ∧ ldI .u8 w a = some (xs.getD i 0) := by
  have hl : xs.length = s.n := by have := h.len; simpa using this
  obtain ⟨a, ea, _, ca, _⟩ := rd_at (i := i) h (by omega)
  have hv := ca 0 (.int .u8 (xs.getD i 0)) (by omega) (by rw [nums_get]; simp [List.getD, hi])
  have e0 : a.add 0 = a := by simp [Addr.add]
  rw [e0] at hv
  exact ⟨a, ea, ldI_cell hv⟩
theorem live_ok : ∃ w', grapevinelaw09_live w = some (true, w') ∧ ∀ S, Fr S w w' := by
  obtain ⟨p, w1, e1, d1, f1, hp⟩ := Disk.new (w := w) (m := 2) (by omega) (by omega)
  obtain ⟨w2, w3, e2, e3, r3, f3⟩ := lit_s (w := w1) (P := Try.prog) (t := 29) (T := 5) (ps := [[.int .u8 97], [.int .u8 98]]) (m := 2) rfl Try.underlying29 Try.underlying5 (by simp)
  have d3 := d1.fr (f3 (fun _ => False)) (fun _ _ h => h)
  have r3' : Rd w3 ⟨some ⟨w1.heap.size, 0, none⟩, 2, 2⟩ 1 (nums .u8 [97, 98]) := r3
  obtain ⟨w4, e4, d4, f4⟩ := d3.write (i := 0) r3' (by decide)
  have f01 := (f1 (fun _ => False)).size
  have f13 := (f3 (fun _ => False)).size
  have d4' := up_grow (by omega) d4
  have hw : (Dk.new 2).write 0 [97, 98] = (0, { Dk.new 2 with W := [(0, pad [97, 98])] }) := by rfl
  simp only [show (2 : Int).toNat = 2 from rfl] at d4' e4 f4
  rw [hw] at d4' e4
  obtain ⟨w5, e5, r5, f5, z5⟩ := ints_s (w := w4) (T := 3) (k := .i64) (xs := [5]) (ps := [[.int .i64 5]]) (m := 1) rfl rfl
  have d5 := d4'.below.fr (f5 (fun _ => False)) (fun _ _ h => h)
  have f34 := f4.size
  obtain ⟨w6, e6, d6, f6⟩ := d5.crash (by simp) r5 (fun a ha _ hk => by cases ha; exact absurd hk.2 (Nat.lt_irrefl _))
  have d6' := up_below (by omega) d6
  have f56 := f6.size
  obtain ⟨o, w7, e7, r7⟩ := d6'.read (i := 0) (by simp [Dk.crash])
  have hr : (({ Dk.new 2 with W := [(0, pad [97, 98])] } : Dk).crash [5]).read 0 = (97 :: List.replicate 63 0, 0) := by kernel_rfl
  rw [hr] at e7 r7
  have l7 := r7.n
  simp only [List.length_cons, List.length_replicate] at l7
  obtain ⟨a0, x0, y0⟩ := ld_u8 (i := 0) r7.rd (by simp)
  obtain ⟨a1, x1, y1⟩ := ld_u8 (i := 1) r7.rd (by simp)
  refine ⟨w7, ?_, fun S => ?_⟩
  · unfold grapevinelaw09_live
    have y0' : ldI .u8 w7 a0 = some 97 := y0
    have y1' : ldI .u8 w7 a1 = some 0 := y1
    have x0' : ix o 0 1 = some a0 := x0
    have x1' : ix o 1 1 = some a1 := x1
    simp only [e1, bind3_some, bind2_some, Option.isNone_some, Bool.false_eq_true, if_false, bne_self_eq_false, e2, e3, e4, e5, e6, e7, beq_self_eq_true, if_true, l7, Nat.reduceAdd, Int.cast_ofNat_Int, x0', x1', Option.bind_some, y0', y1']
  · exact Fr.all ((((((f1 _).trans (f3 _)).trans f4).trans (f5 _)).trans f6.up).trans (r7.fr _))
theorem wrap_u64 (x : Int) : IntKind.wrap .u64 x = x % 18446744073709551616 := by simp [IntKind.wrap, IntKind.bits, IntKind.signed]
/-! ### SectorNew -/
theorem SectorNew_law (m : Int) (_ : (Lit.int .i64 m).wf = true) : ∃ w', grapevinelaw09_SectorNew m w = some (true, w') ∧ Fr (fun k => w.heap.size ≤ k) w w' := by
  unfold grapevinelaw09_SectorNew
  by_cases h1 : m < 1
  · obtain ⟨w', e, f⟩ := live_ok (w := w)
    refine ⟨w', ?_, f _⟩
    unfold sector_New
    simp only [h1, decide_true, if_true, bind3_some, bind2_some, e, Option.isNone_none, beq_self_eq_true]
  · by_cases h2 : 512 < m
    · obtain ⟨w', e, f⟩ := live_ok (w := w)
      refine ⟨w', ?_, f _⟩
      unfold sector_New
      simp only [h1, h2, decide_true, decide_false, Bool.false_eq_true, if_false, if_true, bind3_some, bind2_some, e, Option.isNone_none, beq_self_eq_true]
    · obtain ⟨p, w1, e1, d1, f1, hp⟩ := Disk.new (w := w) (m := m) (by omega) (by omega)
      obtain ⟨w2, e2, f2⟩ := live_ok (w := w1)
      have d2 := d1.fr (f2 (fun _ => False)) (fun _ _ h => h)
      have hs : ((Dk.new m.toNat).S.length : Int) = m := by simp [Dk.new]; omega
      refine ⟨w2, ?_, (f1 _).trans (f2 _)⟩
      simp only [e1, h1, h2, decide_false, Bool.false_eq_true, if_false, bind3_some, bind2_some, e2, if_true, beq_self_eq_true, Option.isNone_some, Bool.not_false, d2.size, hs, d2.waits, d2.downs]
      rfl
end
end Go.Proofs.Ytoanmomopcaikaa.D
