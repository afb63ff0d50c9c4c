/- grapevineref10.Cells: told of the same model. -/
import Derived.Test.YtoanmomopcaikaaPut
import Derived.Test.YtoanmomopcaikaaRDisk
namespace Go.Proofs.Ytoanmomopcaikaa.D
open Go
set_option linter.unusedVariables false
set_option linter.unusedSimpArgs false
section
variable {w w' : World} {y c : Nat} {G R : Nat → Prop} {D : Dk} {base count : Int}
structure RCellsAt (w : World) (c x : Nat) (base count : Int) : Prop where
  blk : B w c = some (cellsC x base count, 115)
  b0 : 0 ≤ base
  b1 : base ≤ 512
  n0 : 1 ≤ count
  n1 : count ≤ 32
theorem RCellsAt.fr {S : Nat → Prop} (h : RCellsAt w c y base count) (hf : Fr S w w') (hs : ¬ S c) : RCellsAt w' c y base count := ⟨hf.B h.blk hs, h.b0, h.b1, h.n0, h.n1⟩
theorem RCellsAt.all (h : RCellsAt w c y base count) (hf : ∀ S, Fr S w w') : RCellsAt w' c y base count := h.fr (hf (fun _ => False)) id
theorem dread0 (h : RCellsAt w c y base count) : ldP w ⟨c, 0, none⟩ = some (some ⟨y, 0, none⟩) := ldP_B h.blk rfl
theorem dread1 (h : RCellsAt w c y base count) : ldI .i64 w ⟨c, 1, none⟩ = some base := ldI_B h.blk rfl
theorem dread2 (h : RCellsAt w c y base count) : ldI .i64 w ⟨c, 2, none⟩ = some count := ldI_B h.blk rfl
theorem RDisk.all (h : RDisk w y G R D) (hf : ∀ S, Fr S w w') : RDisk w' y G R D := h.fr (hf (fun _ => False)) (fun _ _ h => h) (fun _ _ _ h => h)
/-- The document's number of the sector that counts. -/
def rcnt (f : Int × Int × Int) : Int := if f.1 = -1 then 2 else f.1
theorem whole_pos (b : List Int) (h : (whole b).2.2 = true) : 1 ≤ (whole b).1 := by
  unfold whole at h ⊢
  split at h
  · rename_i h1
    rw [if_pos h1]
    split at h
    · rename_i h2
      rw [if_pos h2]
      simp only [fits, Bool.and_eq_true, decide_eq_true_eq] at h2
      exact h2.1.1.1.1
    · cases h
  · cases h
theorem counts_ok (h : RDisk w y G R D) (hc : RCellsAt w c y base count) (hb : D.Bt) (hbd : D.W.length < 900000) {i : Int} (i0 : 0 ≤ i) (i1 : i < count) :
    ∃ w', grapevineref10_Cells_counts (some ⟨c, 0, none⟩) i w = some (rcnt (D.found (base + 2 * i)), (D.found (base + 2 * i)).2.1, (D.found (base + 2 * i)).2.2, w') ∧ ∀ S, Fr S w w' := by
  have hb0 := hc.b0
  have hb1 := hc.b1
  have hn1 := hc.n1
  have hwf := h.wf
  obtain ⟨w1, e1, _, g1, _, _⟩ := dr_s (w := w)
  have f1 : ∀ S, Fr S w w1 := fun S => (g1 w.heap.size S).fr
  have c1 := hc.all f1
  have h1 := h.all f1
  obtain ⟨o2, w2, e2, r2⟩ := h1.read (i := base + 2 * i) (by omega)
  have h2 := h1.all r2.fr
  have c2 := c1.all r2.fr
  obtain ⟨w3, e3, _, g3, _, _⟩ := dr_s (w := w2)
  have f3 : ∀ S, Fr S w2 w3 := fun S => (g3 w2.heap.size S).fr
  have h3 := h2.all f3
  have c3 := c2.all f3
  obtain ⟨o4, w4, e4, r4⟩ := h3.read (i := base + 2 * i + 1) (by omega)
  have l0 := read_len hwf (base + 2 * i)
  have l1 := read_len hwf (base + 2 * i + 1)
  have rd2 : Rd w4 o2 1 (nums .u8 (D.read (base + 2 * i)).1) := (r2.rd.fr (f3 (fun _ => False)) (fun _ _ _ h => h)).fr (r4.fr (fun _ => False)) (fun _ _ _ h => h)
  obtain ⟨w5, e5, f5⟩ := rwhole_ok rd2 (read_bytes hb _) (by rw [r2.n]; omega)
  obtain ⟨w6, e6, f6⟩ := rwhole_ok (r4.rd.fr (f5 (fun _ => False)) (fun _ _ _ h => h)) (read_bytes hb _) (by rw [r4.n]; omega)
  refine ⟨w6, ?_, fun S => ((((f1 S).trans (r2.fr S)).trans (f3 S)).trans (r4.fr S)).trans ((f5 S).trans (f6 S))⟩
  have hw0 : IntKind.wrap .i64 (base + IntKind.wrap .i64 (2 * i)) = base + 2 * i := by rw [IntKind.wrap_i64, IntKind.wrap_i64]; omega
  have hw1 : IntKind.wrap .i64 (base + 2 * i + 1) = base + 2 * i + 1 := by rw [IntKind.wrap_i64]; omega
  have p0 := whole_pos (D.read (base + 2 * i)).1
  have p1 := whole_pos (D.read (base + 2 * i + 1)).1
  unfold grapevineref10_Cells_counts
  rw [e1, Option.bind_some, Option.bind_some, add_mk, Nat.zero_add, dread0 c1, Option.bind_some, add_mk, Nat.zero_add, dread1 c1, Option.bind_some, hw0, e2, bind3_some, e3, Option.bind_some, dread0 c3, Option.bind_some, dread1 c3, Option.bind_some, hw0, hw1, e4, bind3_some, e5, bind4_some, e6, bind4_some]
  have hfound : D.found (base + 2 * i) = fstep 1 (fstep 0 (-1, 0, 0) (whole (D.read (base + 2 * i)).1)) (whole (D.read (base + 2 * i + 1)).1) := rfl
  rw [hfound]
  obtain ⟨a, ha⟩ : ∃ a, whole (D.read (base + 2 * i)).1 = a := ⟨_, rfl⟩
  obtain ⟨b, hb'⟩ : ∃ b, whole (D.read (base + 2 * i + 1)).1 = b := ⟨_, rfl⟩
  rw [ha] at p0 ⊢
  rw [hb'] at p1 ⊢
  by_cases a1 : a.2.2 = true
  · have s1 : fstep 0 (-1, 0, 0) a = (0, a.1, a.2.1) := by unfold fstep; rw [if_pos ⟨a1, by have := p0 a1; simp only; omega⟩]
    rw [s1, if_pos a1]
    by_cases b1 : b.2.2 = true
    · rw [if_neg (by simp [b1]), bind2_some]
      by_cases hlt : a.1 < b.1
      · have s2 : fstep 1 (0, a.1, a.2.1) b = (1, b.1, b.2.1) := by unfold fstep; rw [if_pos ⟨b1, hlt⟩]
        rw [s2, if_neg (by simpa using hlt), if_pos b1]; rfl
      · have s2 : fstep 1 (0, a.1, a.2.1) b = (0, a.1, a.2.1) := by unfold fstep; rw [if_neg (fun h => hlt h.2)]
        rw [s2, if_pos (by simpa using hlt)]; rfl
    · have s2 : fstep 1 (0, a.1, a.2.1) b = (0, a.1, a.2.1) := by unfold fstep; rw [if_neg (fun h => b1 h.1)]
      rw [s2, if_pos (by simpa using b1), bind2_some, if_pos rfl]; rfl
  · have s1 : fstep 0 (-1, 0, 0) a = (-1, 0, 0) := by unfold fstep; rw [if_neg (fun h => a1 h.1)]
    rw [s1, if_neg a1, bind2_some, if_neg (by simp)]
    by_cases b1 : b.2.2 = true
    · have s2 : fstep 1 (-1, 0, 0) b = (1, b.1, b.2.1) := by unfold fstep; rw [if_pos ⟨b1, by have := p1 b1; simp only; omega⟩]
      rw [s2, if_pos b1]; rfl
    · have s2 : fstep 1 (-1, 0, 0) b = (-1, 0, 0) := by unfold fstep; rw [if_neg (fun h => b1 h.1)]
      rw [s2, if_neg b1]; rfl
theorem rget_ok (h : RDisk w y G R D) (hc : RCellsAt w c y base count) (hb : D.Bt) (hbd : D.W.length < 900000) (i : Int) :
    ∃ w', grapevineref10_Cells_Get (some ⟨c, 0, none⟩) i w = some ((D.get base count i).1, (D.get base count i).2, w') ∧ ∀ S, Fr S w w' := by
  unfold grapevineref10_Cells_Get Dk.get
  by_cases h0 : i < 0
  · refine ⟨w, ?_, fun S => Fr.refl⟩
    rw [if_neg (by simp), if_pos (by simpa using h0), bind2_some, if_pos rfl, if_pos (.inl h0)]
  · by_cases h1 : count ≤ i
    · refine ⟨w, ?_, fun S => Fr.refl⟩
      rw [if_neg (by simp), if_neg (by simpa using h0), Option.bind_some, add_mk, Nat.zero_add, dread2 hc, Option.bind_some, decide_eq_true h1, bind2_some, if_pos rfl, if_pos (.inr h1)]
    · obtain ⟨w1, e1, f1⟩ := counts_ok h hc hb hbd (i := i) (by omega) (by omega)
      refine ⟨w1, ?_, f1⟩
      have hat := found_at D (base + 2 * i)
      have hd : decide (rcnt (D.found (base + 2 * i)) < 2) = decide (0 ≤ (D.found (base + 2 * i)).1) := by
        unfold rcnt
        split
        · rename_i h; rw [h]; rfl
        · rw [decide_eq_true (by omega), decide_eq_true (by omega)]
      rw [if_neg (by simp), if_neg (by simpa using h0), Option.bind_some, add_mk, Nat.zero_add, dread2 hc, Option.bind_some, decide_eq_false h1, bind2_some, if_neg (by simp), e1, bind4_some, if_neg (by omega), hd]
end
end Go.Proofs.Ytoanmomopcaikaa.D
