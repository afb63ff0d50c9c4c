/- mark.Cells: found, Get, Count, Open, told of the disk's model. -/
import Derived.Test.YtoanmomopcaikaaWhole
namespace Go.Proofs.Ytoanmomopcaikaa.D
open Go
set_option linter.unusedVariables false
set_option linter.unusedSimpArgs false
/-! ### The model -/
/-- All bytes are bytes. -/
structure Dk.Bt (D : Dk) : Prop where
  s : ∀ x ∈ D.S, Bytes x
  w : ∀ x ∈ D.W, Bytes x.2
def fstep (k : Int) (s : Int × Int × Int) (r : Int × Int × Bool) : Int × Int × Int := if r.2.2 = true ∧ s.2.1 < r.1 then (k, r.1, r.2.1) else s
def Dk.found (D : Dk) (j : Int) : Int × Int × Int := fstep 1 (fstep 0 (-1, 0, 0) (whole (D.read j).1)) (whole (D.read (j + 1)).1)
section
variable {w w' : World} {x c : Nat} {F : Nat → Prop} {D : Dk} {base count : Int}
theorem fold_bytes {i : Int} : ∀ (W : List (Int × List Int)) (b : List Int), (∀ x ∈ W, Bytes x.2) → Bytes b → Bytes (W.foldl (fun b x => if x.1 = i then x.2 else b) b)
  | [], _, _, hb => hb
  | x :: W, b, h, hb => by
    rw [List.foldl_cons]
    refine fold_bytes W _ (fun y hy => h y (by simp [hy])) ?_
    split
    · exact h x (by simp)
    · exact hb
theorem getD_bytes {S : List (List Int)} {i : Nat} (h : ∀ x ∈ S, Bytes x) : Bytes (S.getD i []) := by
  rw [List.getD_eq_getElem?_getD]
  cases e : S[i]? with
  | none => intro b hb; simp at hb
  | some y => exact h y (List.mem_of_getElem? e)
theorem read_bytes (h : D.Bt) (i : Int) : Bytes (D.read i).1 := by
  unfold Dk.read
  split; · intro b hb; simp at hb
  split; · intro b hb; simp at hb
  exact fold_bytes D.W _ h.w (getD_bytes h.s)
theorem read_len (h : D.Wf) (i : Int) : (D.read i).1.length ≤ 64 := by
  unfold Dk.read
  split; · simp
  split
  · simp
  · rename_i hb
    rw [Dk.cur, cur_len h (by simpa using hb) _ _ h.w64 (getS_len h (by simpa using hb))]
    exact Nat.le_refl _
/-! ### Its memory -/
def cellsC (x : Nat) (base count : Int) : List Value := [.pointer (some ⟨x, 0, none⟩), .int .i64 base, .int .i64 count]
structure CellsAt (w : World) (c x : Nat) (base count : Int) : Prop where
  blk : B w c = some (cellsC x base count, 99)
  b0 : 0 ≤ base
  b1 : base ≤ 512
  n0 : 1 ≤ count
  n1 : count ≤ 32
theorem CellsAt.fr {S : Nat → Prop} (h : CellsAt w c x base count) (hf : Fr S w w') (hs : ¬ S c) : CellsAt w' c x base count := ⟨hf.B h.blk hs, h.b0, h.b1, h.n0, h.n1⟩
theorem CellsAt.all (h : CellsAt w c x base count) (hf : ∀ S, Fr S w w') : CellsAt w' c x base count := h.fr (hf (fun _ => False)) id
theorem cread0 (h : CellsAt w c x base count) : ldP w ⟨c, 0, none⟩ = some (some ⟨x, 0, none⟩) := ldP_B h.blk rfl
theorem cread1 (h : CellsAt w c x base count) : ldI .i64 w ⟨c, 1, none⟩ = some base := ldI_B h.blk rfl
theorem cread2 (h : CellsAt w c x base count) : ldI .i64 w ⟨c, 2, none⟩ = some count := ldI_B h.blk rfl
theorem Disk.all (h : Disk w x F D) (hf : ∀ S, Fr S w w') : Disk w' x F D := h.fr (hf (fun _ => False)) (fun _ _ h => h)
theorem found_step (h : Disk w x F D) (hc : CellsAt w c x base count) (hb : D.Bt) (hbd : D.W.length < 900000) {i : Int} (i0 : 0 ≤ i) (i1 : i < count) {k : Nat} (hk : k < 2) (s : Int × Int × Int) :
    ∃ w', mark_Cells_found_l1 (some ⟨c, 0, none⟩) i s.1 s.2.1 s.2.2 (k : Int) w = some (.inl ((fstep k s (whole (D.read (base + 2 * i + k)).1)).1, (fstep k s (whole (D.read (base + 2 * i + k)).1)).2.1, (fstep k s (whole (D.read (base + 2 * i + k)).1)).2.2, ((k + 1 : Nat) : Int), w')) ∧ ∀ S, Fr S w w' := by
  have hb0 := hc.b0
  have hb1 := hc.b1
  have hn1 := hc.n1
  obtain ⟨w1, e1, _, g1, _, _⟩ := dr_s (w := w)
  have f1 : ∀ S, Fr S w w1 := fun S => (g1 w.heap.size S).fr
  have c1 := hc.all f1
  obtain ⟨o, w2, e2, r2⟩ := (h.all f1).read (i := base + 2 * i + k) (by omega)
  have rl := read_len h.wf (base + 2 * i + k)
  obtain ⟨w3, e3, f3⟩ := mwhole_ok r2.rd (read_bytes hb _) r2.cap (by rw [r2.n]; omega)
  refine ⟨w3, ?_, fun S => ((f1 S).trans (r2.fr S)).trans (f3 S)⟩
  have hlt : decide ((k : Int) < 2) = true := by simp; omega
  have hwr : IntKind.wrap .i64 (IntKind.wrap .i64 (base + IntKind.wrap .i64 (2 * i)) + (k : Int)) = base + 2 * i + k := by
    rw [IntKind.wrap_i64, IntKind.wrap_i64, IntKind.wrap_i64]; omega
  unfold mark_Cells_found_l1
  rw [if_pos hlt, e1, Option.bind_some, Option.bind_some, add_mk, Nat.zero_add, cread0 c1, Option.bind_some, add_mk, Nat.zero_add, cread1 c1, Option.bind_some, hwr, e2, bind3_some, e3, bind4_some]
  obtain ⟨r, hr⟩ : ∃ r, whole (D.read (base + 2 * i + k)).1 = r := ⟨_, rfl⟩
  rw [hr]
  have hwk := wrap_nat (show k < 9223372036854775807 by omega)
  by_cases h1 : r.2.2 = true
  · rw [if_pos h1, bind2_some]
    by_cases h2 : s.2.1 < r.1
    · have : fstep k s r = ((k : Int), r.1, r.2.1) := by unfold fstep; rw [if_pos ⟨h1, h2⟩]
      rw [if_pos (by simpa using h2), bind4_some, this, hwk]
    · have : fstep k s r = s := by unfold fstep; rw [if_neg (fun h => h2 h.2)]
      rw [if_neg (by simpa using h2), bind4_some, this, hwk]
  · have : fstep k s r = s := by unfold fstep; rw [if_neg (fun h => h1 h.1)]
    rw [if_neg h1, bind2_some, if_neg (by simp), bind4_some, this, hwk]
theorem found_ok (h : Disk w x F D) (hc : CellsAt w c x base count) (hb : D.Bt) (hbd : D.W.length < 900000) {i : Int} (i0 : 0 ≤ i) (i1 : i < count) :
    ∃ w', mark_Cells_found (some ⟨c, 0, none⟩) i w = some ((D.found (base + 2 * i)).1, (D.found (base + 2 * i)).2.1, (D.found (base + 2 * i)).2.2, w') ∧ ∀ S, Fr S w w' := by
  obtain ⟨w1, e1, f1⟩ := found_step h hc hb hbd i0 i1 (k := 0) (by omega) (-1, 0, 0)
  obtain ⟨w2, e2, f2⟩ := found_step (h.all f1) (hc.all f1) hb hbd i0 i1 (k := 1) (by omega) (fstep (0 : Nat) (-1, 0, 0) (whole (D.read (base + 2 * i + (0 : Nat))).1))
  refine ⟨w2, ?_, fun S => (f1 S).trans (f2 S)⟩
  have h0 : base + 2 * i + ((0 : Nat) : Int) = base + 2 * i := by omega
  have hD : D.found (base + 2 * i) = fstep (1 : Nat) (fstep (0 : Nat) (-1, 0, 0) (whole (D.read (base + 2 * i + (0 : Nat))).1)) (whole (D.read (base + 2 * i + (1 : Nat))).1) := by
    rw [h0]; rfl
  rw [hD]
  unfold mark_Cells_found
  have l1 : loopF (fun s : Int × Int × Int × Int × World => mark_Cells_found_l1 (some ⟨c, 0, none⟩) i s.1 s.2.1 s.2.2.1 s.2.2.2.1 s.2.2.2.2) ((-1), 0, 0, 0, w) = _ := loopF_next e1
  rw [l1]
  have l2 : loopF (fun s : Int × Int × Int × Int × World => mark_Cells_found_l1 (some ⟨c, 0, none⟩) i s.1 s.2.1 s.2.2.1 s.2.2.2.1 s.2.2.2.2) ((fstep (0 : Nat) (-1, 0, 0) (whole (D.read (base + 2 * i + (0 : Nat))).1)).1, (fstep (0 : Nat) (-1, 0, 0) (whole (D.read (base + 2 * i + (0 : Nat))).1)).2.1, (fstep (0 : Nat) (-1, 0, 0) (whole (D.read (base + 2 * i + (0 : Nat))).1)).2.2, ((0 + 1 : Nat) : Int), w1) = _ := loopF_next e2
  rw [l2, loopF_done (r := ((fstep (1 : Nat) (fstep (0 : Nat) (-1, 0, 0) (whole (D.read (base + 2 * i + (0 : Nat))).1)) (whole (D.read (base + 2 * i + (1 : Nat))).1)).1, (fstep (1 : Nat) (fstep (0 : Nat) (-1, 0, 0) (whole (D.read (base + 2 * i + (0 : Nat))).1)) (whole (D.read (base + 2 * i + (1 : Nat))).1)).2.1, (fstep (1 : Nat) (fstep (0 : Nat) (-1, 0, 0) (whole (D.read (base + 2 * i + (0 : Nat))).1)) (whole (D.read (base + 2 * i + (1 : Nat))).1)).2.2, w2)) ?_, bind4_some]
  unfold mark_Cells_found_l1
  rw [if_neg (by simp)]
def Dk.get (D : Dk) (base count i : Int) : Int × Bool := if i < 0 ∨ count ≤ i then (0, false) else ((D.found (base + 2 * i)).2.2, decide (0 ≤ (D.found (base + 2 * i)).1))
theorem get_ok (h : Disk w x F D) (hc : CellsAt w c x base count) (hb : D.Bt) (hbd : D.W.length < 900000) (i : Int) :
    ∃ w', mark_Cells_Get (some ⟨c, 0, none⟩) i w = some ((D.get base count i).1, (D.get base count i).2, w') ∧ ∀ S, Fr S w w' := by
  unfold mark_Cells_Get Dk.get
  by_cases h0 : i < 0
  · refine ⟨w, ?_, fun S => Fr.refl⟩
    rw [if_neg (by simp), if_pos (by simpa using h0), bind2_some, if_pos rfl, if_pos (.inl h0)]
  · by_cases h1 : count ≤ i
    · refine ⟨w, ?_, fun S => Fr.refl⟩
      rw [if_neg (by simp), if_neg (by simpa using h0), Option.bind_some, add_mk, Nat.zero_add, cread2 hc, Option.bind_some, decide_eq_true h1, bind2_some, if_pos rfl, if_pos (.inr h1)]
    · obtain ⟨w1, e1, f1⟩ := found_ok h hc hb hbd (i := i) (by omega) (by omega)
      refine ⟨w1, ?_, f1⟩
      rw [if_neg (by simp), if_neg (by simpa using h0), Option.bind_some, add_mk, Nat.zero_add, cread2 hc, Option.bind_some, decide_eq_false h1, bind2_some, if_neg (by simp), e1, bind4_some, if_neg (by omega)]
theorem count_ok (hc : CellsAt w c x base count) : mark_Cells_Count (some ⟨c, 0, none⟩) w = some (count, w) := by
  unfold mark_Cells_Count
  rw [if_neg (by simp), Option.bind_some, add_mk, Nat.zero_add, cread2 hc, Option.bind_some]
/-- Which cells a disk may have. -/
def mayOpen (n base count : Int) : Bool := decide (1 ≤ count) && decide (count ≤ 32) && decide (0 ≤ base) && decide (base ≤ n - 2 * count)
theorem open_test (h : Disk w x F D) (hi : -9223372036854775808 ≤ count ∧ count ≤ 9223372036854775807) : (if decide (count < 1) = true then some (true, w) else if decide (32 < count) = true then some (true, w) else if decide (base < 0) = true then some (true, w) else
      bind2 (sector_Disk_Size (some ⟨x, 0, none⟩) w) fun v9 w10 => some ((decide ((IntKind.wrap .i64 (v9 - (IntKind.wrap .i64 (2 * count)))) < base)), w10)) = some (!mayOpen D.S.length base count, w) := by
  have hn := h.wf.n
  have hb : ∀ b : Bool, ∀ p : Prop, [Decidable p] → (b = true ↔ p) → b = decide p := fun b p _ hh => by
    cases b
    · exact (decide_eq_false (fun hp => by simpa using hh.2 hp)).symm
    · exact (decide_eq_true (hh.1 rfl)).symm
  have hm : mayOpen D.S.length base count = decide (1 ≤ count ∧ count ≤ 32 ∧ 0 ≤ base ∧ base ≤ D.S.length - 2 * count) := hb _ _ (by simp [mayOpen, and_assoc])
  rw [hm]
  by_cases h1 : count < 1
  · rw [if_pos (by simpa using h1), decide_eq_false (by omega)]; rfl
  by_cases h2 : 32 < count
  · rw [if_neg (by simpa using h1), if_pos (by simpa using h2), decide_eq_false (by omega)]; rfl
  by_cases h3 : base < 0
  · rw [if_neg (by simpa using h1), if_neg (by simpa using h2), if_pos (by simpa using h3), decide_eq_false (by omega)]; rfl
  have hwr : IntKind.wrap .i64 ((D.S.length : Int) - IntKind.wrap .i64 (2 * count)) = D.S.length - 2 * count := by rw [IntKind.wrap_i64, IntKind.wrap_i64]; omega
  rw [if_neg (by simpa using h1), if_neg (by simpa using h2), if_neg (by simpa using h3), h.size, bind2_some, hwr]
  by_cases h4 : base ≤ D.S.length - 2 * count
  · rw [decide_eq_false (show ¬ (D.S.length : Int) - 2 * count < base by omega), decide_eq_true (by omega)]; rfl
  · rw [decide_eq_true (show (D.S.length : Int) - 2 * count < base by omega), decide_eq_false (by omega)]; rfl
theorem open_no (h : Disk w x F D) (hi : -9223372036854775808 ≤ count ∧ count ≤ 9223372036854775807) (hm : mayOpen D.S.length base count = false) : mark_Open (some ⟨x, 0, none⟩) base count w = some (none, 2, w) := by
  unfold mark_Open
  rw [if_neg (by simp), open_test h hi, bind2_some, hm, if_pos (by simp)]
theorem open_yes (h : Disk w x F D) (hi : -9223372036854775808 ≤ count ∧ count ≤ 9223372036854775807) (hm : mayOpen D.S.length base count = true) : ∃ c w', mark_Open (some ⟨x, 0, none⟩) base count w = some (some ⟨c, 0, none⟩, 0, w') ∧ CellsAt w' c x base count ∧ w.heap.size ≤ c ∧ ∀ S, Fr S w w' := by
  have hn := h.wf.n
  have hr : 1 ≤ count ∧ count ≤ 32 ∧ 0 ≤ base ∧ base ≤ D.S.length - 2 * count := by simpa [mayOpen, and_assoc] using hm
  obtain ⟨w1, e1, n1⟩ := mk_s (w := w) (T := 99) (cs := cellsC x base count)
  refine ⟨_, w1, ?_, ⟨n1.b, by omega, by omega, by omega, by omega⟩, Nat.le_refl _, fun S => (n1.fr _ S (Nat.le_refl _)).fr⟩
  have e1' : mk w 99 [.pointer (some ⟨x, 0, none⟩), .int .i64 base, .int .i64 count] = some (⟨w.heap.size, 0, none⟩, w1) := e1
  unfold mark_Open
  rw [if_neg (by simp), open_test h hi, bind2_some, hm, if_neg (by simp), e1', bind2_some]
end
end Go.Proofs.Ytoanmomopcaikaa.D
