/- Blocks of memory: what is read and written, told by the blocks' contents. -/
import Derived.Test.YtejkaciimmfgcaaGlue
namespace Go.Proofs.Ytejkaciimmfgcaa.D
open Go
set_option linter.unusedVariables false
set_option linter.unusedSimpArgs false

/-- A block of cells of which none is frozen: its cells and their type. -/
def B (w : World) (b : Nat) : Option (List Value × TypeId) := match w.heap[b]? with | some (.cells c T fz) => if fz = (0, 0) then some (c.toList, T) else none | _ => none
def wr (w : World) (b : Nat) (cs : List Value) : World := { w with heap := w.heap.modify b fun | .cells _ T fz => .cells cs.toArray T fz | o => o }
theorem B_heap {w : World} {b : Nat} {cs : List Value} {T : TypeId} : B w b = some (cs, T) ↔ w.heap[b]? = some (.cells cs.toArray T (0, 0)) := by
  unfold B
  constructor
  · intro h
    split at h
    · rename_i c T' fz e
      split at h
      · rename_i hf; subst hf; cases h; simpa using e
      · cases h
    · cases h
  · intro h; rw [h]; simp
theorem B_lt {w : World} {b : Nat} {x : List Value × TypeId} (h : B w b = some x) : b < w.heap.size := by
  obtain ⟨cs, T⟩ := x
  exact (Array.getElem?_eq_some_iff.1 (B_heap.1 h)).1
theorem heap_modify_ne {w : World} {b k : Nat} {f : Obj → Obj} (h : k ≠ b) : (w.heap.modify b f)[k]? = w.heap[k]? := by
  rw [Array.getElem?_modify, if_neg (Ne.symm h)]
@[simp] theorem size_wr {w : World} {b : Nat} {cs : List Value} : (wr w b cs).heap.size = w.heap.size := by simp [wr]
theorem heap_wr_ne {w : World} {b k : Nat} {cs : List Value} (h : k ≠ b) : (wr w b cs).heap[k]? = w.heap[k]? := heap_modify_ne h
theorem B_wr {w : World} {b : Nat} {c cs : List Value} {T : TypeId} (h : B w b = some (c, T)) : B (wr w b cs) b = some (cs, T) := by
  rw [B_heap] at h ⊢
  simp [wr, Array.getElem?_modify, h]
theorem B_wr_ne {w : World} {b k : Nat} {cs : List Value} (h : k ≠ b) : B (wr w b cs) k = B w k := by
  unfold B; rw [heap_wr_ne h]
@[simp] theorem B_new {w : World} {cs : List Value} {T : TypeId} : B (w.alloc (.cells cs.toArray T)) w.heap.size = some (cs, T) := by
  rw [B_heap]; exact heap_alloc_new w _
theorem B_alloc {w : World} {o : Obj} {k : Nat} (h : k < w.heap.size) : B (w.alloc o) k = B w k := by
  unfold B; rw [Go.heap_alloc_old w o h]
@[simp] theorem B_drew {w : World} {k : Nat} : B w.drew k = B w k := rfl
@[simp] theorem wr_drew {w : World} {b : Nat} {cs : List Value} : wr w.drew b cs = (wr w b cs).drew := rfl
@[simp] theorem add_mk (b o n : Nat) : (⟨b, o, none⟩ : Addr).add n = ⟨b, o + n, none⟩ := by
  unfold Addr.add; split <;> simp_all
theorem cell_B {w : World} {b o : Nat} {cs : List Value} {T : TypeId} (h : B w b = some (cs, T)) : w.cell? ⟨b, o, none⟩ = cs[o]? := by
  simp [World.cell?, B_heap.1 h]
theorem frozen_B {w : World} {b o : Nat} {cs : List Value} {T : TypeId} (h : B w b = some (cs, T)) : w.frozen? ⟨b, o, none⟩ = false := by
  simp [World.frozen?, B_heap.1 h]
/-! ### Reads -/
section
variable {w : World} {b o : Nat} {cs : List Value} {T : TypeId}
theorem ldI_cell {k : IntKind} {a : Addr} {x : Int} (h : w.cell? a = some (.int k x)) : ldI k w a = some x := by simp [ldI, h]
theorem ldB_cell {a : Addr} {x : Bool} (h : w.cell? a = some (.bool x)) : ldB w a = some x := by simp [ldB, h]
theorem ldS_cell {a : Addr} {x : ByteArray} (h : w.cell? a = some (.string x)) : ldS w a = some x := by simp [ldS, h]
theorem ldP_cell {a : Addr} {x : Option Addr} (h : w.cell? a = some (.pointer x)) : ldP w a = some x := by simp [ldP, h]
theorem ldL_cell {a : Addr} {s : Sl} (h : w.cell? a = some s.v) : ldL w a = some s := by simp [ldL, h, Sl.v]
theorem ldM_cell {a : Addr} {x : Option Nat} (h : w.cell? a = some (.map x)) : ldM w a = some x := by simp [ldM, h]
theorem ldI_B {k : IntKind} {x : Int} (h : B w b = some (cs, T)) (hx : cs[o]? = some (.int k x)) : ldI k w ⟨b, o, none⟩ = some x := ldI_cell ((cell_B h).trans hx)
theorem ldB_B {x : Bool} (h : B w b = some (cs, T)) (hx : cs[o]? = some (.bool x)) : ldB w ⟨b, o, none⟩ = some x := ldB_cell ((cell_B h).trans hx)
theorem ldP_B {x : Option Addr} (h : B w b = some (cs, T)) (hx : cs[o]? = some (.pointer x)) : ldP w ⟨b, o, none⟩ = some x := ldP_cell ((cell_B h).trans hx)
theorem ldL_B {s : Sl} (h : B w b = some (cs, T)) (hx : cs[o]? = some s.v) : ldL w ⟨b, o, none⟩ = some s := ldL_cell ((cell_B h).trans hx)
theorem ldA_cells : ∀ (n : Nat) (w : World) (a : Addr) (i : Nat) (l : List Value), l.length = n → (∀ j v, l[j]? = some v → w.cell? (a.add (i + j)) = some v) → ldA n w a i = some l
  | 0, _, _, _, l, h, _ => by rw [List.eq_nil_of_length_eq_zero h]; rfl
  | n + 1, w, a, i, [], h, _ => by simp at h
  | n + 1, w, a, i, v :: l, h, hc => by
    have h0 := hc 0 v rfl
    simp only [Nat.add_zero] at h0
    simp only [ldA, h0, Option.bind_some]
    rw [ldA_cells n w a (i + 1) l (by simpa using h) (fun j u hu => by have := hc (j + 1) u (by simpa using hu); rwa [show i + (j + 1) = i + 1 + j by omega] at this)]
    rfl
theorem ldA_B {n : Nat} (h : B w b = some (cs, T)) (hn : o + n ≤ cs.length) : ldA n w ⟨b, o, none⟩ 0 = some ((cs.drop o).take n) := by
  refine ldA_cells n w _ 0 _ (by simp; omega) fun j v hv => ?_
  rw [List.getElem?_take] at hv
  split at hv
  · simp only [Nat.zero_add, add_mk]
    rw [cell_B h, ← hv, List.getElem?_drop]
  · cases hv
theorem ldN_cells (k : IntKind) : ∀ (n : Nat) (w : World) (a : Addr) (i : Nat) (l : List Int), l.length = n → (∀ j v, l[j]? = some v → w.cell? (a.add (i + j)) = some (.int k v)) → ldN k n w a i = some l
  | 0, _, _, _, l, h, _ => by rw [List.eq_nil_of_length_eq_zero h]; rfl
  | n + 1, w, a, i, [], h, _ => by simp at h
  | n + 1, w, a, i, v :: l, h, hc => by
    have h0 := hc 0 v rfl
    simp only [Nat.add_zero] at h0
    simp only [ldN, ldI_cell h0, Option.bind_some]
    rw [ldN_cells k n w a (i + 1) l (by simpa using h) (fun j u hu => by have := hc (j + 1) u (by simpa using hu); rwa [show i + (j + 1) = i + 1 + j by omega] at this)]
    rfl
/-! ### Writes -/
theorem setCell_wr {v : Value} (h : B w b = some (cs, T)) : w.setCell ⟨b, o, none⟩ v = wr w b (cs.set o v) := by
  have hh := B_heap.1 h
  have hb := B_lt h
  have e : w.heap.modify b (fun | .cells c elem frozen => .cells (if (none : Option Nat).isSome then c else c.setIfInBounds o v) elem frozen | o => o) = w.heap.modify b (fun | .cells _ T fz => .cells (cs.set o v).toArray T fz | o => o) := by
    apply Array.ext_getElem?
    intro i
    rw [Array.getElem?_modify, Array.getElem?_modify]
    by_cases hi : b = i
    · subst hi
      simp only [if_true, hh, Option.map_some]
      simp
    · simp [hi]
  simp only [World.setCell, wr]
  rw [← e]
  rfl
theorem stV_B {v : Value} (h : B w b = some (cs, T)) (ho : o < cs.length) (hv : v.oneCell' = true) : stV w ⟨b, o, none⟩ v = some (wr w b (cs.set o v)) := by
  unfold stV
  rw [if_pos ⟨hv, by rw [cell_B h, List.getElem?_eq_getElem ho]; rfl, frozen_B h⟩, setCell_wr h]
theorem wr_wr {c d : List Value} : wr (wr w b c) b d = wr w b d := by
  simp only [wr]
  congr 1
  apply Array.ext_getElem?
  intro i
  simp only [Array.getElem?_modify]
  by_cases hi : b = i
  · subst hi
    simp only [if_true, Option.map_map]
    congr 1
    funext x
    cases x <;> rfl
  · simp [hi]
theorem wr_self (h : B w b = some (cs, T)) : wr w b cs = w := by
  have hh := B_heap.1 h
  simp only [wr]
  have : (w.heap.modify b fun | .cells _ T fz => .cells cs.toArray T fz | o => o) = w.heap := by
    apply Array.ext_getElem?
    intro i
    rw [Array.getElem?_modify]
    by_cases hi : b = i
    · subst hi; simp [hh]
    · simp [hi]
  rw [this]
/-- vs in the place of what stands from o on. -/
def putL (cs : List Value) (o : Nat) (vs : List Value) : List Value := cs.take o ++ vs ++ cs.drop (o + vs.length)
theorem putL_length {vs : List Value} (ho : o + vs.length ≤ cs.length) : (putL cs o vs).length = cs.length := by
  simp [putL]; omega
theorem putL_set {v : Value} (ho : o < cs.length) : putL cs o [v] = cs.set o v := by
  simp only [putL, List.length_cons, List.length_nil, Nat.zero_add]
  rw [List.set_eq_take_append_cons_drop, if_pos ho]
  simp
theorem putL_cons {v : Value} {vs : List Value} (ho : o + (vs.length + 1) ≤ cs.length) : putL (cs.set o v) (o + 1) vs = putL cs o (v :: vs) := by
  simp only [putL, List.length_cons]
  have h1 : o < cs.length := by omega
  rw [List.take_succ_eq_append_getElem (by simpa using h1), List.take_set_of_le (Nat.le_refl _), List.drop_set_of_lt (by omega), List.getElem_set_self]
  simp [Nat.add_assoc, Nat.add_comm 1]
theorem stA_B : ∀ (vs : List Value) (i : Nat) (w : World) (cs : List Value), B w b = some (cs, T) → o + i + vs.length ≤ cs.length → (∀ v ∈ vs, v.oneCell' = true) → stA w ⟨b, o, none⟩ i vs = some (wr w b (putL cs (o + i) vs))
  | [], i, w, cs, h, ho, _ => by simp only [stA, putL]; simp [wr_self h]
  | v :: vs, i, w, cs, h, ho, hv => by
    simp only [List.length_cons] at ho
    simp only [stA, add_mk]
    rw [stV_B h (by omega) (hv v (by simp)), Option.bind_some, stA_B vs (i + 1) _ _ (B_wr h) (by simp; omega) (fun u hu => hv u (by simp [hu])), wr_wr]
    rw [show o + (i + 1) = o + i + 1 by omega, putL_cons (by omega)]
end
/-! ### What turns, and what stays -/
/-- Of the old blocks those outside S are as they were. -/
structure Fr (S : Nat → Prop) (w w' : World) : Prop where
  os : w'.os = w.os
  tape : w'.tape = w.tape
  output : w'.output = w.output
  size : w.heap.size ≤ w'.heap.size
  block : ∀ k, k < w.heap.size → ¬ S k → w'.heap[k]? = w.heap[k]?
section
variable {S : Nat → Prop} {w w' w'' : World}
theorem Fr.refl : Fr S w w := ⟨rfl, rfl, rfl, Nat.le_refl _, fun _ _ _ => rfl⟩
theorem Fr.trans (h : Fr S w w') (k : Fr S w' w'') : Fr S w w'' :=
  ⟨k.os.trans h.os, k.tape.trans h.tape, k.output.trans h.output, Nat.le_trans h.size k.size, fun i hi hs => (k.block i (Nat.lt_of_lt_of_le hi h.size) hs).trans (h.block i hi hs)⟩
/-- What is new may turn as well. -/
theorem Fr.trans_new {S' : Nat → Prop} (h : Fr S w w') (k : Fr S' w' w'') (hs : ∀ i, S' i → S i ∨ w.heap.size ≤ i) : Fr S w w'' :=
  ⟨k.os.trans h.os, k.tape.trans h.tape, k.output.trans h.output, Nat.le_trans h.size k.size, fun i hi hn => (k.block i (Nat.lt_of_lt_of_le hi h.size) fun h' => (hs i h').elim hn (fun h2 => by omega)).trans (h.block i hi hn)⟩
theorem Fr.mono {S' : Nat → Prop} (h : Fr S w w') (hs : ∀ i, S i → S' i ∨ w.heap.size ≤ i) : Fr S' w w' :=
  ⟨h.os, h.tape, h.output, h.size, fun i hi hn => h.block i hi fun h' => (hs i h').elim hn (fun h2 => by omega)⟩
theorem Fr.alloc (h : Fr S w w') (o : Obj) : Fr S w (w'.alloc o) :=
  h.trans ⟨rfl, rfl, rfl, by simp, fun k hk _ => Go.heap_alloc_old w' o hk⟩
theorem Fr.drew (h : Fr S w w') : Fr S w w'.drew := ⟨h.os, h.tape, h.output, h.size, h.block⟩
theorem Fr.wr (h : Fr S w w') {b : Nat} (hb : S b ∨ w.heap.size ≤ b) (cs : List Value) : Fr S w (wr w' b cs) :=
  h.trans_new (S' := fun k => k = b) ⟨rfl, rfl, rfl, by simp, fun k _ hk => heap_wr_ne hk⟩ (fun i hi => by subst hi; exact hb)
theorem Fr.B (h : Fr S w w') {k : Nat} {x : List Value × TypeId} (hk : B w k = some x) (hs : ¬ S k) : D.B w' k = some x := by
  have := h.block k (B_lt hk) hs
  unfold D.B at hk ⊢
  rwa [this]
theorem Fr.cell (h : Fr S w w') {a : Addr} {v : Value} (hc : w.cell? a = some v) (hs : ¬ S a.block) : w'.cell? a = some v := by
  have hb := World.block_lt_of_cell? w a hc
  exact (World.cell?_of_block (h.block a.block hb hs)).trans hc
theorem Fr.below {n : Nat} (h : Fr S w w') (hn : n ≤ w.heap.size) (hs : ∀ i, S i → n ≤ i) : Go.RowKit.Below n w w' :=
  ⟨h.os, h.tape, h.output, h.size, fun k hk => h.block k (by omega) fun h' => by have := hs k h'; omega⟩
end
/-! ### Slices that are read -/
/-- The cells of a slice's elements (of sz cells each). -/
structure Rd (w : World) (s : Sl) (sz : Nat) (cs : List Value) : Prop where
  len : cs.length = s.n * sz
  at_ : 0 < s.n → ∃ a, s.p = some a ∧ ∀ j v, cs[j]? = some v → w.cell? (a.add j) = some v
theorem Rd.of_B {w : World} {g o n c sz : Nat} {cs : List Value} {T : TypeId} (h : B w g = some (cs, T)) (hn : o + n * sz ≤ cs.length) : Rd w ⟨some ⟨g, o, none⟩, n, c⟩ sz ((cs.drop o).take (n * sz)) :=
  ⟨by simp; omega, fun _ => ⟨_, rfl, fun j v hv => by
    rw [List.getElem?_take] at hv
    split at hv
    · rw [add_mk, cell_B h, ← hv, List.getElem?_drop]
    · cases hv⟩⟩
theorem Rd.fr {S : Nat → Prop} {w w' : World} {s : Sl} {sz : Nat} {cs : List Value} (h : Rd w s sz cs) (hf : Fr S w w') (hs : ∀ a, s.p = some a → 0 < s.n → ¬ S a.block) : Rd w' s sz cs :=
  ⟨h.len, fun hn => by
    obtain ⟨a, e, hc⟩ := h.at_ hn
    exact ⟨a, e, fun j v hv => hf.cell (hc j v hv) (by have : (a.add j).block = a.block := by unfold Addr.add; split <;> rfl
                                                       rw [this]; exact hs a e hn)⟩⟩
theorem Rd.nil {w : World} {s : Sl} {sz : Nat} (h : s.n = 0) : Rd w s sz [] := ⟨by simp [h], fun h' => by omega⟩
theorem Rd.ix {w : World} {s : Sl} {sz : Nat} {cs : List Value} (h : Rd w s sz cs) {i : Nat} (hi : i < s.n) : ∃ a, ix s i sz = some a ∧ ∀ j v, j < sz → cs[i * sz + j]? = some v → w.cell? (a.add j) = some v := by
  obtain ⟨a, e, hc⟩ := h.at_ (by omega)
  refine ⟨a.add (i * sz), by unfold D.ix; rw [e, Option.bind_some, if_pos ⟨by omega, by omega⟩]; simp, fun j v hj hv => ?_⟩
  have := hc _ _ hv
  have e2 : (a.add (i * sz)).add j = a.add (i * sz + j) := by
    unfold Addr.add
    split
    · split <;> simp_all
    · split
      · simp_all
      · rw [if_neg (by omega)]; simp [Nat.add_assoc]
  rwa [e2]
def nums (k : IntKind) (xs : List Int) : List Value := xs.map fun x => .int k x
@[simp] theorem nums_length {k : IntKind} {xs : List Int} : (nums k xs).length = xs.length := by simp [nums]
theorem nums_one {k : IntKind} {xs : List Int} : ∀ v ∈ nums k xs, v.oneCell' = true := by
  intro v hv
  obtain ⟨x, _, rfl⟩ := List.mem_map.1 hv
  rfl
theorem nums_get {k : IntKind} {xs : List Int} {j : Nat} : (nums k xs)[j]? = (xs[j]?).map fun x => .int k x := by simp [nums]
theorem b2s_Rd {w : World} {s : Sl} {xs : List Int} (h : Rd w s 1 (nums .u8 xs)) : b2s s w = some (strOfNums xs) := by
  have hl := h.len
  simp only [nums_length, Nat.mul_one] at hl
  unfold b2s
  cases hp : s.p with
  | none =>
    have : s.n = 0 := by
      rcases Nat.eq_zero_or_pos s.n with h0 | h0
      · exact h0
      · obtain ⟨a, e, _⟩ := h.at_ h0; rw [hp] at e; cases e
    rw [this] at hl
    rw [List.eq_nil_of_length_eq_zero hl]
    rfl
  | some a =>
    simp only
    rw [ldN_cells .u8 s.n w a 0 xs hl (fun j v hv => by
      have hn : 0 < s.n := by
        have := (List.getElem?_eq_some_iff.1 hv).1; omega
      obtain ⟨a', e, hc⟩ := h.at_ hn
      rw [hp] at e; cases e
      simpa using hc j (.int .u8 v) (by rw [nums_get, hv]; rfl))]
    rfl
end Go.Proofs.Ytejkaciimmfgcaa.D
