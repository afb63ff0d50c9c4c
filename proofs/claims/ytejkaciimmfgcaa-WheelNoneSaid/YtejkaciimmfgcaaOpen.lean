/- Arguments: what their reading tells of them. -/
import Derived.Test.YtejkaciimmfgcaaSlice
import Derived.ChangeSlices
namespace Go.Proofs.Ytejkaciimmfgcaa.D
open Go
set_option linter.unusedVariables false
set_option linter.unusedSimpArgs false
section
variable {w w' : World} {n : Nat} {F : Nat → Prop}
/-- A slice whose cells lie outside F. -/
def Out (F : Nat → Prop) (s : Sl) : Prop := ∀ a, s.p = some a → 0 < s.n → ¬ F a.block
theorem Out.nil : Out F Sl.nil := fun a ha => by cases ha
/-- What an argument's slice has, in blocks below n. -/
structure Arg (n : Nat) (w : World) (s : Sl) (sz : Nat) (cs : List Value) : Prop where
  rd : Rd w s sz cs
  lo : ∀ a, s.p = some a → 0 < s.n → a.block < n
theorem Arg.fr {s : Sl} {sz : Nat} {cs : List Value} (h : Arg n w s sz cs) (hf : Fr (fun k => n ≤ k) w w') : Arg n w' s sz cs :=
  ⟨h.rd.fr hf (fun a ha h0 => by have := h.lo a ha h0; omega), h.lo⟩
theorem Arg.out {s : Sl} {sz : Nat} {cs : List Value} (h : Arg n w s sz cs) : Out (fun k => n ≤ k) s := fun a ha h0 hk => by have := h.lo a ha h0; omega
end
theorem add_add' (a : Addr) (i j : Nat) : (a.add i).add j = a.add (i + j) := by
  unfold Addr.add
  by_cases hi : i = 0 <;> by_cases hj : j = 0 <;> simp [hi, hj, Nat.add_assoc]
theorem cell_lt {w : World} {a : Addr} {v : Value} (h : w.cell? a = some v) : a.block < w.heap.size := by
  rcases Nat.lt_or_ge a.block w.heap.size with h' | h'
  · exact h'
  · simp [World.cell?, Array.getElem?_eq_none h'] at h
theorem arg_of {w : World} {s : Sl} {sz : Nat} {cs : List Value} (h : Rd w s sz cs) (hz : 0 < sz) : Arg w.heap.size w s sz cs := by
  refine ⟨h, fun a ha h0 => ?_⟩
  obtain ⟨a', ha', hc⟩ := h.at_ h0
  rw [ha] at ha'; cases ha'
  have hl : 0 < cs.length := by rw [h.len]; exact Nat.mul_pos h0 hz
  have := cell_lt (hc 0 cs[0] (by simp [hl]))
  rwa [show (a.add 0) = a by simp [Addr.add]] at this
section
variable {H : Type} {enc : TypeId × Value → H} {P : Program} {w : World} {base fuel : Nat} {spare : Nat → Bool} {held : Bool} {t e : TypeId} {cs : List Value} {x : DataW H × List MemPlace}
theorem open_nums {k : IntKind} (ht : P.underlying t = some (.slice e)) (he : P.underlying e = some (.int k)) (hc : P.cellsOf e = 1) (h : DataW.trod enc P w base spare held fuel t cs = some x) :
    ∃ s xs, cs = [Sl.v s] ∧ Rd w s 1 (nums k xs) ∧ (∀ n ∈ xs, (Lit.int k n).wf = true) ∧ s.n ≤ s.c ∧ s.c ≤ maxLen := by
  rcases ChangeShapes.open_ints ht he hc h with ⟨rfl, _⟩ | ⟨a, len, cap, zs, rfl, _, hl, hm, hz, _, hcell, hw⟩
  · exact ⟨Sl.nil, [], rfl, Rd.nil rfl, by simp, Nat.le_refl _, Nat.zero_le _⟩
  · have hle : len ≤ zs.length := by rw [hz]; split <;> omega
    refine ⟨⟨some a, len, cap⟩, zs.take len, rfl, ⟨by simp; omega, fun _ => ⟨a, rfl, fun j v hv => ?_⟩⟩, fun n hn => hw n (List.mem_of_mem_take hn), hl, hm⟩
    rw [nums_get, List.getElem?_take] at hv
    split at hv
    · rename_i hj
      have := hcell j (by omega)
      rw [List.getElem?_eq_getElem (by omega)] at hv
      simp only [Option.map_some, Option.some.injEq] at hv
      rw [this, ← hv, List.getD_eq_getElem?_getD, List.getElem?_eq_getElem (by omega)]; rfl
    · cases hv
theorem open_elems {sz : Nat} (ht : P.underlying t = some (.slice e)) (hc : P.cellsOf e = sz) (hsz : 0 < sz) (h : DataW.trod enc P w base spare held fuel t cs = some x) :
    ∃ (s : Sl) (L : List (List Value)), cs = [Sl.v s] ∧ L.length = s.n ∧ (∀ c ∈ L, c.length = sz) ∧ Rd w s sz L.flatten ∧ (∀ c ∈ L, ∃ m y, DataW.trod enc P w base spare held m e c = some y) ∧ s.n ≤ s.c ∧ s.c ≤ maxLen := by
  subst hc
  rcases DataW.trod_slice ht h with ⟨rfl, _⟩ | ⟨a, len, cap, elems, rest, m, _, rfl, _, hb, hl, hm, hlen, hel, _, _⟩
  · exact ⟨Sl.nil, [], rfl, rfl, by simp, Rd.nil rfl, by simp, Nat.le_refl _, Nat.zero_le _⟩
  · have each : ∀ i, i < len → ∃ c, w.cells? base (a.add (i * P.cellsOf e)) (P.cellsOf e) = some c ∧ c.length = P.cellsOf e ∧ (∃ y, DataW.trod enc P w base spare held m e c = some y) ∧ ∀ j v, c[j]? = some v → w.cell? (a.add (i * P.cellsOf e + j)) = some v := by
      intro i hi
      have := hel i hi
      rw [List.getElem?_eq_getElem (by omega)] at this
      obtain ⟨c, hc, hy⟩ := Option.bind_eq_some_iff.1 this
      have hk := World.cells?_some hc
      refine ⟨c, hc, hk.2.1, ⟨_, hy⟩, fun j v hv => ?_⟩
      have hj : j < P.cellsOf e := by have := (List.getElem?_eq_some_iff.1 hv).1; rw [hk.2.1] at this; exact this
      have h2 := hk.2.2 j hj
      have h3 : (a.add (i * P.cellsOf e)).add j = a.add (i * P.cellsOf e + j) := add_add' _ _ _
      rw [← h3]
      first | exact h2.trans hv | (rw [h2]; exact hv)
    have main : ∀ m', m' ≤ len → ∃ L : List (List Value), L.length = m' ∧ (∀ c ∈ L, c.length = P.cellsOf e) ∧ (∀ c ∈ L, ∃ m y, DataW.trod enc P w base spare held m e c = some y) ∧ ∀ j v, L.flatten[j]? = some v → w.cell? (a.add j) = some v := by
      intro m'
      induction m' with
      | zero => intro _; exact ⟨[], rfl, by simp, by simp, by simp⟩
      | succ m' ih =>
        intro hm'
        obtain ⟨L, l1, l2, l3, l4⟩ := ih (by omega)
        obtain ⟨c, c1, c2, c3, c4⟩ := each m' (by omega)
        have hfl : L.flatten.length = m' * P.cellsOf e := by
          rw [← l1]; clear l1 l3 l4 ih
          induction L with
          | nil => simp
          | cons b L ih => rw [List.flatten_cons, List.length_append, l2 b (by simp), ih (fun q hq => l2 q (by simp [hq])), List.length_cons, Nat.succ_mul]; omega
        refine ⟨L ++ [c], by simp [l1], ?_, ?_, ?_⟩
        · intro d hd
          simp only [List.mem_append, List.mem_singleton] at hd
          rcases hd with hd | rfl
          · exact l2 d hd
          · exact c2
        · intro d hd
          simp only [List.mem_append, List.mem_singleton] at hd
          rcases hd with hd | rfl
          · exact l3 d hd
          · exact ⟨m, c3⟩
        · intro j v hv
          rw [List.flatten_append, List.flatten_singleton] at hv
          rcases Nat.lt_or_ge j L.flatten.length with hj | hj
          · rw [List.getElem?_append_left hj] at hv; exact l4 j v hv
          · rw [List.getElem?_append_right hj] at hv
            have := c4 _ v hv
            rwa [← hfl, Nat.add_sub_cancel' hj] at this
    obtain ⟨L, l1, l2, l3, l4⟩ := main len (Nat.le_refl _)
    have hfl : L.flatten.length = len * P.cellsOf e := by
      rw [← l1]; clear l1 l3 l4
      induction L with
      | nil => simp
      | cons b L ih => rw [List.flatten_cons, List.length_append, l2 b (by simp), ih (fun q hq => l2 q (by simp [hq])), List.length_cons, Nat.succ_mul]; omega
    exact ⟨⟨some a, len, cap⟩, L, rfl, l1, l2, ⟨hfl, fun _ => ⟨a, rfl, l4⟩⟩, l3, hl, hm⟩
end
end Go.Proofs.Ytejkaciimmfgcaa.D
