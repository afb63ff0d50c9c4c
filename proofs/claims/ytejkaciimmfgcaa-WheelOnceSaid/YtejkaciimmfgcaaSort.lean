/- slices.SortFunc of due timers, by the library's contract. -/
import Derived.Test.YtejkaciimmfgcaaDue
import Derived.Shelf.Lay
import Derived.Shelf.SlSortCmp.NoneTotal
namespace Go.Proofs
open Go.Shelf
shelf_lay_g SlLaysF.n6 Slsf 6 at Try 55 as Try.sortDueL
end Go.Proofs
namespace Go.Proofs.Ytejkaciimmfgcaa.D
open Go Go.Shelf Go.RowKit Go.Lib Go.Sort
set_option linter.unusedVariables false
set_option linter.unusedSimpArgs false
/-- The timers' numbers in an own slice are sorted by their ticks and themselves. -/
structure DueP (s : Sl) (p : Addr) (w : World) (l : List (Fin 65)) (f : Fin 65 → Int) : Prop where
  own : Own w 3 s 1 (l.map encF)
  pb : ∃ b T q T' cs, p = ⟨b, 0, none⟩ ∧ ¬ s.blk b ∧ ¬ s.blk q ∧ B w b = some ([.pointer (some ⟨q, 0, none⟩)], T) ∧ B w q = some (cs, T') ∧ ∀ i : Fin 65, cs[1 + i.val]? = some (.int .i64 (f i))
  rng : ∀ i, 0 ≤ f i ∧ f i ≤ 1099511627776
  len : s.n < 4611686018427387904
noncomputable def sortDue (s : Sl) (p : Addr) (w : World) : ND World :=
  ⟨fun Q => ∃ l f, DueP s p w l f ∧ ∀ w', Own w' 3 s 1 ((sortD f l).map encF) → Fr s.blk w w' → Q w', fun h ⟨l, f, h1, h2⟩ => ⟨l, f, h1, fun w' a b => h _ (h2 w' a b)⟩⟩
theorem sortW_B {w : World} {b m : Nat} {os : Array Obj} {l l' : List (Fin 65)} {rest : List Value} {T : TypeId} (h : B w b = some (l.map encF ++ rest, T)) (hl : l'.length = l.length) :
    B (sortWorld encF w b 0 m l'.toArray os) b = some (l'.map encF ++ rest, T) := by
  have hb : b < w.heap.size := B_lt h
  rw [B_heap] at h ⊢
  have h1 : (putRow encF (Sort.ahead w m) b 0 l'.toArray).heap[b]? = some (.cells (l'.map encF ++ rest).toArray T (0, 0)) := by
    unfold putRow mapBlock
    simp only [Sort.ahead, Array.getElem?_modify, h, if_true, Option.map_some, onCells]
    congr 2
    unfold putCells
    apply Array.ext_getElem?
    intro k
    simp only [Array.getElem?_mapIdx, List.getElem?_toArray, List.size_toArray, Nat.zero_le, true_and, Nat.zero_add, Nat.sub_zero]
    by_cases hk : k < l'.length
    · rw [List.getElem?_append_left (by simpa [← hl] using hk), List.getElem?_append_left (by simpa using hk), List.getElem?_map, List.getElem?_map, List.getElem?_eq_getElem hk, List.getElem?_eq_getElem (by omega)]
      simp [hk]
    · rw [List.getElem?_append_right (by simp; omega), List.getElem?_append_right (by simp; omega)]
      have hk' : ¬ k < l.length := by omega
      simp [hk', hl]
  unfold sortWorld
  rw [heap_grow_old _ _ (by simpa [Sort.ahead] using hb)]
  exact h1
theorem sortW_o {w : World} {b m k : Nat} {os : Array Obj} {d : Array (Fin 65)} (hk : k < w.heap.size) (hn : k ≠ b) : (sortWorld encF w b 0 m d os).heap[k]? = w.heap[k]? := by
  unfold sortWorld
  rw [heap_grow_old _ _ (by simpa [Sort.ahead] using hk)]
  unfold putRow mapBlock
  simp only [Sort.ahead, Array.getElem?_modify]
  rw [if_neg (fun e => hn e.symm)]
theorem sortDue_ok {a0 : Sl} {a1 : Addr} {w : World} {Q : World → Prop} (h : (sortDue a0 a1 w).t Q) : Calls Try.prog 55 #[(Sl.v a0), (.func (.func 56) #[] #[(.pointer (some a1))])] w fun e w'' => ∃ i, e = .returned (.tuple #[]) ∧ Q i ∧ w'' = i := by
  obtain ⟨l, f, ⟨ho, ⟨b, T, q, T', cs, rfl, hsb, hsq, hB, hq, hc⟩, hr, hlen⟩, h⟩ := h
  have hn : l.length = a0.n := by have := ho.len; simpa using this
  rcases Nat.eq_zero_or_pos a0.n with h0 | h0
  · have hl : l = [] := List.length_eq_zero_iff.1 (by omega)
    subst hl
    have hcon := AnyF.slices_SortFunc_none (P := Try.prog) { Try.sortDueL with } a0.p a0.c (.func (.func 56) #[] #[(.pointer (some ⟨b, 0, none⟩))]) w
    rw [show Sl.v a0 = .slice a0.p 0 a0.c by unfold Sl.v; rw [h0]]
    refine hcon.mono ?_
    rintro e w' ⟨rfl, rfl⟩
    exact ⟨w', rfl, h w' (by simpa [sortD] using ho) Fr.refl, rfl⟩
  · obtain ⟨g, rest, hp, hg, hrest⟩ : ∃ g rest, a0.p = some ⟨g, 0, none⟩ ∧ B w g = some (l.map encF ++ rest, 3) ∧ rest.length = (a0.c - a0.n) * 1 := by
      rcases ho.h with ⟨_, h1, _⟩ | h1
      · omega
      · exact h1
    have hbg : b ≠ g := fun e => hsb ⟨_, hp, e.symm⟩
    have hqg : q ≠ g := fun e => hsq ⟨_, hp, e.symm⟩
    have hH : Holds encF w g 0 l.toArray := fun j hj => by
      have hj' : j < l.length := by simpa using hj
      refine ⟨?_, frozen_B hg⟩
      rw [Nat.zero_add, cell_B hg, List.getElem?_append_left (by simpa using hj'), List.getElem?_map, List.getElem?_eq_getElem hj']
      simp [hj']
    have hcmp : CmpLays1 Try.prog 56 #[(.pointer (some ⟨b, 0, none⟩))] encF (cfD f) g 0 l.toArray.size w := fun m os dk hs x y => by
      have hB' : B (sortWorld encF w g 0 m dk os) b = some ([.pointer (some ⟨q, 0, none⟩)], T) := by unfold B at hB ⊢; rw [sortW_o (B_lt hB) hbg]; exact hB
      have hq' : B (sortWorld encF w g 0 m dk os) q = some (cs, T') := by unfold B at hq ⊢; rw [sortW_o (B_lt hq) hqg]; exact hq
      have hcl := wheel_Wheel_Advance_1_ok (closureD hB' hq' hc hr x y)
      refine Calls.mono hcl ?_
      rintro e w' ⟨rfl, rfl⟩
      exact ⟨rfl, 1, _, rfl⟩
    have hcon := Any.slices_SortFunc_total Try.sortDueL encF (fun _ => rfl) (cfD f) (swoD f) 56 #[(.pointer (some ⟨b, 0, none⟩))] g 0 a0.c l.toArray w (enters_of Try.func56 (by kernel_rfl) rfl) hcmp hH (B_lt hg) (by simp; omega) (totD f)
    rw [show Sl.v a0 = .slice (some ⟨g, 0, none⟩) l.toArray.size a0.c by unfold Sl.v; rw [hp]; simp [hn]]
    refine hcon.mono ?_
    rintro e w' ⟨rfl, n, os, rfl⟩
    have hls : (sortD f l).length = l.length := List.length_mergeSort _
    refine ⟨_, rfl, h _ ?_ ?_, rfl⟩
    · refine ⟨by simp [hls, hn], ho.cap, ho.max, .inr ⟨g, rest, hp, ?_, hrest⟩⟩
      exact sortW_B hg hls
    · refine ⟨rfl, rfl, rfl, ?_, fun k hk hs => sortW_o hk (fun e => hs ⟨_, hp, e.symm⟩)⟩
      simp [sortWorld, Sort.ahead]
end Go.Proofs.Ytejkaciimmfgcaa.D
