/- Chapter 10, plain: what a Put leaves of a cell, broken off or not. -/
import Derived.Test.YtoanmomopcaikaaPair10
namespace Go.Proofs.Ytoanmomopcaikaa.D
open Go
set_option linter.unusedVariables false
set_option linter.unusedSimpArgs false
def fnd (a b : List Int) : Int × Int × Int := fstep 1 (fstep 0 (-1, 0, 0) (whole a)) (whole b)
theorem found_fnd (D : Dk) (j : Int) : D.found j = fnd (D.read j).1 (D.read (j + 1)).1 := rfl
def gof (f : Int × Int × Int) : Int × Bool := (f.2.2, decide (0 ≤ f.1))
theorem whole_sec {was : List Int} {n v : Int} (h0 : 0 ≤ n) (h1 : n < 4611686018427387904) (v0 : 0 ≤ v) (v1 : v ≤ 1099511627776) : whole (secOf was n v) = (n + 1, v, true) := by
  obtain ⟨a1, a2, a3, a4, a5, a6, a7, a8, ha⟩ := len8 (keyL_len (n + 1))
  obtain ⟨b1, b2, b3, b4, b5, b6, b7, b8, hb⟩ := len8 (keyL_len v)
  have k1 : takeK (secOf was n v) 1 = n + 1 := by
    have : ((secOf was n v).drop 1).take 8 = keyL (n + 1) := by unfold secOf; rw [ha, hb]; rfl
    unfold takeK; rw [this, be_key (by omega) (by omega)]; omega
  have k2 : takeK (secOf was n v) 9 = v := by
    have : ((secOf was n v).drop 9).take 8 = keyL v := by unfold secOf; rw [ha, hb]; rfl
    unfold takeK; rw [this, be_key (by omega) (by omega)]; omega
  have hz : ((secOf was n v).drop 17).take 46 = List.replicate 46 0 := by unfold secOf; rw [ha, hb]; rfl
  have hh : (secOf was n v).getD 0 0 = (secOf was n v).getD 63 0 := by unfold secOf; rw [ha, hb]; rfl
  have hf : fits (n + 1) v = true := by simp [fits]; omega
  unfold whole
  rw [if_pos ⟨secOf_len _ _ _, hh⟩, k1, k2, hz, hf, if_pos (by decide)]
theorem whole_torn {was : List Int} {n v : Int} {m : Nat} (hw : was.length = 64) (hb : Bytes was) (m0 : 0 < m) (m1 : m < 64) : (whole ((secOf was n v).take m ++ was.drop m)).2.2 = false := by
  have hw63 := hb (was.getD 63 0) (by rw [List.getD_eq_getElem?_getD, List.getElem?_eq_getElem (by omega)]; exact List.getElem_mem _)
  have e0 : ((secOf was n v).take m ++ was.drop m).getD 0 0 = (was.getD 63 0 + 1) % 256 := by
    obtain ⟨k, rfl⟩ : ∃ k, m = k + 1 := ⟨m - 1, by omega⟩
    rfl
  have e63 : ((secOf was n v).take m ++ was.drop m).getD 63 0 = was.getD 63 0 := by
    have hl : ((secOf was n v).take m).length = m := by rw [List.length_take, secOf_len]; omega
    rw [List.getD_eq_getElem?_getD, List.getElem?_append_right (by omega), hl, List.getElem?_drop, show m + (63 - m) = 63 by omega, List.getD_eq_getElem?_getD]
  unfold whole
  rw [if_neg]
  rintro ⟨_, h⟩
  rw [e0, e63] at h
  omega
/-- Which sector is written next: the one that does not count. -/
def nxt (f : Int × Int × Int) : Int := (f.1 + 1) % 2
theorem fnd_full {a b s : List Int} {v : Int} (hs : whole s = ((fnd a b).2.1 + 1, v, true)) (h0 : 0 ≤ (fnd a b).2.1) : gof (if nxt (fnd a b) = 0 then fnd s b else fnd a s) = (v, true) := by
  have pa := whole_pos a
  have pb := whole_pos b
  unfold fnd nxt at *
  obtain ⟨x, hx⟩ : ∃ x, whole a = x := ⟨_, rfl⟩
  obtain ⟨y, hy⟩ : ∃ y, whole b = y := ⟨_, rfl⟩
  rw [hx] at pa hs h0 ⊢
  rw [hy] at pb hs h0 ⊢
  by_cases a1 : x.2.2 = true
  · have s1 : fstep 0 (-1, 0, 0) x = (0, x.1, x.2.1) := by unfold fstep; rw [if_pos ⟨a1, by have := pa a1; simp only; omega⟩]
    rw [s1] at hs h0 ⊢
    by_cases b1 : y.2.2 = true ∧ x.1 < y.1
    · have s2 : fstep 1 (0, x.1, x.2.1) y = (1, y.1, y.2.1) := by unfold fstep; rw [if_pos b1]
      rw [s2] at hs h0 ⊢
      simp only at hs h0 ⊢
      rw [if_pos (by decide), hs]
      have t1 : fstep 0 (-1, 0, 0) (y.1 + 1, v, true) = (0, y.1 + 1, v) := by unfold fstep; rw [if_pos ⟨rfl, by simp only; omega⟩]
      have t2 : fstep 1 (0, y.1 + 1, v) y = (0, y.1 + 1, v) := by unfold fstep; rw [if_neg (fun h => by have := h.2; simp only at this; omega)]
      rw [t1, t2]; rfl
    · have s2 : fstep 1 (0, x.1, x.2.1) y = (0, x.1, x.2.1) := by unfold fstep; rw [if_neg b1]
      rw [s2] at hs h0 ⊢
      simp only at hs h0 ⊢
      rw [if_neg (by decide), hs]
      have t2 : fstep 1 (0, x.1, x.2.1) (x.1 + 1, v, true) = (1, x.1 + 1, v) := by unfold fstep; rw [if_pos ⟨rfl, by simp only; omega⟩]
      rw [t2]; rfl
  · have s1 : fstep 0 (-1, 0, 0) x = (-1, 0, 0) := by unfold fstep; rw [if_neg (fun h => a1 h.1)]
    rw [s1] at hs h0 ⊢
    by_cases b1 : y.2.2 = true
    · have s2 : fstep 1 (-1, 0, 0) y = (1, y.1, y.2.1) := by unfold fstep; rw [if_pos ⟨b1, by have := pb b1; simp only; omega⟩]
      rw [s2] at hs h0 ⊢
      simp only at hs h0 ⊢
      rw [if_pos (by decide), hs]
      have t1 : fstep 0 (-1, 0, 0) (y.1 + 1, v, true) = (0, y.1 + 1, v) := by unfold fstep; rw [if_pos ⟨rfl, by simp only; omega⟩]
      have t2 : fstep 1 (0, y.1 + 1, v) y = (0, y.1 + 1, v) := by unfold fstep; rw [if_neg (fun h => by have := h.2; simp only at this; omega)]
      rw [t1, t2]; rfl
    · have s2 : fstep 1 (-1, 0, 0) y = (-1, 0, 0) := by unfold fstep; rw [if_neg (fun h => b1 h.1)]
      rw [s2] at hs h0 ⊢
      simp only at hs h0 ⊢
      rw [if_pos (by decide), hs]
      have t1 : fstep 0 (-1, 0, 0) (0 + 1, v, true) = (0, 0 + 1, v) := by unfold fstep; rw [if_pos ⟨rfl, by simp only; omega⟩]
      have t2 : fstep 1 (0, 0 + 1, v) y = (0, 0 + 1, v) := by unfold fstep; rw [if_neg (fun h => b1 h.1)]
      rw [t1, t2]; rfl
theorem fnd_torn {a b s : List Int} (hs : (whole s).2.2 = false) : gof (if nxt (fnd a b) = 0 then fnd s b else fnd a s) = gof (fnd a b) := by
  have pb := whole_pos b
  have hn : ∀ k t, fstep k t (whole s) = t := fun k t => by unfold fstep; rw [if_neg (fun h => by rw [hs] at h; cases h.1)]
  unfold fnd nxt
  rw [hn 1, hn 0]
  obtain ⟨x, hx⟩ : ∃ x, whole a = x := ⟨_, rfl⟩
  obtain ⟨y, hy⟩ : ∃ y, whole b = y := ⟨_, rfl⟩
  rw [hx]
  rw [hy] at pb ⊢
  by_cases b1 : y.2.2 = true
  · have t1 : fstep 1 (-1, 0, 0) y = (1, y.1, y.2.1) := by unfold fstep; rw [if_pos ⟨b1, by have := pb b1; simp only; omega⟩]
    rw [t1]
    by_cases b2 : (fstep 0 (-1, 0, 0) x).2.1 < y.1
    · have s2 : fstep 1 (fstep 0 (-1, 0, 0) x) y = (1, y.1, y.2.1) := by unfold fstep at b2 ⊢; rw [if_pos ⟨b1, b2⟩]
      rw [s2]; rfl
    · have s2 : fstep 1 (fstep 0 (-1, 0, 0) x) y = fstep 0 (-1, 0, 0) x := by
        generalize fstep 0 (-1, 0, 0) x = t at b2 ⊢
        unfold fstep; rw [if_neg (fun h => b2 h.2)]
      rw [s2]
      by_cases a1 : x.2.2 = true ∧ 0 < x.1
      · have s1 : fstep 0 (-1, 0, 0) x = (0, x.1, x.2.1) := by unfold fstep; rw [if_pos a1]
        rw [s1, if_neg (by simp)]
      · have s1 : fstep 0 (-1, 0, 0) x = (-1, 0, 0) := by unfold fstep; rw [if_neg a1]
        rw [s1] at b2
        have := pb b1
        simp only at b2
        omega
  · have hy' : ∀ k t, fstep k t y = t := fun k t => by unfold fstep; rw [if_neg (fun h => b1 h.1)]
    rw [hy', hy']
    by_cases a1 : x.2.2 = true ∧ 0 < x.1
    · have s1 : fstep 0 (-1, 0, 0) x = (0, x.1, x.2.1) := by unfold fstep; rw [if_pos a1]
      rw [s1, if_neg (by simp)]
    · have s1 : fstep 0 (-1, 0, 0) x = (-1, 0, 0) := by unfold fstep; rw [if_neg a1]
      rw [s1, if_pos (by decide)]
/-! ### Sectors behind a sync -/
theorem putS_full {S : List (List Int)} {x : Int × List Int} (hx : x.2.length = 64) (hS : ∀ s ∈ S, s.length = 64) : putS S x 64 = S.set x.1.toNat x.2 := by
  unfold putS
  have hl : (S.getD x.1.toNat []).length ≤ 64 := by
    rw [List.getD_eq_getElem?_getD]
    cases e : S[x.1.toNat]? with
    | none => simp
    | some y => simp; exact Nat.le_of_eq (hS y (List.mem_of_getElem? e))
  rw [List.take_of_length_le (by omega), List.drop_of_length_le hl, List.append_nil]
theorem getD_setL {S : List (List Int)} {k q : Nat} {s : List Int} (hk : k < S.length) : (S.set k s).getD q [] = if q = k then s else S.getD q [] := by
  simp only [List.getD_eq_getElem?_getD, List.getElem?_set]
  by_cases h : k = q
  · subst h; simp [hk]
  · simp [h, Ne.symm h]
theorem sync_get {q : Nat} : ∀ (W : List (Int × List Int)) (S : List (List Int)), (∀ s ∈ S, s.length = 64) → (∀ x ∈ W, x.2.length = 64 ∧ 0 ≤ x.1 ∧ x.1 < S.length) →
    (W.foldl (fun S x => putS S x 64) S).getD q [] = W.foldl (fun b x => if x.1 = (q : Int) then x.2 else b) (S.getD q [])
  | [], S, _, _ => rfl
  | x :: W, S, hS, hW => by
    obtain ⟨h1, h2, h3⟩ := hW x (by simp)
    rw [List.foldl_cons, List.foldl_cons, putS_full h1 hS]
    rw [sync_get W _ (fun s hs => by
      rcases List.mem_or_eq_of_mem_set hs with h | h
      · exact hS s h
      · rw [h]; exact h1) (fun y hy => by simpa using hW y (by simp [hy])), getD_setL (by omega)]
    congr 1
    by_cases h : q = x.1.toNat
    · rw [if_pos h, if_pos (by omega)]
    · rw [if_neg h, if_neg (by omega)]
theorem pad_64 {b : List Int} (h : b.length = 64) : pad b = b := by simp [pad, h]
theorem fold_other {q : Int} : ∀ (W : List (Int × List Int)) (b : List Int), (∀ x ∈ W, x.1 ≠ q) → W.foldl (fun b x => if x.1 = q then x.2 else b) b = b
  | [], _, _ => rfl
  | x :: W, b, h => by rw [List.foldl_cons, if_neg (h x (by simp))]; exact fold_other W b (fun y hy => h y (by simp [hy]))
/-! ### A put -/
def Dk.pt (D : Dk) (base i : Int) : Int := base + 2 * i + nxt (D.found (base + 2 * i))
def Dk.sc (D : Dk) (base i v : Int) : List Int := secOf (D.read (D.pt base i)).1 (D.found (base + 2 * i)).2.1 v
theorem put_eq (D : Dk) (base count i v : Int) : D.put base count i v = if D.down = true then (10, D) else if i < 0 ∨ count ≤ i ∨ v < 0 ∨ 1099511627776 < v then (2, D) else
  if (D.found (base + 2 * i)).2.1 = 4611686018427387904 then (6, D) else if (D.write (D.pt base i) (D.sc base i v)).1 ≠ 0 then D.write (D.pt base i) (D.sc base i v) else (D.write (D.pt base i) (D.sc base i v)).2.sync := rfl
theorem nxt_01 (f : Int × Int × Int) : nxt f = 0 ∨ nxt f = 1 := by unfold nxt; omega
section
variable {D : Dk} {i v q : Int}
theorem read_up (hd : ¬ D.down = true) (h : D.bad q = false) : (D.read q).1 = D.cur q := by unfold Dk.read; rw [if_neg hd, h, if_neg (by simp)]
theorem in8 (hn : D.S.length = 8) (h0 : 0 ≤ q) (h1 : q < 8) : D.bad q = false := by simp [Dk.bad]; omega
theorem trips_no (hd : ¬ D.down = true) (h : ¬ D.trips.1 = true) : D.trips.2.down = false ∧ (D.left = 0 → D.trips.2.left = 0) := by
  unfold Dk.trips at h ⊢
  split
  · rename_i hl; exact ⟨by simpa using hd, fun _ => hl⟩
  · rename_i hl
    rw [if_neg hl] at h
    simp only at h ⊢
    exact ⟨by simpa using h, fun h => (hl h).elim⟩
theorem write_is {b : List Int} (h : (D.write q b).1 = 0) : ¬ D.down = true ∧ D.bad q = false ∧ (D.write q b).2.S = D.S ∧ (D.write q b).2.W = D.W ++ [(q, pad b)] ∧ (D.write q b).2.down = false ∧ (D.left = 0 → (D.write q b).2.left = 0) := by
  unfold Dk.write at h ⊢
  split at h; · simp at h
  rename_i hd
  split at h; · simp at h
  rename_i hb
  split at h; · simp at h
  rename_i hl
  split at h; · simp at h
  rename_i ht
  rw [if_neg hd, if_neg hb, if_neg hl, if_neg ht]
  obtain ⟨h1, h2⟩ := trips_no hd ht
  exact ⟨hd, by simpa using hb, trips_S D, rfl, h1, h2⟩
theorem sync_is (h : D.sync.1 = 0) : ¬ D.down = true ∧ D.sync.2.S = D.W.foldl (fun S x => putS S x 64) D.S ∧ D.sync.2.W = [] ∧ D.sync.2.down = false ∧ (D.left = 0 → D.sync.2.left = 0) := by
  unfold Dk.sync at h ⊢
  split at h; · simp at h
  rename_i hd
  split at h; · simp at h
  rename_i ht
  rw [if_neg hd, if_neg ht]
  obtain ⟨h1, h2⟩ := trips_no hd ht
  exact ⟨hd, rfl, rfl, h1, h2⟩
/-- What holds where a put was right. -/
theorem put_ok_is (hw : D.Wf) (hn : D.S.length = 8) (h : (D.put 1 3 i v).1 = 0) : ¬ D.down = true ∧ 0 ≤ i ∧ i < 3 ∧ 0 ≤ v ∧ v ≤ 1099511627776 ∧ (D.found (1 + 2 * i)).2.1 ≠ 4611686018427387904 ∧
    (D.put 1 3 i v).2.down = false ∧ (D.put 1 3 i v).2.W = [] ∧ (D.left = 0 → (D.put 1 3 i v).2.left = 0) ∧ ∀ q : Nat, q < 8 → (D.put 1 3 i v).2.S.getD q [] = if (q : Int) = D.pt 1 i then D.sc 1 i v else D.cur q := by
  rw [put_eq] at h ⊢
  split at h; · simp at h
  rename_i hd
  split at h; · simp at h
  rename_i hb
  split at h; · simp at h
  rename_i hm
  have hpt : 1 + 2 * i ≤ D.pt 1 i ∧ D.pt 1 i ≤ 2 + 2 * i := by unfold Dk.pt; have := nxt_01 (D.found (1 + 2 * i)); omega
  rw [if_neg hd, if_neg hb, if_neg hm]
  split at h
  · rename_i hq; exact (hq h).elim
  rename_i hq
  rw [if_neg hq]
  have hsl : (D.sc 1 i v).length = 64 := secOf_len _ _ _
  obtain ⟨_, _, w1, w2, w3, w4⟩ := write_is (show (D.write (D.pt 1 i) (D.sc 1 i v)).1 = 0 by simpa using hq)
  obtain ⟨_, s1, s2, s3, s4⟩ := sync_is h
  refine ⟨hd, by omega, by omega, by omega, by omega, hm, s3, s2, fun hl => s4 (w4 hl), fun q hq8 => ?_⟩
  rw [s1, w1, w2, pad_64 hsl, sync_get _ _ hw.s64 (fun x hx => by
      simp only [List.mem_append, List.mem_singleton] at hx
      rcases hx with hx | rfl
      · exact ⟨hw.w64 x hx, hw.wat x hx⟩
      · exact ⟨hsl, by simp only; omega, by simp only; omega⟩), List.foldl_append, List.foldl_cons, List.foldl_nil]
  by_cases hq : (q : Int) = D.pt 1 i
  · rw [if_pos hq, if_pos hq.symm]
  · rw [if_neg hq, if_neg (Ne.symm hq)]
    unfold Dk.cur; simp
theorem found_up (hd : ¬ D.down = true) (hn : D.S.length = 8) (h0 : 0 ≤ i) (h1 : i < 3) : D.found (1 + 2 * i) = fnd (D.cur (1 + 2 * i)) (D.cur (2 + 2 * i)) := by
  rw [found_fnd, read_up hd (in8 hn (by omega) (by omega)), read_up hd (in8 hn (by omega) (by omega))]; congr 2; omega
theorem get_up (h0 : 0 ≤ i) (h1 : i < 3) : D.get 1 3 i = gof (D.found (1 + 2 * i)) := by unfold Dk.get gof; rw [if_neg (by omega)]
/-- Behind a put Get tells its value, and all other cells are as they were. -/
theorem put_back (hw : D.Wf) (hn : D.S.length = 8) (h : (D.put 1 3 i v).1 = 0) : (D.put 1 3 i v).2.get 1 3 i = (v, true) ∧ ∀ k, 0 ≤ k → k < 3 → k ≠ i → (D.put 1 3 i v).2.get 1 3 k = D.get 1 3 k := by
  obtain ⟨hd, i0, i1, v0, v1, hm, hd', hW', _, hS⟩ := put_ok_is hw hn h
  have hn' : (D.put 1 3 i v).2.S.length = 8 := (put_S D 1 3 i v).trans hn
  have hc : ∀ q : Int, 0 ≤ q → q < 8 → (D.put 1 3 i v).2.cur q = if q = D.pt 1 i then D.sc 1 i v else D.cur q := fun q h0 h1 => by
    have := hS q.toNat (by omega)
    rw [Int.toNat_of_nonneg h0] at this
    rw [← this]
    unfold Dk.cur; rw [hW']; rfl
  have hd'' : ¬ (D.put 1 3 i v).2.down = true := by simp [hd']
  have hrg := found_range D (1 + 2 * i)
  constructor
  · rw [get_up i0 i1, found_up hd'' hn' i0 i1, hc _ (by omega) (by omega), hc _ (by omega) (by omega)]
    have hf := found_up hd hn i0 i1
    have hsec : whole (D.sc 1 i v) = ((fnd (D.cur (1 + 2 * i)) (D.cur (2 + 2 * i))).2.1 + 1, v, true) := by rw [← hf]; exact whole_sec hrg.1 (by omega) v0 v1
    rw [hf] at hrg
    have := fnd_full hsec hrg.1
    unfold Dk.pt
    rw [hf]
    rcases nxt_01 (fnd (D.cur (1 + 2 * i)) (D.cur (2 + 2 * i))) with e | e
    · rw [e] at this ⊢
      rw [if_pos rfl] at this
      rw [if_pos (by omega), if_neg (by omega)]; exact this
    · rw [e] at this ⊢
      rw [if_neg (by decide)] at this
      rw [if_neg (by omega), if_pos (by omega)]; exact this
  · intro k k0 k1 hk
    have hpt : 1 + 2 * i ≤ D.pt 1 i ∧ D.pt 1 i ≤ 2 + 2 * i := by unfold Dk.pt; have := nxt_01 (D.found (1 + 2 * i)); omega
    rw [get_up k0 k1, get_up k0 k1, found_up hd'' hn' k0 k1, found_up hd hn k0 k1, hc _ (by omega) (by omega), hc _ (by omega) (by omega), if_neg (by omega), if_neg (by omega)]
end
end Go.Proofs.Ytoanmomopcaikaa.D
