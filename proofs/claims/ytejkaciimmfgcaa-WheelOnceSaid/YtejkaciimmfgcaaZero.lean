/- append(s, make([]T, n)...) to a slice of one's own. -/
import Derived.Test.YtejkaciimmfgcaaSlice
namespace Go.Proofs.Ytejkaciimmfgcaa.D
open Go
set_option linter.unusedVariables false
set_option linter.unusedSimpArgs false
section
variable {P : Program} {t e T : TypeId} {sz by_ : Nat} {Z : List Value} {w w' : World} {s y : Sl} {cs ys : List Value}
theorem add_addZ (a : Addr) (i j : Nat) : (a.add i).add j = a.add (i + j) := by
  unfold Addr.add
  by_cases hi : i = 0 <;> by_cases hj : j = 0 <;> simp [hi, hj, Nat.add_assoc]
theorem slS_rdZ {s : Sl} {cs : List Value} {lo hi : Nat} (h : Rd w s 1 cs) (h1 : lo ≤ hi) (h2 : hi ≤ s.n) (h3 : s.n ≤ s.c) :
    ∃ s', slS s (lo : Int) (hi : Int) (s.c : Int) 1 = some s' ∧ Rd w s' 1 ((cs.drop lo).take (hi - lo)) ∧ s'.n = hi - lo ∧ s'.n ≤ s'.c := by
  have hl : cs.length = s.n := by have := h.len; simpa using this
  refine ⟨⟨if (s.c : Int) = (lo : Int) then s.p else s.p.map (·.add lo), hi - lo, s.c - lo⟩, ?_, ⟨by simp; omega, fun hn => ?_⟩, rfl, by simp only; omega⟩
  · unfold slS
    rw [if_pos (by omega)]
    simp only [Int.toNat_natCast, Nat.mul_one, Option.some.injEq, Sl.mk.injEq, true_and]
    constructor <;> omega
  · simp only at hn
    obtain ⟨a, ha, hc⟩ := h.at_ (by omega)
    rw [if_neg (by omega), ha]
    refine ⟨a.add lo, rfl, fun j v hv => ?_⟩
    rw [add_addZ]
    refine hc _ v ?_
    rw [List.getElem?_take] at hv
    split at hv
    · rwa [List.getElem?_drop] at hv
    · cases hv
/-- append of zeros to a slice of one's own. -/
theorem apZ_own (st : ST P t e sz by_ Z) {ti : TypeId} {k : IntKind} (hti : P.underlying ti = some (.int k)) (h : Own w e s sz cs) (m : Nat) (h1 : ∀ v ∈ Z, v.oneCell' = true) (hb : (s.n + m) * by_ ≤ 140737488355328) :
    ∃ s' w', apZ P t ti s (m : Int) w = some (s', w') ∧ Own w' e s' sz (cs ++ (List.replicate m Z).flatten) ∧ Fr s.blk w w' ∧ s'.n = s.n + m ∧ (∀ k, s'.blk k → s.blk k ∨ w.heap.size ≤ k) := by
  obtain ⟨i, z, hi, hz, hzc, hs, hby⟩ := st.hi
  subst hs; subst hby
  have hbp := st.bpos
  have hsz := st.pos
  have hzs : z.cells.size = i.size := by rw [hzc]; simpa using st.hZ
  have h63 : s.n + m ≤ 140737488355328 := Nat.le_trans (Nat.le_mul_of_pos_right _ hbp) hb
  obtain ⟨sp, sn, sc⟩ := s
  have hlen := h.len; have hcap := h.cap; have hmax := h.max
  simp only at hlen hcap hmax h63 hb
  have hw : IntKind.i64.wrap (m : Int) = m := by rw [IntKind.wrap_i64]; omega
  have hw0 : IntKind.i64.wrap 0 = 0 := by rw [IntKind.wrap_i64]; rfl
  have hneg : ¬ ((m : Int) < 0) := by omega
  have hmb : m * i.bytes ≤ 140737488355328 := Nat.le_trans (Nat.mul_le_mul_right _ (Nat.le_add_left m sn)) hb
  have hbig : ¬ (281474976710656 < (m : Int) * (i.bytes : Int)) := by
    rw [← Int.natCast_mul]
    omega
  have hsn : i.size ≠ 0 := by omega
  obtain ⟨news, hnews⟩ : ∃ news, news = (List.replicate m Z).flatten := ⟨_, rfl⟩
  have hna : Builtin.zeroCells z.cells m = news.toArray := by
    apply Array.ext'
    rw [hnews, show Builtin.zeroCells z.cells m = madeCells Z.toArray (m * i.size) by unfold Builtin.zeroCells madeCells; rw [hzc]; simp [st.hZ], madeCells_toList Z _ _ st.hZ st.pos]
  have hl : news.length = m * i.size := by
    have := congrArg Array.size hna
    rw [zeroCells_len, hzs] at this
    simpa using this.symm
  have hn1 : ∀ v ∈ news, v.oneCell' = true := by
    intro v hv
    rw [hnews] at hv
    obtain ⟨l, hl, hv⟩ := List.mem_flatten.1 hv
    rw [List.mem_replicate] at hl
    rw [hl.2] at hv
    exact h1 v hv
  rw [← hnews]
  have newOwn : ∀ (old : Nat), Own (w.drew.alloc (.cells (cs.toArray ++ news.toArray ++ Builtin.zeroCells z.cells (grownCap w (sn + m) old e - (sn + m))) e)) e
      ⟨some ⟨w.heap.size, 0, none⟩, sn + m, grownCap w (sn + m) old e⟩ i.size (cs ++ news) := by
    intro old
    have hge := grownCap_ge w (sn + m) old e
    have hle : grownCap w (sn + m) old e ≤ 9223372036854775807 := by
      have := grownCap_le_maxLen w (sn + m) old e (by simp [maxLen]; omega)
      simpa [maxLen] using this
    refine ⟨by simp [hlen, hl, Nat.add_mul], hge, hle, .inr ⟨w.heap.size, (Builtin.zeroCells z.cells (grownCap w (sn + m) old e - (sn + m))).toList, rfl, ?_, by simp [zeroCells_len, hzs]⟩⟩
    rw [B_heap, show (cs ++ news ++ (Builtin.zeroCells z.cells (grownCap w (sn + m) old e - (sn + m))).toList).toArray = cs.toArray ++ news.toArray ++ Builtin.zeroCells z.cells (grownCap w (sn + m) old e - (sn + m)) by simp]
    exact heap_alloc_new w.drew _
  have newFr : ∀ (S : Nat → Prop) (o : Obj), Fr S w (w.drew.alloc o) := fun S o => (Fr.refl.drew).alloc o
  have hnil : m = 0 → news = [] := fun h => List.eq_nil_of_length_eq_zero (by rw [hl, h, Nat.zero_mul])
  have runs : ∀ (A : Option Addr) (cap : Nat), cap < sn + m → (Builtin.firstCells i.size sn (.slice A sn cap)).run P w.drew = .ok cs.toArray w.drew → (Builtin.append_ #[t, ti] t #[.slice A sn cap, .int .i64 (m : Int)]).run P w =
      .ok (.slice (some ⟨w.heap.size, 0, none⟩) (sn + m) (grownCap w (sn + m) cap e)) (w.drew.alloc (.cells (cs.toArray ++ news.toArray ++ Builtin.zeroCells z.cells (grownCap w (sn + m) cap e - (sn + m))) e)) := by
    intro A cap hcap hfo
    have hn : ¬ (sn + m ≤ cap) := by omega
    have h63' : ¬ (9223372036854775807 < ((sn : Int) + (m : Int))) := by omega
    have hfit := growslice_fits hcap hb
    have h48' : ¬ (281474976710656 < Builtin.nextslicecap (sn + m) cap * i.bytes) := by omega
    by_cases hm : m = 0
    · have hnl := hnil hm
      subst hm
      rw [hnl]
      simp only [Nat.add_zero] at hn h63' h48' ⊢
      have h63'' : ¬ (9223372036854775807 < (sn : Int)) := by omega
      simp [Builtin.append_, run_underlying st.ht, run_underlying hti, sizeOf, typeInfo, zeroValue, hi, hz, asInt, asIntOf, hw0, hn, h63'', h48', Question.forced, hfo, newRow, grownCap]
    · have hmz : ¬ (m * i.size = 0) := Nat.mul_ne_zero hm hsn
      simp [Builtin.append_, run_underlying st.ht, run_underlying hti, sizeOf, typeInfo, zeroValue, hi, hz, asInt, asIntOf, hw, hneg, hbig, hn, h63', h48', Question.forced, hfo, newRow, grownCap, hmz, hna]
      congr 2
      apply Array.ext'
      simp [List.append_assoc]
  rcases h.h with ⟨hp, h0, hc0⟩ | ⟨g, rest, hp, hB, hrest⟩
  · simp only at hp h0 hc0
    subst hp; subst h0; subst hc0
    have hcs : cs = [] := List.eq_nil_of_length_eq_zero (by simpa using hlen)
    subst hcs
    by_cases hm : m = 0
    · have hnl := hnil hm
      subst hm
      refine ⟨⟨none, 0, 0⟩, w, ?_, by rw [hnl]; simpa using h, Fr.refl, rfl, fun k hk => .inl hk⟩
      have : (Builtin.append_ #[t, ti] t #[.slice none 0 0, .int .i64 ((0 : Nat) : Int)]).run P w = .ok (.slice none 0 0) w := by
        simp [Builtin.append_, run_underlying st.ht, run_underlying hti, sizeOf, typeInfo, hi, asInt, asIntOf, hw0]
      simp only [apZ, Sl.v, this]
    · have hr := runs none 0 (by omega) (by simp [Builtin.firstCells])
      refine ⟨_, _, by simp only [apZ, Sl.v, hr], newOwn 0, newFr _ _, rfl, fun k hk => ?_⟩
      obtain ⟨a, ha, rfl⟩ := hk; cases ha; right; simp
  · simp only at hp hrest
    subst hp
    by_cases hroom : sn + m ≤ sc
    · have hsr := stA_run (P := P) (stA_B (o := sn * i.size) news 0 w (cs ++ rest) hB (by simp [hlen, hrest, hl]; rw [Nat.sub_mul]; have := Nat.mul_le_mul_right i.size hroom; have := Nat.mul_le_mul_right i.size hcap; rw [Nat.add_mul] at *; omega) hn1)
      simp only [Nat.add_zero] at hsr
      have e1 : putL (cs ++ rest) (sn * i.size) news = (cs ++ news) ++ rest.drop news.length := by
        unfold putL
        rw [← hlen]
        simp
      have hst : (storeCells ⟨g, sn * i.size, none⟩ news).run P w = .ok () (wr w g (putL (cs ++ rest) (sn * i.size) news)) := hsr
      have hr : (Builtin.append_ #[t, ti] t #[.slice (some ⟨g, 0, none⟩) sn sc, .int .i64 (m : Int)]).run P w = .ok (.slice (some ⟨g, 0, none⟩) (sn + m) sc) (wr w g (cs ++ news ++ rest.drop news.length)) := by
        rw [← e1]
        by_cases hm : m = 0
        · have hnl := hnil hm
          subst hm
          rw [hnl] at hst ⊢
          simp [Builtin.append_, run_underlying st.ht, run_underlying hti, sizeOf, typeInfo, hi, asInt, asIntOf, hw0, hcap, add_mk, hst]
        · have hmz : ¬ (m * i.size = 0) := Nat.mul_ne_zero hm hsn
          simp [Builtin.append_, run_underlying st.ht, run_underlying hti, sizeOf, typeInfo, zeroValue, hi, hz, asInt, asIntOf, hw, hneg, hbig, hroom, hmz, hna, add_mk, hst]
      refine ⟨⟨some ⟨g, 0, none⟩, sn + m, sc⟩, wr w g (cs ++ news ++ rest.drop news.length), by simp only [apZ, Sl.v, hr], ⟨by simp [hlen, hl, Nat.add_mul], hroom, hmax, .inr ⟨g, rest.drop news.length, rfl, by rw [B_wr hB], by simp [hrest, hl, ← Nat.sub_mul]; congr 1; omega⟩⟩, (Fr.refl).wr (.inl ⟨_, rfl, rfl⟩) _, rfl, fun k hk => .inl hk⟩
    · have holds : ∀ j u, cs[j]? = some u → w.cell? ((⟨g, 0, none⟩ : Addr).add j) = some u := by
        intro j u hu
        rw [add_mk, cell_B hB, Nat.zero_add, List.getElem?_append_left (List.getElem?_eq_some_iff.1 hu).1]
        exact hu
      have hr := runs (some ⟨g, 0, none⟩) sc (by omega) (run_firstCells_some (P := P) w.drew i.size sn _ sn sc cs hlen (by simpa using holds))
      refine ⟨_, _, by simp only [apZ, Sl.v, hr], newOwn sc, newFr _ _, rfl, fun k hk => ?_⟩
      obtain ⟨a, ha, rfl⟩ := hk; cases ha; right; simp
end
end Go.Proofs.Ytejkaciimmfgcaa.D
