/- Slices that are owned: make, append, copy. -/
import Derived.Test.YtejkaciimmfgcaaMem
namespace Go.Proofs.Ytejkaciimmfgcaa.D
open Go
set_option linter.unusedVariables false
set_option linter.unusedSimpArgs false

/-- A slice type: its element's type, cells, bytes and zero. -/
structure ST (P : Program) (t e : TypeId) (sz by_ : Nat) (Z : List Value) : Prop where
  ht : P.underlying t = some (.slice e)
  hi : ∃ (i : TypeInfo) (z : Value), P.info? e = some i ∧ i.zero = some z ∧ z.cells = Z.toArray ∧ i.size = sz ∧ i.bytes = by_
  hZ : Z.length = sz
  pos : 0 < sz
  bpos : 0 < by_
def Sl.blk (s : Sl) (k : Nat) : Prop := ∃ a, s.p = some a ∧ a.block = k
/-- The slice leads to the begin of a block of its own; its elements' cells are cs. -/
structure Own (w : World) (T : TypeId) (s : Sl) (sz : Nat) (cs : List Value) : Prop where
  len : cs.length = s.n * sz
  cap : s.n ≤ s.c
  max : s.c ≤ 9223372036854775807
  h : (s.p = none ∧ s.n = 0 ∧ s.c = 0) ∨ ∃ g rest, s.p = some ⟨g, 0, none⟩ ∧ B w g = some (cs ++ rest, T) ∧ rest.length = (s.c - s.n) * sz
section
variable {P : Program} {t e T : TypeId} {sz by_ : Nat} {Z : List Value} {w w' : World} {s y : Sl} {cs ys : List Value}
theorem Own.nil : Own w T Sl.nil sz [] := ⟨by simp [Sl.nil], Nat.le_refl _, by simp [Sl.nil], .inl ⟨rfl, rfl, rfl⟩⟩
theorem Own.rd (h : Own w T s sz cs) : Rd w s sz cs := ⟨h.len, fun hn => by
  rcases h.h with ⟨_, h0, _⟩ | ⟨g, rest, hp, hb, _⟩
  · omega
  · refine ⟨_, hp, fun j v hv => ?_⟩
    rw [add_mk, cell_B hb, List.getElem?_append_left (by simpa using (List.getElem?_eq_some_iff.1 hv).1)]
    simpa using hv⟩
theorem Own.fr {S : Nat → Prop} (h : Own w T s sz cs) (hf : Fr S w w') (hs : ∀ k, s.blk k → ¬ S k) : Own w' T s sz cs :=
  ⟨h.len, h.cap, h.max, by
    rcases h.h with h0 | ⟨g, rest, hp, hb, hr⟩
    · exact .inl h0
    · exact .inr ⟨g, rest, hp, hf.B hb (hs g ⟨_, hp, rfl⟩), hr⟩⟩
theorem Own.lt (h : Own w T s sz cs) {k : Nat} (hk : s.blk k) : k < w.heap.size := by
  obtain ⟨a, ha, rfl⟩ := hk
  rcases h.h with ⟨hp, _⟩ | ⟨g, rest, hp, hb, _⟩
  · rw [hp] at ha; cases ha
  · rw [hp] at ha; cases ha; exact B_lt hb
theorem Own.ty (h : Own w T s sz cs) {k : Nat} (hk : s.blk k) : ∃ c, B w k = some (c, T) := by
  obtain ⟨a, ha, rfl⟩ := hk
  rcases h.h with ⟨hp, _⟩ | ⟨g, rest, hp, hb, _⟩
  · rw [hp] at ha; cases ha
  · rw [hp] at ha; cases ha; exact ⟨_, hb⟩
theorem madeCells_toList (Z : List Value) (n sz : Nat) (hZ : Z.length = sz) (hp : 0 < sz) : (madeCells Z.toArray (n * sz)).toList = (List.replicate n Z).flatten := by
  apply List.ext_getElem?
  intro i
  by_cases hi : i < n * sz
  · have h1 : (madeCells Z.toArray (n * sz)).toList[i]? = some (Z[i % sz]'(by rw [hZ]; exact Nat.mod_lt _ hp)) := by
      simp [madeCells, hi, hZ]
      rw [List.getElem?_eq_getElem (by rw [hZ]; exact Nat.mod_lt _ hp)]; rfl
    rw [h1]
    clear h1
    induction n generalizing i with
    | zero => simp at hi
    | succ n ih =>
      rw [List.replicate_succ, List.flatten_cons]
      by_cases h2 : i < sz
      · rw [List.getElem?_append_left (by omega), List.getElem?_eq_getElem (by omega)]
        congr 1
        congr 1
        exact Nat.mod_eq_of_lt h2
      · rw [List.getElem?_append_right (by omega), show i - Z.length = i - sz by rw [hZ]]
        have h3 : i - sz < n * sz := by rw [Nat.succ_mul] at hi; omega
        rw [← ih (i - sz) h3]
        congr 1
        congr 1
        exact Nat.mod_eq_sub_mod (by omega)
  · rw [List.getElem?_eq_none (by simp [madeCells]; omega), List.getElem?_eq_none (by simp [hZ]; omega)]
theorem mkS_ok (st : ST P t e sz by_ Z) {n : Int} (h0 : 0 ≤ n) (hb : (by_ : Int) * n ≤ 281474976710656) :
    mkS P t n n w = some (⟨some ⟨w.heap.size, 0, none⟩, n.toNat, n.toNat⟩, w.alloc (.cells ((List.replicate n.toNat Z).flatten).toArray e)) := by
  obtain ⟨i, z, hi, hz, hzc, hs, hby⟩ := st.hi
  subst hs; subst hby
  have hn : n ≤ 281474976710656 := by
    have : (1 : Int) * n ≤ (i.bytes : Int) * n := Int.mul_le_mul_of_nonneg_right (by have := st.bpos; omega) h0
    omega
  have hr := run_make (P := P) w t e i z st.ht hi hz .i64 .i64 n n h0 (Int.le_refl _) hb (by omega)
  unfold mkS
  rw [hr]
  simp only
  congr 4
  apply Array.ext'
  rw [hzc, madeCells_toList Z _ _ st.hZ st.pos]
theorem wr_setRow {w : World} {g : Nat} {c cs : List Value} {T : TypeId} (h : B w g = some (c, T)) : w.setRow g cs.toArray = wr w g cs := by
  have hh := B_heap.1 h
  simp only [World.setRow, wr]
  congr 1
theorem zeroCells_len {z : Array Value} {n : Nat} : (Builtin.zeroCells z n).size = n * z.size := size_zeroCells z n
theorem apS_own (st : ST P t e sz by_ Z) (h : Own w e s sz cs) (hy : Rd w y sz ys) (h1 : ∀ v ∈ ys, v.oneCell' = true) (hb : (s.n + y.n) * by_ ≤ 140737488355328) :
    ∃ s' w', apS P t s y w = some (s', w') ∧ Own w' e s' sz (cs ++ ys) ∧ Fr s.blk w w' ∧ s'.n = s.n + y.n ∧ (∀ k, s'.blk k → s.blk k ∨ w.heap.size ≤ k) := by
  obtain ⟨i, z, hi, hz, hzc, hs, hby⟩ := st.hi
  subst hs; subst hby
  have h63 : s.n + y.n ≤ 140737488355328 := Nat.le_trans (Nat.le_mul_of_pos_right _ st.bpos) hb
  have hzs : z.cells.size = i.size := by rw [hzc]; simpa using st.hZ
  obtain ⟨yp, yn, yc⟩ := y
  obtain ⟨sp, sn, sc⟩ := s
  have hlen := h.len; have hcap := h.cap; have hmax := h.max; have hylen := hy.len
  simp only at hlen hcap hmax hylen h63 hb
  have fits : ∀ old, old < sn + yn → Builtin.nextslicecap (sn + yn) old * i.bytes ≤ 281474976710656 := fun old ho => growslice_fits ho hb
  -- a new block
  have newOwn : ∀ (old : Nat) (olds : List Value), olds = cs → Own (w.drew.alloc (.cells (olds.toArray ++ ys.toArray ++ Builtin.zeroCells z.cells (grownCap w (sn + yn) old e - (sn + yn))) e)) e
      ⟨some ⟨w.heap.size, 0, none⟩, sn + yn, grownCap w (sn + yn) old e⟩ i.size (cs ++ ys) := by
    intro old olds ho
    subst ho
    have hge := grownCap_ge w (sn + yn) old e
    have hle : grownCap w (sn + yn) old e ≤ 9223372036854775807 := by
      have := grownCap_le_maxLen w (sn + yn) old e (by simp [maxLen]; omega)
      simpa [maxLen] using this
    refine ⟨by simp [hlen, hylen, Nat.add_mul], hge, hle, .inr ⟨w.heap.size, (Builtin.zeroCells z.cells (grownCap w (sn + yn) old e - (sn + yn))).toList, rfl, ?_, by simp [zeroCells_len, hzs]⟩⟩
    rw [B_heap, show (olds ++ ys ++ (Builtin.zeroCells z.cells (grownCap w (sn + yn) old e - (sn + yn))).toList).toArray = olds.toArray ++ ys.toArray ++ Builtin.zeroCells z.cells (grownCap w (sn + yn) old e - (sn + yn)) by simp]
    exact heap_alloc_new w.drew _
  have newFr : ∀ (S : Nat → Prop) (o : Obj), Fr S w (w.drew.alloc o) := fun S o => (Fr.refl.drew).alloc o
  cases yp with
  | none =>
    have hy0 : yn = 0 := by
      rcases Nat.eq_zero_or_pos yn with h0 | h0
      · exact h0
      · obtain ⟨a, ha, _⟩ := hy.at_ h0; cases ha
    subst hy0
    have hys : ys = [] := List.eq_nil_of_length_eq_zero (by simpa using hylen)
    subst hys
    have hr : (Builtin.append_ #[t, t] t #[.slice sp sn sc, .slice none 0 yc]).run P w = .ok (.slice sp sn sc) w := by
      cases sp <;> simp [Builtin.append_, run_underlying st.ht, sizeOf, typeInfo, hi, Builtin.lenOf, Builtin.firstCells, hcap, storeCells]
    refine ⟨⟨sp, sn, sc⟩, w, by simp [apS, Sl.v, hr], by simpa using h, Fr.refl, by simp, fun k hk => .inl hk⟩
  | some ya =>
    have hnews : ∀ j u, ys[j]? = some u → w.cell? (ya.add j) = some u := by
      intro j u hu
      have hn : 0 < yn := by
        have := (List.getElem?_eq_some_iff.1 hu).1
        rcases Nat.eq_zero_or_pos yn with h0 | h0
        · rw [h0] at hylen; omega
        · exact h0
      obtain ⟨a, ha, hc⟩ := hy.at_ hn
      cases ha
      exact hc j u hu
    rcases h.h with ⟨hp, h0, hc0⟩ | ⟨g, rest, hp, hB, hrest⟩
    · simp only at hp h0 hc0
      subst hp; subst h0; subst hc0
      have hcs : cs = [] := List.eq_nil_of_length_eq_zero (by simpa using hlen)
      subst hcs
      rcases Nat.eq_zero_or_pos yn with hy0 | hy0
      · subst hy0
        have hys : ys = [] := List.eq_nil_of_length_eq_zero (by simpa using hylen)
        subst hys
        have hr : (Builtin.append_ #[t, t] t #[.slice none 0 0, .slice (some ya) 0 yc]).run P w = .ok (.slice none 0 0) w := by
          simp [Builtin.append_, run_underlying st.ht, sizeOf, typeInfo, hi, Builtin.lenOf, Builtin.firstCells, loadCells, loadCellsFrom]
        exact ⟨⟨none, 0, 0⟩, w, by simp [apS, Sl.v, hr], by simpa using h, Fr.refl, by simp, fun k hk => .inl hk⟩
      · have hr := run_append_nil (P := P) w t t e i z st.ht hi hz ya yn yc ys hylen hnews hy0 (by omega) (by simp only [Nat.zero_add] at hb; omega)
        have no := newOwn 0 [] rfl
        simp only [Nat.zero_add, Array.empty_append] at no ⊢
        refine ⟨⟨some ⟨w.heap.size, 0, none⟩, yn, grownCap w yn 0 e⟩, w.drew.alloc (.cells (ys.toArray ++ Builtin.zeroCells z.cells (grownCap w yn 0 e - yn)) e), by simp only [apS, Sl.v, hr], by simpa using no, newFr _ _, rfl, fun k hk => ?_⟩
        obtain ⟨a, ha, rfl⟩ := hk; cases ha; right; simp
    · simp only at hp hrest
      subst hp
      by_cases hroom : sn + yn ≤ sc
      · have hr := run_append_room (P := P) w t t e i st.ht hi g sn sc (cs ++ rest).toArray (B_heap.1 hB) ya yn yc ys hylen hnews h1 hroom (by simp [hlen, hrest, hylen]; rw [Nat.sub_mul]; have := Nat.mul_le_mul_right i.size hroom; have := Nat.mul_le_mul_right i.size hcap; rw [Nat.add_mul] at *; omega)
        have e1 : ((cs ++ rest).toArray.toList.take (sn * i.size) ++ ys ++ (cs ++ rest).toArray.toList.drop (sn * i.size + ys.length)) = (cs ++ ys) ++ rest.drop ys.length := by
          simp only [← hlen]
          simp
        rw [e1, wr_setRow hB] at hr
        refine ⟨⟨some ⟨g, 0, none⟩, sn + yn, sc⟩, wr w g (cs ++ ys ++ rest.drop ys.length), by simp only [apS, Sl.v, hr], ⟨by simp [hlen, hylen, Nat.add_mul], hroom, hmax, .inr ⟨g, rest.drop ys.length, rfl, by rw [B_wr hB], by simp [hrest, hylen, ← Nat.sub_mul]; congr 1; omega⟩⟩, (Fr.refl).wr (.inl ⟨_, rfl, rfl⟩) _, rfl, fun k hk => .inl hk⟩
      · have holds : ∀ j u, cs[j]? = some u → w.cell? ((⟨g, 0, none⟩ : Addr).add j) = some u := by
          intro j u hu
          rw [add_mk, cell_B hB, Nat.zero_add, List.getElem?_append_left (List.getElem?_eq_some_iff.1 hu).1]
          exact hu
        have hr := run_append_grow (P := P) w t t e i z st.ht hi hz ⟨g, 0, none⟩ sn sc cs hlen holds ya yn yc ys hylen hnews (by omega) (by omega) (fits sc (by omega))
        refine ⟨⟨some ⟨w.heap.size, 0, none⟩, sn + yn, grownCap w (sn + yn) sc e⟩, w.drew.alloc (.cells (cs.toArray ++ ys.toArray ++ Builtin.zeroCells z.cells (grownCap w (sn + yn) sc e - (sn + yn))) e), by simp only [apS, Sl.v, hr], newOwn sc cs rfl, newFr _ _, rfl, fun k hk => ?_⟩
        obtain ⟨a, ha, rfl⟩ := hk; cases ha; right; simp
/-! ### copy -/
theorem run_firstCells_Rd {n : Nat} (hy : Rd w y sz ys) (hn : n ≤ y.n) : (Builtin.firstCells sz n y.v).run P w = .ok (ys.take (n * sz)).toArray w := by
  obtain ⟨yp, yn, yc⟩ := y
  have hylen := hy.len
  simp only at hn hylen
  cases yp with
  | none =>
    have hy0 : yn = 0 := by
      rcases Nat.eq_zero_or_pos yn with h0 | h0
      · exact h0
      · obtain ⟨a, ha, _⟩ := hy.at_ h0; cases ha
    subst hy0
    have : n = 0 := by omega
    subst this
    simp [Builtin.firstCells, Sl.v]
  | some ya =>
    have hl : (ys.take (n * sz)).length = n * sz := by rw [List.length_take, hylen]; exact Nat.min_eq_left (Nat.mul_le_mul_right _ hn)
    have := run_loadCells_list (P := P) w ya (ys.take (n * sz)) (fun j u hu => by
      rw [List.getElem?_take] at hu
      split at hu
      · have hn : 0 < yn := by
          have := (List.getElem?_eq_some_iff.1 hu).1
          rcases Nat.eq_zero_or_pos yn with h0 | h0
          · rw [h0] at hylen; omega
          · exact h0
        obtain ⟨a, ha, hc⟩ := hy.at_ hn
        cases ha
        exact hc j u hu
      · cases hu)
    rw [hl] at this
    simpa [Builtin.firstCells, Sl.v] using this
/-- copy into a block of one's own. -/
theorem cpS_B (st : ST P t e sz by_ Z) {u : TypeId} {g o n c : Nat} {T : TypeId} (hB : B w g = some (cs, T)) (hn : o + n * sz ≤ cs.length) (hy : Rd w y sz ys) (h1 : ∀ v ∈ ys, v.oneCell' = true) :
    cpS P t u ⟨some ⟨g, o, none⟩, n, c⟩ y w = some (((min y.n n : Nat) : Int), wr w g (putL cs o (ys.take (min y.n n * sz)))) := by
  obtain ⟨i, z, hi, hz, hzc, hs, hby⟩ := st.hi
  subst hs
  have hf := run_firstCells_Rd (P := P) (n := min y.n n) hy (Nat.min_le_left _ _)
  have hlen : (ys.take (min y.n n * i.size)).length = min y.n n * i.size := by
    rw [List.length_take, hy.len]; exact Nat.min_eq_left (Nat.mul_le_mul_right _ (Nat.min_le_left _ _))
  have hle : min y.n n * i.size ≤ n * i.size := Nat.mul_le_mul_right _ (Nat.min_le_right _ _)
  have hst := stA_B (o := o) (ys.take (min y.n n * i.size)) 0 w cs hB (by omega) (fun v hv => h1 v (List.mem_of_mem_take hv))
  have hsr := stA_run (P := P) hst
  simp only [Nat.add_zero] at hsr
  have hr : (Builtin.copy_ #[t, u] 3 #[.slice (some ⟨g, o, none⟩) n c, y.v]).run P w = .ok (.int .i64 ((min y.n n : Nat) : Int)) (wr w g (putL cs o (ys.take (min y.n n * i.size)))) := by
    have hlo : (Builtin.lenOf y.v).run P w = .ok y.n w := rfl
    simp only [Builtin.copy_, List.getElem?_toArray, List.getElem?_cons_zero, List.getElem?_cons_succ, Sem.run_bind, run_underlying st.ht, Result.andThen_ok, hlo]
    have hz' : (sizeOf e).run P w = .ok i.size w := by simp [sizeOf, typeInfo, hi]
    have hmin : Nat.min y.n n = min y.n n := rfl
    simp only [hz', Result.andThen_ok, hmin, hf, hsr, Sem.run_pure, goInt]
  unfold cpS
  simp only [Sl.v] at hr ⊢
  rw [hr]
end

/-! ### Steps: each act as a new world of which facts are known -/
/-- Below n all blocks outside S are as they were. -/
structure Fz (n : Nat) (S : Nat → Prop) (w w' : World) : Prop where
  os : w'.os = w.os
  tape : w'.tape = w.tape
  output : w'.output = w.output
  size : w.heap.size ≤ w'.heap.size
  block : ∀ k, k < n → ¬ S k → w'.heap[k]? = w.heap[k]?
section
variable {n b o : Nat} {S : Nat → Prop} {w w' w'' : World} {cs : List Value} {T : TypeId}
theorem Fz.refl : Fz n S w w := ⟨rfl, rfl, rfl, Nat.le_refl _, fun _ _ _ => rfl⟩
theorem Fz.trans (h : Fz n S w w') (k : Fz n S w' w'') : Fz n S w w'' :=
  ⟨k.os.trans h.os, k.tape.trans h.tape, k.output.trans h.output, Nat.le_trans h.size k.size, fun i hi hs => (k.block i hi hs).trans (h.block i hi hs)⟩
theorem Fz.fr (h : Fz w.heap.size S w w') : Fr S w w' := ⟨h.os, h.tape, h.output, h.size, h.block⟩
theorem Fr.fz {S' : Nat → Prop} (h : Fr S' w w') (hn : n ≤ w.heap.size) (hs : ∀ k, S' k → S k ∨ n ≤ k) : Fz n S w w' :=
  ⟨h.os, h.tape, h.output, h.size, fun k hk hS => h.block k (by omega) fun h' => (hs k h').elim hS (fun h2 => by omega)⟩
theorem Fz.B (h : Fz n S w w') {k : Nat} {x : List Value × TypeId} (hk : B w k = some x) (hn : k < n) (hs : ¬ S k) : D.B w' k = some x := by
  have := h.block k hn hs
  unfold D.B at hk ⊢
  rwa [this]
theorem Fz.mono {S' : Nat → Prop} {m : Nat} (h : Fz n S w w') (hs : ∀ i, i < m → S i → S' i) (hm : m ≤ n) : Fz m S' w w' :=
  ⟨h.os, h.tape, h.output, h.size, fun i hi hn => h.block i (by omega) fun h' => hn (hs i hi h')⟩
/-- One block alone has turned. -/
structure One (b : Nat) (w w' : World) : Prop where
  os : w'.os = w.os
  tape : w'.tape = w.tape
  output : w'.output = w.output
  size : w'.heap.size = w.heap.size
  block : ∀ k, k ≠ b → w'.heap[k]? = w.heap[k]?
theorem One.fz (h : One b w w') (hb : S b ∨ n ≤ b) : Fz n S w w' :=
  ⟨h.os, h.tape, h.output, Nat.le_of_eq h.size.symm, fun k hk hs => h.block k fun e => by subst e; exact hb.elim hs (fun h2 => by omega)⟩
theorem One.fr (h : One b w w') (hb : S b) : Fr S w w' := ⟨h.os, h.tape, h.output, Nat.le_of_eq h.size.symm, fun k hk hs => h.block k fun e => by subst e; exact hs hb⟩
theorem One.B (h : One b w w') {k : Nat} (hk : k ≠ b) : D.B w' k = D.B w k := by unfold D.B; rw [h.block k hk]
theorem One.wr (w : World) (b : Nat) (cs : List Value) : One b w (wr w b cs) := ⟨rfl, rfl, rfl, by simp, fun k hk => heap_wr_ne hk⟩
theorem One.own {e : TypeId} {s : Sl} {sz : Nat} (h : One b w w') (ho : Own w e s sz cs) (hb : ¬ s.blk b) : Own w' e s sz cs :=
  ho.fr (S := fun k => k = b) (h.fr rfl) (fun k hk e => hb (e ▸ hk))
/-- New blocks alone. -/
theorem new_fr {x : Obj} : Fr S w (w.alloc x) := Fr.refl.alloc x
theorem stV_s {v : Value} (h : B w b = some (cs, T)) (ho : o < cs.length) (hv : v.oneCell' = true) : ∃ w', stV w ⟨b, o, none⟩ v = some w' ∧ B w' b = some (cs.set o v, T) ∧ One b w w' :=
  ⟨_, stV_B h ho hv, B_wr h, One.wr _ _ _⟩
theorem stA_s {vs : List Value} (h : B w b = some (cs, T)) (ho : o + vs.length ≤ cs.length) (hv : ∀ v ∈ vs, v.oneCell' = true) : ∃ w', stA w ⟨b, o, none⟩ 0 vs = some w' ∧ B w' b = some (putL cs o vs, T) ∧ One b w w' :=
  ⟨_, stA_B vs 0 w cs h (by omega) hv, by simpa using B_wr h, One.wr _ _ _⟩
/-- A new block. -/
structure New (w w' : World) (cs : List Value) (T : TypeId) : Prop where
  b : B w' w.heap.size = some (cs, T)
  fr : ∀ (n : Nat) (S : Nat → Prop), n ≤ w.heap.size → Fz n S w w'
  size : w'.heap.size = w.heap.size + 1
  old : ∀ k, k < w.heap.size → B w' k = B w k
theorem new_alloc : New w (w.alloc (.cells cs.toArray T)) cs T :=
  ⟨B_new, fun n S hn => (new_fr (S := S)).fz hn (fun _ h => .inl h), by simp, fun k hk => B_alloc hk⟩
theorem mk_s : ∃ w', mk w T cs = some (⟨w.heap.size, 0, none⟩, w') ∧ New w w' cs T := ⟨_, rfl, new_alloc⟩
theorem bsl_s {sz : Nat} {ps : List (List Value)} (h : ∀ p ∈ ps, p.length = sz) : ∃ w', bsl w T sz ps = some (⟨some ⟨w.heap.size, 0, none⟩, ps.length, ps.length⟩, w') ∧ New w w' ps.flatten T := by
  refine ⟨_, ?_, new_alloc⟩
  unfold bsl
  rw [if_pos (by simpa using h)]
theorem mkS_s {P : Program} {t e : TypeId} {sz by_ : Nat} {Z : List Value} (st : ST P t e sz by_ Z) {m : Int} (h0 : 0 ≤ m) (hb : (by_ : Int) * m ≤ 281474976710656) :
    ∃ w', mkS P t m m w = some (⟨some ⟨w.heap.size, 0, none⟩, m.toNat, m.toNat⟩, w') ∧ New w w' (List.replicate m.toNat Z).flatten e := ⟨_, mkS_ok st h0 hb, new_alloc⟩
theorem dr_s : ∃ w', dr w = some w' ∧ (∀ k, B w' k = B w k) ∧ (∀ (n : Nat) (S : Nat → Prop), Fz n S w w') ∧ w'.heap.size = w.heap.size ∧ (∀ a, w'.cell? a = w.cell? a) := ⟨_, rfl, fun _ => rfl, fun _ _ => ⟨rfl, rfl, rfl, Nat.le_refl _, fun _ _ _ => rfl⟩, rfl, fun _ => rfl⟩
theorem cpS_s {P : Program} {t e u : TypeId} {sz by_ m c : Nat} {Z ys : List Value} {y : Sl} (st : ST P t e sz by_ Z) (hB : B w b = some (cs, T)) (hn : o + m * sz ≤ cs.length) (hy : Rd w y sz ys) (h1 : ∀ v ∈ ys, v.oneCell' = true) :
    ∃ w', cpS P t u ⟨some ⟨b, o, none⟩, m, c⟩ y w = some (((min y.n m : Nat) : Int), w') ∧ B w' b = some (putL cs o (ys.take (min y.n m * sz)), T) ∧ One b w w' :=
  ⟨_, cpS_B st hB hn hy h1, B_wr hB, One.wr _ _ _⟩
theorem Own.of_new {e : TypeId} {sz : Nat} {m : Nat} (h : New w w' cs e) (hl : cs.length = m * sz) (hm : m ≤ 9223372036854775807) : Own w' e ⟨some ⟨w.heap.size, 0, none⟩, m, m⟩ sz cs :=
  ⟨hl, Nat.le_refl _, hm, .inr ⟨_, [], rfl, by simpa using h.b, by simp⟩⟩
end
/-! ### Elements -/
theorem chunk {α : Type} {f : α → List Value} {sz : Nat} : ∀ (l : List α) (k : Nat), (∀ x ∈ l, (f x).length = sz) → (hk : k < l.length) → ((l.flatMap f).drop (k * sz)).take sz = f l[k]
  | [], k, _, hk => by simp at hk
  | x :: l, 0, h, _ => by
    have := h x (by simp)
    simp only [Nat.zero_mul, List.drop_zero, List.flatMap_cons, List.getElem_cons_zero]
    rw [List.take_append_of_le_length (by omega), List.take_of_length_le (by omega)]
  | x :: l, k + 1, h, hk => by
    have hx := h x (by simp)
    simp only [List.flatMap_cons, List.getElem_cons_succ]
    rw [Nat.succ_mul, List.drop_append, List.drop_of_length_le (by omega), List.nil_append, show k * sz + sz - (f x).length = k * sz by omega]
    exact chunk l k (fun y hy => h y (by simp [hy])) (by simpa using hk)
theorem flatLen {α : Type} {f : α → List Value} {sz : Nat} (l : List α) (h : ∀ x ∈ l, (f x).length = sz) : (l.flatMap f).length = l.length * sz := by
  induction l with
  | nil => simp
  | cons x l ih =>
    simp only [List.flatMap_cons, List.length_append, List.length_cons]
    rw [h x (by simp), ih (fun y hy => h y (by simp [hy])), Nat.succ_mul]; omega
theorem takeA {n k : Nat} (A C : List Value) (h : A.length = n) : (A ++ C).take (n + k) = A ++ C.take k := by
  subst h; rw [List.take_append, List.take_of_length_le (by omega)]; simp
theorem dropA {n k : Nat} (A C : List Value) (h : A.length = n) : (A ++ C).drop (n + k) = C.drop k := by
  subst h; rw [List.drop_append, List.drop_of_length_le (by omega)]; simp
theorem rd_at {w : World} {sz i : Nat} {cs : List Value} {s : Sl} (h : Rd w s sz cs) (hi : i < s.n) : ∃ a, ix s i sz = some a ∧ ldA sz w a 0 = some ((cs.drop (i * sz)).take sz) ∧ (∀ j v, j < sz → cs[i * sz + j]? = some v → w.cell? (a.add j) = some v) ∧ (s.blk a.block) := by
  obtain ⟨a, e, hc⟩ := h.ix hi
  have hb : s.blk a.block := by
    obtain ⟨a', ha', _⟩ := h.at_ (by omega)
    unfold ix at e
    rw [ha', Option.bind_some] at e
    split at e
    · cases e; exact ⟨a', ha', by unfold Addr.add; split <;> rfl⟩
    · cases e
  refine ⟨a, e, ldA_cells sz w a 0 _ ?_ (fun j v hv => ?_), hc, hb⟩
  · rw [List.length_take, List.length_drop, h.len]
    have : (i + 1) * sz ≤ s.n * sz := Nat.mul_le_mul_right _ hi
    rw [Nat.succ_mul] at this; omega
  · rw [List.getElem?_take] at hv
    split at hv
    · rename_i hj
      rw [List.getElem?_drop] at hv
      rw [Nat.zero_add]; exact hc j v hj hv
    · cases hv
end Go.Proofs.Ytejkaciimmfgcaa.D
