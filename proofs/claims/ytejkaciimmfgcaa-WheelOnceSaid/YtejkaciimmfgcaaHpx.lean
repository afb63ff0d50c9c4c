/- More on owned parts: many of one make; clear; rows of cells told by a function. -/
import Derived.Test.YtejkaciimmfgcaaHp
import Derived.Test.YtejkaciimmfgcaaClo
namespace Go.Proofs.Ytejkaciimmfgcaa.D
open Go
set_option linter.unusedVariables false
set_option linter.unusedSimpArgs false
section
variable {F F' F0 A A' : Nat → Prop} {g g' g'' g0 : Gh} {w w' w'' w0 : World} {L L' : List Rs} {r r' s q u v : Rs} {b : Nat} {cs ys : List Value} {T : TypeId} {sz : Nat} {z y : Sl}
theorem Sep.perm (p : L.Perm L') : ∀ {A : Nat → Prop}, Sep g w A L → Sep g w A L' := by
  induction p with
  | nil => exact id
  | cons r _ ih => intro A h; exact h.cons fun _ h => ih h
  | swap r s L => intro A h; exact h.sw
  | trans _ _ ih1 ih2 => intro A h; exact ih2 (ih1 h)
theorem Hp.perm (p : L.Perm L') (H : Hp F0 g0 w0 g w L) : Hp F0 g0 w0 g w L' := ⟨H.sp, H.sep.perm p⟩
/-- One of many parts comes first. -/
theorem Hp.at_ {n i : Nat} {f : Nat → Rs} (hi : i < n) (H : Hp F0 g0 w0 g w ((List.range n).map f ++ L)) : Hp F0 g0 w0 g w (f i :: (((List.range n).erase i).map f ++ L)) := by
  refine H.perm ?_
  have h := (List.perm_cons_erase (List.mem_range.2 hi)).map f
  exact (h.append_right L)
theorem Hp.ta {n i : Nat} {f f' : Nat → Rs} (hi : i < n) (hf : ∀ k, k ≠ i → f' k = f k) (H : Hp F0 g0 w0 g w (f' i :: (((List.range n).erase i).map f ++ L))) : Hp F0 g0 w0 g w ((List.range n).map f' ++ L) := by
  refine H.perm ?_
  have h := (List.perm_cons_erase (List.mem_range.2 hi)).map f'
  have e : ((List.range n).erase i).map f = ((List.range n).erase i).map f' := by
    refine List.map_congr_left fun k hk => (hf k ?_).symm
    exact ((List.nodup_range (n := n)).mem_erase_iff.1 hk).1
  rw [e]
  exact (h.append_right L).symm
theorem Hp.cons_app (H : Hp F0 g0 w0 g w (r :: (L ++ L'))) : Hp F0 g0 w0 g w (L ++ r :: L') := H.perm List.perm_middle.symm
theorem Hp.app_cons (H : Hp F0 g0 w0 g w (L ++ r :: L')) : Hp F0 g0 w0 g w (r :: (L ++ L')) := H.perm List.perm_middle
theorem Hp.app_sw (H : Hp F0 g0 w0 g w (L ++ L')) : Hp F0 g0 w0 g w (L' ++ L) := H.perm List.perm_append_comm
/-! ### Several parts as one -/
def SepX (g : Gh) (w : World) : (Nat → Prop) → List Rs → Prop
  | F, [] => ∀ k, ¬ F k
  | F, r :: L => ∃ F1 F2 : Nat → Prop, r.h g w F1 ∧ (∀ k, F k ↔ F1 k ∨ F2 k) ∧ (∀ k, F1 k → ¬ F2 k) ∧ SepX g w F2 L
theorem SepX.st : ∀ {L : List Rs} {F : Nat → Prop}, SepX g w F L → Mo g w g' w' → (∀ k, F k → w'.heap[k]? = w.heap[k]?) → SepX g' w' F L
  | [], _, h, _, _ => h
  | r :: L, F, ⟨F1, F2, h1, h2, h3, h4⟩, m, hk => ⟨F1, F2, r.st h1 m (fun k h => hk k ((h2 k).2 (.inl h))), h2, h3, h4.st m (fun k h => hk k ((h2 k).2 (.inr h)))⟩
theorem SepX.lt : ∀ {L : List Rs} {F : Nat → Prop} {k : Nat}, SepX g w F L → F k → k < w.heap.size
  | [], _, _, h, hk => (h _ hk).elim
  | r :: L, F, k, ⟨F1, F2, h1, h2, h3, h4⟩, hk => ((h2 k).1 hk).elim (r.lt h1) h4.lt
theorem SepX.sep : ∀ {l : List Rs} {F A : Nat → Prop}, SepX g w F l → (∀ k, F k → A k ∧ ¬ g k) → Sep g w (fun k => A k ∧ ¬ F k) L → Sep g w A (l ++ L)
  | [], F, A, h, hA, hL => hL.mono fun k _ h => h.1
  | r :: l, F, A, ⟨F1, F2, h1, h2, h3, h4⟩, hA, hL =>
    ⟨F1, h1, fun k hk => hA k ((h2 k).2 (.inl hk)), h4.sep (fun k hk => ⟨⟨(hA k ((h2 k).2 (.inr hk))).1, fun h => h3 k h hk⟩, (hA k ((h2 k).2 (.inr hk))).2⟩)
      (hL.mono fun k _ h => ⟨⟨h.1, fun h' => h.2 ((h2 k).2 (.inl h'))⟩, fun h' => h.2 ((h2 k).2 (.inr h'))⟩)⟩
theorem Sep.sepx : ∀ {l : List Rs} {A : Nat → Prop}, Sep g w A (l ++ L) → ∃ F : Nat → Prop, SepX g w F l ∧ (∀ k, F k → A k ∧ ¬ g k) ∧ Sep g w (fun k => A k ∧ ¬ F k) L
  | [], A, h => ⟨fun _ => False, fun _ h => h, fun k h => h.elim, Sep.mono h fun k _ h => ⟨h, fun h => h⟩⟩
  | r :: l, A, ⟨F1, h1, h2, h3⟩ => by
    obtain ⟨F2, h4, h5, h6⟩ := Sep.sepx (l := l) h3
    refine ⟨fun k => F1 k ∨ F2 k, ⟨F1, F2, h1, fun k => Iff.rfl, fun k hk hk' => (h5 k hk').1.2 hk, h4⟩, fun k hk => hk.elim (h2 k) (fun h => ⟨(h5 k h).1.1, (h5 k h).2⟩), h6.mono fun k _ h => ⟨h.1.1, fun h' => h'.elim h.1.2 h.2⟩⟩
/-- Parts of which it is known that they are as one of many lists says. -/
def packR {ι : Type} (Ls : ι → List Rs) (ok : ι → Prop) : Rs where
  h g w F := ∃ i, ok i ∧ SepX g w F (Ls i)
  st := fun ⟨i, h1, h2⟩ m hk => ⟨i, h1, h2.st m hk⟩
  lt := fun ⟨i, h1, h2⟩ hk => h2.lt hk
theorem Hp.unpack {ι : Type} {Ls : ι → List Rs} {ok : ι → Prop} (H : Hp F0 g0 w0 g w (packR Ls ok :: L)) : ∃ i, ok i ∧ Hp F0 g0 w0 g w (Ls i ++ L) := by
  obtain ⟨sp, F, ⟨i, h1, h2⟩, h3, h4⟩ := H
  exact ⟨i, h1, sp, h2.sep h3 h4⟩
theorem Hp.pack {ι : Type} {Ls : ι → List Rs} {ok : ι → Prop} {i : ι} (h : ok i) (H : Hp F0 g0 w0 g w (Ls i ++ L)) : Hp F0 g0 w0 g w (packR Ls ok :: L) := by
  obtain ⟨F, h1, h2, h3⟩ := H.sep.sepx
  exact ⟨H.sp, F, ⟨i, h, h1⟩, h2, h3⟩
/-! ### Rows of cells -/
def rg (n : Nat) (f : Nat → Value) : List Value := (List.range n).map f
@[simp] theorem rg_len {n : Nat} {f : Nat → Value} : (rg n f).length = n := by simp [rg]
theorem rg_get {n i : Nat} {f : Nat → Value} (h : i < n) : (rg n f)[i]? = some (f i) := by simp [rg, h]
theorem rg_set {n i : Nat} {f f' : Nat → Value} {v : Value} (h1 : f' i = v) (h : ∀ k, k ≠ i → f' k = f k) : (rg n f).set i v = rg n f' := by
  apply List.ext_getElem?
  intro k
  rw [List.getElem?_set]
  by_cases hk : i = k
  · subst hk
    by_cases hn : i < n
    · rw [if_pos rfl, if_pos (by simpa using hn), rg_get hn, h1]
    · rw [if_pos rfl, if_neg (by simpa using hn)]
      symm; simp [rg]; omega
  · rw [if_neg hk]
    by_cases hn : k < n
    · rw [rg_get hn, rg_get hn, h k (fun e => hk e.symm)]
    · rw [List.getElem?_eq_none (by simpa using hn), List.getElem?_eq_none (by simpa using hn)]
theorem rg_congr {n : Nat} {f f' : Nat → Value} (h : ∀ k, k < n → f' k = f k) : rg n f' = rg n f := List.map_congr_left fun k hk => h k (List.mem_range.1 hk)
theorem rg_rep {n : Nat} {v : Value} : List.replicate n v = rg n fun _ => v := by simp [rg, List.map_const']
/-! ### Reading -/
theorem Hp.ldI (H : Hp F0 g0 w0 g w (bxR b cs T :: L)) {k : IntKind} {o : Nat} {x : Int} (h : cs[o]? = some (.int k x)) : D.ldI k w ⟨b, o, none⟩ = some x := ldI_B H.bx h
theorem Hp.ldB (H : Hp F0 g0 w0 g w (bxR b cs T :: L)) {o : Nat} {x : Bool} (h : cs[o]? = some (.bool x)) : D.ldB w ⟨b, o, none⟩ = some x := ldB_B H.bx h
theorem Hp.ldP (H : Hp F0 g0 w0 g w (bxR b cs T :: L)) {o : Nat} {x : Option Addr} (h : cs[o]? = some (.pointer x)) : D.ldP w ⟨b, o, none⟩ = some x := ldP_B H.bx h
theorem Hp.ldL (H : Hp F0 g0 w0 g w (bxR b cs T :: L)) {o : Nat} {x : Sl} (h : cs[o]? = some x.v) : D.ldL w ⟨b, o, none⟩ = some x := ldL_B H.bx h
theorem Hp.rd (H : Hp F0 g0 w0 g w (owR T sz z cs :: L)) : Rd w z sz cs := H.ow.rd
/-- The place of an element of a slice that is owned. -/
theorem Own.ix (h : Own w T z 1 cs) {i : Nat} {x : Value} (hx : cs[i]? = some x) : ∃ a, D.ix z (i : Int) 1 = some a ∧ w.cell? a = some x := by
  have hi : i < z.n := by have := h.len; have h2 := (List.getElem?_eq_some_iff.1 hx).1; omega
  obtain ⟨a, ha, hc⟩ := h.rd.at_ (by omega)
  refine ⟨a.add (i * 1), ?_, by rw [Nat.mul_one]; exact hc i x hx⟩
  unfold D.ix
  rw [ha]
  simp only [Option.bind_some]
  rw [if_pos ⟨by omega, by omega⟩]
  simp
theorem Own.ixI (h : Own w T z 1 cs) {i : Nat} {k : IntKind} {x : Int} (hx : cs[i]? = some (.int k x)) : ∃ a, D.ix z (i : Int) 1 = some a ∧ D.ldI k w a = some x := by
  obtain ⟨a, h1, h2⟩ := h.ix hx
  exact ⟨a, h1, ldI_cell h2⟩
theorem ixA_n {b o k len : Nat} (h : k < len) : ixA ⟨b, o, none⟩ (k : Int) len 1 = some ⟨b, o + k, none⟩ := by
  unfold ixA
  rw [if_pos ⟨by omega, by omega⟩]
  simp
theorem ixA_n2 {b o k len sz : Nat} (h : k < len) : ixA ⟨b, o, none⟩ (k : Int) len sz = some ⟨b, o + k * sz, none⟩ := by
  unfold ixA
  rw [if_pos ⟨by omega, by omega⟩]
  simp
theorem wr64 {x : Int} (h1 : -9223372036854775808 ≤ x) (h2 : x ≤ 9223372036854775807) : IntKind.wrap .i64 x = x := by
  simp [IntKind.wrap, IntKind.bits, IntKind.signed]; omega
/-! ### clear -/
variable {P : Program} {t e : TypeId} {by_ : Nat} {Z : List Value}
theorem clS_B (st : ST P t e sz by_ Z) (h1 : ∀ v ∈ Z, v.oneCell' = true) {o n c : Nat} (hB : B w b = some (cs, T)) (hn : 0 < n) (hl : o + n * sz ≤ cs.length) :
    clS P t ⟨some ⟨b, o, none⟩, n, c⟩ w = some (wr w b (putL cs o (List.replicate n Z).flatten)) := by
  obtain ⟨i, z, hi, hz, hzc, hs, hby⟩ := st.hi
  subst hs
  have hna : Builtin.zeroCells z.cells n = (List.replicate n Z).flatten.toArray := by
    apply Array.ext'
    rw [show Builtin.zeroCells z.cells n = madeCells Z.toArray (n * i.size) by unfold Builtin.zeroCells madeCells; rw [hzc]; simp [st.hZ], madeCells_toList Z _ _ st.hZ st.pos]
  have hfl : (List.replicate n Z).flatten.length = n * i.size := by
    have := flatLen (f := fun c : List Value => c) (sz := i.size) (List.replicate n Z) (fun x hx => by rw [(List.mem_replicate.1 hx).2]; exact st.hZ)
    rw [List.flatMap_id', List.length_replicate] at this; exact this
  have hst := stA_B (o := o) (List.replicate n Z).flatten 0 w cs hB (by omega) (fun v hv => by
    obtain ⟨l, hl, hv⟩ := List.mem_flatten.1 hv
    rw [(List.mem_replicate.1 hl).2] at hv
    exact h1 v hv)
  have hsr := stA_run (P := P) hst
  simp only [Nat.add_zero] at hsr
  have hzv : (zeroValue e).run P w = .ok z w := by simp [zeroValue, typeInfo, hi, hz]
  obtain ⟨m, rfl⟩ : ∃ m, n = m + 1 := ⟨n - 1, by omega⟩
  have hr : (Builtin.clear_ #[t] 3 #[.slice (some ⟨b, o, none⟩) (m + 1) c]).run P w = .ok (.tuple #[]) (wr w b (putL cs o (List.replicate (m + 1) Z).flatten)) := by
    simp only [Builtin.clear_, List.getElem?_toArray, List.getElem?_cons_zero, Sem.run_bind, run_underlying st.ht, Result.andThen_ok, hzv, hna, hsr, Sem.run_pure]
  unfold clS
  simp only [Sl.v] at hr ⊢
  rw [hr]
/-- The end of an owned slice is cleared. -/
theorem Hp.clr (st : ST P t e sz by_ Z) (h1 : ∀ v ∈ Z, v.oneCell' = true) (H : Hp F0 g0 w0 g w (owR e sz z cs :: L)) {b o n c : Nat} (hp : z.p = some ⟨b, 0, none⟩) (hn : 0 < n) (ho : o + n * sz ≤ cs.length) :
    ∃ w', clS P t ⟨some ⟨b, o, none⟩, n, c⟩ w = some w' ∧ Hp F0 g0 w0 g w' (owR e sz z (putL cs o (List.replicate n Z).flatten) :: L) ∧ Mo g w g w' := by
  have h0 := H.ow
  have hfl : (List.replicate n Z).flatten.length = n * sz := by
    have := flatLen (f := fun c : List Value => c) (sz := sz) (List.replicate n Z) (fun x hx => by rw [(List.mem_replicate.1 hx).2]; exact st.hZ)
    rw [List.flatMap_id', List.length_replicate] at this; exact this
  have hzn : 0 < z.n := by
    have := h0.len
    have hs := st.pos
    rcases Nat.eq_zero_or_pos z.n with h | h
    · rw [h] at this
      have : 0 < n * sz := Nat.mul_pos hn hs
      omega
    · exact h
  obtain ⟨b', rest, hp', hB, hr⟩ := h0.at_ hzn
  rw [hp] at hp'; cases hp'
  have e1 := clS_B (c := c) st h1 hB hn (by rw [List.length_append]; omega : o + n * sz ≤ (cs ++ rest).length)
  have e2 : putL (cs ++ rest) o (List.replicate n Z).flatten = putL cs o (List.replicate n Z).flatten ++ rest := by
    simp only [putL]
    rw [List.take_append_of_le_length (by omega), List.drop_append_of_le_length (by omega)]
    simp
  rw [e2] at e1
  have hB' := B_wr (cs := putL cs o (List.replicate n Z).flatten ++ rest) hB
  obtain ⟨g', w'', ⟨rfl, rfl⟩, h2, m⟩ := H.up (r' := owR e sz z (putL cs o (List.replicate n Z).flatten)) (Ψ := fun g' w'' => g' = g ∧ w'' = wr w b (putL cs o (List.replicate n Z).flatten ++ rest)) fun F h hF =>
    ⟨g, _, F, ⟨rfl, rfl⟩, ⟨⟨by rw [putL_length (by omega)]; exact h0.len, h0.cap, h0.max, .inr ⟨b, rest, hp, hB', hr⟩⟩, h.2⟩, sp_wr hB (hF _ ((h.2 _).2 ⟨_, hp, rfl⟩)) ((h.2 _).2 ⟨_, hp, rfl⟩) H.lt, fun k hk => ⟨hF k hk, .inl hk⟩⟩
  exact ⟨_, e1, h2, m⟩
/-! ### make with more room than length -/
theorem mkS_ok2 (st : ST P t e sz by_ Z) {l m : Int} (h0 : 0 ≤ l) (h1 : l ≤ m) (hb : (by_ : Int) * m ≤ 281474976710656) :
    D.mkS P t l m w = some (⟨some ⟨w.heap.size, 0, none⟩, l.toNat, m.toNat⟩, w.alloc (.cells ((List.replicate m.toNat Z).flatten).toArray e)) := by
  obtain ⟨i, z, hi, hz, hzc, hs, hby⟩ := st.hi
  subst hs; subst hby
  have hn : m ≤ 281474976710656 := by
    have : (1 : Int) * m ≤ (i.bytes : Int) * m := Int.mul_le_mul_of_nonneg_right (by have := st.bpos; omega) (by omega)
    omega
  have hr := run_make (P := P) w t e i z st.ht hi hz .i64 .i64 l m h0 h1 hb (by omega)
  unfold D.mkS
  rw [hr]
  simp only
  congr 4
  apply Array.ext'
  rw [hzc, madeCells_toList Z _ _ st.hZ st.pos]
theorem Hp.mk0 (st : ST P t e sz by_ Z) (H : Hp F0 g0 w0 g w L) {m : Nat} (hb : by_ * m ≤ 281474976710656) :
    ∃ z w', D.mkS P t 0 (m : Int) w = some (z, w') ∧ z.n = 0 ∧ Hp F0 g0 w0 g w' (owR e sz z [] :: L) ∧ Mo g w g w' := by
  have e1 := mkS_ok2 (w := w) (l := 0) (m := (m : Int)) st (Int.le_refl _) (by omega) (by rw [← Int.natCast_mul]; omega)
  have hl : (List.replicate m Z).flatten.length = m * sz := by
    have := flatLen (f := fun c : List Value => c) (sz := sz) (List.replicate m Z) (fun x hx => by rw [(List.mem_replicate.1 hx).2]; exact st.hZ)
    rw [List.flatMap_id', List.length_replicate] at this; exact this
  have hm : m ≤ 9223372036854775807 := by
    have := Nat.mul_le_mul_right m st.bpos
    omega
  have n := nw_of H.lt (fun S => (new_alloc (w := w) (cs := (List.replicate m Z).flatten) (T := e)).fr _ S (Nat.le_refl _) |>.fr)
  refine ⟨_, _, e1, rfl, H.add n (F := fun k => k = w.heap.size) ⟨⟨by simp, by simp, by simpa using hm, .inr ⟨_, (List.replicate m Z).flatten, rfl, by simp, by simpa using hl⟩⟩, fun k => ⟨fun hk => ⟨_, rfl, hk.symm⟩, fun ⟨a, ha, hk⟩ => by cases ha; exact hk.symm⟩⟩ (fun k hk => ⟨fun hg => by have := H.lt k hg; omega, by omega⟩), n.mo⟩
end
end Go.Proofs.Ytejkaciimmfgcaa.D
