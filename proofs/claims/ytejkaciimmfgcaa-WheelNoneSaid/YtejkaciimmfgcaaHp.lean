/- Parts of the memory that are owned, side by side: what is done to one leaves the others; what lasts is never written. -/
import Derived.Test.YtejkaciimmfgcaaSlice
import Derived.Test.YtejkaciimmfgcaaOpen
import Derived.Test.YtejkaciimmfgcaaZero
namespace Go.Proofs.Ytejkaciimmfgcaa.D
open Go
set_option linter.unusedVariables false
set_option linter.unusedSimpArgs false

/-- Which blocks last: they are not written any more. -/
abbrev Gh := Nat → Prop
structure Mo (g : Gh) (w : World) (g' : Gh) (w' : World) : Prop where
  size : w.heap.size ≤ w'.heap.size
  keep : ∀ k, g k → g' k ∧ w'.heap[k]? = w.heap[k]?
theorem Mo.r {g : Gh} {w : World} : Mo g w g w := ⟨Nat.le_refl _, fun k h => ⟨h, rfl⟩⟩
theorem Mo.t {g g' g'' : Gh} {w w' w'' : World} (h : Mo g w g' w') (k : Mo g' w' g'' w'') : Mo g w g'' w'' :=
  ⟨Nat.le_trans h.size k.size, fun i hi => ⟨(k.keep i (h.keep i hi).1).1, (k.keep i (h.keep i hi).1).2.trans (h.keep i hi).2⟩⟩
theorem Mo.cell {g g' : Gh} {w w' : World} (h : Mo g w g' w') {a : Addr} {v : Value} (hg : g a.block) (hc : w.cell? a = some v) : w'.cell? a = some v :=
  (World.cell?_of_block (h.keep _ hg).2).trans hc
/-- A part: what it says, in which blocks it lies. -/
structure Rs where
  h : Gh → World → (Nat → Prop) → Prop
  st : ∀ {g : Gh} {w : World} {F : Nat → Prop} {g' : Gh} {w' : World}, h g w F → Mo g w g' w' → (∀ k, F k → w'.heap[k]? = w.heap[k]?) → h g' w' F
  lt : ∀ {g : Gh} {w : World} {F : Nat → Prop} {k : Nat}, h g w F → F k → k < w.heap.size
/-- Nothing but F's blocks and new ones has turned. -/
structure Sp (F : Nat → Prop) (g : Gh) (w : World) (g' : Gh) (w' : World) : Prop where
  fr : Fr F w w'
  gh : ∀ k, k < w.heap.size → ¬ F k → (g' k ↔ g k)
  mo : Mo g w g' w'
  lt : ∀ k, g' k → k < w'.heap.size
abbrev Nw (g : Gh) (w : World) (g' : Gh) (w' : World) : Prop := Sp (fun _ => False) g w g' w'
def Sep (g : Gh) (w : World) : (Nat → Prop) → List Rs → Prop
  | _, [] => True
  | A, r :: L => ∃ F : Nat → Prop, r.h g w F ∧ (∀ k, F k → A k ∧ ¬ g k) ∧ Sep g w (fun k => A k ∧ ¬ F k) L
/-- Since (g0, w0) only F0's blocks and new ones have turned; L are the parts that are owned now. -/
structure Hp (F0 : Nat → Prop) (g0 : Gh) (w0 : World) (g : Gh) (w : World) (L : List Rs) : Prop where
  sp : Sp F0 g0 w0 g w
  sep : Sep g w (fun k => F0 k ∨ w0.heap.size ≤ k) L
section
variable {F F' F0 A A' : Nat → Prop} {g g' g'' g0 : Gh} {w w' w'' w0 : World} {L : List Rs} {r r' s q u v : Rs}
theorem Sp.rfl' (h : ∀ k, g k → k < w.heap.size) : Sp F g w g w := ⟨Fr.refl, fun _ _ _ => Iff.rfl, Mo.r, h⟩
theorem Sp.t (h : Sp F g w g' w') (k : Sp F' g' w' g'' w'') (hF : ∀ i, i < w.heap.size → F' i → F i) : Sp F g w g'' w'' :=
  ⟨h.fr.trans_new k.fr (fun i hi => (Nat.lt_or_ge i w.heap.size).elim (fun hl => .inl (hF i hl hi)) .inr),
   fun i hi hn => (k.gh i (Nat.lt_of_lt_of_le hi h.fr.size) (fun h' => hn (hF i hi h'))).trans (h.gh i hi hn), h.mo.t k.mo, k.lt⟩
theorem Nw.t (h : Nw g w g' w') (k : Nw g' w' g'' w'') : Nw g w g'' w'' := Sp.t h k (fun _ _ h => h)
theorem Sp.size (h : Sp F g w g' w') : w.heap.size ≤ w'.heap.size := h.fr.size
theorem Sep.mono : ∀ {L : List Rs} {A A' : Nat → Prop}, Sep g w A L → (∀ k, k < w.heap.size → A k → A' k) → Sep g w A' L
  | [], _, _, _, _ => trivial
  | r :: L, A, A', ⟨F, h, hF, hL⟩, hA => ⟨F, h, fun k hk => ⟨hA k (r.lt h hk) (hF k hk).1, (hF k hk).2⟩, hL.mono fun k hk h => ⟨hA k hk h.1, h.2⟩⟩
/-- What turned lies outside. -/
theorem Sep.step : ∀ {L : List Rs} {A A' : Nat → Prop}, Sep g w A L → Mo g w g' w' → (∀ k, k < w.heap.size → A k → w'.heap[k]? = w.heap[k]? ∧ (g' k → g k) ∧ A' k) → Sep g' w' A' L
  | [], _, _, _, _, _ => trivial
  | r :: L, A, A', ⟨F, h, hF, hL⟩, m, hA =>
    ⟨F, r.st h m (fun k hk => (hA k (r.lt h hk) (hF k hk).1).1), fun k hk => ⟨(hA k (r.lt h hk) (hF k hk).1).2.2, fun hg => (hF k hk).2 ((hA k (r.lt h hk) (hF k hk).1).2.1 hg)⟩,
      hL.step m fun k hk h => ⟨(hA k hk h.1).1, (hA k hk h.1).2.1, (hA k hk h.1).2.2, h.2⟩⟩
theorem Sep.sw (h : Sep g w A (r :: s :: L)) : Sep g w A (s :: r :: L) := by
  obtain ⟨F, h1, h2, F', h3, h4, h5⟩ := h
  exact ⟨F', h3, fun k hk => ⟨(h4 k hk).1.1, (h4 k hk).2⟩, F, h1, fun k hk => ⟨⟨(h2 k hk).1, fun h' => (h4 k h').1.2 hk⟩, (h2 k hk).2⟩, h5.mono fun k _ h => ⟨⟨h.1.1, h.2⟩, h.1.2⟩⟩
theorem Sep.tl (h : Sep g w A (r :: L)) : Sep g w A L := by
  obtain ⟨F, h1, h2, h3⟩ := h
  exact h3.mono fun k _ h => h.1
theorem Sep.sub (h : Sep g w A (r :: L)) (k : ∀ A, Sep g w A L → Sep g w A' []) : True := trivial
theorem Sep.cons (h : Sep g w A (r :: L)) {L' : List Rs} (k : ∀ A, Sep g w A L → Sep g w A L') : Sep g w A (r :: L') := by
  obtain ⟨F, h1, h2, h3⟩ := h
  exact ⟨F, h1, h2, k _ h3⟩
theorem Hp.lt (H : Hp F0 g0 w0 g w L) : ∀ k, g k → k < w.heap.size := H.sp.lt
theorem Hp.tl (H : Hp F0 g0 w0 g w (r :: L)) : Hp F0 g0 w0 g w L := ⟨H.sp, H.sep.tl⟩
theorem Hp.sw (H : Hp F0 g0 w0 g w (r :: s :: L)) : Hp F0 g0 w0 g w (s :: r :: L) := ⟨H.sp, H.sep.sw⟩
/-- The third, fourth .. comes first. -/
theorem Hp.m2 (H : Hp F0 g0 w0 g w (r :: s :: q :: L)) : Hp F0 g0 w0 g w (q :: r :: s :: L) := ⟨H.sp, (H.sep.cons fun _ h => h.sw).sw⟩
theorem Hp.m3 (H : Hp F0 g0 w0 g w (r :: s :: q :: u :: L)) : Hp F0 g0 w0 g w (u :: r :: s :: q :: L) := ⟨H.sp, ((H.sep.cons fun _ h => (h.cons fun _ h => h.sw).sw).sw)⟩
theorem Hp.m4 (H : Hp F0 g0 w0 g w (r :: s :: q :: u :: v :: L)) : Hp F0 g0 w0 g w (v :: r :: s :: q :: u :: L) :=
  ⟨H.sp, ((H.sep.cons fun _ h => (h.cons fun _ h => (h.cons fun _ h => h.sw).sw).sw).sw)⟩
/-- The first one goes behind the next two, three .. -/
theorem Hp.b2 (H : Hp F0 g0 w0 g w (q :: r :: s :: L)) : Hp F0 g0 w0 g w (r :: s :: q :: L) := ⟨H.sp, H.sep.sw.cons fun _ h => h.sw⟩
theorem Hp.b3 (H : Hp F0 g0 w0 g w (u :: r :: s :: q :: L)) : Hp F0 g0 w0 g w (r :: s :: q :: u :: L) := ⟨H.sp, H.sep.sw.cons fun _ h => h.sw.cons fun _ h => h.sw⟩
theorem Hp.b4 (H : Hp F0 g0 w0 g w (v :: r :: s :: q :: u :: L)) : Hp F0 g0 w0 g w (r :: s :: q :: u :: v :: L) :=
  ⟨H.sp, H.sep.sw.cons fun _ h => h.sw.cons fun _ h => h.sw.cons fun _ h => h.sw⟩
/-- What one part says. -/
theorem Hp.hd (H : Hp F0 g0 w0 g w (r :: L)) : ∃ F, r.h g w F := by obtain ⟨F, h, _⟩ := H.sep; exact ⟨F, h⟩
/-- To begin with. -/
theorem Hp.beg (h : ∀ k, g k → k < w.heap.size) : Hp F0 g w g w [] := ⟨Sp.rfl' h, trivial⟩
/-- New memory alone. -/
theorem Hp.nw (H : Hp F0 g0 w0 g w L) (n : Nw g w g' w') : Hp F0 g0 w0 g' w' L :=
  ⟨H.sp.t n (fun _ _ h => h.elim), H.sep.step n.mo fun k hk hA => ⟨n.fr.block k hk id, fun hg => (n.gh k hk id).1 hg, hA⟩⟩
/-- The first part has become another one, in its own blocks and new ones. -/
theorem Hp.up (H : Hp F0 g0 w0 g w (r :: L)) {Ψ : Gh → World → Prop} (f : ∀ F, r.h g w F → (∀ k, F k → ¬ g k) → ∃ g' w' F', Ψ g' w' ∧ r'.h g' w' F' ∧ Sp F g w g' w' ∧ ∀ k, F' k → ¬ g' k ∧ (F k ∨ w.heap.size ≤ k)) :
    ∃ g' w', Ψ g' w' ∧ Hp F0 g0 w0 g' w' (r' :: L) ∧ Mo g w g' w' := by
  obtain ⟨F, h, hF, hL⟩ := H.sep
  obtain ⟨g', w', F', h1, h2, h3, h4⟩ := f F h (fun k hk => (hF k hk).2)
  refine ⟨g', w', h1, ⟨H.sp.t h3 (fun i hi hf => (hF i hf).1.elim id (fun h => by omega)), F', h2, fun k hk => ⟨?_, (h4 k hk).1⟩, ?_⟩, h3.mo⟩
  · exact (h4 k hk).2.elim (fun h => (hF k h).1) (fun h => .inr (Nat.le_trans H.sp.size h))
  · exact hL.step h3.mo fun k hk hA => ⟨h3.fr.block k hk hA.2, (h3.gh k hk hA.2).1, hA.1, fun hk' => (h4 k hk').2.elim hA.2 (fun h => by omega)⟩
/-- A new part, in new blocks. -/
theorem Hp.add (H : Hp F0 g0 w0 g w L) (n : Nw g w g' w') (h : r.h g' w' F) (hF : ∀ k, F k → ¬ g' k ∧ w.heap.size ≤ k) : Hp F0 g0 w0 g' w' (r :: L) :=
  ⟨(H.nw n).sp, F, h, fun k hk => ⟨.inr (Nat.le_trans H.sp.size (hF k hk).2), (hF k hk).1⟩, H.sep.step n.mo fun k hk hA => ⟨n.fr.block k hk id, (n.gh k hk id).1, hA, fun hk' => by have := (hF k hk').2; omega⟩⟩
/-- The first part lasts from now on. -/
theorem Hp.keep (H : Hp F0 g0 w0 g w (r :: L)) : ∃ (g' : Gh) (F : Nat → Prop), r.h g' w F ∧ (∀ k, F k → g' k) ∧ Hp F0 g0 w0 g' w L ∧ Mo g w g' w := by
  obtain ⟨F, h, hF, hL⟩ := H.sep
  have m : Mo g w (fun k => g k ∨ F k) w := ⟨Nat.le_refl _, fun k hk => ⟨.inl hk, rfl⟩⟩
  refine ⟨fun k => g k ∨ F k, F, r.st h m (fun _ _ => rfl), fun k hk => .inr hk, ⟨⟨H.sp.fr, fun k hk hn => ?_, H.sp.mo.t m, fun k hk => hk.elim (H.lt k) (r.lt h)⟩, ?_⟩, m⟩
  · rw [← H.sp.gh k hk hn]
    exact ⟨fun h => h.elim id (fun h => ((hF k h).1.elim hn (fun h => by omega)).elim), .inl⟩
  · exact hL.step m fun k hk hA => ⟨rfl, fun h => h.elim id (fun h => (hA.2 h).elim), hA.1⟩
theorem nw_drew (h : ∀ k, g k → k < w.heap.size) : Nw g w g w.drew := ⟨Fr.refl.drew, fun _ _ _ => Iff.rfl, ⟨Nat.le_refl _, fun k h => ⟨h, rfl⟩⟩, h⟩
theorem nw_alloc (h : ∀ k, g k → k < w.heap.size) (o : Obj) : Nw g w g (w.alloc o) :=
  ⟨Fr.refl.alloc o, fun _ _ _ => Iff.rfl, ⟨by simp, fun k hk => ⟨hk, Go.heap_alloc_old w o (h k hk)⟩⟩, fun k hk => by have := h k hk; simp; omega⟩
theorem Hp.dr (H : Hp F0 g0 w0 g w L) : ∃ w', dr w = some w' ∧ Hp F0 g0 w0 g w' L ∧ Mo g w g w' := ⟨_, rfl, H.nw (nw_drew H.lt), (nw_drew H.lt).mo⟩
/-- A function that leaves all old blocks as they were (of elder texts). -/
theorem nw_of (h : ∀ k, g k → k < w.heap.size) (f : ∀ S, Fr S w w') : Nw g w g w' :=
  ⟨f _, fun _ _ _ => Iff.rfl, ⟨(f (fun _ => False)).size, fun k hk => ⟨hk, (f (fun _ => False)).block k (h k hk) id⟩⟩, fun k hk => Nat.lt_of_lt_of_le (h k hk) (f (fun _ => False)).size⟩
theorem Hp.old (H : Hp F0 g0 w0 g w L) (f : ∀ S, Fr S w w') : Hp F0 g0 w0 g w' L := H.nw (nw_of H.lt f)
theorem Hp.mold (H : Hp F0 g0 w0 g w L) (f : ∀ S, Fr S w w') : Mo g w g w' := (nw_of H.lt f).mo
end

/-! ### A block -/
def bxR (b : Nat) (cs : List Value) (T : TypeId) : Rs where
  h g w F := B w b = some (cs, T) ∧ ∀ k, F k ↔ k = b
  st h m hk := ⟨by have := hk _ ((h.2 _).2 rfl); unfold B at h ⊢; rw [this]; exact h.1, h.2⟩
  lt h hk := by have := (h.2 _).1 hk; subst this; exact B_lt h.1
/-- An owned slice of which the cells are known. -/
def owR (T : TypeId) (sz : Nat) (s : Sl) (cs : List Value) : Rs where
  h g w F := Own w T s sz cs ∧ ∀ k, F k ↔ s.blk k
  st h m hk := ⟨⟨h.1.len, h.1.cap, h.1.max, h.1.h.elim .inl fun ⟨b, rest, hp, hb, hr⟩ => .inr ⟨b, rest, hp, by have := hk b ((h.2 _).2 ⟨_, hp, rfl⟩); unfold B at hb ⊢; rw [this]; exact hb, hr⟩⟩, h.2⟩
  lt h hk := h.1.lt ((h.2 _).1 hk)
section
variable {F F' F0 A A' : Nat → Prop} {g g' g'' g0 : Gh} {w w' w'' w0 : World} {L : List Rs} {r r' s q u v : Rs} {b : Nat} {cs ys : List Value} {T : TypeId} {sz : Nat} {z y : Sl}
theorem Hp.box (H : Hp F0 g0 w0 g w L) : ∃ b w', D.mk w T cs = some (⟨b, 0, none⟩, w') ∧ Hp F0 g0 w0 g w' (bxR b cs T :: L) ∧ Mo g w g w' :=
  ⟨_, _, rfl, H.add (nw_alloc H.lt _) (F := fun k => k = w.heap.size) ⟨B_new, fun _ => Iff.rfl⟩ (fun k hk => ⟨fun hg => by have := H.lt k hg; omega, by omega⟩), (nw_alloc H.lt _).mo⟩
theorem Hp.bx (H : Hp F0 g0 w0 g w (bxR b cs T :: L)) : B w b = some (cs, T) := by obtain ⟨F, h⟩ := H.hd; exact h.1
theorem Hp.ow (H : Hp F0 g0 w0 g w (owR T sz z cs :: L)) : Own w T z sz cs := by obtain ⟨F, h⟩ := H.hd; exact h.1
theorem sp_wr {c : List Value} (h : B w b = some (c, T)) (hg : ¬ g b) (hF : F b) (hl : ∀ k, g k → k < w.heap.size) : Sp F g w g (wr w b cs) :=
  ⟨Fr.refl.wr (.inl hF) _, fun _ _ _ => Iff.rfl, ⟨by simp, fun k hk => ⟨hk, heap_wr_ne (fun e => hg (e ▸ hk))⟩⟩, fun k hk => by have := hl k hk; simpa using this⟩
theorem Hp.stV (H : Hp F0 g0 w0 g w (bxR b cs T :: L)) {o : Nat} {x : Value} (ho : o < cs.length) (hx : x.oneCell' = true) : ∃ w', stV w ⟨b, o, none⟩ x = some w' ∧ Hp F0 g0 w0 g w' (bxR b (cs.set o x) T :: L) ∧ Mo g w g w' := by
  have hb := H.bx
  obtain ⟨g', w', ⟨rfl, e⟩, h2, m⟩ := H.up (r' := bxR b (cs.set o x) T) (Ψ := fun g' w' => g' = g ∧ D.stV w ⟨b, o, none⟩ x = some w') fun F h hF =>
    ⟨g, _, F, ⟨rfl, stV_B hb ho hx⟩, ⟨B_wr hb, h.2⟩, sp_wr hb (hF _ ((h.2 _).2 rfl)) ((h.2 _).2 rfl) H.lt, fun k hk => ⟨hF k hk, .inl hk⟩⟩
  exact ⟨w', e, h2, m⟩
theorem Hp.stA (H : Hp F0 g0 w0 g w (bxR b cs T :: L)) {o : Nat} {vs : List Value} (ho : o + vs.length ≤ cs.length) (hx : ∀ v ∈ vs, v.oneCell' = true) : ∃ w', stA w ⟨b, o, none⟩ 0 vs = some w' ∧ Hp F0 g0 w0 g w' (bxR b (putL cs o vs) T :: L) ∧ Mo g w g w' := by
  have hb := H.bx
  obtain ⟨g', w', ⟨rfl, e⟩, h2, m⟩ := H.up (r' := bxR b (putL cs o vs) T) (Ψ := fun g' w' => g' = g ∧ D.stA w ⟨b, o, none⟩ 0 vs = some w') fun F h hF =>
    ⟨g, _, F, ⟨rfl, stA_B vs 0 w cs hb (by omega) hx⟩, ⟨B_wr hb, h.2⟩, sp_wr hb (hF _ ((h.2 _).2 rfl)) ((h.2 _).2 rfl) H.lt, fun k hk => ⟨hF k hk, .inl hk⟩⟩
  exact ⟨w', e, by simpa using h2, m⟩
/-! ### What lasts -/
structure PR (g : Gh) (w : World) (s : Sl) (sz : Nat) (cs : List Value) : Prop where
  rd : Rd w s sz cs
  per : ∀ a, s.p = some a → 0 < s.n → g a.block
theorem PR.mo (h : PR g w z sz cs) (m : Mo g w g' w') : PR g' w' z sz cs :=
  ⟨⟨h.rd.len, fun hn => by
    obtain ⟨a, e, hc⟩ := h.rd.at_ hn
    have hb : ∀ j, (a.add j).block = a.block := fun j => by unfold Addr.add; split <;> rfl
    exact ⟨a, e, fun j v hv => m.cell (by rw [hb]; exact h.per a e hn) (hc j v hv)⟩⟩, fun a e hn => (m.keep _ (h.per a e hn)).1⟩
theorem PR.nil (h : z.n = 0) : PR g w z sz [] := ⟨Rd.nil h, fun a e hn => by omega⟩
theorem Hp.keepO (H : Hp F0 g0 w0 g w (owR T sz z cs :: L)) : ∃ g' : Gh, PR g' w z sz cs ∧ Hp F0 g0 w0 g' w L ∧ Mo g w g' w := by
  obtain ⟨g', F, h1, h2, h3, h4⟩ := H.keep
  exact ⟨g', ⟨h1.1.rd, fun a e hn => h2 _ ((h1.2 _).2 ⟨a, e, rfl⟩)⟩, h3, h4⟩
/-! ### Owned slices -/
theorem Hp.onil (H : Hp F0 g0 w0 g w L) : Hp F0 g0 w0 g w (owR T sz Sl.nil [] :: L) :=
  H.add (Sp.rfl' H.lt) (F := fun _ => False) ⟨Own.nil, fun k => ⟨fun h => h.elim, fun ⟨a, ha, _⟩ => by cases ha⟩⟩ (fun k hk => hk.elim)
variable {P : Program} {t' e : TypeId} {by_ : Nat} {Z : List Value}
theorem sp_own (h : Own w T z sz cs) (hF : ∀ k, F k ↔ z.blk k) (hn : ∀ k, F k → ¬ g k) (hl : ∀ k, g k → k < w.heap.size) (f : Fr z.blk w w') : Sp F g w g w' :=
  ⟨f.mono fun i hi => .inl ((hF i).2 hi), fun _ _ _ => Iff.rfl, ⟨f.size, fun k hk => ⟨hk, f.block k (hl k hk) (fun hb => hn k ((hF k).2 hb) hk)⟩⟩, fun k hk => Nat.lt_of_lt_of_le (hl k hk) f.size⟩
theorem Hp.apS (st : ST P t' e sz by_ Z) (H : Hp F0 g0 w0 g w (owR e sz z cs :: L)) (hy : Rd w y sz ys) (h1 : ∀ v ∈ ys, v.oneCell' = true) (hb : (z.n + y.n) * by_ ≤ 140737488355328) :
    ∃ z' w', apS P t' z y w = some (z', w') ∧ z'.n = z.n + y.n ∧ Hp F0 g0 w0 g w' (owR e sz z' (cs ++ ys) :: L) ∧ Mo g w g w' := by
  have ho := H.ow
  obtain ⟨z', w', e1, o1, f1, n1, k1⟩ := apS_own st ho hy h1 hb
  obtain ⟨g', w'', ⟨rfl, rfl⟩, h2, m⟩ := H.up (r' := owR e sz z' (cs ++ ys)) (Ψ := fun g' w'' => g' = g ∧ w'' = w') fun F h hF =>
    ⟨g, w', z'.blk, ⟨rfl, rfl⟩, ⟨o1, fun _ => Iff.rfl⟩, sp_own ho h.2 hF H.lt f1, fun k hk => (k1 k hk).elim (fun h' => ⟨hF k ((h.2 k).2 h'), .inl ((h.2 k).2 h')⟩) (fun h' => ⟨fun hg => by have := H.lt k hg; omega, .inr h'⟩)⟩
  exact ⟨z', w'', e1, n1, h2, m⟩
theorem Hp.apZ (st : ST P t' e sz by_ Z) {ti : TypeId} {k : IntKind} (hti : P.underlying ti = some (.int k)) (H : Hp F0 g0 w0 g w (owR e sz z cs :: L)) (m : Nat) (h1 : ∀ v ∈ Z, v.oneCell' = true) (hb : (z.n + m) * by_ ≤ 140737488355328) :
    ∃ z' w', D.apZ P t' ti z (m : Int) w = some (z', w') ∧ z'.n = z.n + m ∧ Hp F0 g0 w0 g w' (owR e sz z' (cs ++ (List.replicate m Z).flatten) :: L) ∧ Mo g w g w' := by
  have ho := H.ow
  obtain ⟨z', w', e1, o1, f1, n1, k1⟩ := apZ_own st hti ho m h1 hb
  obtain ⟨g', w'', ⟨rfl, rfl⟩, h2, m⟩ := H.up (r' := owR e sz z' (cs ++ (List.replicate m Z).flatten)) (Ψ := fun g' w'' => g' = g ∧ w'' = w') fun F h hF =>
    ⟨g, w', z'.blk, ⟨rfl, rfl⟩, ⟨o1, fun _ => Iff.rfl⟩, sp_own ho h.2 hF H.lt f1, fun k hk => (k1 k hk).elim (fun h' => ⟨hF k ((h.2 k).2 h'), .inl ((h.2 k).2 h')⟩) (fun h' => ⟨fun hg => by have := H.lt k hg; omega, .inr h'⟩)⟩
  exact ⟨z', w'', e1, n1, h2, m⟩
theorem Hp.new (H : Hp F0 g0 w0 g w L) {m : Nat} (h : New w w' cs e) (hl : cs.length = m * sz) (hm : m ≤ 9223372036854775807) :
    Hp F0 g0 w0 g w' (owR e sz ⟨some ⟨w.heap.size, 0, none⟩, m, m⟩ cs :: L) ∧ Mo g w g w' := by
  have n := nw_of H.lt (fun S => (h.fr _ S (Nat.le_refl _)).fr)
  refine ⟨H.add n (F := fun k => k = w.heap.size) ⟨Own.of_new h hl hm, fun k => ⟨fun hk => ⟨_, rfl, hk.symm⟩, fun ⟨a, ha, hk⟩ => by cases ha; exact hk.symm⟩⟩ (fun k hk => ⟨fun hg => by have := H.lt k hg; omega, by omega⟩), n.mo⟩
theorem Hp.bsl (H : Hp F0 g0 w0 g w L) {ps : List (List Value)} (h : ∀ p ∈ ps, p.length = sz) (hm : ps.length ≤ 9223372036854775807) :
    ∃ z w', bsl w T sz ps = some (z, w') ∧ z.n = ps.length ∧ z.c = ps.length ∧ Hp F0 g0 w0 g w' (owR T sz z ps.flatten :: L) ∧ Mo g w g w' := by
  obtain ⟨w', e, n⟩ := bsl_s (w := w) (T := T) h
  have hl : ps.flatten.length = ps.length * sz := by
    have := flatLen (f := fun c : List Value => c) ps h
    rwa [List.flatMap_id'] at this
  obtain ⟨h1, h2⟩ := H.new n hl hm
  exact ⟨_, w', e, rfl, rfl, h1, h2⟩
theorem Hp.mkS (st : ST P t' e sz by_ Z) (H : Hp F0 g0 w0 g w L) {m : Int} (h0 : 0 ≤ m) (hb : (by_ : Int) * m ≤ 281474976710656) :
    ∃ z w', mkS P t' m m w = some (z, w') ∧ z.n = m.toNat ∧ z.c = m.toNat ∧ Hp F0 g0 w0 g w' (owR e sz z (List.replicate m.toNat Z).flatten :: L) ∧ Mo g w g w' := by
  obtain ⟨w', e1, n⟩ := mkS_s (w := w) st h0 hb
  have hl : (List.replicate m.toNat Z).flatten.length = m.toNat * sz := by
    have := flatLen (f := fun c : List Value => c) (sz := sz) (List.replicate m.toNat Z) (fun x hx => by rw [(List.mem_replicate.1 hx).2]; exact st.hZ)
    rw [List.flatMap_id', List.length_replicate] at this; exact this
  have hm : m.toNat ≤ 9223372036854775807 := by
    have hp := st.bpos
    have : (1 : Int) * m ≤ (by_ : Int) * m := Int.mul_le_mul_of_nonneg_right (by omega) h0
    omega
  obtain ⟨h1, h2⟩ := H.new n hl hm
  exact ⟨_, w', e1, rfl, rfl, h1, h2⟩
/-- Where an owned slice's cells lie. -/
theorem Own.at_ (h : Own w T z sz cs) (hn : 0 < z.n) : ∃ b rest, z.p = some ⟨b, 0, none⟩ ∧ B w b = some (cs ++ rest, T) ∧ rest.length = (z.c - z.n) * sz := by
  rcases h.h with ⟨_, h0, _⟩ | h
  · omega
  · exact h
/-- One of an owned slice's cells is written. -/
theorem Hp.oset (H : Hp F0 g0 w0 g w (owR T sz z cs :: L)) {b o : Nat} (hp : z.p = some ⟨b, 0, none⟩) (hn : 0 < z.n) {x : Value} (ho : o < cs.length) (hx : x.oneCell' = true) :
    ∃ w', D.stV w ⟨b, o, none⟩ x = some w' ∧ Hp F0 g0 w0 g w' (owR T sz z (cs.set o x) :: L) ∧ Mo g w g w' := by
  have h0 := H.ow
  obtain ⟨b', rest, hp', hB, hr⟩ := h0.at_ hn
  rw [hp] at hp'; cases hp'
  have e1 := stV_B (o := o) (v := x) hB (by rw [List.length_append]; omega) hx
  rw [List.set_append_left _ _ ho] at e1
  have hB' := B_wr (cs := cs.set o x ++ rest) hB
  obtain ⟨g', w'', ⟨rfl, rfl⟩, h2, m⟩ := H.up (r' := owR T sz z (cs.set o x)) (Ψ := fun g' w'' => g' = g ∧ w'' = wr w b (cs.set o x ++ rest)) fun F h hF =>
    ⟨g, _, F, ⟨rfl, rfl⟩, ⟨⟨by simpa using h0.len, h0.cap, h0.max, .inr ⟨b, rest, hp, hB', hr⟩⟩, h.2⟩, sp_wr hB (hF _ ((h.2 _).2 ⟨_, hp, rfl⟩)) ((h.2 _).2 ⟨_, hp, rfl⟩) H.lt, fun k hk => ⟨hF k hk, .inl hk⟩⟩
  exact ⟨_, e1, h2, m⟩
/-- Cells of an owned slice are written. -/
theorem Hp.osetA (H : Hp F0 g0 w0 g w (owR T sz z cs :: L)) {b o : Nat} (hp : z.p = some ⟨b, 0, none⟩) (hn : 0 < z.n) {vs : List Value} (ho : o + vs.length ≤ cs.length) (hx : ∀ v ∈ vs, v.oneCell' = true) :
    ∃ w', D.stA w ⟨b, o, none⟩ 0 vs = some w' ∧ Hp F0 g0 w0 g w' (owR T sz z (putL cs o vs) :: L) ∧ Mo g w g w' := by
  have h0 := H.ow
  obtain ⟨b', rest, hp', hB, hr⟩ := h0.at_ hn
  rw [hp] at hp'; cases hp'
  have e1 := stA_B (o := o) vs 0 w (cs ++ rest) hB (by rw [List.length_append]; omega) hx
  have e2 : putL (cs ++ rest) (o + 0) vs = putL cs o vs ++ rest := by
    simp only [putL, Nat.add_zero]
    rw [List.take_append_of_le_length (by omega), List.drop_append_of_le_length (by omega)]
    simp
  rw [e2] at e1
  have hB' := B_wr (cs := putL cs o vs ++ rest) hB
  obtain ⟨g', w'', ⟨rfl, rfl⟩, h2, m⟩ := H.up (r' := owR T sz z (putL cs o vs)) (Ψ := fun g' w'' => g' = g ∧ w'' = wr w b (putL cs o vs ++ rest)) fun F h hF =>
    ⟨g, _, F, ⟨rfl, rfl⟩, ⟨⟨by rw [putL_length ho]; exact h0.len, h0.cap, h0.max, .inr ⟨b, rest, hp, hB', hr⟩⟩, h.2⟩, sp_wr hB (hF _ ((h.2 _).2 ⟨_, hp, rfl⟩)) ((h.2 _).2 ⟨_, hp, rfl⟩) H.lt, fun k hk => ⟨hF k hk, .inl hk⟩⟩
  exact ⟨_, e1, h2, m⟩
/-- The first elements of an owned slice are an owned slice. -/
theorem Hp.ocut (H : Hp F0 g0 w0 g w (owR T sz z cs :: L)) {m : Nat} (hm : m ≤ z.n) : Hp F0 g0 w0 g w (owR T sz ⟨z.p, m, z.c⟩ (cs.take (m * sz)) :: L) := by
  obtain ⟨F, h, hF, hL⟩ := H.sep
  have h0 := h.1
  have hle : m * sz ≤ z.n * sz := Nat.mul_le_mul_right _ hm
  refine ⟨H.sp, F, ⟨⟨by rw [List.length_take, h0.len]; simp only; omega, Nat.le_trans hm h0.cap, h0.max, ?_⟩, h.2⟩, hF, hL⟩
  rcases h0.h with ⟨a, b, c⟩ | ⟨b, rest, hp, hB, hr⟩
  · exact .inl ⟨a, by simp only; omega, c⟩
  · refine .inr ⟨b, cs.drop (m * sz) ++ rest, hp, by rw [← List.append_assoc, List.take_append_drop]; exact hB, ?_⟩
    have := h0.cap
    rw [List.length_append, List.length_drop, h0.len, hr, ← Nat.sub_mul, ← Nat.add_mul]
    congr 1
    simp only
    omega
end
/-! ### Steps of a program -/
def Ex {ρ : Type} (T : Option ρ) (Φ : ρ → Prop) : Prop := ∃ r, T = some r ∧ Φ r
section
variable {α β γ δ ε ζ ρ : Type} {Φ : ρ → Prop}
theorem Ex.ret {r : ρ} (h : Φ r) : Ex (some r) Φ := ⟨r, rfl, h⟩
theorem Ex.b1 {o : Option α} {a : α} {f : α → Option ρ} (e : o = some a) (h : Ex (f a) Φ) : Ex (o.bind f) Φ := by subst e; exact h
theorem Ex.s1 {a : α} {f : α → Option ρ} (h : Ex (f a) Φ) : Ex ((some a).bind f) Φ := h
theorem Ex.b2 {o : Option (α × β)} {a : α} {b : β} {f : α → β → Option ρ} (e : o = some (a, b)) (h : Ex (f a b) Φ) : Ex (bind2 o f) Φ := by subst e; exact h
theorem Ex.b3 {o : Option (α × β × γ)} {a : α} {b : β} {c : γ} {f : α → β → γ → Option ρ} (e : o = some (a, b, c)) (h : Ex (f a b c) Φ) : Ex (bind3 o f) Φ := by subst e; exact h
theorem Ex.b4 {o : Option (α × β × γ × δ)} {a : α} {b : β} {c : γ} {d : δ} {f : α → β → γ → δ → Option ρ} (e : o = some (a, b, c, d)) (h : Ex (f a b c d) Φ) : Ex (bind4 o f) Φ := by subst e; exact h
theorem Ex.b5 {o : Option (α × β × γ × δ × ε)} {a : α} {b : β} {c : γ} {d : δ} {x : ε} {f : α → β → γ → δ → ε → Option ρ} (e : o = some (a, b, c, d, x)) (h : Ex (f a b c d x) Φ) : Ex (bind5 o f) Φ := by subst e; exact h
theorem Ex.ck {p : Prop} {o : Option ρ} (hp : p) (h : Ex o Φ) : Ex (chk p o) Φ := by rw [chk_pos hp]; exact h
theorem Ex.t {c : Prop} [Decidable c] {A B : Option ρ} (hc : c) (h : Ex A Φ) : Ex (if c then A else B) Φ := by rw [if_pos hc]; exact h
theorem Ex.f {c : Prop} [Decidable c] {A B : Option ρ} (hc : ¬ c) (h : Ex B Φ) : Ex (if c then A else B) Φ := by rw [if_neg hc]; exact h
theorem Ex.c {b : Bool} {p : Prop} {A B : Option ρ} (hb : b = true ↔ p) (h1 : p → Ex A Φ) (h2 : ¬ p → Ex B Φ) : Ex (if b = true then A else B) Φ := by
  by_cases h : p
  · exact Ex.t (hb.2 h) (h1 h)
  · exact Ex.f (fun h' => h (hb.1 h')) (h2 h)
theorem Ex.mono {T : Option ρ} {Ψ : ρ → Prop} (h : Ex T Ψ) (k : ∀ r, Ψ r → Φ r) : Ex T Φ := by obtain ⟨r, e, h⟩ := h; exact ⟨r, e, k r h⟩
theorem Ex.j1 {o : Option α} {f : α → Option ρ} {Ψ : α → Prop} (h : Ex o Ψ) (k : ∀ a, Ψ a → Ex (f a) Φ) : Ex (o.bind f) Φ := by obtain ⟨a, e, h⟩ := h; subst e; exact k a h
theorem Ex.j2 {o : Option (α × β)} {f : α → β → Option ρ} {Ψ : α × β → Prop} (h : Ex o Ψ) (k : ∀ a b, Ψ (a, b) → Ex (f a b) Φ) : Ex (bind2 o f) Φ := by obtain ⟨⟨a, b⟩, e, h⟩ := h; subst e; exact k a b h
theorem Ex.j3 {o : Option (α × β × γ)} {f : α → β → γ → Option ρ} {Ψ : α × β × γ → Prop} (h : Ex o Ψ) (k : ∀ a b c, Ψ (a, b, c) → Ex (f a b c) Φ) : Ex (bind3 o f) Φ := by obtain ⟨⟨a, b, c⟩, e, h⟩ := h; subst e; exact k a b c h
theorem Ex.j4 {o : Option (α × β × γ × δ)} {f : α → β → γ → δ → Option ρ} {Ψ : α × β × γ × δ → Prop} (h : Ex o Ψ) (k : ∀ a b c d, Ψ (a, b, c, d) → Ex (f a b c d) Φ) : Ex (bind4 o f) Φ := by obtain ⟨⟨a, b, c, d⟩, e, h⟩ := h; subst e; exact k a b c d h
theorem Ex.j5 {o : Option (α × β × γ × δ × ε)} {f : α → β → γ → δ → ε → Option ρ} {Ψ : α × β × γ × δ × ε → Prop} (h : Ex o Ψ) (k : ∀ a b c d x, Ψ (a, b, c, d, x) → Ex (f a b c d x) Φ) : Ex (bind5 o f) Φ := by obtain ⟨⟨a, b, c, d, x⟩, e, h⟩ := h; subst e; exact k a b c d x h
/-- A loop by a measure: what holds ahead of each round. -/
theorem Ex.loop {S R : Type} {step : S → Option (S ⊕ R)} {Φ : R → Prop} (I : Nat → S → Prop) (hs : ∀ m s, I m s → Ex (step s) fun o => match o with | .inl s' => ∃ m', m' < m ∧ I m' s' | .inr r => Φ r) :
    ∀ (m : Nat) (s : S), I m s → Ex (loopF step s) Φ := by
  intro m
  induction m using Nat.strongRecOn with
  | _ m ih =>
    intro s h
    obtain ⟨o, e, ho⟩ := hs m s h
    cases o with
    | inl s' =>
      obtain ⟨m', hm, h'⟩ := ho
      obtain ⟨r, e', h⟩ := ih m' hm s' h'
      exact ⟨r, (loopF_next e).trans e', h⟩
    | inr r => exact ⟨r, loopF_done e, ho⟩
end
end Go.Proofs.Ytejkaciimmfgcaa.D
