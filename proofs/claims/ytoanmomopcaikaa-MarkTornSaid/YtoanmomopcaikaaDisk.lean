/- Disks by the blocks in which they lie; literals; what a law asks of its arguments. -/
import Derived.Test.YtoanmomopcaikaaSector
import Derived.Test.YtoanmomopcaikaaOpen
import Derived.Lib.SlBytesConst
namespace Go.Proofs.Ytoanmomopcaikaa.D
open Go
set_option linter.unusedVariables false
set_option linter.unusedSimpArgs false
section
variable {w w' : World} {p n : Nat} {D : Dk} {F : Nat → Prop}
/-! ### Literals -/
theorem lit_s {t T : TypeId} {ps : List (List Value)} {P : Program} {m : Nat} (hm : ps.length = m) (ht : P.underlying t = some (.slice T)) (he : P.underlying T = some (.int .u8)) (h : ∀ p ∈ ps, p.length = 1) :
    ∃ w1 w2, bsl w T 1 ps = some (⟨some ⟨w.heap.size, 0, none⟩, m, m⟩, w1) ∧ cvS P t ⟨some ⟨w.heap.size, 0, none⟩, m, m⟩ w1 = some (⟨some ⟨w.heap.size, 0, none⟩, m, m⟩, w2) ∧
      Rd w2 ⟨some ⟨w.heap.size, 0, none⟩, m, m⟩ 1 ps.flatten ∧ (∀ S, Fr S w w2) := by
  subst hm
  have hl : ps.flatten.length = ps.length * 1 := by
    induction ps with
    | nil => rfl
    | cons p ps ih => rw [List.flatten_cons, List.length_append, h p (by simp), ih (fun q hq => h q (by simp [hq]))]; simp; omega
  refine ⟨w.alloc (.cells ps.flatten.toArray T), w.alloc (.cells ps.flatten.toArray T (ps.flatten.toArray.size, ps.flatten.toArray.size + 1)), ?_, ?_, ⟨hl, fun _ => ⟨_, rfl, fun j v hv => ?_⟩⟩, fun S => new_fr⟩
  · unfold bsl; rw [if_pos (by simpa using h)]
  · unfold cvS; simp only [Sl.v]; rw [Go.Lib.run_convert_bytes_const w t T ps.flatten.toArray ps.length ps.length ht he]
  · rw [add_mk]
    simp only [World.cell?, World.alloc, Array.getElem?_push, if_true]
    simpa using hv
/-- A slice literal of whole numbers. -/
theorem ints_s {T : TypeId} {xs : List Int} {k : IntKind} {ps : List (List Value)} {m : Nat} (hm : ps.length = m) (h : ps = xs.map fun x => [.int k x]) :
    ∃ w1, bsl w T 1 ps = some (⟨some ⟨w.heap.size, 0, none⟩, m, m⟩, w1) ∧ Rd w1 ⟨some ⟨w.heap.size, 0, none⟩, m, m⟩ 1 (nums k xs) ∧ (∀ S, Fr S w w1) ∧ w1.heap.size = w.heap.size + 1 := by
  subst hm; subst h
  have hf : (xs.map fun x => [Value.int k x]).flatten = nums k xs := by
    induction xs with
    | nil => rfl
    | cons x xs ih => simpa [nums] using ih
  obtain ⟨w1, e1, n1⟩ := bsl_s (w := w) (T := T) (sz := 1) (ps := xs.map fun x => [.int k x]) (by simp)
  refine ⟨w1, e1, ?_, fun S => (n1.fr _ S (Nat.le_refl _)).fr, n1.size⟩
  have := Rd.of_B (o := 0) (n := xs.length) (c := xs.length) (sz := 1) n1.b (by rw [hf]; simp)
  rw [hf] at this
  simpa [List.take_of_length_le] using this
/-! ### Disks -/
theorem Disk.new {m : Int} (h1 : 1 ≤ m) (h2 : m ≤ 512) : ∃ q w', sector_New m w = some (some ⟨q, 0, none⟩, 0, w') ∧ Disk w' q (fun k => w.heap.size ≤ k) (Dk.new m.toNat) ∧ (∀ S, Fr S w w') ∧ w.heap.size ≤ q := by
  obtain ⟨w', e, d, f, z⟩ := new_ok (w := w) h1 h2
  refine ⟨_, w', e, ⟨_, _, d, ?_⟩, fun S => (f _ S (Nat.le_refl _)).fr, by omega⟩
  rintro k (rfl | rfl | ⟨a, ha, _⟩)
  · omega
  · exact Nat.le_refl _
  · cases ha
theorem Disk.wf (h : Disk w p F D) : D.Wf := by obtain ⟨_, _, h, _⟩ := h; exact h.wf
theorem Disk.keep {q : Bk} {s s' : Sl} {D' : Dk} (hF : ∀ k, DAt.foot p q s k → F k) (h' : DAt w' p q s' D') (hs : ∀ k, s'.blk k → s.blk k ∨ w.heap.size ≤ k) : Disk w' p (grow F w w') D' := by
  refine ⟨q, s', h', fun k hk => ?_⟩
  have hl := h'.lt hk
  rcases hk with rfl | rfl | hk
  · exact .inl (hF _ (.inl rfl))
  · exact .inl (hF _ (.inr (.inl rfl)))
  · exact (hs k hk).elim (fun h => .inl (hF _ (.inr (.inr h)))) (fun h => .inr ⟨h, hl⟩)
theorem Disk.write {i : Int} {b : Sl} {bs : List Int} (h : Disk w p F D) (hb : Rd w b 1 (nums .u8 bs)) (hbd : D.W.length < 1000000) :
    ∃ w', sector_Disk_Write (some ⟨p, 0, none⟩) i b w = some ((D.write i bs).1, w') ∧ Disk w' p (grow F w w') (D.write i bs).2 ∧ Fr F w w' := by
  obtain ⟨sb, s, h, hF⟩ := h
  obtain ⟨w', s', e, h', f, k⟩ := write_ok (i := i) h hb hbd
  exact ⟨w', e, Disk.keep hF h' k, f.mono fun i hi => .inl (hF i hi)⟩
theorem Disk.sync (h : Disk w p F D) (hbd : D.W.length < 1000000) :
    ∃ w', sector_Disk_Sync (some ⟨p, 0, none⟩) w = some (D.sync.1, w') ∧ Disk w' p (grow F w w') D.sync.2 ∧ Fr F w w' := by
  obtain ⟨sb, s, h, hF⟩ := h
  obtain ⟨w', s', e, h', f, k⟩ := sync_ok h hbd
  exact ⟨w', e, Disk.keep hF h' k, f.mono fun i hi => .inl (hF i hi)⟩
theorem Disk.trip {m : Int} (h : Disk w p F D) (hm : m ≤ 9223372036854775807) : ∃ w', sector_Disk_Trip (some ⟨p, 0, none⟩) m w = some ((D.trip m).1, w') ∧ Disk w' p (grow F w w') (D.trip m).2 ∧ Fr F w w' := by
  obtain ⟨sb, s, h, hF⟩ := h
  obtain ⟨w', e, h', o⟩ := trip_ok h hm
  exact ⟨w', e, Disk.keep hF h' (fun k hk => .inl hk), o.fr (hF _ (.inl rfl))⟩
theorem Disk.crash {f : Sl} {fs : List Int} (h : Disk w p F D) (hbd : D.W.length < 1000000) (hf : Rd w f 1 (nums .i64 fs)) (ho : Out F f) :
    ∃ w', sector_Disk_Crash (some ⟨p, 0, none⟩) f w = some (0, w') ∧ Disk w' p (grow F w w') (D.crash fs) ∧ Fr F w w' := by
  obtain ⟨sb, s, h, hF⟩ := h
  obtain ⟨w', e, h', fr⟩ := crash_ok h hbd hf (fun a ha h0 e => ho a ha h0 (hF _ (.inr (.inl e))))
  exact ⟨w', e, Disk.keep hF h' (fun k hk => by obtain ⟨a, ha, _⟩ := hk; cases ha), fr.mono fun i hi => .inl (hF i hi)⟩
theorem Disk.size (h : Disk w p F D) : sector_Disk_Size (some ⟨p, 0, none⟩) w = some ((D.S.length : Int), w) := by obtain ⟨_, _, h, _⟩ := h; exact size_ok h
theorem Disk.waits (h : Disk w p F D) : sector_Disk_Waits (some ⟨p, 0, none⟩) w = some ((D.W.length : Int), w) := by obtain ⟨_, _, h, _⟩ := h; exact waits_ok h
theorem Disk.downs (h : Disk w p F D) : sector_Disk_Down (some ⟨p, 0, none⟩) w = some (D.down, w) := by obtain ⟨_, _, h, _⟩ := h; exact down_ok h
theorem Disk.ages (h : Disk w p F D) : sector_Disk_Age (some ⟨p, 0, none⟩) w = some (D.age, w) := by obtain ⟨_, _, h, _⟩ := h; exact age_ok h
theorem Disk.read {i : Int} (h : Disk w p F D) (hbd : D.W.length < 1000000) : ∃ o w', sector_Disk_Read (some ⟨p, 0, none⟩) i w = some (o, (D.read i).2, w') ∧ Row w w' o (D.read i).1 := by
  obtain ⟨_, _, h, _⟩ := h; exact read_ok h hbd
theorem Disk.sure {i : Int} (h : Disk w p F D) : ∃ o w', sector_Disk_Sure (some ⟨p, 0, none⟩) i w = some (o, (D.sure i).2, w') ∧ Row w w' o (D.sure i).1 := by
  obtain ⟨_, _, h, _⟩ := h; exact sure_ok h
theorem Disk.fork (h : Disk w p F D) (hbd : D.W.length < 1000000) : ∃ q w', sector_Disk_Fork (some ⟨p, 0, none⟩) w = some (some ⟨q, 0, none⟩, w') ∧ Disk w' q (fun k => w.heap.size ≤ k) D ∧ (∀ S, Fr S w w') := by
  obtain ⟨_, _, h, _⟩ := h
  obtain ⟨w', sb, s, e, h', f, k⟩ := fork_ok h hbd
  exact ⟨_, w', e, ⟨sb, s, h', k⟩, f⟩
/-! ### Disks that lie at n or above -/
theorem Fr.all {S : Nat → Prop} (h : Fr (fun k => w.heap.size ≤ k) w w') : Fr S w w' := h.mono fun i hi => .inr hi
theorem Fr.up {m : Nat} (h : Fr (fun k => n ≤ k ∧ k < m) w w') : Fr (fun k => n ≤ k) w w' := h.mono fun i hi => .inl hi.1
theorem Fr.sz {S : Nat → Prop} (h : Fr S w w') : w.heap.size ≤ w'.heap.size := h.size
theorem up_grow (hn : n ≤ w.heap.size) (h : Disk w' p (grow (fun k => n ≤ k) w w') D) : Disk w' p (fun k => n ≤ k) D :=
  h.mono fun k _ hk => hk.elim id (fun h => by omega)
theorem up_new (hn : n ≤ w.heap.size) (h : Disk w' p (fun k => w.heap.size ≤ k) D) : Disk w' p (fun k => n ≤ k) D := h.mono fun k _ hk => by omega
theorem Disk.below (h : Disk w p (fun k => n ≤ k) D) : Disk w p (fun k => n ≤ k ∧ k < w.heap.size) D := h.mono fun k hk h => ⟨h, hk⟩
theorem up_below {w0 : World} (hn : n ≤ w.heap.size) (h : Disk w' p (grow (fun k => n ≤ k ∧ k < w0.heap.size) w w') D) : Disk w' p (fun k => n ≤ k) D :=
  h.mono fun k _ hk => hk.elim (fun h => h.1) (fun h => by omega)
end
end Go.Proofs.Ytoanmomopcaikaa.D
