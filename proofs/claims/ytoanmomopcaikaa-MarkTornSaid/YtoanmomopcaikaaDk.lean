/- Both disks as owned parts. -/
import Derived.Test.YtoanmomopcaikaaHp
import Derived.Test.YtoanmomopcaikaaRDisk
namespace Go.Proofs.Ytoanmomopcaikaa.D
open Go
set_option linter.unusedVariables false
set_option linter.unusedSimpArgs false
def dkR (x : Nat) (D : Dk) : Rs where
  h g w F := Disk w x F D ∧ ∀ k, F k → k < w.heap.size
  st h m hk := ⟨by
    obtain ⟨sb, s, h1, hF⟩ := h.1
    refine ⟨sb, s, ⟨h1.wf, ?_, ?_, ?_, h1.n⟩, hF⟩
    · have := hk _ (hF _ (.inl rfl)); have h2 := h1.blk; unfold B at h2 ⊢; rw [this]; exact h2
    · have := hk _ (hF _ (.inr (.inl rfl))); have h2 := h1.sure; unfold B at h2 ⊢; rw [this]; exact h2
    · refine ⟨h1.waits.len, h1.waits.cap, h1.waits.max, h1.waits.h.elim .inl fun ⟨b, rest, hp, hb, hr⟩ => .inr ⟨b, rest, hp, ?_, hr⟩⟩
      have := hk b (hF _ (.inr (.inr ⟨_, hp, rfl⟩))); unfold B at hb ⊢; rw [this]; exact hb, fun k hk' => Nat.lt_of_lt_of_le (h.2 k hk') m.size⟩
  lt h hk := h.2 _ hk
def rdR (y : Nat) (D : Dk) : Rs where
  h g w F := ∃ a b rows puts, RAt w y a b rows puts D ∧ (∀ k, F k ↔ RAt.foot y a b k) ∧ ∀ k, rowBlk rows puts k → g k
  st := fun {g w F g' w'} h m hk => by
    obtain ⟨a, b, rows, puts, h1, hF, hr⟩ := h
    refine ⟨a, b, rows, puts, ?_, hF, fun k hk' => (m.keep k (hr k hk')).1⟩
    have e : ∀ k, RAt.foot y a b k ∨ rowBlk rows puts k → w'.heap[k]? = w.heap[k]? := fun k hk' => hk'.elim (fun h => hk k ((hF k).2 h)) (fun h => (m.keep k (hr k h)).2)
    have eB : ∀ {k c T}, RAt.foot y a b k ∨ rowBlk rows puts k → B w k = some (c, T) → B w' k = some (c, T) := fun hk' hb => by have := e _ hk'; unfold B at hb ⊢; rw [this]; exact hb
    have eO : ∀ {T sz s cs}, (∀ k, Sl.blk s k → RAt.foot y a b k ∨ rowBlk rows puts k) → Own w T s sz cs → Own w' T s sz cs := fun hs ho =>
      ⟨ho.len, ho.cap, ho.max, ho.h.elim .inl fun ⟨b, rest, hp, hb, hr⟩ => .inr ⟨b, rest, hp, eB (hs _ ⟨_, hp, rfl⟩) hb, hr⟩⟩
    exact ⟨h1.wf, eB (.inl (.inl rfl)) h1.blk, eO (fun k hk => .inl (.inr (.inl hk))) h1.sure, eO (fun k hk => .inl (.inr (.inr hk))) h1.waits, h1.rl, h1.pl,
      fun i s xs hs hx => eO (fun k hk => .inr (.inl ⟨s, List.mem_of_getElem? hs, hk⟩)) (h1.rat i s xs hs hx),
      fun i x z hx hz => ⟨(h1.pat i x z hx hz).1, eO (fun k hk => .inr (.inr ⟨x, List.mem_of_getElem? hx, hk⟩)) (h1.pat i x z hx hz).2⟩⟩
  lt h hk := by obtain ⟨a, b, rows, puts, h1, hF, hr⟩ := h; exact h1.lt ((hF _).1 hk)
section
variable {F F0 : Nat → Prop} {g g' g0 : Gh} {w w' w0 : World} {L : List Rs} {x y : Nat} {D D' : Dk} {i m : Int} {b o : Sl} {bs : List Int}
/-! ### sector.Disk -/
theorem Hp.dk (H : Hp F0 g0 w0 g w (dkR x D :: L)) : ∃ F, Disk w x F D := by obtain ⟨F, h⟩ := H.hd; exact ⟨F, h.1⟩
theorem Hp.dwf (H : Hp F0 g0 w0 g w (dkR x D :: L)) : D.Wf := by obtain ⟨F, h⟩ := H.dk; exact h.wf
theorem sp_dk {F : Nat → Prop} (hF : ∀ k, F k → ¬ g k) (hl : ∀ k, g k → k < w.heap.size) (f : Fr F w w') : Sp F g w g w' :=
  ⟨f, fun _ _ _ => Iff.rfl, ⟨f.size, fun k hk => ⟨hk, f.block k (hl k hk) (fun h => hF k h hk)⟩⟩, fun k hk => Nat.lt_of_lt_of_le (hl k hk) f.size⟩
theorem Hp.dup (H : Hp F0 g0 w0 g w (dkR x D :: L)) {Ψ : World → Prop} (f : ∀ F, Disk w x F D → (∀ k, F k → ¬ g k) → ∃ w', Ψ w' ∧ Disk w' x (grow F w w') D' ∧ Fr F w w') :
    ∃ w', Ψ w' ∧ Hp F0 g0 w0 g w' (dkR x D' :: L) ∧ Mo g w g w' := by
  obtain ⟨g', w', ⟨rfl, e⟩, h2, m⟩ := H.up (r' := dkR x D') (Ψ := fun g' w' => g' = g ∧ Ψ w') fun F h hF => by
    obtain ⟨w', e, d, fr⟩ := f F h.1 hF
    exact ⟨g, w', grow F w w', ⟨rfl, e⟩, ⟨d, fun k hk => hk.elim (fun h' => Nat.lt_of_lt_of_le (h.2 k h') fr.size) (fun h => h.2)⟩, sp_dk hF H.lt fr,
      fun k hk => hk.elim (fun h' => ⟨hF k h', .inl h'⟩) (fun h' => ⟨fun hg => by have := H.lt k hg; omega, .inr h'.1⟩)⟩
  exact ⟨w', e, h2, m⟩
theorem Hp.dnew (H : Hp F0 g0 w0 g w L) (h1 : 1 ≤ m) (h2 : m ≤ 512) : ∃ q w', sector_New m w = some (some ⟨q, 0, none⟩, 0, w') ∧ Hp F0 g0 w0 g w' (dkR q (Dk.new m.toNat) :: L) ∧ Mo g w g w' := by
  obtain ⟨q, w', e, d, f, hq⟩ := Disk.new (w := w) h1 h2
  refine ⟨q, w', e, H.add (nw_of H.lt f) (F := fun k => w.heap.size ≤ k ∧ k < w'.heap.size) ⟨d.mono fun k hk h => ⟨h, hk⟩, fun k hk => hk.2⟩ (fun k hk => ⟨fun hg => by have := H.lt k hg; omega, hk.1⟩), H.mold f⟩
theorem Hp.dwrite (H : Hp F0 g0 w0 g w (dkR x D :: L)) (hb : Rd w b 1 (nums .u8 bs)) (hbd : D.W.length < 1000000) :
    ∃ w', sector_Disk_Write (some ⟨x, 0, none⟩) i b w = some ((D.write i bs).1, w') ∧ Hp F0 g0 w0 g w' (dkR x (D.write i bs).2 :: L) ∧ Mo g w g w' := H.dup fun F h _ => h.write hb hbd
theorem Hp.dsync (H : Hp F0 g0 w0 g w (dkR x D :: L)) (hbd : D.W.length < 1000000) :
    ∃ w', sector_Disk_Sync (some ⟨x, 0, none⟩) w = some (D.sync.1, w') ∧ Hp F0 g0 w0 g w' (dkR x D.sync.2 :: L) ∧ Mo g w g w' := H.dup fun F h _ => h.sync hbd
theorem Hp.dtrip (H : Hp F0 g0 w0 g w (dkR x D :: L)) (hm : m ≤ 9223372036854775807) :
    ∃ w', sector_Disk_Trip (some ⟨x, 0, none⟩) m w = some ((D.trip m).1, w') ∧ Hp F0 g0 w0 g w' (dkR x (D.trip m).2 :: L) ∧ Mo g w g w' := H.dup fun F h _ => h.trip hm
theorem Hp.dcrash {f : Sl} {fs : List Int} (H : Hp F0 g0 w0 g w (dkR x D :: L)) (hf : PR g w f 1 (nums .i64 fs)) (hbd : D.W.length < 1000000) :
    ∃ w', sector_Disk_Crash (some ⟨x, 0, none⟩) f w = some (0, w') ∧ Hp F0 g0 w0 g w' (dkR x (D.crash fs) :: L) ∧ Mo g w g w' := H.dup fun F h hF => h.crash hbd hf.rd (fun a ha h0 hk => hF _ hk (hf.per a ha h0))
theorem Hp.dsize (H : Hp F0 g0 w0 g w (dkR x D :: L)) : sector_Disk_Size (some ⟨x, 0, none⟩) w = some ((D.S.length : Int), w) := by obtain ⟨F, h⟩ := H.dk; exact h.size
theorem Hp.dwaits (H : Hp F0 g0 w0 g w (dkR x D :: L)) : sector_Disk_Waits (some ⟨x, 0, none⟩) w = some ((D.W.length : Int), w) := by obtain ⟨F, h⟩ := H.dk; exact h.waits
theorem Hp.ddown (H : Hp F0 g0 w0 g w (dkR x D :: L)) : sector_Disk_Down (some ⟨x, 0, none⟩) w = some (D.down, w) := by obtain ⟨F, h⟩ := H.dk; exact h.downs
theorem Hp.dage (H : Hp F0 g0 w0 g w (dkR x D :: L)) : sector_Disk_Age (some ⟨x, 0, none⟩) w = some (D.age, w) := by obtain ⟨F, h⟩ := H.dk; exact h.ages
/-- A row that was told, in new memory. -/
theorem Hp.row {xs : List Int} (H : Hp F0 g0 w0 g w L) (r : Row w w' o xs) : ∃ T, Hp F0 g0 w0 g w' (owR T 1 o (nums .u8 xs) :: L) ∧ Mo g w g w' := by
  obtain ⟨T, h⟩ := r.own
  exact ⟨T, H.add (nw_of H.lt r.fr) (F := o.blk) ⟨h, fun _ => Iff.rfl⟩ (fun k ⟨a, ha, hk⟩ => by have := r.new a ha; exact ⟨fun hg => by have := H.lt k hg; omega, by omega⟩), H.mold r.fr⟩
theorem Hp.dread (H : Hp F0 g0 w0 g w (dkR x D :: L)) (i : Int) (hbd : D.W.length < 1000000) : ∃ o w' T, sector_Disk_Read (some ⟨x, 0, none⟩) i w = some (o, (D.read i).2, w') ∧ Hp F0 g0 w0 g w' (owR T 1 o (nums .u8 (D.read i).1) :: dkR x D :: L) ∧ Mo g w g w' := by
  obtain ⟨F, h⟩ := H.dk
  obtain ⟨o, w', e, r⟩ := h.read (i := i) hbd
  obtain ⟨T, h1, m⟩ := H.row r
  exact ⟨o, w', T, e, h1, m⟩
theorem Hp.dsure (H : Hp F0 g0 w0 g w (dkR x D :: L)) (i : Int) : ∃ o w' T, sector_Disk_Sure (some ⟨x, 0, none⟩) i w = some (o, (D.sure i).2, w') ∧ Hp F0 g0 w0 g w' (owR T 1 o (nums .u8 (D.sure i).1) :: dkR x D :: L) ∧ Mo g w g w' := by
  obtain ⟨F, h⟩ := H.dk
  obtain ⟨o, w', e, r⟩ := h.sure (i := i)
  obtain ⟨T, h1, m⟩ := H.row r
  exact ⟨o, w', T, e, h1, m⟩
/-! ### The document's -/
theorem Hp.rwf (H : Hp F0 g0 w0 g w (rdR y D :: L)) : D.Wf := by obtain ⟨F, a, b, rows, puts, h, _⟩ := H.hd; exact h.wf
theorem Hp.rup (H : Hp F0 g0 w0 g w (rdR y D :: L)) {Ψ : World → Prop}
    (f : ∀ a b rows puts, RAt w y a b rows puts D → (∀ k, RAt.foot y a b k → ¬ g k) → ∃ w' a' b' rows' puts', Ψ w' ∧ RAt w' y a' b' rows' puts' D' ∧ Fr (RAt.foot y a b) w w' ∧ (∀ k, a'.blk k → a.blk k ∨ w.heap.size ≤ k) ∧ (∀ k, b'.blk k → b.blk k ∨ w.heap.size ≤ k) ∧ (∀ k, rowBlk rows' puts' k → rowBlk rows puts k ∨ w.heap.size ≤ k)) :
    ∃ g' w', Ψ w' ∧ Hp F0 g0 w0 g' w' (rdR y D' :: L) ∧ Mo g w g' w' := by
  obtain ⟨g', w', e, h2, m⟩ := H.up (r' := rdR y D') (Ψ := fun _ w' => Ψ w') fun F h hF => by
    obtain ⟨a, b, rows, puts, h1, hFt, hr⟩ := h
    obtain ⟨w', a', b', rows', puts', e, h2, fr, ka, kb, kr⟩ := f a b rows puts h1 (fun k hk => hF k ((hFt k).2 hk))
    refine ⟨fun k => g k ∨ (w.heap.size ≤ k ∧ rowBlk rows' puts' k), w', RAt.foot y a' b', e, ⟨a', b', rows', puts', h2, fun _ => Iff.rfl, fun k hk => (kr k hk).elim (fun h => .inl (hr k h)) (fun h => .inr ⟨h, hk⟩)⟩, ?_, ?_⟩
    · refine ⟨fr.mono fun k hk => .inl ((hFt k).2 hk), fun k hk hn => ⟨fun h => h.elim id (fun h => by omega), .inl⟩, ⟨fr.size, fun k hk => ⟨.inl hk, fr.block k (H.lt k hk) (fun h => hF k ((hFt k).2 h) hk)⟩⟩, fun k hk => ?_⟩
      rcases hk with hk | ⟨_, hk⟩
      · exact Nat.lt_of_lt_of_le (H.lt k hk) fr.size
      · exact (h2.byt hk).lt
    · intro k hk
      have hnb := h2.foot_ty hk
      have hold : RAt.foot y a b k ∨ w.heap.size ≤ k := by
        rcases hk with hk | hk | hk
        · exact .inl (.inl hk)
        · exact (ka k hk).elim (fun h => .inl (.inr (.inl h))) .inr
        · exact (kb k hk).elim (fun h => .inl (.inr (.inr h))) .inr
      refine ⟨fun hg => ?_, hold.elim (fun h => .inl ((hFt k).2 h)) .inr⟩
      rcases hg with hg | ⟨_, hg⟩
      · exact hold.elim (fun h => hF k ((hFt k).2 h) hg) (fun h => by have := H.lt k hg; omega)
      · exact hnb (h2.byt hg)
  exact ⟨g', w', e, h2, m⟩
theorem Hp.rnew (H : Hp F0 g0 w0 g w L) (h1 : 1 ≤ m) (h2 : m ≤ 512) : ∃ q g' w', grapevineref09_New m w = some (some ⟨q, 0, none⟩, 0, w') ∧ Hp F0 g0 w0 g' w' (rdR q (Dk.new m.toNat) :: L) ∧ Mo g w g' w' := by
  obtain ⟨w', a, rows, e, h, f, k1, k2⟩ := rnew_ok (w := w) h1 h2
  have n : Nw g w (fun k => g k ∨ (w.heap.size ≤ k ∧ rowBlk rows [] k)) w' :=
    ⟨f _, fun k hk _ => ⟨fun h => h.elim id (fun h => by omega), .inl⟩, ⟨(f (fun _ => False)).size, fun k hk => ⟨.inl hk, (f (fun _ => False)).block k (H.lt k hk) id⟩⟩,
      fun k hk => hk.elim (fun h' => Nat.lt_of_lt_of_le (H.lt k h') (f (fun _ => False)).size) (fun h' => (h.byt h'.2).lt)⟩
  exact ⟨_, _, w', e, H.add n (F := RAt.foot w.heap.size a Sl.nil) ⟨a, Sl.nil, rows, [], h, fun _ => Iff.rfl, fun k hk => .inr ⟨k2 k hk, hk⟩⟩
    (fun k hk => ⟨fun hg => hg.elim (fun h' => by have := H.lt k h'; have := k1 k hk; omega) (fun h' => h.foot_ty hk (h.byt h'.2)), k1 k hk⟩), n.mo⟩
theorem Hp.rwrite (H : Hp F0 g0 w0 g w (rdR y D :: L)) (hb : Rd w b 1 (nums .u8 bs)) (hbd : D.W.length < 1000000) :
    ∃ g' w', grapevineref09_Disk_Write (some ⟨y, 0, none⟩) i b w = some ((D.write i bs).1, w') ∧ Hp F0 g0 w0 g' w' (rdR y (D.write i bs).2 :: L) ∧ Mo g w g' w' := H.rup fun a b rows puts h hF => by
  obtain ⟨w', b', puts', e, h', f, k1, k2⟩ := rwrite_ok (i := i) h hb hbd
  exact ⟨w', a, b', rows, puts', e, h', f, fun k hk => .inl hk, k1, k2⟩
theorem Hp.rsync (H : Hp F0 g0 w0 g w (rdR y D :: L)) (hbd : D.W.length < 1000000) :
    ∃ g' w', grapevineref09_Disk_Sync (some ⟨y, 0, none⟩) w = some (D.sync.1, w') ∧ Hp F0 g0 w0 g' w' (rdR y D.sync.2 :: L) ∧ Mo g w g' w' := H.rup fun a b rows puts h hF => by
  obtain ⟨w', b', rows', puts', e, h', f, k1, k2⟩ := rsync_ok h hbd
  exact ⟨w', a, b', rows', puts', e, h', f, fun k hk => .inl hk, fun k hk => .inl (k1 k hk), k2⟩
theorem Hp.rtrip (H : Hp F0 g0 w0 g w (rdR y D :: L)) (hm : m ≤ 9223372036854775807) :
    ∃ g' w', grapevineref09_Disk_Trip (some ⟨y, 0, none⟩) m w = some ((D.trip m).1, w') ∧ Hp F0 g0 w0 g' w' (rdR y (D.trip m).2 :: L) ∧ Mo g w g' w' := H.rup fun a b rows puts h hF => by
  obtain ⟨w', e, h', o⟩ := rtrip_ok h hm
  exact ⟨w', a, b, rows, puts, e, h', o.fr (.inl rfl), fun k hk => .inl hk, fun k hk => .inl hk, fun k hk => .inl hk⟩
theorem Hp.rcrash {f : Sl} {fs : List Int} (H : Hp F0 g0 w0 g w (rdR y D :: L)) (hf : PR g w f 1 (nums .i64 fs)) (hbd : D.W.length < 1000000) :
    ∃ g' w', grapevineref09_Disk_Crash (some ⟨y, 0, none⟩) f w = some (0, w') ∧ Hp F0 g0 w0 g' w' (rdR y (D.crash fs) :: L) ∧ Mo g w g' w' := H.rup fun a b rows puts h hF => by
  obtain ⟨w', rows', e, h', f, k⟩ := rcrash_ok h hbd hf.rd (fun c hc h0 hk => hF _ (.inr (.inl hk)) (hf.per c hc h0))
  exact ⟨w', a, Sl.nil, rows', [], e, h', f, fun k hk => .inl hk, fun k hk => (by obtain ⟨a, ha, _⟩ := hk; cases ha), k⟩
theorem Hp.rread (H : Hp F0 g0 w0 g w (rdR y D :: L)) (i : Int) (hbd : D.W.length < 1000000) : ∃ o w' T, grapevineref09_Disk_Read (some ⟨y, 0, none⟩) i w = some (o, (D.read i).2, w') ∧ Hp F0 g0 w0 g w' (owR T 1 o (nums .u8 (D.read i).1) :: rdR y D :: L) ∧ Mo g w g w' := by
  obtain ⟨F, a, b, rows, puts, h, _⟩ := H.hd
  obtain ⟨o, w', e, r⟩ := rread_ok (i := i) h hbd
  obtain ⟨T, h1, m⟩ := H.row r
  exact ⟨o, w', T, e, h1, m⟩
theorem Hp.rsure (H : Hp F0 g0 w0 g w (rdR y D :: L)) (i : Int) : ∃ o w' T, grapevineref09_Disk_Sure (some ⟨y, 0, none⟩) i w = some (o, (D.sure i).2, w') ∧ Hp F0 g0 w0 g w' (owR T 1 o (nums .u8 (D.sure i).1) :: rdR y D :: L) ∧ Mo g w g w' := by
  obtain ⟨F, a, b, rows, puts, h, _⟩ := H.hd
  obtain ⟨o, w', e, r⟩ := rsure_ok (i := i) h
  obtain ⟨T, h1, m⟩ := H.row r
  exact ⟨o, w', T, e, h1, m⟩
theorem Hp.rd0 (H : Hp F0 g0 w0 g w (rdR y D :: L)) : ∃ s, ldL w ⟨y, 0, none⟩ = some s ∧ s.n = D.S.length := by obtain ⟨F, a, b, rows, puts, h, _⟩ := H.hd; exact ⟨a, rread0 h, h.an⟩
theorem Hp.rd1 (H : Hp F0 g0 w0 g w (rdR y D :: L)) : ∃ s, ldL w ⟨y, 1, none⟩ = some s ∧ s.n = D.W.length := by obtain ⟨F, a, b, rows, puts, h, _⟩ := H.hd; exact ⟨b, rread1 h, h.bn⟩
theorem Hp.rd3 (H : Hp F0 g0 w0 g w (rdR y D :: L)) : ldB w ⟨y, 3, none⟩ = some D.down := by obtain ⟨F, a, b, rows, puts, h, _⟩ := H.hd; exact rread3 h
theorem Hp.rd4 (H : Hp F0 g0 w0 g w (rdR y D :: L)) : ldI .i64 w ⟨y, 4, none⟩ = some D.age := by obtain ⟨F, a, b, rows, puts, h, _⟩ := H.hd; exact rread4 h
end
end Go.Proofs.Ytoanmomopcaikaa.D
