/- The document's disk by the blocks in which it lies. -/
import Derived.Test.YtoanmomopcaikaaDisk
import Derived.Test.YtoanmomopcaikaaRef
namespace Go.Proofs.Ytoanmomopcaikaa.D
open Go
set_option linter.unusedVariables false
set_option linter.unusedSimpArgs false

def RDisk (w : World) (p : Nat) (G R : Nat → Prop) (D : Dk) : Prop := ∃ a b rows puts, RAt w p a b rows puts D ∧ (∀ k, RAt.foot p a b k → G k) ∧ (∀ k, rowBlk rows puts k → R k)
/-- The blocks of F that hold no bytes. -/
def NB (w : World) (F : Nat → Prop) (k : Nat) : Prop := F k ∧ ¬ Byt w k
section
variable {w w' : World} {p x y n : Nat} {F G R S : Nat → Prop} {D : Dk}
theorem Fr.byt (h : Fr (NB w F) w w') {k : Nat} (hk : Byt w k) : Byt w' k := by
  obtain ⟨c, hc⟩ := hk
  exact ⟨c, h.B hc (fun hn => hn.2 ⟨c, hc⟩)⟩
theorem DAt.foot_ty {sb : Bk} {s : Sl} (h : DAt w p sb s D) {k : Nat} (hk : DAt.foot p sb s k) : ¬ Byt w k := by
  rintro ⟨c, hc⟩
  rcases hk with rfl | rfl | hk
  · rw [h.blk] at hc; simp at hc
  · rw [h.sure] at hc; simp at hc
  · obtain ⟨c', h'⟩ := h.waits.ty hk; rw [h'] at hc; simp at hc
theorem Disk.nb (h : Disk w p F D) : Disk w p (NB w F) D := by
  obtain ⟨sb, s, h, hF⟩ := h
  exact ⟨sb, s, h, fun k hk => ⟨hF k hk, h.foot_ty hk⟩⟩
theorem RDisk.wf (h : RDisk w p G R D) : D.Wf := by obtain ⟨_, _, _, _, h, _⟩ := h; exact h.wf
theorem RDisk.fr (h : RDisk w p G R D) (hf : Fr S w w') (hG : ∀ k, G k → ¬ S k) (hR : ∀ k, R k → Byt w k → ¬ S k) : RDisk w' p G R D := by
  obtain ⟨a, b, rows, puts, h, h1, h2⟩ := h
  exact ⟨a, b, rows, puts, h.fr hf (fun k hk => hG k (h1 k hk)) (fun k hk => hR k (h2 k hk) (h.byt hk)), h1, h2⟩
theorem RDisk.keep {a b a' b' : Sl} {rows rows' : List Sl} {puts puts' : List (Int × Sl)} {D D' : Dk} (h : RAt w p a b rows puts D) (h1 : ∀ k, RAt.foot p a b k → G k) (h2 : ∀ k, rowBlk rows puts k → R k)
    (h' : RAt w' p a' b' rows' puts' D') (ha : ∀ k, a'.blk k → a.blk k ∨ w.heap.size ≤ k) (hb : ∀ k, b'.blk k → b.blk k ∨ w.heap.size ≤ k) (hr : ∀ k, rowBlk rows' puts' k → rowBlk rows puts k ∨ w.heap.size ≤ k) : RDisk w' p (grow G w w') (grow R w w') D' := by
  refine ⟨a', b', rows', puts', h', fun k hk => ?_, fun k hk => (hr k hk).elim (fun h => .inl (h2 k h)) (fun h => .inr ⟨h, (h'.byt hk).lt⟩)⟩
  have hl := h'.lt hk
  rcases hk with rfl | hk | hk
  · exact .inl (h1 _ (.inl rfl))
  · exact (ha k hk).elim (fun h => .inl (h1 k (.inr (.inl h)))) (fun h => .inr ⟨h, hl⟩)
  · exact (hb k hk).elim (fun h => .inl (h1 k (.inr (.inr h)))) (fun h => .inr ⟨h, hl⟩)
theorem RDisk.nbf {a b : Sl} {rows : List Sl} {puts : List (Int × Sl)} (h : RAt w p a b rows puts D) (h1 : ∀ k, RAt.foot p a b k → G k) (hf : Fr (RAt.foot p a b) w w') : Fr (NB w G) w w' :=
  hf.mono fun k hk => .inl ⟨h1 k hk, h.foot_ty hk⟩
theorem RDisk.new {m : Int} (h1 : 1 ≤ m) (h2 : m ≤ 512) : ∃ q w', grapevineref09_New m w = some (some ⟨q, 0, none⟩, 0, w') ∧ RDisk w' q (fun k => w.heap.size ≤ k) (fun k => w.heap.size ≤ k) (Dk.new m.toNat) ∧ (∀ S, Fr S w w') := by
  obtain ⟨w', a, rows, e, h, f, k1, k2⟩ := rnew_ok (w := w) h1 h2
  exact ⟨_, w', e, ⟨a, Sl.nil, rows, [], h, k1, k2⟩, f⟩
theorem RDisk.write {i : Int} {c : Sl} {cs : List Int} (h : RDisk w p G R D) (hb : Rd w c 1 (nums .u8 cs)) (hbd : D.W.length < 1000000) :
    ∃ w', grapevineref09_Disk_Write (some ⟨p, 0, none⟩) i c w = some ((D.write i cs).1, w') ∧ RDisk w' p (grow G w w') (grow R w w') (D.write i cs).2 ∧ Fr (NB w G) w w' := by
  obtain ⟨a, b, rows, puts, h, h1, h2⟩ := h
  obtain ⟨w', b', puts', e, h', f, k1, k2⟩ := rwrite_ok (i := i) h hb hbd
  exact ⟨w', e, RDisk.keep h h1 h2 h' (fun k hk => .inl hk) k1 k2, RDisk.nbf h h1 f⟩
theorem RDisk.sync (h : RDisk w p G R D) (hbd : D.W.length < 1000000) :
    ∃ w', grapevineref09_Disk_Sync (some ⟨p, 0, none⟩) w = some (D.sync.1, w') ∧ RDisk w' p (grow G w w') (grow R w w') D.sync.2 ∧ Fr (NB w G) w w' := by
  obtain ⟨a, b, rows, puts, h, h1, h2⟩ := h
  obtain ⟨w', b', rows', puts', e, h', f, k1, k2⟩ := rsync_ok h hbd
  exact ⟨w', e, RDisk.keep h h1 h2 h' (fun k hk => .inl hk) (fun k hk => .inl (k1 k hk)) k2, RDisk.nbf h h1 f⟩
theorem RDisk.trip {m : Int} (h : RDisk w p G R D) (hm : m ≤ 9223372036854775807) :
    ∃ w', grapevineref09_Disk_Trip (some ⟨p, 0, none⟩) m w = some ((D.trip m).1, w') ∧ RDisk w' p (grow G w w') (grow R w w') (D.trip m).2 ∧ Fr (NB w G) w w' := by
  obtain ⟨a, b, rows, puts, h, h1, h2⟩ := h
  obtain ⟨w', e, h', o⟩ := rtrip_ok h hm
  exact ⟨w', e, RDisk.keep h h1 h2 h' (fun k hk => .inl hk) (fun k hk => .inl hk) (fun k hk => .inl hk), RDisk.nbf h h1 (o.fr (.inl rfl))⟩
theorem RDisk.crash {f : Sl} {fs : List Int} (h : RDisk w p G R D) (hbd : D.W.length < 1000000) (hf : Rd w f 1 (nums .i64 fs)) (ho : Out G f) :
    ∃ w', grapevineref09_Disk_Crash (some ⟨p, 0, none⟩) f w = some (0, w') ∧ RDisk w' p (grow G w w') (grow R w w') (D.crash fs) ∧ Fr (NB w G) w w' := by
  obtain ⟨a, b, rows, puts, h, h1, h2⟩ := h
  obtain ⟨w', rows', e, h', f, k⟩ := rcrash_ok h hbd hf (fun c hc h0 hk => ho c hc h0 (h1 _ (.inr (.inl hk))))
  exact ⟨w', e, RDisk.keep h h1 h2 h' (fun k hk => .inl hk) (fun k hk => by obtain ⟨a, ha, _⟩ := hk; cases ha) k, RDisk.nbf h h1 f⟩
theorem RDisk.read {i : Int} (h : RDisk w p G R D) (hbd : D.W.length < 1000000) : ∃ o w', grapevineref09_Disk_Read (some ⟨p, 0, none⟩) i w = some (o, (D.read i).2, w') ∧ Row w w' o (D.read i).1 := by
  obtain ⟨_, _, _, _, h, _⟩ := h; exact rread_ok h hbd
theorem RDisk.sure {i : Int} (h : RDisk w p G R D) : ∃ o w', grapevineref09_Disk_Sure (some ⟨p, 0, none⟩) i w = some (o, (D.sure i).2, w') ∧ Row w w' o (D.sure i).1 := by
  obtain ⟨_, _, _, _, h, _⟩ := h; exact rsure_ok h
theorem RDisk.rd0 (h : RDisk w p G R D) : ∃ s, ldL w ⟨p, 0, none⟩ = some s ∧ s.n = D.S.length := by obtain ⟨a, _, _, _, h, _⟩ := h; exact ⟨a, rread0 h, h.an⟩
theorem RDisk.rd1 (h : RDisk w p G R D) : ∃ s, ldL w ⟨p, 1, none⟩ = some s ∧ s.n = D.W.length := by obtain ⟨_, b, _, _, h, _⟩ := h; exact ⟨b, rread1 h, h.bn⟩
theorem RDisk.rd3 (h : RDisk w p G R D) : ldB w ⟨p, 3, none⟩ = some D.down := by obtain ⟨a, _, _, _, h, _⟩ := h; exact rread3 h
theorem RDisk.rd4 (h : RDisk w p G R D) : ldI .i64 w ⟨p, 4, none⟩ = some D.age := by obtain ⟨a, _, _, _, h, _⟩ := h; exact rread4 h
theorem RDisk.fork (h : RDisk w p G R D) (hbd : D.W.length < 1000000) : ∃ q w', grapevineref09_Disk_Fork (some ⟨p, 0, none⟩) w = some (some ⟨q, 0, none⟩, w') ∧ RDisk w' q (fun k => w.heap.size ≤ k) R D ∧ (∀ S, Fr S w w') := by
  obtain ⟨a, b, rows, puts, h, h1, h2⟩ := h
  obtain ⟨w', a', b', e, h', f, k⟩ := rfork_ok h hbd
  exact ⟨_, w', e, ⟨a', b', rows, puts, h', k, h2⟩, f⟩
theorem RDisk.mono {G' R' : Nat → Prop} (h : RDisk w p G R D) (hG : ∀ k, k < w.heap.size → G k → G' k) (hR : ∀ k, k < w.heap.size → R k → R' k) : RDisk w p G' R' D := by
  obtain ⟨a, b, rows, puts, h, h1, h2⟩ := h
  exact ⟨a, b, rows, puts, h, fun k hk => hG k (h.lt hk) (h1 k hk), fun k hk => hR k (h.byt hk).lt (h2 k hk)⟩
end
end Go.Proofs.Ytoanmomopcaikaa.D
