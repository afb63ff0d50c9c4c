/- grapevineref09.Disk: what its functions do, told of the same plain model as sector.Disk. -/
import Derived.Test.YtoanmomopcaikaaSector
import Derived.Test.YtoanmomopcaikaaZero
namespace Go.Proofs.Ytoanmomopcaikaa.D
open Go
set_option linter.unusedVariables false
set_option linter.unusedSimpArgs false

/-! ### Its memory -/
def flatR (rows : List Sl) : List Value := rows.flatMap fun s => [s.v]
def flatP (puts : List (Int × Sl)) : List Value := puts.flatMap fun x => [.int .i64 x.1, x.2.v]
def rkC (a b : Sl) (left : Int) (off : Bool) (age : Int) : List Value := [a.v, b.v, .int .i64 left, .bool off, .int .i64 age]
theorem st92 : ST Try.prog 92 29 1 24 [.slice none 0 0] := ⟨Try.underlying92, ⟨Try.t29, .slice none 0 0, by kernel_rfl, by kernel_rfl, rfl, rfl, rfl⟩, rfl, by decide, by decide⟩
theorem st93 : ST Try.prog 93 106 2 32 [.int .i64 0, .slice none 0 0] := ⟨Try.underlying93, ⟨Try.t106, .agg #[.int .i64 0, .slice none 0 0], by kernel_rfl, by kernel_rfl, rfl, rfl, rfl⟩, rfl, by decide, by decide⟩
/-- A row of bytes in a block of its own. -/
def RowAt (w : World) (s : Sl) (xs : List Int) : Prop := Own w 5 s 1 (nums .u8 xs)
structure RAt (w : World) (p : Nat) (a b : Sl) (rows : List Sl) (puts : List (Int × Sl)) (D : Dk) : Prop where
  wf : D.Wf
  blk : B w p = some (rkC a b D.left D.down D.age, 95)
  sure : Own w 29 a 1 (flatR rows)
  waits : Own w 106 b 2 (flatP puts)
  rl : rows.length = D.S.length
  pl : puts.length = D.W.length
  rat : ∀ (i : Nat) (s : Sl) (xs : List Int), rows[i]? = some s → D.S[i]? = some xs → RowAt w s xs
  pat : ∀ (i : Nat) (x : Int × Sl) (y : Int × List Int), puts[i]? = some x → D.W[i]? = some y → x.1 = y.1 ∧ RowAt w x.2 y.2
/-- The blocks that its functions write. -/
def RAt.foot (p : Nat) (a b : Sl) (k : Nat) : Prop := k = p ∨ a.blk k ∨ b.blk k
/-- The blocks that they read alone. -/
def rowBlk (rows : List Sl) (puts : List (Int × Sl)) (k : Nat) : Prop := (∃ s ∈ rows, s.blk k) ∨ ∃ x ∈ puts, x.2.blk k
def Byt (w : World) (k : Nat) : Prop := ∃ c, B w k = some (c, 5)
section
variable {w w' : World} {p : Nat} {a b : Sl} {rows : List Sl} {puts : List (Int × Sl)} {D : Dk}
theorem flatR_len : (flatR rows).length = rows.length := by have := flatLen (f := fun s : Sl => [s.v]) (sz := 1) rows (fun x _ => rfl); simpa [flatR] using this
theorem flatP_len : (flatP puts).length = puts.length * 2 := flatLen puts (fun x _ => rfl)
theorem RAt.an (h : RAt w p a b rows puts D) : a.n = D.S.length := by have := h.sure.len; rw [flatR_len, h.rl] at this; omega
theorem RAt.bn (h : RAt w p a b rows puts D) : b.n = D.W.length := by have := h.waits.len; rw [flatP_len, h.pl] at this; omega
theorem RAt.byt (h : RAt w p a b rows puts D) {k : Nat} (hk : rowBlk rows puts k) : Byt w k := by
  rcases hk with ⟨s, hs, hk⟩ | ⟨x, hx, hk⟩
  · obtain ⟨i, hi⟩ := List.getElem?_of_mem hs
    have hl : i < D.S.length := by rw [← h.rl]; exact (List.getElem?_eq_some_iff.1 hi).1
    exact (h.rat i s _ hi (List.getElem?_eq_getElem hl)).ty hk
  · obtain ⟨i, hi⟩ := List.getElem?_of_mem hx
    have hl : i < D.W.length := by rw [← h.pl]; exact (List.getElem?_eq_some_iff.1 hi).1
    exact (h.pat i x _ hi (List.getElem?_eq_getElem hl)).2.ty hk
theorem RAt.foot_ty (h : RAt w p a b rows puts D) {k : Nat} (hk : RAt.foot p a b k) : ¬ Byt w k := by
  rintro ⟨c, hc⟩
  rcases hk with rfl | hk | hk
  · rw [h.blk] at hc; simp at hc
  · obtain ⟨c', h'⟩ := h.sure.ty hk; rw [h'] at hc; simp at hc
  · obtain ⟨c', h'⟩ := h.waits.ty hk; rw [h'] at hc; simp at hc
theorem RAt.ne (h : RAt w p a b rows puts D) : ¬ a.blk p ∧ ¬ b.blk p ∧ (∀ k, a.blk k → b.blk k → False) := by
  refine ⟨fun e => ?_, fun e => ?_, fun k e1 e2 => ?_⟩
  · obtain ⟨c, hc⟩ := h.sure.ty e; rw [h.blk] at hc; simp at hc
  · obtain ⟨c, hc⟩ := h.waits.ty e; rw [h.blk] at hc; simp at hc
  · obtain ⟨c, hc⟩ := h.sure.ty e1; obtain ⟨c', hc'⟩ := h.waits.ty e2; rw [hc] at hc'; simp at hc'
theorem RAt.lt (h : RAt w p a b rows puts D) {k : Nat} (hk : RAt.foot p a b k) : k < w.heap.size := by
  rcases hk with rfl | hk | hk
  · exact B_lt h.blk
  · exact h.sure.lt hk
  · exact h.waits.lt hk
theorem Byt.lt {k : Nat} (h : Byt w k) : k < w.heap.size := by obtain ⟨c, hc⟩ := h; exact B_lt hc
theorem RAt.fr {S : Nat → Prop} (h : RAt w p a b rows puts D) (hf : Fr S w w') (hg : ∀ k, RAt.foot p a b k → ¬ S k) (hr : ∀ k, rowBlk rows puts k → ¬ S k) : RAt w' p a b rows puts D :=
  ⟨h.wf, hf.B h.blk (hg _ (.inl rfl)), h.sure.fr hf (fun k hk => hg _ (.inr (.inl hk))), h.waits.fr hf (fun k hk => hg _ (.inr (.inr hk))), h.rl, h.pl,
    fun i s xs hs hx => (h.rat i s xs hs hx).fr hf (fun k hk => hr _ (.inl ⟨s, List.mem_of_getElem? hs, hk⟩)),
    fun i x y hx hy => ⟨(h.pat i x y hx hy).1, (h.pat i x y hx hy).2.fr hf (fun k hk => hr _ (.inr ⟨x, List.mem_of_getElem? hx, hk⟩))⟩⟩
/-- Rows stay where only blocks of other types turn. -/
theorem RowAt.fr {S : Nat → Prop} {s : Sl} {xs : List Int} (h : RowAt w s xs) (hf : Fr S w w') (hs : ∀ k, S k → ¬ Byt w k) : RowAt w' s xs :=
  Own.fr h hf fun k hk hS => hs k hS (Own.ty h hk)
/-- The disk's own block has turned alone. -/
theorem RAt.one (h : RAt w p a b rows puts D) {D' : Dk} (ho : One p w w') (hb : B w' p = some (rkC a b D'.left D'.down D'.age, 95)) (hS : D'.S = D.S) (hW : D'.W = D.W) (hwf : D'.Wf) : RAt w' p a b rows puts D' := by
  have hne := h.ne
  have hr : ∀ k, rowBlk rows puts k → ¬ k = p := fun k hk e => h.foot_ty (.inl e) (h.byt hk)
  refine ⟨hwf, hb, ho.own h.sure hne.1, ho.own h.waits hne.2.1, by rw [hS]; exact h.rl, by rw [hW]; exact h.pl, ?_, ?_⟩
  · intro i s xs hs hx
    rw [hS] at hx
    exact ho.own (h.rat i s xs hs hx) (fun hk => hr p (.inl ⟨s, List.mem_of_getElem? hs, hk⟩) rfl)
  · intro i x y hx hy
    rw [hW] at hy
    exact ⟨(h.pat i x y hx hy).1, ho.own (h.pat i x y hx hy).2 (fun hk => hr p (.inr ⟨x, List.mem_of_getElem? hx, hk⟩) rfl)⟩
theorem rread0 (h : RAt w p a b rows puts D) : ldL w ⟨p, 0, none⟩ = some a := ldL_B h.blk rfl
theorem rread1 (h : RAt w p a b rows puts D) : ldL w ⟨p, 1, none⟩ = some b := ldL_B h.blk rfl
theorem rread2 (h : RAt w p a b rows puts D) : ldI .i64 w ⟨p, 2, none⟩ = some D.left := ldI_B h.blk rfl
theorem rread3 (h : RAt w p a b rows puts D) : ldB w ⟨p, 3, none⟩ = some D.down := ldB_B h.blk rfl
theorem rread4 (h : RAt w p a b rows puts D) : ldI .i64 w ⟨p, 4, none⟩ = some D.age := ldI_B h.blk rfl
theorem rtrips_ok (h : RAt w p a b rows puts D) : ∃ w', grapevineref09_Disk_trips (some ⟨p, 0, none⟩) w = some (D.trips.1, w') ∧ RAt w' p a b rows puts D.trips.2 ∧ One p w w' := by
  unfold grapevineref09_Disk_trips
  simp only [Option.bind_some, add_mk, Nat.zero_add, rread2 h]
  have l0 := h.wf.l0
  by_cases h0 : D.left = 0
  · exact ⟨w, by simp [h0, Dk.trips], by simpa [h0, Dk.trips] using h, One.refl⟩
  · have e0 : decide (0 < D.left) = true := by simp; omega
    have hw : IntKind.wrap .i64 (D.left - 1) = D.left - 1 := by rw [IntKind.wrap_i64]; have := h.wf.l1; omega
    obtain ⟨w1, e1, b1, o1⟩ := stV_s (o := 2) (v := .int .i64 (D.left - 1)) h.blk (by simp [rkC]) rfl
    obtain ⟨w2, e2, b2, o2⟩ := stV_s (o := 3) (v := .bool (D.left - 1 == 0)) b1 (by simp [rkC]) rfl
    have l1 : ldI .i64 w1 ⟨p, 2, none⟩ = some (D.left - 1) := ldI_B b1 rfl
    have l2 : ldB w2 ⟨p, 3, none⟩ = some (D.left - 1 == 0) := ldB_B b2 rfl
    refine ⟨w2, ?_, h.one (o1.trans o2) ?_ (trips_S D) (trips_W D) h.wf.trips, o1.trans o2⟩
    · simp only [e0, if_true, hw, e1, l1, e2, l2, Option.bind_some, Dk.trips, if_neg h0]
    · rw [b2]; simp only [Dk.trips, if_neg h0]; rfl
theorem rhas_ok {i : Int} (h : RAt w p a b rows puts D) : grapevineref09_Disk_has (some ⟨p, 0, none⟩) i w = some (!D.bad i, w) := by
  unfold grapevineref09_Disk_has Dk.bad
  simp only [Option.bind_some, add_mk, Nat.zero_add, rread0 h, h.an]
  by_cases h0 : i < 0
  · have : ¬ (0 ≤ i) := by omega
    simp [h0, this]
  · have : 0 ≤ i := by omega
    by_cases h1 : (D.S.length : Int) ≤ i
    · have h2 : ¬ i < (D.S.length : Int) := by omega
      simp [this, h1, h2]
    · have h2 : i < (D.S.length : Int) := by omega
      simp [this, h0, h1, h2]
theorem rtrip_ok {m : Int} (h : RAt w p a b rows puts D) (hm : m ≤ 9223372036854775807) : ∃ w', grapevineref09_Disk_Trip (some ⟨p, 0, none⟩) m w = some ((D.trip m).1, w') ∧ RAt w' p a b rows puts (D.trip m).2 ∧ One p w w' := by
  unfold grapevineref09_Disk_Trip Dk.trip
  simp only [Option.isNone_some, Bool.false_eq_true, if_false, Option.bind_some, add_mk, Nat.zero_add, rread3 h]
  by_cases hd : D.down = true
  · exact ⟨w, by simp [hd], by simpa [hd] using h, One.refl⟩
  by_cases h0 : m < 0
  · exact ⟨w, by simp [hd, h0], by simpa [hd, h0] using h, One.refl⟩
  obtain ⟨w1, e1, b1, o1⟩ := stV_s (o := 2) (v := .int .i64 m) h.blk (by simp [rkC]) rfl
  refine ⟨w1, by simp [hd, h0, e1], ?_, o1⟩
  simp only [hd, h0, if_false, Bool.false_eq_true]
  refine h.one o1 ?_ rfl rfl ⟨h.wf.s64, h.wf.w64, h.wf.wat, by simp only; omega, by simp only; omega, h.wf.n⟩
  have hd' : D.down = false := by simpa using hd
  rw [b1]; simp [rkC, hd']
/-- A copy of a row by append([]byte{}, ..). -/
theorem rowcopy_ok {s : Sl} {xs : List Int} (h : Rd w s 1 (nums .u8 xs)) (hb : s.n ≤ 140737488355328) :
    ∃ w1 o w', bsl w 5 1 [] = some (⟨some ⟨w.heap.size, 0, none⟩, 0, 0⟩, w1) ∧ apS Try.prog 29 ⟨some ⟨w.heap.size, 0, none⟩, 0, 0⟩ s w1 = some (o, w') ∧ RowAt w' o xs ∧ (∀ k, o.blk k → w.heap.size ≤ k) ∧ (∀ S, Fr S w w1) ∧ (∀ S, Fr S w w') := by
  obtain ⟨w1, e1, n1⟩ := bsl_s (w := w) (T := 5) (sz := 1) (ps := []) (by simp)
  have o1 : Own w1 5 ⟨some ⟨w.heap.size, 0, none⟩, 0, 0⟩ 1 [] := Own.of_new (by simpa using n1) (by simp) (by omega)
  have f1 : ∀ S, Fr S w w1 := fun S => (n1.fr _ S (Nat.le_refl _)).fr
  obtain ⟨s', w2, e2, o2, f2, n2, k2⟩ := apS_own st29 o1 (h.fr (f1 (fun _ => False)) (fun _ _ _ h => h)) nums_one (by simpa using hb)
  have hblk : ∀ k, s'.blk k → w.heap.size ≤ k := fun k hk => (k2 k hk).elim (fun ⟨a, ha, hk⟩ => by cases ha; exact Nat.le_of_eq hk) (fun h => by have := n1.size; omega)
  refine ⟨w1, s', w2, e1, e2, by simpa [RowAt] using o2, hblk, f1, fun S => (f1 S).trans_new f2 (fun i hi => by obtain ⟨a, ha, hk⟩ := hi; cases ha; exact .inr (Nat.le_of_eq hk))⟩
theorem flatR_set {i : Nat} {s : Sl} (hi : i < rows.length) : (flatR rows).set i s.v = flatR (rows.set i s) := by
  have : ∀ l : List Sl, flatR l = l.map Sl.v := fun l => by induction l with | nil => rfl | cons x l ih => simp only [flatR, List.flatMap_cons, List.map_cons] at ih ⊢; rw [ih]; rfl
  rw [this, this, List.map_set]
theorem flatR_get {i : Nat} {s : Sl} (hi : rows[i]? = some s) : (flatR rows)[i]? = some s.v := by
  have : ∀ l : List Sl, flatR l = l.map Sl.v := fun l => by induction l with | nil => rfl | cons x l ih => simp only [flatR, List.flatMap_cons, List.map_cons] at ih ⊢; rw [ih]; rfl
  rw [this, List.getElem?_map, hi]; rfl
theorem blk_eq {g o n c k : Nat} (h : (⟨some ⟨g, o, none⟩, n, c⟩ : Sl).blk k) : k = g := by obtain ⟨a, ha, hk⟩ := h; cases ha; exact hk.symm
theorem addr0 (ad : Addr) : ad.add 0 = ad := by simp [Addr.add]
/-- The slice of row number i. -/
theorem rix_ok (h : RAt w p a b rows puts D) {i : Int} (hi : D.bad i = false) : ∃ g s xs rest, a.p = some ⟨g, 0, none⟩ ∧ B w g = some (flatR rows ++ rest, 29) ∧ ix a i 1 = some ⟨g, i.toNat, none⟩ ∧ ldL w ⟨g, i.toNat, none⟩ = some s ∧ rows[i.toNat]? = some s ∧ D.S[i.toNat]? = some xs ∧ xs = D.S.getD i.toNat [] ∧ xs.length = 64 ∧ RowAt w s xs := by
  have hb : ¬ i < 0 ∧ ¬ (D.S.length : Int) ≤ i := by simpa [Dk.bad] using hi
  have hn : i.toNat < D.S.length := by omega
  have hr : i.toNat < rows.length := by rw [h.rl]; exact hn
  have han := h.an
  rcases h.sure.h with ⟨_, h0, _⟩ | ⟨g, rest, hp, hB, _⟩
  · omega
  have hs := List.getElem?_eq_getElem hr
  have hx := List.getElem?_eq_getElem hn
  refine ⟨g, rows[i.toNat], D.S[i.toNat], rest, hp, hB, ?_, ?_, hs, hx, ?_, h.wf.s64 _ (List.getElem_mem hn), h.rat _ _ _ hs hx⟩
  · unfold ix
    rw [hp, Option.bind_some, if_pos (by omega), add_mk]; simp
  · refine ldL_B hB ?_
    rw [List.getElem?_append_left (by rw [flatR_len]; exact hr)]
    exact flatR_get hs
  · rw [List.getD_eq_getElem?_getD, hx]; rfl
theorem rput_ok {x : Int} {s : Sl} {xs : List Int} {m : Nat} (h : RAt w p a b rows puts D) (hs : RowAt w s xs) (hx : xs.length = 64) (hi : D.bad x = false) (hm : m ≤ 64) :
    ∃ w' o, grapevineref09_Disk_put (some ⟨p, 0, none⟩) [.int .i64 x, s.v] (m : Int) w = some w' ∧ RAt w' p a b (rows.set x.toNat o) puts { D with S := putS D.S (x, xs) m } ∧ Fr (fun k => a.blk k) w w' ∧ (∀ k, o.blk k → w.heap.size ≤ k) := by
  have hns : s.n = 64 := by have := hs.len; simp at this; omega
  obtain ⟨w1, e1, n1⟩ := mk_s (w := w) (T := 106) (cs := [.int .i64 x, s.v])
  have f1 : ∀ S, Fr S w w1 := fun S => (n1.fr _ S (Nat.le_refl _)).fr
  have hF : ∀ k : Nat, ¬ (fun _ : Nat => False) k := fun _ h => h
  have h1 := h.fr (f1 (fun _ => False)) (fun _ _ h => h) (fun _ _ h => h)
  have hs1 : RowAt w1 s xs := Own.fr hs (f1 (fun _ => False)) (fun _ _ h => h)
  obtain ⟨w2, e2, n2⟩ := bsl_s (w := w1) (T := 5) (sz := 1) (ps := []) (by simp)
  have f2 : ∀ S, Fr S w1 w2 := fun S => (n2.fr _ S (Nat.le_refl _)).fr
  have h2 := h1.fr (f2 (fun _ => False)) (fun _ _ h => h) (fun _ _ h => h)
  have hs2 : RowAt w2 s xs := Own.fr hs1 (f2 (fun _ => False)) (fun _ _ h => h)
  have o2 : Own w2 5 ⟨some ⟨w1.heap.size, 0, none⟩, 0, 0⟩ 1 [] := Own.of_new (by simpa using n2) (by simp) (by omega)
  have z1 := n1.size
  have z2 := n2.size
  have b2 : B w2 w.heap.size = some ([.int .i64 x, s.v], 106) := by rw [n2.old _ (by omega)]; exact n1.b
  have l2 : ldL w2 ⟨w.heap.size, 1, none⟩ = some s := ldL_B b2 rfl
  obtain ⟨s9, e9, r9, n9, c9⟩ := slS_rdZ (lo := 0) (hi := m) hs2.rd (by omega) (by omega) hs2.cap
  simp only [Int.ofNat_zero, List.drop_zero, Nat.sub_zero] at e9 r9 n9
  have t9 : (nums .u8 xs).take m = nums .u8 (xs.take m) := by simp [nums, List.map_take]
  rw [t9] at r9
  obtain ⟨s11, w3, e3, o3, f3, n3, k3⟩ := apS_own st29 o2 r9 nums_one (by simp only [n9]; omega)
  simp only [List.nil_append, Nat.zero_add] at o3 n3
  have f3' : ∀ S, Fr S w w3 := fun S => ((f1 S).trans (f2 S)).trans_new f3 (fun i hi => by have := blk_eq hi; right; omega)
  have k3' : ∀ k, s11.blk k → w.heap.size < k := fun k hk => (k3 k hk).elim (fun hk => by have := blk_eq hk; omega) (fun h => by omega)
  have b3 : B w3 w.heap.size = some ([.int .i64 x, s.v], 106) := f3.B b2 (by rintro ⟨a, ha, hk⟩; cases ha; simp only at hk; omega)
  obtain ⟨w4, e4, d4, g4, z4, _⟩ := dr_s (w := w3)
  have f4 : ∀ S, Fr S w w4 := fun S => (f3' S).trans (g4 w3.heap.size S).fr
  have h4 := h.fr (f4 (fun _ => False)) (fun _ _ h => h) (fun _ _ h => h)
  have b4 := (d4 w.heap.size).trans b3
  have o4 : Own w4 5 s11 1 (nums .u8 (xs.take m)) := o3.fr (g4 w3.heap.size (fun _ => False)).fr (fun _ _ h => h)
  obtain ⟨g, q, ys, rest, hp, hB, i4, l4, hr, hS, hys, ly, hq⟩ := rix_ok h4 hi
  have i0 : ldI .i64 w4 ⟨w.heap.size, 0, none⟩ = some x := ldI_B b4 rfl
  have hqn : q.n = 64 := by have := hq.len; simp at this; omega
  obtain ⟨s30, e30, r30, n30, c30⟩ := slS_rdZ (lo := m) (hi := q.n) hq.rd (by omega) (by omega) hq.cap
  have t30 : ((nums .u8 ys).drop m).take (q.n - m) = nums .u8 (ys.drop m) := by
    rw [show (nums .u8 ys).drop m = nums .u8 (ys.drop m) by simp [nums, List.map_drop]]
    exact List.take_of_length_le (by simp; omega)
  rw [t30] at r30
  obtain ⟨s32, w5, e5, o5, f5, n5, k5⟩ := apS_own st29 o4 r30 nums_one (by omega)
  have hrow : RowAt w5 s32 (xs.take m ++ ys.drop m) := by
    unfold RowAt
    rw [show nums .u8 (xs.take m ++ ys.drop m) = nums .u8 (xs.take m) ++ nums .u8 (ys.drop m) by simp [nums]]
    exact o5
  have k5' : ∀ k, s32.blk k → w.heap.size < k := fun k hk => (k5 k hk).elim (k3' k) (fun h => by have := (f3' (fun _ => False)).size; have := n1.size; have := (f2 (fun _ => False)).size; have := f3.size; omega)
  have f5' : ∀ S, Fr S w w5 := fun S => (f4 S).trans_new f5 (fun i hi => .inr (Nat.le_of_lt (k3' i hi)))
  have h5 := h.fr (f5' (fun _ => False)) (fun _ _ h => h) (fun _ _ h => h)
  have hB5 : B w5 g = some (flatR rows ++ rest, 29) := by
    refine f5.B hB (fun hk => ?_)
    have := k3' g hk
    have : g < w.heap.size := by have := h.sure.lt ⟨_, hp, rfl⟩; exact this
    omega
  have hxr : x.toNat < rows.length := (List.getElem?_eq_some_iff.1 hr).1
  obtain ⟨w6, e6, b6, o6⟩ := stV_s (o := x.toNat) (v := s32.v) hB5 (by rw [List.length_append, flatR_len]; omega) rfl
  rw [List.set_append_left _ _ (by rw [flatR_len]; exact hxr), flatR_set hxr] at b6
  have hgb : a.blk g := ⟨_, hp, rfl⟩
  have hgp : p ≠ g := fun e => h.ne.1 (e ▸ hgb)
  have hglt : g < w.heap.size := h.sure.lt hgb
  have hS' : (putS D.S (x, xs) m) = D.S.set x.toNat (xs.take m ++ ys.drop m) := by simp only [putS]; rw [← hys]
  refine ⟨w6, s32, ?_, ⟨?_, ?_, ?_, ?_, ?_, h.pl, ?_, ?_⟩, ?_, fun k hk => Nat.le_of_lt (k5' k hk)⟩
  · unfold grapevineref09_Disk_put
    simp only [e1, bind2_some, e2, List.length_nil, add_mk, Nat.zero_add, l2, Option.bind_some, e9, e3, e4, rread0 h4, i0, i4, l4, e30, e5, e6]
    rw [chk_pos (rread0 h5), chk_pos]
    refine ldI_B (f5.B b4 (fun hk => ?_)) rfl
    have := k3' _ hk; omega
  · refine ⟨putS_64 h.wf.s64 hx hm (by simpa using (List.getElem?_eq_some_iff.1 hS).1), h.wf.w64, fun y hy => by simp only [putS_length]; exact h.wf.wat y hy, h.wf.l0, h.wf.l1, by simp only [putS_length]; exact h.wf.n⟩
  · rw [o6.B hgp]; exact h5.blk
  · refine ⟨by rw [flatR_len, List.length_set, ← flatR_len]; exact h.sure.len, h.sure.cap, h.sure.max, ?_⟩
    rcases h5.sure.h with ⟨hp0, _⟩ | ⟨g', rest', hp', hB', hl'⟩
    · rw [hp0] at hp; cases hp
    · rw [hp'] at hp; cases hp
      rw [hB'] at hB5
      simp only [Option.some.injEq, Prod.mk.injEq, and_true] at hB5
      have := List.append_cancel_left hB5
      subst this
      exact .inr ⟨g, rest', hp', b6, hl'⟩
  · exact o6.own h5.waits (fun hk => h5.ne.2.2 g hgb hk)
  · simp only [List.length_set, putS_length]; exact h.rl
  · intro i s' xs' hi' hx'
    simp only [hS'] at hx'
    by_cases hxi : x.toNat = i
    · subst hxi
      rw [List.getElem?_set_self hxr] at hi'
      rw [List.getElem?_set_self (List.getElem?_eq_some_iff.1 hS).1] at hx'
      cases hi'; cases hx'
      exact o6.own hrow (fun hk => by have := k5' g hk; omega)
    · rw [List.getElem?_set_ne hxi] at hi' hx'
      have := h5.rat i s' xs' hi' hx'
      exact o6.own this (fun hk => h5.foot_ty (.inr (.inl hgb)) (h5.byt (.inl ⟨s', List.mem_of_getElem? hi', hk⟩)))
  · intro i x' y' hx' hy'
    have := h5.pat i x' y' hx' hy'
    exact ⟨this.1, o6.own this.2 (fun hk => h5.foot_ty (.inr (.inl hgb)) (h5.byt (.inr ⟨x', List.mem_of_getElem? hx', hk⟩)))⟩
  · exact (f5' _).trans (o6.fr hgb)
theorem rowBlk_set {i : Nat} {o : Sl} {k : Nat} (h : rowBlk (rows.set i o) puts k) : rowBlk rows puts k ∨ o.blk k := by
  rcases h with ⟨s, hs, hk⟩ | h
  · rcases List.mem_or_eq_of_mem_set hs with h | rfl
    · exact .inl (.inl ⟨s, h, hk⟩)
    · exact .inr hk
  · exact .inl (.inr h)
/-- Write number n: what a round reads of it. -/
theorem rput_at (h : RAt w p a b rows puts D) {n : Nat} (hn : n < D.W.length) : ∃ ad s, ix b (n : Int) 2 = some ad ∧ ldA 2 w ad 0 = some [.int .i64 D.W[n].1, s.v] ∧ ldI .i64 w (ad.add 0) = some D.W[n].1 ∧ ldL w (ad.add 1) = some s ∧ RowAt w s D.W[n].2 ∧ puts[n]? = some (D.W[n].1, s) := by
  have hp : n < puts.length := by rw [h.pl]; exact hn
  have hpn := List.getElem?_eq_getElem hp
  obtain ⟨e1, hr⟩ := h.pat n _ _ hpn (List.getElem?_eq_getElem hn)
  obtain ⟨ad, ea, la, ca, _⟩ := rd_at (i := n) h.waits.rd (by rw [h.bn]; exact hn)
  have hc : ((flatP puts).drop (n * 2)).take 2 = [.int .i64 puts[n].1, puts[n].2.v] := chunk (f := fun x : Int × Sl => [.int .i64 x.1, x.2.v]) puts n (fun _ _ => rfl) hp
  rw [hc, e1] at la
  have hj : ∀ (j : Nat) v, j < 2 → ([Value.int .i64 puts[n].1, puts[n].2.v] : List Value)[j]? = some v → w.cell? (ad.add j) = some v := by
    intro j v hj hv
    refine ca j v hj ?_
    rw [← hc, List.getElem?_take, if_pos hj, List.getElem?_drop] at hv
    exact hv
  refine ⟨ad, puts[n].2, ea, la, ldI_cell ?_, ldL_cell (hj 1 _ (by omega) rfl), hr, ?_⟩
  · have := hj 0 _ (by omega) rfl; rw [e1] at this; exact this
  · rw [hpn]; congr 1; exact Prod.ext e1 rfl
theorem rsync_loop (hW : D.W.length < 1000000) :
    ∀ (suf pre : List (Int × List Int)) (rows : List Sl) (S : List (List Int)) (w : World), D.W = pre ++ suf → RAt w p a b rows puts { D with S := S } →
      ∃ w' rows', loopF (fun r : Int × World => grapevineref09_Disk_Sync_l1 (some ⟨p, 0, none⟩) r.1 r.2) ((pre.length : Int), w) = some w' ∧ RAt w' p a b rows' puts { D with S := suf.foldl (fun S x => putS S x 64) S } ∧ Fr (fun k => a.blk k) w w' ∧ (∀ k, rowBlk rows' puts k → rowBlk rows puts k ∨ w.heap.size ≤ k) := by
  intro suf
  induction suf with
  | nil =>
    intro pre rows S w hpre h
    refine ⟨w, rows, loopF_done ?_, h, Fr.refl, fun k hk => .inl hk⟩
    have : D.W.length = pre.length := by rw [hpre]; simp
    have hb := h.bn
    simp only at hb
    simp [grapevineref09_Disk_Sync_l1, add_mk, rread1 h, hb, this]
  | cons x suf ih =>
    intro pre rows S w hpre h
    have hlen : pre.length < D.W.length := by rw [hpre]; simp
    have hg : D.W[pre.length] = x := by simp [hpre]
    obtain ⟨ad, s, ea, la, _, _, hrow, _⟩ := rput_at h (n := pre.length) hlen
    simp only [hg] at la hrow
    have hxW : x ∈ D.W := by rw [hpre]; simp
    have hwat := h.wf.wat x hxW
    simp only at hwat
    have hbad : ({ D with S := S } : Dk).bad x.1 = false := by simp [Dk.bad]; omega
    obtain ⟨w1, o, e1, h1, f1, k1⟩ := rput_ok (m := 64) h hrow (h.wf.w64 x hxW) hbad (Nat.le_refl _)
    obtain ⟨w2, rows2, e2, h2, f2, k2⟩ := ih (pre ++ [x]) _ _ w1 (by rw [hpre]; simp) h1
    refine ⟨w2, rows2, ?_, h2, f1.trans f2, fun k hk => ?_⟩
    · rw [← e2, show ((pre ++ [x]).length : Int) = ((pre.length + 1 : Nat) : Int) by simp]
      refine loopF_next ?_
      have hlt : (pre.length : Int) < (b.n : Int) := by have hb := h.bn; simp only at hb; omega
      have e1' : grapevineref09_Disk_put (some ⟨p, 0, none⟩) [.int .i64 x.1, s.v] 64 w = some w1 := e1
      simp only [grapevineref09_Disk_Sync_l1, Option.bind_some, add_mk, Nat.zero_add, rread1 h, hlt, decide_true, if_true, ea, la, e1']
      rw [wrap_nat (by omega)]
    · rcases k2 k hk with h' | h'
      · rcases rowBlk_set h' with h' | h'
        · exact .inl h'
        · exact .inr (k1 k h')
      · exact .inr (Nat.le_trans f1.size h')
theorem RAt.pend (h : RAt w p a b rows puts D) {D' : Dk} (ho : One p w w') (hb : B w' p = some (rkC a Sl.nil D'.left D'.down D'.age, 95)) (hS : D'.S = D.S) (hW : D'.W = []) (hwf : D'.Wf) : RAt w' p a Sl.nil rows [] D' := by
  have hne := h.ne
  refine ⟨hwf, hb, ho.own h.sure hne.1, Own.nil, by rw [hS]; exact h.rl, by rw [hW]; rfl, ?_, ?_⟩
  · intro i s xs hs hx
    rw [hS] at hx
    exact ho.own (h.rat i s xs hs hx) (fun hk => h.foot_ty (.inl rfl) (h.byt (.inl ⟨s, List.mem_of_getElem? hs, hk⟩)))
  · intro i x y hx; simp at hx
theorem rsync_ok (h : RAt w p a b rows puts D) (hbd : D.W.length < 1000000) :
    ∃ w' b' rows' puts', grapevineref09_Disk_Sync (some ⟨p, 0, none⟩) w = some (D.sync.1, w') ∧ RAt w' p a b' rows' puts' D.sync.2 ∧ Fr (RAt.foot p a b) w w' ∧ (∀ k, b'.blk k → b.blk k) ∧ (∀ k, rowBlk rows' puts' k → rowBlk rows puts k ∨ w.heap.size ≤ k) := by
  unfold grapevineref09_Disk_Sync Dk.sync
  simp only [Option.isNone_some, Bool.false_eq_true, if_false, Option.bind_some, add_mk, Nat.zero_add, rread3 h]
  by_cases hd : D.down = true
  · exact ⟨w, b, rows, puts, by simp [hd], by simpa [hd] using h, Fr.refl, fun k hk => hk, fun k hk => .inl hk⟩
  · obtain ⟨w1, e1, h1, o1⟩ := rtrips_ok h
    simp only [hd, Bool.false_eq_true, if_false, e1, bind2_some]
    by_cases ht : D.trips.1 = true
    · simp only [ht, if_true]
      exact ⟨w1, b, rows, puts, rfl, h1, o1.fr (.inl rfl), fun k hk => hk, fun k hk => .inl hk⟩
    · simp only [ht, Bool.false_eq_true, if_false]
      obtain ⟨w2, rows2, e2, h2, f2, k2⟩ := rsync_loop (D := D.trips.2) (by rw [trips_W]; exact hbd) D.trips.2.W [] rows D.trips.2.S w1 rfl h1
      simp only [List.length_nil, Int.ofNat_zero] at e2
      obtain ⟨w3, e3, b3, o3⟩ := stV_s (o := 1) (v := Sl.nil.v) h2.blk (by simp [rkC]) rfl
      have e2' : loopF (fun s_1 : Int × World => grapevineref09_Disk_Sync_l1 (some ⟨p, 0, none⟩) s_1.1 s_1.2) (0, w1) = some w2 := e2
      refine ⟨w3, Sl.nil, rows2, [], ?_, h2.pend o3 ?_ ?_ rfl ⟨?_, by simp, by simp, h1.wf.l0, h1.wf.l1, ?_⟩, ?_, fun k hk => ?_, fun k hk => ?_⟩
      · simp only [e2', Option.bind_some, e3]
      · rw [b3]; rfl
      · simp only [trips_S, trips_W]
      · have := h2.wf.s64; simpa only [trips_S, trips_W] using this
      · have := h2.wf.n; simpa only [trips_S, trips_W] using this
      · exact ((o1.fr (S := RAt.foot p a b) (.inl rfl)).trans (f2.mono fun i hi => .inl (.inr (.inl hi)))).trans (o3.fr (.inl rfl))
      · obtain ⟨a, ha, _⟩ := hk; cases ha
      · have hk' : rowBlk rows2 puts k := hk.elim .inl (fun ⟨x, hx, _⟩ => by cases hx)
        exact (k2 k hk').elim .inl (fun h => .inr (by rw [← o1.size]; exact h))
theorem rcrash_loop (hW : D.W.length < 1000000) {f : Sl} {fs : List Int} (hfb : ∀ c, f.p = some c → 0 < f.n → ¬ a.blk c.block) :
    ∀ (suf pre : List (Int × List Int)) (rows : List Sl) (S : List (List Int)) (w : World), D.W = pre ++ suf → RAt w p a b rows puts { D with S := S } → Rd w f 1 (nums .i64 fs) →
      ∃ w' rows', loopF (fun r : Int × World => grapevineref09_Disk_Crash_l1 (some ⟨p, 0, none⟩) f r.1 r.2) ((pre.length : Int), w) = some w' ∧ RAt w' p a b rows' puts { D with S := crashS fs pre.length suf S } ∧ Fr (fun k => a.blk k) w w' ∧ (∀ k, rowBlk rows' puts k → rowBlk rows puts k ∨ w.heap.size ≤ k) := by
  intro suf
  induction suf with
  | nil =>
    intro pre rows S w hpre h hf
    refine ⟨w, rows, loopF_done ?_, h, Fr.refl, fun k hk => .inl hk⟩
    have : D.W.length = pre.length := by rw [hpre]; simp
    have hb := h.bn
    simp only at hb
    simp [grapevineref09_Disk_Crash_l1, add_mk, rread1 h, hb, this]
  | cons x suf ih =>
    intro pre rows S w hpre h hf
    have hlen : pre.length < D.W.length := by rw [hpre]; simp
    have hg : D.W[pre.length] = x := by simp [hpre]
    obtain ⟨ad, s, ea, la, _, _, hrow, _⟩ := rput_at h (n := pre.length) hlen
    simp only [hg] at la hrow
    have hxW : x ∈ D.W := by rw [hpre]; simp
    have hwat := h.wf.wat x hxW
    simp only at hwat
    have hbad : ({ D with S := S } : Dk).bad x.1 = false := by simp [Dk.bad]; omega
    have hfate := fate_ok (k := pre.length) hf
    have hr := fate_range fs pre.length
    have hlt : (pre.length : Int) < (b.n : Int) := by have hb := h.bn; simp only at hb; omega
    have h3 : rmI (fate fs pre.length) 3 = some ((fate fs pre.length).tmod 3) := by simp [rmI]
    simp only [decide_eq_true_eq] at hfate
    have round : ∃ w1 rows1, grapevineref09_Disk_Crash_l1 (some ⟨p, 0, none⟩) f (pre.length : Int) w = some (.inl (((pre.length + 1 : Nat) : Int), w1)) ∧ RAt w1 p a b rows1 puts { D with S := crash1 fs pre.length S x } ∧ Fr (fun k => a.blk k) w w1 ∧ (∀ k, rowBlk rows1 puts k → rowBlk rows puts k ∨ w.heap.size ≤ k) := by
      simp only [grapevineref09_Disk_Crash_l1, Option.bind_some, add_mk, Nat.zero_add, rread1 h, hlt, decide_true, if_true, hfate, bind2_some, h3, beq_iff_eq, decide_eq_true_eq, wrap_nat (show pre.length < 9223372036854775807 by omega)]
      by_cases c1 : (fate fs pre.length).tmod 3 = 1
      · obtain ⟨w1, o, e1, h1, f1, k1⟩ := rput_ok (m := 64) h hrow (h.wf.w64 x hxW) hbad (Nat.le_refl _)
        have e1' : grapevineref09_Disk_put (some ⟨p, 0, none⟩) [.int .i64 x.1, s.v] 64 w = some w1 := e1
        refine ⟨w1, rows.set x.1.toNat o, ?_, ?_, f1, fun k hk => (rowBlk_set hk).elim .inl (fun h => .inr (k1 k h))⟩
        · have c2 : ¬ ((1 : Int) = 2) := by omega
          simp only [c1, if_true, ea, Option.bind_some, la, e1', c2, if_false]
        · have : crash1 fs pre.length S x = putS S x 64 := by simp only [crash1, c1, if_true]
          rw [this]; exact h1
      · by_cases c2 : (fate fs pre.length).tmod 3 = 2
        · have hm0 : 0 ≤ ((fate fs pre.length).tdiv 3).tmod 64 := Int.tmod_nonneg _ (Int.tdiv_nonneg hr.1 (by omega))
          have hm1 : ((fate fs pre.length).tdiv 3).tmod 64 < 64 := Int.tmod_lt_of_pos _ (by omega)
          have hdv : dvI .u64 (fate fs pre.length) 3 = some ((fate fs pre.length).tdiv 3) := by
            have h : ∀ x : Int, IntKind.wrap .u64 x = x % 18446744073709551616 := fun x => by simp [IntKind.wrap, IntKind.bits, IntKind.signed]
            have h1 : (fate fs pre.length).tdiv 3 = fate fs pre.length / 3 := Int.tdiv_eq_ediv_of_nonneg hr.1
            simp only [dvI, h, h1]
            rw [if_neg (by omega)]
            congr 1
            omega
          have hrm : rmI ((fate fs pre.length).tdiv 3) 64 = some (((fate fs pre.length).tdiv 3).tmod 64) := by simp [rmI]
          obtain ⟨m, hm⟩ : ∃ m, ((fate fs pre.length).tdiv 3).tmod 64 = m := ⟨_, rfl⟩
          rw [hm] at hm0 hm1 hrm
          have hwr : IntKind.wrap .i64 m = m := by rw [IntKind.wrap_i64]; omega
          obtain ⟨w1, o, e1, h1, f1, k1⟩ := rput_ok (m := m.toNat) h hrow (h.wf.w64 x hxW) hbad (by omega)
          rw [show ((m.toNat : Nat) : Int) = m by omega] at e1
          refine ⟨w1, rows.set x.1.toNat o, ?_, ?_, f1, fun k hk => (rowBlk_set hk).elim .inl (fun h => .inr (k1 k h))⟩
          · have c1' : ¬ (2 : Int) = 1 := by omega
            simp only [c2, c1', if_true, if_false, Option.bind_some, rread1 h, ea, la, hdv, hrm, hwr, e1]
          · have : crash1 fs pre.length S x = putS S x m.toNat := by simp only [crash1]; rw [if_neg c1, if_pos c2, hm]
            rw [this]; exact h1
        · refine ⟨w, rows, ?_, ?_, Fr.refl, fun k hk => .inl hk⟩
          · simp only [c1, c2, if_false, Option.bind_some]
          · have : crash1 fs pre.length S x = S := by simp only [crash1, c1, c2, if_false]
            rw [this]; exact h
    obtain ⟨w1, rows1, e1, h1, f1, k1⟩ := round
    obtain ⟨w2, rows2, e2, h2, f2, k2⟩ := ih (pre ++ [x]) rows1 _ w1 (by rw [hpre]; simp) h1 (hf.fr f1 hfb)
    refine ⟨w2, rows2, ?_, by simpa [crashS] using h2, f1.trans f2, fun k hk => ?_⟩
    · rw [← e2, show ((pre ++ [x]).length : Int) = ((pre.length + 1 : Nat) : Int) by simp]
      exact loopF_next e1
    · exact (k2 k hk).elim (k1 k) (fun h' => .inr (Nat.le_trans f1.size h'))
theorem rcrash_ok {f : Sl} {fs : List Int} (h : RAt w p a b rows puts D) (hbd : D.W.length < 1000000) (hf : Rd w f 1 (nums .i64 fs)) (hfb : ∀ c, f.p = some c → 0 < f.n → ¬ a.blk c.block) :
    ∃ w' rows', grapevineref09_Disk_Crash (some ⟨p, 0, none⟩) f w = some (0, w') ∧ RAt w' p a Sl.nil rows' [] (D.crash fs) ∧ Fr (RAt.foot p a b) w w' ∧ (∀ k, rowBlk rows' [] k → rowBlk rows puts k ∨ w.heap.size ≤ k) := by
  obtain ⟨w1, rows1, e1, h1, f1, k1⟩ := rcrash_loop (D := D) hbd hfb D.W [] rows D.S w rfl h hf
  simp only [List.length_nil, Int.ofNat_zero] at e1
  obtain ⟨w2, e2, b2, o2⟩ := stV_s (o := 1) (v := Sl.nil.v) h1.blk (by simp [rkC]) rfl
  obtain ⟨w3, e3, b3, o3⟩ := stV_s (o := 2) (v := .int .i64 0) b2 (by simp [rkC]) rfl
  obtain ⟨w4, e4, b4, o4⟩ := stV_s (o := 3) (v := .bool false) b3 (by simp [rkC]) rfl
  have l4 : ldI .i64 w4 ⟨p, 4, none⟩ = some D.age := ldI_B b4 rfl
  obtain ⟨w5, e5, b5, o5⟩ := stV_s (o := 4) (v := .int .i64 (IntKind.wrap .i64 (D.age + 1))) b4 (by simp [rkC]) rfl
  have o25 : One p w1 w5 := o2.trans (o3.trans (o4.trans o5))
  have e1' : loopF (fun r : Int × World => grapevineref09_Disk_Crash_l1 (some ⟨p, 0, none⟩) f r.1 r.2) (0, w) = some w1 := e1
  refine ⟨w5, rows1, ?_, h1.pend o25 ?_ ?_ rfl ⟨?_, by simp [Dk.crash], by simp [Dk.crash], by simp [Dk.crash], by simp [Dk.crash], ?_⟩, (f1.mono fun i hi => .inl (.inr (.inl hi))).trans (o25.fr (.inl rfl)), fun k hk => ?_⟩
  · unfold grapevineref09_Disk_Crash
    simp only [Option.isNone_some, Bool.false_eq_true, if_false, Option.bind_some, add_mk, Nat.zero_add, e1', e2, e3, e4, l4, e5]
  · rw [b5]; rfl
  · rfl
  · exact h1.wf.s64
  · exact h1.wf.n
  · exact k1 k (hk.elim .inl (fun ⟨x, hx, _⟩ => by cases hx))
/-! ### Read, Sure -/
theorem row_new {w2 : World} {o : Sl} {xs : List Int} (hr : RowAt w2 o xs) (hk : ∀ k, o.blk k → w.heap.size ≤ k) (hf : ∀ S, Fr S w w2) : Row w w2 o xs :=
  ⟨⟨_, hr⟩, fun a ha => hk _ ⟨a, ha, rfl⟩, hf⟩
theorem rsure_ok {i : Int} (h : RAt w p a b rows puts D) : ∃ o w', grapevineref09_Disk_Sure (some ⟨p, 0, none⟩) i w = some (o, (D.sure i).2, w') ∧ Row w w' o (D.sure i).1 := by
  unfold grapevineref09_Disk_Sure Dk.sure
  simp only [Option.isNone_some, Bool.false_eq_true, if_false, rhas_ok h, bind2_some]
  by_cases hi : D.bad i = true
  · simp only [hi, Bool.not_true, Bool.not_false, if_true]
    exact ⟨_, _, rfl, Row.none⟩
  · have hi' : D.bad i = false := by simpa using hi
    obtain ⟨g, s, xs, rest, hp, hB, e1, e2, hr, hS, hx, lx, hrow⟩ := rix_ok h hi'
    have hsn : s.n = 64 := by have := hrow.len; simp at this; omega
    obtain ⟨w1, o, w2, b1, b2, b3, b4, f1, f2⟩ := rowcopy_ok hrow.rd (by omega)
    have h1 := h.fr (f1 (fun _ => False)) (fun _ _ h => h) (fun _ _ h => h)
    have e2' : ldL w1 ⟨g, i.toNat, none⟩ = some s := by
      refine ldL_B ((f1 (fun _ => False)).B hB id) ?_
      rw [List.getElem?_append_left (by rw [flatR_len]; exact (List.getElem?_eq_some_iff.1 hr).1)]
      exact flatR_get hr
    simp only [hi', Bool.not_false, Bool.not_true, Bool.false_eq_true, if_false, b1, bind2_some, Option.bind_some, add_mk, Nat.zero_add, rread0 h1, e1, e2', b2]
    rw [← hx]
    exact ⟨_, _, rfl, row_new b3 b4 f2⟩
theorem rread_loop {i : Int} (h : RAt w p a b rows puts D) (hbd : D.W.length < 1000000) :
    ∀ (suf pre : List (Int × List Int)) (s : Sl) (xs : List Int), D.W = pre ++ suf → RowAt w s xs → xs.length = 64 →
      ∃ s' xs', loopF (fun r : Sl × Int × World => grapevineref09_Disk_Read_l1 (some ⟨p, 0, none⟩) i r.1 r.2.1 r.2.2) (s, (pre.length : Int), w) = some (s', w) ∧ RowAt w s' xs' ∧ xs' = suf.foldl (fun b x => if x.1 = i then x.2 else b) xs ∧ xs'.length = 64 := by
  intro suf
  induction suf with
  | nil =>
    intro pre s xs hpre hr hx
    refine ⟨s, xs, loopF_done ?_, hr, rfl, hx⟩
    have : D.W.length = pre.length := by rw [hpre]; simp
    have hb := h.bn
    simp [grapevineref09_Disk_Read_l1, add_mk, rread1 h, hb, this]
  | cons x suf ih =>
    intro pre s xs hpre hr hx
    have hlen : pre.length < D.W.length := by rw [hpre]; simp
    have hg : D.W[pre.length] = x := by simp [hpre]
    obtain ⟨ad, q, ea, _, i1, i2, hrow, _⟩ := rput_at h (n := pre.length) hlen
    simp only [hg] at i1 hrow
    have hxW : x ∈ D.W := by rw [hpre]; simp
    have hlt : (pre.length : Int) < (b.n : Int) := by have hb := h.bn; omega
    by_cases hc : x.1 = i
    · obtain ⟨s', xs', e', r', f', l'⟩ := ih (pre ++ [x]) q x.2 (by rw [hpre]; simp) hrow (h.wf.w64 x hxW)
      refine ⟨s', xs', ?_, r', by rw [f', List.foldl_cons, if_pos hc], l'⟩
      rw [← e', show ((pre ++ [x]).length : Int) = ((pre.length + 1 : Nat) : Int) by simp]
      refine loopF_next ?_
      simp only [grapevineref09_Disk_Read_l1, Option.bind_some, add_mk, Nat.zero_add, rread1 h, hlt, decide_true, if_true, ea, i1, i2, hc, beq_self_eq_true, bind2_some]
      rw [wrap_nat (by omega)]
    · obtain ⟨s', xs', e', r', f', l'⟩ := ih (pre ++ [x]) s xs (by rw [hpre]; simp) hr hx
      refine ⟨s', xs', ?_, r', by rw [f', List.foldl_cons, if_neg hc], l'⟩
      rw [← e', show ((pre ++ [x]).length : Int) = ((pre.length + 1 : Nat) : Int) by simp]
      refine loopF_next ?_
      have hc' : (x.1 == i) = false := by simpa using hc
      simp only [grapevineref09_Disk_Read_l1, Option.bind_some, add_mk, Nat.zero_add, rread1 h, hlt, decide_true, if_true, ea, i1, hc', Bool.false_eq_true, if_false, bind2_some]
      rw [wrap_nat (by omega)]
theorem rread_ok {i : Int} (h : RAt w p a b rows puts D) (hbd : D.W.length < 1000000) : ∃ o w', grapevineref09_Disk_Read (some ⟨p, 0, none⟩) i w = some (o, (D.read i).2, w') ∧ Row w w' o (D.read i).1 := by
  unfold grapevineref09_Disk_Read Dk.read
  simp only [Option.isNone_some, Bool.false_eq_true, if_false, Option.bind_some, add_mk, Nat.zero_add, rread3 h, rhas_ok h, bind2_some]
  by_cases hd : D.down = true
  · simp only [hd, if_true]
    exact ⟨_, _, rfl, Row.none⟩
  simp only [hd, Bool.false_eq_true, if_false]
  by_cases hi : D.bad i = true
  · simp only [hi, Bool.not_true, Bool.not_false, if_true]
    exact ⟨_, _, rfl, Row.none⟩
  · have hi' : D.bad i = false := by simpa using hi
    obtain ⟨g, s, xs, rest, hp, hB, e1, e2, hr, hS, hx, lx, hrow⟩ := rix_ok h hi'
    obtain ⟨s', xs', e3, r3, hx', lx'⟩ := rread_loop (i := i) h hbd D.W [] s xs rfl hrow lx
    simp only [List.length_nil, Int.ofNat_zero] at e3
    have hsn : s'.n = 64 := by have := r3.len; simp at this; omega
    obtain ⟨w1, o, w2, b1, b2, b3, b4, f1, f2⟩ := rowcopy_ok r3.rd (by omega)
    simp only [hi', Bool.not_false, Bool.not_true, Bool.false_eq_true, if_false, rread0 h, Option.bind_some, e1, e2]
    rw [e3, bind2_some, b1, bind2_some, b2, bind2_some]
    have hcur : D.cur i = xs' := by rw [hx', hx, Dk.cur]
    refine ⟨o, w2, rfl, ?_⟩
    rw [hcur]
    exact row_new b3 b4 f2
theorem zeros_u8 (m : Nat) : (List.replicate m [Value.int .u8 0]).flatten = nums .u8 (List.replicate m 0) := by
  induction m with
  | zero => rfl
  | succ m ih => simp only [List.replicate_succ, List.flatten_cons, ih, nums, List.map_cons]; rfl
theorem u8_one : ∀ v ∈ [Value.int .u8 0], v.oneCell' = true := by intro v hv; simp at hv; subst hv; rfl
theorem put_one {x : Int} {s : Sl} : ∀ v ∈ [Value.int .i64 x, s.v], v.oneCell' = true := by
  intro v hv; simp only [List.mem_cons, List.not_mem_nil, or_false] at hv; rcases hv with rfl | rfl <;> rfl
theorem flatP_one : ∀ v ∈ flatP puts, v.oneCell' = true := by
  intro v hv
  obtain ⟨x, _, hx⟩ := List.mem_flatMap.1 hv
  exact put_one v hx
theorem flatR_one : ∀ v ∈ flatR rows, v.oneCell' = true := by
  intro v hv
  obtain ⟨x, _, hx⟩ := List.mem_flatMap.1 hv
  simp at hx; subst hx; rfl
/-- Bytes that are read lie in no block of a disk. -/
theorem RAt.bytes (h : RAt w p a b rows puts D) {c : Sl} {bs : List Int} (hb : Rd w c 1 (nums .u8 bs)) : ∀ ad, c.p = some ad → 0 < c.n → ad.block ≠ p := by
  intro ad ha hn e
  obtain ⟨a', ha', hc⟩ := hb.at_ hn
  rw [ha] at ha'; cases ha'
  have hl := hb.len
  simp only [nums_length, Nat.mul_one] at hl
  have h0 := hc 0 (.int .u8 (bs[0]'(by omega))) (by rw [nums_get, List.getElem?_eq_getElem (by omega)]; rfl)
  rw [addr0] at h0
  obtain ⟨ab, ao, asp⟩ := ad
  simp only at e
  subst e
  simp only [World.cell?, B_heap.1 h.blk] at h0
  split at h0
  · cases h0
  · simp [rkC, Sl.v] at h0
    rcases ao with _ | _ | _ | _ | _ | ao <;> simp at h0
theorem rwrite_ok {i : Int} {c : Sl} {cs : List Int} (h : RAt w p a b rows puts D) (hb : Rd w c 1 (nums .u8 cs)) (hbd : D.W.length < 1000000) :
    ∃ w' b' puts', grapevineref09_Disk_Write (some ⟨p, 0, none⟩) i c w = some ((D.write i cs).1, w') ∧ RAt w' p a b' rows puts' (D.write i cs).2 ∧ Fr (RAt.foot p a b) w w' ∧ (∀ k, b'.blk k → b.blk k ∨ w.heap.size ≤ k) ∧ (∀ k, rowBlk rows puts' k → rowBlk rows puts k ∨ w.heap.size ≤ k) := by
  have hcn : cs.length = c.n := by have := hb.len; simpa using this
  unfold grapevineref09_Disk_Write Dk.write
  simp only [Option.isNone_some, Bool.false_eq_true, if_false, Option.bind_some, add_mk, Nat.zero_add, rread3 h, rhas_ok h, bind2_some]
  by_cases hd : D.down = true
  · exact ⟨w, b, puts, by simp [hd], by simpa [hd] using h, Fr.refl, fun k hk => .inl hk, fun k hk => .inl hk⟩
  by_cases hi : D.bad i = true
  · exact ⟨w, b, puts, by simp [hd, hi], by simpa [hd, hi] using h, Fr.refl, fun k hk => .inl hk, fun k hk => .inl hk⟩
  have hi' : D.bad i = false := by simpa using hi
  by_cases hl : 64 < cs.length
  · have : decide (64 < (c.n : Int)) = true := by simp; omega
    exact ⟨w, b, puts, by simp [hd, hi', hl, this], by simpa [hd, hi', hl] using h, Fr.refl, fun k hk => .inl hk, fun k hk => .inl hk⟩
  have hl' : decide (64 < (c.n : Int)) = false := by simp; omega
  obtain ⟨w1, e1, h1, o1⟩ := rtrips_ok h
  simp only [hd, hi', hl, hl', Bool.false_eq_true, if_false, Bool.not_false, Bool.not_true, e1, bind2_some]
  by_cases ht : D.trips.1 = true
  · simp only [ht, if_true]
    exact ⟨w1, b, puts, rfl, h1, o1.fr (.inl rfl), fun k hk => .inl hk, fun k hk => .inl hk⟩
  simp only [ht, Bool.false_eq_true, if_false]
  have hb1 : Rd w1 c 1 (nums .u8 cs) := hb.fr (o1.fr (S := fun k => k = p) rfl) (fun ad hc h0 hk => h.bytes hb ad hc h0 hk)
  obtain ⟨w2, o, w3, a1, a2, a3, a4, f2, f3⟩ := rowcopy_ok hb1 (by omega)
  have hon : o.n = cs.length := by have := a3.len; simp at this; omega
  obtain ⟨o4, w4, a5, a6, f4, a7, a8⟩ := apZ_own (m := 64 - cs.length) st29 (ti := 3) Try.underlying3 a3 u8_one (by rw [hon]; omega)
  have hwr : IntKind.wrap .i64 (64 - (c.n : Int)) = ((64 - cs.length : Nat) : Int) := by rw [IntKind.wrap_i64]; omega
  have hrow4 : RowAt w4 o4 (pad cs) := by
    unfold RowAt
    rw [zeros_u8] at a6
    rw [show nums .u8 (pad cs) = nums .u8 cs ++ nums .u8 (List.replicate (64 - cs.length) 0) by simp [nums, pad]]
    exact a6
  have f14 : ∀ S, Fr S w1 w4 := fun S => (f3 S).trans_new f4 (fun k hk => .inr (a4 k hk))
  have h4 := h1.fr (f14 (fun _ => False)) (fun _ _ h => h) (fun _ _ h => h)
  have k4 : ∀ k, o4.blk k → w1.heap.size ≤ k := fun k hk => (a8 k hk).elim (a4 k) (fun h => Nat.le_trans (f3 (fun _ => False)).size h)
  obtain ⟨w5, a9, n5⟩ := bsl_s (w := w4) (T := 106) (sz := 2) (ps := [[.int .i64 i, o4.v]]) (by simp)
  have f5 : ∀ S, Fr S w4 w5 := fun S => (n5.fr _ S (Nat.le_refl _)).fr
  have h5 := h4.fr (f5 (fun _ => False)) (fun _ _ h => h) (fun _ _ h => h)
  have hrow5 : RowAt w5 o4 (pad cs) := Own.fr hrow4 (f5 (fun _ => False)) (fun _ _ h => h)
  have own5 : Own w5 106 ⟨some ⟨w4.heap.size, 0, none⟩, 1, 1⟩ 2 [.int .i64 i, o4.v] := by
    refine Own.of_new (w := w4) ?_ rfl (by omega)
    simpa using n5
  obtain ⟨b', w6, a10, own6, f6, n6, k6⟩ := apS_own st93 h5.waits own5.rd put_one (by rw [h5.bn, trips_W]; simp only; omega)
  have hbp : ¬ b.blk p := h5.ne.2.1
  have bp6 := f6.B h5.blk hbp
  obtain ⟨w7, a11, b7, o7⟩ := stV_s (o := 1) (v := b'.v) bp6 (by simp [rkC]) rfl
  have z14 := (f14 (fun _ => False)).size
  have z45 := (f5 (fun _ => False)).size
  have z01 : w1.heap.size = w.heap.size := o1.size
  have plt : p < w.heap.size := B_lt h.blk
  have hb'p : ¬ b'.blk p := fun hk => (k6 p hk).elim hbp (fun h2 => by omega)
  have rowk : ∀ {s : Sl} {xs : List Int}, RowAt w5 s xs → RowAt w7 s xs := by
    intro s xs hr
    have h6 : RowAt w6 s xs := Own.fr hr f6 (fun k hk hb => by
      obtain ⟨c1, e1⟩ := Own.ty hr hk; obtain ⟨c2, e2⟩ := h5.waits.ty hb; rw [e1] at e2; simp at e2)
    refine o7.own h6 (fun hk => ?_)
    obtain ⟨c1, e1⟩ := Own.ty h6 hk; rw [bp6] at e1; simp at e1
  have hpl := h5.pl
  rw [trips_W] at hpl
  refine ⟨w7, b', puts ++ [(i, o4)], ?_, ⟨?_, ?_, ?_, ?_, ?_, ?_, ?_, ?_⟩, ?_, fun k hk => (k6 k hk).elim .inl (fun h => .inr (by omega)), ?_⟩
  · rw [a1, bind2_some, a2, bind2_some, hwr, a5, bind2_some, rread1 h4, Option.bind_some, a9, bind2_some]
    simp only [List.length_cons, List.length_nil, Nat.zero_add]
    rw [a10, bind2_some, a11, Option.bind_some]
  · refine ⟨?_, ?_, ?_, h.wf.trips.l0, h.wf.trips.l1, h.wf.trips.n⟩
    · simp only [trips_S]; exact h.wf.s64
    · intro x hx
      simp only [List.mem_append, List.mem_singleton] at hx
      rcases hx with hx | rfl
      · exact h.wf.w64 x hx
      · simp [pad]; omega
    · intro x hx
      simp only [List.mem_append, List.mem_singleton, trips_S] at hx ⊢
      rcases hx with hx | rfl
      · exact h.wf.wat x hx
      · simp only [Dk.bad, Bool.or_eq_true, decide_eq_true_eq, not_or] at hi; omega
  · rw [b7]; rfl
  · exact o7.own (h5.sure.fr f6 (fun k hk hb => h5.ne.2.2 k hk hb)) h5.ne.1
  · have := o7.own own6 hb'p
    rw [show flatP (puts ++ [(i, o4)]) = flatP puts ++ [.int .i64 i, o4.v] by simp [flatP]]
    exact this
  · simp only; exact h5.rl
  · simp only [List.length_append, List.length_singleton]; omega
  · intro j s xs hs hx
    exact rowk (h5.rat j s xs hs hx)
  · intro j x y hx hy
    simp only at hy
    by_cases hj : j < puts.length
    · rw [List.getElem?_append_left hj] at hx
      rw [List.getElem?_append_left (by omega)] at hy
      have := h5.pat j x y hx (by rw [trips_W]; exact hy)
      exact ⟨this.1, rowk this.2⟩
    · rw [List.getElem?_append_right (by omega)] at hx hy
      have hj0 : j - puts.length = 0 := by have := (List.getElem?_eq_some_iff.1 hx).1; simpa using this
      rw [← hpl] at hy
      rw [hj0] at hx hy
      simp at hx hy
      subst hx; subst hy
      exact ⟨rfl, rowk hrow5⟩
  · refine (o1.fr (S := RAt.foot p a b) (.inl rfl)).trans (((f14 _).trans (f5 _)).trans ((f6.mono fun k hk => .inl (.inr (.inr hk))).trans (o7.fr (.inl rfl))))
  · intro k hk
    rcases hk with h | ⟨x, hx, hk⟩
    · exact .inl (.inl h)
    · simp only [List.mem_append, List.mem_singleton] at hx
      rcases hx with hx | rfl
      · exact .inl (.inr ⟨x, hx, hk⟩)
      · exact .inr (by have := k4 k hk; omega)
/-! ### New, Fork -/
theorem rnew_loop {m : Nat} (hm : m ≤ 512) :
    ∀ (d k : Nat) (a : Sl) (rows : List Sl) (w : World), k + d = m → B w p = some (rkC a Sl.nil 0 false 0, 95) → Own w 29 a 1 (flatR rows) → rows.length = k → (∀ s ∈ rows, RowAt w s (List.replicate 64 0)) →
      ∃ w' a' rows', loopF (fun r : Int × World => grapevineref09_New_l1 (m : Int) ⟨p, 0, none⟩ r.1 r.2) ((k : Int), w) = some w' ∧ B w' p = some (rkC a' Sl.nil 0 false 0, 95) ∧ Own w' 29 a' 1 (flatR rows') ∧ rows'.length = m ∧ (∀ s ∈ rows', RowAt w' s (List.replicate 64 0)) ∧ Fr (fun k => k = p ∨ a.blk k) w w' ∧ (∀ k, a'.blk k → a.blk k ∨ w.heap.size ≤ k) ∧ (∀ s ∈ rows', s ∈ rows ∨ ∀ k, s.blk k → w.heap.size ≤ k) := by
  intro d
  induction d with
  | zero =>
    intro k a rows w hk hp ho hl hr
    refine ⟨w, a, rows, loopF_done ?_, hp, ho, by omega, hr, Fr.refl, fun k hk => .inl hk, fun s hs => .inl hs⟩
    have : ¬ (k : Int) < (m : Int) := by omega
    simp [grapevineref09_New_l1, this]
  | succ d ih =>
    intro k a rows w hk hp ho hl hr
    have han : a.n = k := by have := ho.len; rw [flatR_len, hl] at this; omega
    obtain ⟨w1, e1, d1, g1, z1, _⟩ := dr_s (w := w)
    obtain ⟨w2, e2, n2⟩ := mkS_s (w := w1) st29 (m := 64) (by omega) (by omega)
    have h64 : (64 : Int).toNat = 64 := rfl
    rw [h64] at e2 n2
    rw [zeros_u8] at n2
    have row2 : RowAt w2 ⟨some ⟨w1.heap.size, 0, none⟩, 64, 64⟩ (List.replicate 64 0) := Own.of_new n2 (by simp only [nums_length, List.length_replicate]) (by omega)
    obtain ⟨w3, e3, n3⟩ := bsl_s (w := w2) (T := 29) (sz := 1) (ps := [[(⟨some ⟨w1.heap.size, 0, none⟩, 64, 64⟩ : Sl).v]]) (by simp)
    have f2 : ∀ S, Fr S w w2 := fun S => (g1 w.heap.size S).fr.trans (n2.fr _ S (Nat.le_refl _)).fr
    have f3 : ∀ S, Fr S w w3 := fun S => (f2 S).trans (n3.fr _ S (Nat.le_refl _)).fr
    have row3 : RowAt w3 ⟨some ⟨w1.heap.size, 0, none⟩, 64, 64⟩ (List.replicate 64 0) := Own.fr row2 (n3.fr _ (fun _ => False) (Nat.le_refl _)).fr (fun _ _ h => h)
    have own3 : Own w3 29 ⟨some ⟨w2.heap.size, 0, none⟩, 1, 1⟩ 1 [(⟨some ⟨w1.heap.size, 0, none⟩, 64, 64⟩ : Sl).v] := by
      refine Own.of_new (w := w2) ?_ rfl (by omega)
      simpa using n3
    have ho3 := ho.fr (f3 (fun _ => False)) (fun _ _ h => h)
    have hp3 := (f3 (fun _ => False)).B hp id
    obtain ⟨a', w4, e4, o4, f4, n4, k4⟩ := apS_own st92 ho3 own3.rd (by intro v hv; simp at hv; subst hv; rfl) (by simp only [han]; omega)
    have hap : ¬ a.blk p := fun hk => by obtain ⟨c, hc⟩ := ho.ty hk; rw [hp] at hc; simp at hc
    have hp4 := f4.B hp3 hap
    obtain ⟨w5, e5, b5, o5⟩ := stV_s (o := 0) (v := a'.v) hp4 (by simp [rkC]) rfl
    have plt := B_lt hp
    have ha'p : ¬ a'.blk p := fun hk => (k4 p hk).elim hap (fun h => by have := (f3 (fun _ => False)).size; omega)
    have own5 := o5.own o4 ha'p
    have rowk : ∀ {s : Sl} {xs : List Int}, RowAt w3 s xs → RowAt w5 s xs := by
      intro s xs hr
      have h4 : RowAt w4 s xs := Own.fr hr f4 (fun k hk hb => by
        obtain ⟨c1, e1⟩ := Own.ty hr hk; obtain ⟨c2, e2⟩ := ho3.ty hb; rw [e1] at e2; simp at e2)
      refine o5.own h4 (fun hk => ?_)
      obtain ⟨c1, e1⟩ := Own.ty h4 hk; rw [hp4] at e1; simp at e1
    obtain ⟨w', a2, rows2, e', b', own', l', r', f', k', q'⟩ := ih (k + 1) a' (rows ++ [⟨some ⟨w1.heap.size, 0, none⟩, 64, 64⟩]) w5 (by omega) (by rw [b5]; rfl)
      (by rw [show flatR (rows ++ [⟨some ⟨w1.heap.size, 0, none⟩, 64, 64⟩]) = flatR rows ++ [(⟨some ⟨w1.heap.size, 0, none⟩, 64, 64⟩ : Sl).v] by simp [flatR]]; exact own5) (by simp [hl]) (fun s hs => by
        simp only [List.mem_append, List.mem_singleton] at hs
        rcases hs with hs | rfl
        · exact rowk (Own.fr (hr s hs) (f3 (fun _ => False)) (fun _ _ h => h))
        · exact rowk row3)
    have zz : w.heap.size ≤ w5.heap.size := by have := (f3 (fun _ => False)).size; have := f4.size; have := o5.size; omega
    have f35 : Fr (fun k => k = p ∨ a.blk k) w w5 := (f3 _).trans ((f4.mono fun k hk => .inl (.inr hk)).trans (o5.fr (.inl rfl)))
    refine ⟨w', a2, rows2, ?_, b', own', l', r', f35.trans_new f' (fun k hk => ?_), fun k hk => ?_, fun s hs => ?_⟩
    · rw [← e']
      refine loopF_next ?_
      have hlt : decide ((k : Int) < (m : Int)) = true := by simp; omega
      have l1 : ldL w1 ⟨p, 0, none⟩ = some a := ldL_B ((d1 p).trans hp) rfl
      have l2 : ldL w2 ⟨p, 0, none⟩ = some a := ldL_B ((f2 (fun _ => False)).B hp id) rfl
      have l3 : ldL w3 ⟨p, 0, none⟩ = some a := ldL_B hp3 rfl
      unfold grapevineref09_New_l1
      rw [if_pos hlt, e1, Option.bind_some, add_mk, l1, Option.bind_some, e2, bind2_some, e3, bind2_some]
      simp only [List.length_cons, List.length_nil, Nat.zero_add]
      rw [e4, bind2_some, e5, Option.bind_some, chk_pos l2, chk_pos l3, wrap_nat (by omega)]
    · rcases hk with hk | hk
      · exact .inl (.inl hk)
      · rcases k4 k hk with h | h
        · exact .inl (.inr h)
        · exact .inr (by have := (f3 (fun _ => False)).size; omega)
    · rcases k' k hk with h | h
      · rcases k4 k h with h | h
        · exact .inl h
        · exact .inr (by have := (f3 (fun _ => False)).size; omega)
      · exact .inr (by omega)
    · rcases q' s hs with h | h
      · simp only [List.mem_append, List.mem_singleton] at h
        rcases h with h | rfl
        · exact .inl h
        · exact .inr (fun k hk => by have := blk_eq hk; omega)
      · exact .inr (fun k hk => by have := h k hk; omega)
theorem rnew_ok {m : Int} (h1 : 1 ≤ m) (h2 : m ≤ 512) : ∃ w' a rows, grapevineref09_New m w = some (some ⟨w.heap.size, 0, none⟩, 0, w') ∧ RAt w' w.heap.size a Sl.nil rows [] (Dk.new m.toNat) ∧ (∀ S, Fr S w w') ∧ (∀ k, RAt.foot w.heap.size a Sl.nil k → w.heap.size ≤ k) ∧ (∀ k, rowBlk rows [] k → w.heap.size ≤ k) := by
  obtain ⟨w1, e1, n1⟩ := mk_s (w := w) (T := 95) (cs := [.slice none 0 0, .slice none 0 0, .int .i64 0, .bool false, .int .i64 0])
  obtain ⟨w', a, rows, e, b, o, l, r, f, k, q⟩ := rnew_loop (p := w.heap.size) (m := m.toNat) (by omega) m.toNat 0 Sl.nil [] w1 (by omega) n1.b Own.nil rfl (by simp)
  rw [show ((m.toNat : Nat) : Int) = m by omega] at e
  simp only [Int.ofNat_zero] at e
  have t1 : ¬ m < 1 := by omega
  have t2 : ¬ 512 < m := by omega
  refine ⟨w', a, rows, ?_, ⟨⟨?_, ?_, ?_, by simp [Dk.new], by simp [Dk.new], by simp [Dk.new]; omega⟩, b, o, Own.nil, by simp [Dk.new, l], rfl, ?_, ?_⟩, fun S => ((n1.fr _ S (Nat.le_refl _)).fr).trans_new f (fun k hk => ?_), ?_, ?_⟩
  · unfold grapevineref09_New
    simp only [t1, t2, decide_false, Bool.false_eq_true, if_false, bind2_some, e1, Option.bind_some, e]
  · intro x hx; simp [Dk.new] at hx; obtain ⟨_, rfl⟩ := hx; simp
  · intro x hx; simp [Dk.new] at hx
  · intro x hx; simp [Dk.new] at hx
  · intro i s xs hs hx
    have : xs = List.replicate 64 0 := by
      have := List.mem_of_getElem? hx
      simp only [Dk.new, List.mem_replicate] at this; exact this.2
    rw [this]
    exact r s (List.mem_of_getElem? hs)
  · intro i x y hx; simp at hx
  · rcases hk with rfl | ⟨ad, ha, _⟩
    · exact .inr (Nat.le_refl _)
    · cases ha
  · rintro j (rfl | hj | ⟨ad, ha, _⟩)
    · exact Nat.le_refl _
    · rcases k j hj with ⟨ad, ha, _⟩ | h
      · cases ha
      · have := n1.size; omega
    · cases ha
  · rintro j (⟨s, hs, hk⟩ | ⟨x, hx, _⟩)
    · rcases q s hs with h | h
      · simp at h
      · have := h j hk; have := n1.size; omega
    · simp at hx
theorem rfork_ok (h : RAt w p a b rows puts D) (hbd : D.W.length < 1000000) : ∃ w' a' b', grapevineref09_Disk_Fork (some ⟨p, 0, none⟩) w = some (some ⟨w.heap.size, 0, none⟩, w') ∧ RAt w' w.heap.size a' b' rows puts D ∧ (∀ S, Fr S w w') ∧ (∀ k, RAt.foot w.heap.size a' b' k → w.heap.size ≤ k) := by
  obtain ⟨w1, e1, d1, g1, z1, _⟩ := dr_s (w := w)
  have f1 : ∀ S, Fr S w w1 := fun S => (g1 w.heap.size S).fr
  have h1 := h.fr (f1 (fun _ => False)) (fun _ _ h => h) (fun _ _ h => h)
  obtain ⟨w2, e2, n2⟩ := mk_s (w := w1) (T := 95) (cs := rkC Sl.nil Sl.nil D.left D.down D.age)
  have b2 := n2.b
  rw [z1] at e2 b2
  have f2 : ∀ S, Fr S w w2 := fun S => (f1 S).trans (n2.fr _ S (Nat.le_refl _)).fr
  obtain ⟨w3, e3, d3, g3, z3, _⟩ := dr_s (w := w2)
  have f3 : ∀ S, Fr S w w3 := fun S => (f2 S).trans (g3 w2.heap.size S).fr
  have h3 := h.fr (f3 (fun _ => False)) (fun _ _ h => h) (fun _ _ h => h)
  have b3 := (d3 w.heap.size).trans b2
  have hn := h.wf.n
  have z12 := n2.size
  obtain ⟨a', w4, e4, o4, f4, n4, k4⟩ := apS_own (w := w3) (s := Sl.nil) st92 Own.nil h3.sure.rd flatR_one (by rw [h3.an]; simp only [Sl.nil]; omega)
  have ka : ∀ k, a'.blk k → w.heap.size < k := fun k hk => (k4 k hk).elim (fun ⟨ad, ha, _⟩ => by cases ha) (fun h => by omega)
  have f4' : ∀ S, Fr S w w4 := fun S => (f3 S).trans_new f4 (fun k hk => by obtain ⟨ad, ha, _⟩ := hk; cases ha)
  have b4 := f4.B b3 (by rintro ⟨ad, ha, _⟩; cases ha)
  obtain ⟨w5, e5, b5, o5⟩ := stV_s (o := 0) (v := a'.v) b4 (by simp [rkC]) rfl
  have f5 : ∀ S, Fr S w w5 := fun S => (f4' S).trans_new (o5.fr (S := fun k => k = w.heap.size) rfl) (fun k hk => .inr (Nat.le_of_eq hk.symm))
  obtain ⟨w6, e6, d6, g6, z6, _⟩ := dr_s (w := w5)
  have f6 : ∀ S, Fr S w w6 := fun S => (f5 S).trans (g6 w5.heap.size S).fr
  have h6 := h.fr (f6 (fun _ => False)) (fun _ _ h => h) (fun _ _ h => h)
  have b6 := (d6 w.heap.size).trans b5
  have oa6 : Own w6 29 a' 1 (flatR rows) := by
    have := (o5.own o4 (fun hk => by have := ka _ hk; omega)).fr (g6 w5.heap.size (fun _ => False)).fr (fun _ _ h => h)
    simpa using this
  obtain ⟨b', w7, e7, o7, f7, n7, k7⟩ := apS_own (w := w6) (s := Sl.nil) st93 Own.nil h6.waits.rd flatP_one (by rw [h6.bn]; simp only [Sl.nil]; omega)
  have z36 : w.heap.size + 1 ≤ w6.heap.size := by have := f4.size; have := o5.size; omega
  have kb : ∀ k, b'.blk k → w.heap.size < k := fun k hk => (k7 k hk).elim (fun ⟨ad, ha, _⟩ => by cases ha) (fun h => by omega)
  have f7' : ∀ S, Fr S w w7 := fun S => (f6 S).trans_new f7 (fun k hk => by obtain ⟨ad, ha, _⟩ := hk; cases ha)
  have b7 := f7.B b6 (by rintro ⟨ad, ha, _⟩; cases ha)
  obtain ⟨w8, e8, b8, o8⟩ := stV_s (o := 1) (v := b'.v) b7 (by simp [rkC]) rfl
  have f8 : ∀ S, Fr S w w8 := fun S => (f7' S).trans_new (o8.fr (S := fun k => k = w.heap.size) rfl) (fun k hk => .inr (Nat.le_of_eq hk.symm))
  have h8 := h.fr (f8 (fun _ => False)) (fun _ _ h => h) (fun _ _ h => h)
  have oa8 : Own w8 29 a' 1 (flatR rows) := o8.own (oa6.fr (f7.mono (S' := fun _ => False) (fun k hk => by obtain ⟨ad, ha, _⟩ := hk; cases ha)) (fun _ _ h => h)) (fun hk => by have := ka _ hk; omega)
  have ob8 : Own w8 106 b' 2 (flatP puts) := by
    have := o8.own o7 (fun hk => by have := kb _ hk; omega)
    simpa using this
  refine ⟨w8, a', b', ?_, ⟨h.wf, by rw [b8]; rfl, oa8, ob8, h.rl, h.pl, h8.rat, h8.pat⟩, f8, ?_⟩
  · unfold grapevineref09_Disk_Fork
    have l3 : ldL w3 ⟨w.heap.size, 0, none⟩ = some Sl.nil := ldL_B b3 rfl
    have l6 : ldL w6 ⟨w.heap.size, 1, none⟩ = some Sl.nil := ldL_B b6 rfl
    simp only [Option.isNone_some, Bool.false_eq_true, if_false, e1, Option.bind_some, add_mk, Nat.zero_add, rread2 h1, rread3 h1, rread4 h1]
    have e2' : mk w1 95 [.slice none 0 0, .slice none 0 0, .int .i64 D.left, .bool D.down, .int .i64 D.age] = some (⟨w.heap.size, 0, none⟩, w2) := e2
    rw [e2', bind2_some, e3, Option.bind_some, add_mk, Nat.zero_add, l3, Option.bind_some, rread0 h3, Option.bind_some, e4, bind2_some, e5, Option.bind_some, e6, Option.bind_some, add_mk, Nat.zero_add, l6, Option.bind_some, rread1 h6, Option.bind_some, e7, bind2_some, e8, Option.bind_some]
  · rintro k (rfl | hk | hk)
    · exact Nat.le_refl _
    · exact Nat.le_of_lt (ka k hk)
    · exact Nat.le_of_lt (kb k hk)
end
end Go.Proofs.Ytoanmomopcaikaa.D
