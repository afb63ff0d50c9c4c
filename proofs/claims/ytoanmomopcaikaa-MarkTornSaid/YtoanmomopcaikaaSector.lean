/- sector.Disk: what its functions do, told of a plain model. -/
import Derived.Test.YtoanmomopcaikaaSlice
import Derived.Test.YtoanmomopcaikaaFnD
namespace Go.Proofs.Ytoanmomopcaikaa.D
open Go
set_option linter.unusedVariables false
set_option linter.unusedSimpArgs false

/-! ### The model -/
structure Dk where
  S : List (List Int)
  W : List (Int × List Int)
  left : Int
  down : Bool
  age : Int
structure Dk.Wf (D : Dk) : Prop where
  s64 : ∀ s ∈ D.S, s.length = 64
  w64 : ∀ x ∈ D.W, x.2.length = 64
  wat : ∀ x ∈ D.W, 0 ≤ x.1 ∧ x.1 < D.S.length
  l0 : 0 ≤ D.left
  l1 : D.left ≤ 9223372036854775807
  n : 1 ≤ D.S.length ∧ D.S.length ≤ 512
def pad (b : List Int) : List Int := b ++ List.replicate (64 - b.length) 0
def Dk.trips (D : Dk) : Bool × Dk := if D.left = 0 then (false, D) else (D.left - 1 == 0, { D with left := D.left - 1, down := D.left - 1 == 0 })
def Dk.bad (D : Dk) (i : Int) : Bool := decide (i < 0) || decide ((D.S.length : Int) ≤ i)
def Dk.write (D : Dk) (i : Int) (b : List Int) : Int × Dk :=
  if D.down = true then (10, D) else if D.bad i = true then (2, D) else if 64 < b.length then (6, D) else
  if D.trips.1 = true then (10, D.trips.2) else (0, { D.trips.2 with W := D.W ++ [(i, pad b)] })
def Dk.cur (D : Dk) (i : Int) : List Int := D.W.foldl (fun b x => if x.1 = i then x.2 else b) (D.S.getD i.toNat [])
def Dk.read (D : Dk) (i : Int) : List Int × Int := if D.down = true then ([], 10) else if D.bad i = true then ([], 2) else (D.cur i, 0)
def Dk.sure (D : Dk) (i : Int) : List Int × Int := if D.bad i = true then ([], 2) else (D.S.getD i.toNat [], 0)
def putS (S : List (List Int)) (x : Int × List Int) (m : Nat) : List (List Int) := S.set x.1.toNat (x.2.take m ++ (S.getD x.1.toNat []).drop m)
def Dk.sync (D : Dk) : Int × Dk := if D.down = true then (10, D) else if D.trips.1 = true then (10, D.trips.2) else (0, { D.trips.2 with S := D.W.foldl (fun S x => putS S x 64) D.S, W := [] })
def Dk.trip (D : Dk) (n : Int) : Int × Dk := if D.down = true then (10, D) else if n < 0 then (2, D) else (0, { D with left := n })
def fate (fs : List Int) (k : Nat) : Int := if k < fs.length then IntKind.wrap .u64 (fs.getD k 0) else 0
def crash1 (fs : List Int) (k : Nat) (S : List (List Int)) (x : Int × List Int) : List (List Int) :=
  if (fate fs k).tmod 3 = 1 then putS S x 64 else if (fate fs k).tmod 3 = 2 then putS S x (((fate fs k).tdiv 3).tmod 64).toNat else S
def crashS (fs : List Int) : Nat → List (Int × List Int) → List (List Int) → List (List Int)
  | _, [], S => S
  | k, x :: l, S => crashS fs (k + 1) l (crash1 fs k S x)
def Dk.crash (D : Dk) (fs : List Int) : Dk := { S := crashS fs 0 D.W D.S, W := [], left := 0, down := false, age := IntKind.wrap .i64 (D.age + 1) }
def Dk.new (n : Nat) : Dk := { S := List.replicate n (List.replicate 64 0), W := [], left := 0, down := false, age := 0 }
theorem Dk.Wf.trips {D : Dk} (h : D.Wf) : D.trips.2.Wf := by
  unfold Dk.trips
  split
  · exact h
  · exact ⟨h.s64, h.w64, h.wat, by have := h.l0; simp only; omega, by have := h.l1; simp only; omega, h.n⟩
theorem trips_S (D : Dk) : D.trips.2.S = D.S := by unfold Dk.trips; split <;> rfl
theorem trips_W (D : Dk) : D.trips.2.W = D.W := by unfold Dk.trips; split <;> rfl
theorem putS_length {S : List (List Int)} {x : Int × List Int} {m : Nat} : (putS S x m).length = S.length := by simp [putS]
theorem putS_64 {S : List (List Int)} {x : Int × List Int} {m : Nat} (hS : ∀ s ∈ S, s.length = 64) (hx : x.2.length = 64) (hm : m ≤ 64) (hi : x.1.toNat < S.length) : ∀ s ∈ putS S x m, s.length = 64 := by
  intro s hs
  rcases List.mem_or_eq_of_mem_set hs with h | h
  · exact hS s h
  · subst h
    have : (S.getD x.1.toNat []).length = 64 := by
      rw [List.getD_eq_getElem?_getD, List.getElem?_eq_getElem hi]; exact hS _ (List.getElem_mem hi)
    rw [List.length_append, List.length_take, List.length_drop, hx, this]; omega

/-! ### Its memory -/
def flatS (S : List (List Int)) : List Value := S.flatMap (nums .u8)
def flatW (W : List (Int × List Int)) : List Value := W.flatMap fun x => .int .i64 x.1 :: nums .u8 x.2
def zb : List Value := List.replicate 64 (.int .u8 0)
theorem zb_nums : zb = nums .u8 (List.replicate 64 0) := by simp [zb, nums]
theorem st81 : ST Try.prog 81 86 64 64 zb := ⟨Try.underlying81, ⟨Try.t86, .agg zb.toArray, by kernel_rfl, by kernel_rfl, rfl, rfl, rfl⟩, by simp [zb], by decide, by decide⟩
theorem st82 : ST Try.prog 82 88 65 72 (.int .i64 0 :: zb) := ⟨Try.underlying82, ⟨Try.t88, .agg (.int .i64 0 :: zb).toArray, by kernel_rfl, by kernel_rfl, rfl, rfl, rfl⟩, by simp [zb], by decide, by decide⟩
theorem st29 : ST Try.prog 29 5 1 1 [.int .u8 0] := ⟨Try.underlying29, ⟨Try.t5, .int .u8 0, by kernel_rfl, by kernel_rfl, rfl, rfl, rfl⟩, rfl, by decide, by decide⟩
/-- The block of synced sectors: its number, its room and the cells behind the sectors. -/
structure Bk where
  b : Nat
  c : Nat
  r : List Value
def dkC (sb : Bk) (n : Nat) (s : Sl) (left : Int) (down : Bool) (age : Int) : List Value := [(⟨some ⟨sb.b, 0, none⟩, n, sb.c⟩ : Sl).v, s.v, .int .i64 left, .bool down, .int .i64 age]
structure DAt (w : World) (p : Nat) (sb : Bk) (s : Sl) (D : Dk) : Prop where
  wf : D.Wf
  blk : B w p = some (dkC sb D.S.length s D.left D.down D.age, 84)
  sure : B w sb.b = some (flatS D.S ++ sb.r, 86)
  waits : Own w 88 s 65 (flatW D.W)
  n : s.n = D.W.length
def DAt.foot (p : Nat) (sb : Bk) (s : Sl) (k : Nat) : Prop := k = p ∨ k = sb.b ∨ s.blk k
/-- A disk at block p whose blocks lie in F. -/
def Disk (w : World) (p : Nat) (F : Nat → Prop) (D : Dk) : Prop := ∃ sb s, DAt w p sb s D ∧ ∀ k, DAt.foot p sb s k → F k
def grow (F : Nat → Prop) (w w' : World) (k : Nat) : Prop := F k ∨ (w.heap.size ≤ k ∧ k < w'.heap.size)
section
variable {w w' : World} {p : Nat} {sb : Bk} {s : Sl} {D : Dk} {F G : Nat → Prop}
theorem DAt.ne (h : DAt w p sb s D) : p ≠ sb.b ∧ ¬ s.blk p ∧ ¬ s.blk sb.b := by
  refine ⟨fun e => ?_, fun e => ?_, fun e => ?_⟩
  · have := h.blk; rw [e, h.sure] at this; simp at this
  · obtain ⟨c, hc⟩ := h.waits.ty e; rw [h.blk] at hc; simp at hc
  · obtain ⟨c, hc⟩ := h.waits.ty e; rw [h.sure] at hc; simp at hc
theorem DAt.fr (h : DAt w p sb s D) (hf : Fr G w w') (hg : ∀ k, DAt.foot p sb s k → ¬ G k) : DAt w' p sb s D :=
  ⟨h.wf, hf.B h.blk (hg _ (.inl rfl)), hf.B h.sure (hg _ (.inr (.inl rfl))), h.waits.fr hf (fun k hk => hg _ (.inr (.inr hk))), h.n⟩
theorem Disk.fr (h : Disk w p F D) (hf : Fr G w w') (hg : ∀ k, F k → ¬ G k) : Disk w' p F D := by
  obtain ⟨sb, s, h, hF⟩ := h
  exact ⟨sb, s, h.fr hf (fun k hk => hg k (hF k hk)), hF⟩
theorem Disk.mono (h : Disk w p F D) (hg : ∀ k, k < w.heap.size → F k → G k) : Disk w p G D := by
  obtain ⟨sb, s, h, hF⟩ := h
  refine ⟨sb, s, h, fun k hk => hg k ?_ (hF k hk)⟩
  rcases hk with rfl | rfl | hk
  · exact B_lt h.blk
  · exact B_lt h.sure
  · exact h.waits.lt hk
theorem DAt.lt (h : DAt w p sb s D) {k : Nat} (hk : DAt.foot p sb s k) : k < w.heap.size := by
  rcases hk with rfl | rfl | hk
  · exact B_lt h.blk
  · exact B_lt h.sure
  · exact h.waits.lt hk
theorem One.refl {b : Nat} : One b w w := ⟨rfl, rfl, rfl, rfl, fun _ _ => rfl⟩
theorem One.trans {b : Nat} {w'' : World} (h : One b w w') (k : One b w' w'') : One b w w'' :=
  ⟨k.os.trans h.os, k.tape.trans h.tape, k.output.trans h.output, k.size.trans h.size, fun i hi => (k.block i hi).trans (h.block i hi)⟩
/-- A disk's own block has turned alone. -/
theorem DAt.one (h : DAt w p sb s D) {D' : Dk} (ho : One p w w') (hb : B w' p = some (dkC sb D'.S.length s D'.left D'.down D'.age, 84)) (hS : D'.S = D.S) (hW : D'.W = D.W) (hwf : D'.Wf) : DAt w' p sb s D' := by
  have hne := h.ne
  exact ⟨hwf, hb, by rw [ho.B (Ne.symm hne.1), hS]; exact h.sure, by rw [hW]; exact ho.own h.waits hne.2.1, by rw [hW]; exact h.n⟩
theorem trips_ok (h : DAt w p sb s D) : ∃ w', sector_Disk_trips (some ⟨p, 0, none⟩) w = some (D.trips.1, w') ∧ DAt w' p sb s D.trips.2 ∧ One p w w' := by
  have hl : ldI .i64 w ⟨p, 0 + 2, none⟩ = some D.left := ldI_B h.blk rfl
  unfold sector_Disk_trips
  simp only [Option.bind_some, add_mk, hl]
  by_cases h0 : D.left = 0
  · exact ⟨w, by simp [h0, Dk.trips], by simpa [h0, Dk.trips] using h, One.refl⟩
  · have e0 : (D.left == 0) = false := by simpa using h0
    have hw : IntKind.wrap .i64 (D.left - 1) = D.left - 1 := by rw [IntKind.wrap_i64]; have := h.wf.l0; have := h.wf.l1; omega
    obtain ⟨w1, e1, b1, o1⟩ := stV_s (o := 0 + 2) (v := .int .i64 (D.left - 1)) h.blk (by simp [dkC]) rfl
    obtain ⟨w2, e2, b2, o2⟩ := stV_s (o := 0 + 3) (v := .bool (D.left - 1 == 0)) b1 (by simp [dkC]) rfl
    have l1 : ldI .i64 w1 ⟨p, 0 + 2, none⟩ = some (D.left - 1) := ldI_B b1 rfl
    have l2 : ldB w2 ⟨p, 0 + 3, none⟩ = some (D.left - 1 == 0) := ldB_B b2 rfl
    refine ⟨w2, ?_, h.one (o1.trans o2) ?_ (trips_S D) (trips_W D) h.wf.trips, o1.trans o2⟩
    · simp only [e0, hw, e1, l1, e2, l2, Option.bind_some, Bool.false_eq_true, if_false, Dk.trips, if_neg h0]
    · rw [trips_S, b2]; simp only [Dk.trips, if_neg h0]; rfl
theorem new_ok {m : Int} (h1 : 1 ≤ m) (h2 : m ≤ 512) : ∃ w', sector_New m w = some (some ⟨w.heap.size + 1, 0, none⟩, 0, w') ∧ DAt w' (w.heap.size + 1) ⟨w.heap.size, m.toNat, []⟩ Sl.nil (Dk.new m.toNat) ∧ (∀ n S, n ≤ w.heap.size → Fz n S w w') ∧ w'.heap.size = w.heap.size + 2 := by
  have t1 : ¬ m < 1 := by omega
  have t2 : ¬ 512 < m := by omega
  obtain ⟨w1, e1, n1⟩ := mkS_s (w := w) st81 (m := m) (by omega) (by omega)
  obtain ⟨w2, e2, n2⟩ := mk_s (w := w1) (T := 84) (cs := dkC ⟨w.heap.size, m.toNat, []⟩ m.toNat Sl.nil 0 false 0)
  have z1 : w1.heap.size = w.heap.size + 1 := n1.size
  unfold sector_New
  have e2' : mk w1 84 [Sl.v ⟨some ⟨w.heap.size, 0, none⟩, m.toNat, m.toNat⟩, .slice none 0 0, .int .i64 0, .bool false, .int .i64 0] = some (⟨w1.heap.size, 0, none⟩, w2) := e2
  refine ⟨w2, ?_, ⟨⟨?_, ?_, ?_, by simp [Dk.new], by simp [Dk.new], by simp [Dk.new]; omega⟩, ?_, ?_, ?_, rfl⟩, fun n S hn => (n1.fr n S hn).trans (n2.fr n S (by omega)), by have := n2.size; omega⟩
  · simp only [t1, t2, decide_false, Bool.false_eq_true, if_false, bind2_some, e1, e2', z1]
  · intro x hx; simp [Dk.new] at hx; obtain ⟨_, rfl⟩ := hx; simp
  · intro x hx; simp [Dk.new] at hx
  · intro x hx; simp [Dk.new] at hx
  · have := n2.b; rw [z1] at this; simpa [Dk.new] using this
  · rw [n2.old _ (by simp only; omega), n1.b, List.append_nil]
    rw [show flatS (Dk.new m.toNat).S = (List.replicate m.toNat zb).flatten by simp only [Dk.new, flatS, zb_nums, List.flatMap, List.map_replicate]]
  · exact Own.nil
theorem read0 (h : DAt w p sb s D) : ldL w ⟨p, 0, none⟩ = some ⟨some ⟨sb.b, 0, none⟩, D.S.length, sb.c⟩ := ldL_B h.blk rfl
theorem read1 (h : DAt w p sb s D) : ldL w ⟨p, 1, none⟩ = some s := ldL_B h.blk rfl
theorem read2 (h : DAt w p sb s D) : ldI .i64 w ⟨p, 2, none⟩ = some D.left := ldI_B h.blk rfl
theorem read3 (h : DAt w p sb s D) : ldB w ⟨p, 3, none⟩ = some D.down := ldB_B h.blk rfl
theorem read4 (h : DAt w p sb s D) : ldI .i64 w ⟨p, 4, none⟩ = some D.age := ldI_B h.blk rfl
theorem size_ok (h : DAt w p sb s D) : sector_Disk_Size (some ⟨p, 0, none⟩) w = some ((D.S.length : Int), w) := by
  unfold sector_Disk_Size
  simp [read0 h]
theorem waits_ok (h : DAt w p sb s D) : sector_Disk_Waits (some ⟨p, 0, none⟩) w = some ((D.W.length : Int), w) := by
  unfold sector_Disk_Waits
  simp [read1 h, h.n]
theorem down_ok (h : DAt w p sb s D) : sector_Disk_Down (some ⟨p, 0, none⟩) w = some (D.down, w) := by
  unfold sector_Disk_Down
  simp [read3 h]
theorem age_ok (h : DAt w p sb s D) : sector_Disk_Age (some ⟨p, 0, none⟩) w = some (D.age, w) := by
  unfold sector_Disk_Age
  simp [read4 h]
theorem trip_ok {m : Int} (h : DAt w p sb s D) (hm : m ≤ 9223372036854775807) : ∃ w', sector_Disk_Trip (some ⟨p, 0, none⟩) m w = some ((D.trip m).1, w') ∧ DAt w' p sb s (D.trip m).2 ∧ One p w w' := by
  unfold sector_Disk_Trip Dk.trip
  simp only [Option.isNone_some, Bool.false_eq_true, if_false, Option.bind_some, add_mk, Nat.zero_add, read3 h]
  by_cases hd : D.down = true
  · exact ⟨w, by simp [hd], by simpa [hd] using h, One.refl⟩
  · by_cases hm0 : m < 0
    · exact ⟨w, by simp [hd, hm0], by simpa [hd, hm0] using h, One.refl⟩
    · obtain ⟨w1, e1, b1, o1⟩ := stV_s (o := 2) (v := .int .i64 m) h.blk (by simp [dkC]) rfl
      refine ⟨w1, by simp [hd, hm0, e1], ?_, o1⟩
      simp only [hd, if_neg hm0, Bool.false_eq_true, if_false]
      have hdf : D.down = false := by simpa using hd
      exact h.one o1 (by rw [b1, hdf]; rfl) rfl rfl ⟨h.wf.s64, h.wf.w64, h.wf.wat, by simp only; omega, hm, h.wf.n⟩
/-- Bytes that are read lie in no block of a disk. -/
theorem DAt.bytes (h : DAt w p sb s D) {b : Sl} {bs : List Int} (hb : Rd w b 1 (nums .u8 bs)) : ∀ a, b.p = some a → 0 < b.n → a.block ≠ p := by
  intro a ha hn e
  obtain ⟨a', ha', hc⟩ := hb.at_ hn
  rw [ha] at ha'; cases ha'
  have hl := hb.len
  simp only [nums_length, Nat.mul_one] at hl
  have h0 := hc 0 (.int .u8 (bs[0]'(by omega))) (by rw [nums_get, List.getElem?_eq_getElem (by omega)]; rfl)
  have e0 : a.add 0 = a := by simp [Addr.add]
  rw [e0] at h0
  obtain ⟨ab, ao, asp⟩ := a
  simp only at e
  subst e
  simp only [World.cell?, B_heap.1 h.blk] at h0
  split at h0
  · cases h0
  · simp [dkC, Sl.v] at h0
    rcases ao with _ | _ | _ | _ | _ | ao <;> simp at h0
theorem putL_full {cs vs : List Value} (h : vs.length = cs.length) : putL cs 0 vs = vs := by simp [putL, h]
theorem flatW_snoc {W : List (Int × List Int)} {x : Int × List Int} : flatW (W ++ [x]) = flatW W ++ (.int .i64 x.1 :: nums .u8 x.2) := by simp [flatW]
theorem flatW_one {W : List (Int × List Int)} : ∀ v ∈ flatW W, v.oneCell' = true := by
  intro v hv
  obtain ⟨x, _, hx⟩ := List.mem_flatMap.1 hv
  rcases List.mem_cons.1 hx with rfl | hx
  · rfl
  · exact nums_one v hx
theorem cons_one {v : Value} {l : List Value} (hv : v.oneCell' = true) (hl : ∀ u ∈ l, u.oneCell' = true) : ∀ u ∈ v :: l, u.oneCell' = true := by
  intro u hu
  rcases List.mem_cons.1 hu with rfl | hu
  · exact hv
  · exact hl u hu
theorem write_ok {i : Int} {b : Sl} {bs : List Int} (h : DAt w p sb s D) (hb : Rd w b 1 (nums .u8 bs)) (hbd : D.W.length < 1000000) :
    ∃ w' s', sector_Disk_Write (some ⟨p, 0, none⟩) i b w = some ((D.write i bs).1, w') ∧ DAt w' p sb s' (D.write i bs).2 ∧ Fr (DAt.foot p sb s) w w' ∧ (∀ k, s'.blk k → s.blk k ∨ w.heap.size ≤ k) := by
  have hbn : bs.length = b.n := by have := hb.len; simpa using this
  unfold sector_Disk_Write
  simp only [Option.isNone_some, Bool.false_eq_true, if_false, Option.bind_some, add_mk, Nat.zero_add, read3 h, read0 h]
  have stay : ∀ (r : Int), (D.write i bs) = (r, D) → ∃ w' s', (some (r, w) : Option (Int × World)) = some ((D.write i bs).1, w') ∧ DAt w' p sb s' (D.write i bs).2 ∧ Fr (DAt.foot p sb s) w w' ∧ (∀ k, s'.blk k → s.blk k ∨ w.heap.size ≤ k) :=
    fun r e => ⟨w, s, by rw [e], by rw [e]; exact h, Fr.refl, fun k hk => .inl hk⟩
  have hbad : (if decide (i < 0) = true then some (true, w) else some (decide ((D.S.length : Int) ≤ i), w)) = some (D.bad i, w) := by
    unfold Dk.bad; by_cases hi : i < 0 <;> simp [hi]
  rw [hbad]
  simp only [bind2_some]
  by_cases hd : D.down = true
  · simp only [hd, if_true]; exact stay 10 (by simp [Dk.write, hd])
  · simp only [hd, Bool.false_eq_true, if_false]
    by_cases hi : D.bad i = true
    · simp only [hi, if_true]; exact stay 2 (by simp [Dk.write, hd, hi])
    · simp only [hi, Bool.false_eq_true, if_false]
      by_cases h64 : 64 < b.n
      · have e : (64 : Int) < (b.n : Int) := by omega
        simp only [e, decide_true, if_true]; exact stay 6 (by simp [Dk.write, hd, hi, hbn, h64])
      · have e : ¬ (64 : Int) < (b.n : Int) := by omega
        simp only [e, decide_false, Bool.false_eq_true, if_false]
        obtain ⟨w1, e1, h1, o1⟩ := trips_ok h
        rw [e1]
        simp only [bind2_some]
        have hwr : D.write i bs = if D.trips.1 = true then (10, D.trips.2) else (0, { D.trips.2 with W := D.W ++ [(i, pad bs)] }) := by
          unfold Dk.write; rw [if_neg hd, if_neg hi, if_neg (by omega)]
        by_cases ht : D.trips.1 = true
        · simp only [ht, if_true]
          rw [hwr, if_pos ht]
          exact ⟨w1, s, rfl, h1, o1.fr (.inl rfl), fun k hk => .inl hk⟩
        · simp only [ht, Bool.false_eq_true, if_false]
          rw [hwr, if_neg ht]
          obtain ⟨w2, e2, n2⟩ := mk_s (w := w1) (T := 88) (cs := [.int .i64 0] ++ List.replicate 64 (.int .u8 0))
          have z2 := n2.size
          obtain ⟨w3, e3, b3, o3⟩ := stA_s (o := 0) (vs := [.int .i64 i] ++ List.replicate 64 (.int .u8 0)) n2.b (by simp) (by intro v hv; simp at hv; rcases hv with rfl | rfl <;> rfl)
          rw [putL_full (by simp)] at b3
          have f13 : Fz w1.heap.size (fun _ => False) w1 w3 := (n2.fr _ _ (Nat.le_refl _)).trans (o3.fz (.inr (Nat.le_refl _)))
          have hb3 : Rd w3 b 1 (nums .u8 bs) := (hb.fr (o1.fr (S := fun k => k = p) rfl) (h.bytes hb)).fr f13.fr (fun _ _ _ h => h)
          obtain ⟨w4, e4, b4, o4⟩ := cpS_s (u := 29) (m := 64) (c := 64) st29 (o := 1) b3 (by simp) hb3 nums_one
          have hmin : min b.n 64 = b.n := by omega
          have htk : (nums .u8 bs).take (min b.n 64 * 1) = nums .u8 bs := by rw [hmin, Nat.mul_one, ← hbn]; exact List.take_of_length_le (by simp)
          have hc4 : putL ([.int .i64 i] ++ List.replicate 64 (.int .u8 0)) 1 (nums .u8 bs) = .int .i64 i :: nums .u8 (pad bs) := by
            simp [putL, pad, nums, hbn, Nat.add_comm 1, -List.reduceReplicate]
          rw [htk, hc4] at b4
          obtain ⟨w5, e5, d5, g5, z5, _⟩ := dr_s (w := w4)
          have f15 : Fz w1.heap.size (fun _ => False) w1 w5 := (f13.trans (o4.fz (.inr (Nat.le_refl _)))).trans (g5 _ _)
          have hlen : (Value.int .i64 i :: nums .u8 (pad bs)).length = 65 := by simp [pad]; omega
          have l5 : ldA 65 w5 ⟨w1.heap.size, 0, none⟩ 0 = some (.int .i64 i :: nums .u8 (pad bs)) := by
            have := ldA_B (n := 65) (o := 0) ((d5 _).trans b4) (by simp only [hlen]; omega)
            rw [this, List.drop_zero, List.take_of_length_le (by omega)]
          obtain ⟨w6, e6, n6⟩ := bsl_s (w := w5) (T := 88) (sz := 65) (ps := [.int .i64 i :: nums .u8 (pad bs)]) (by simp only [List.mem_singleton, forall_eq]; exact hlen)
          have z3 := o3.size
          have z4 := o4.size
          have f16 : Fz w1.heap.size (fun _ => False) w1 w6 := f15.trans (n6.fr _ _ (by omega))
          have h5 := h1.fr f15.fr (fun _ _ h => h)
          have h6 := h1.fr f16.fr (fun _ _ h => h)
          have own6 : Own w6 88 ⟨some ⟨w5.heap.size, 0, none⟩, 1, 1⟩ 65 (.int .i64 i :: nums .u8 (pad bs)) := by
            refine Own.of_new (w := w5) ?_ (by rw [hlen]) (by omega)
            simpa using n6
          obtain ⟨s', w7, e7, own7, f7, n7, k7⟩ := apS_own st82 h6.waits own6.rd (cons_one rfl nums_one) (by rw [h6.n, trips_W]; simp only; omega)
          have hne6 := h6.ne
          have b7 : B w7 p = some (dkC sb D.trips.2.S.length s D.trips.2.left D.trips.2.down D.trips.2.age, 84) := f7.B h6.blk hne6.2.1
          obtain ⟨w8, e8, b8, o8⟩ := stV_s (o := 1) (v := s'.v) b7 (by simp [dkC]) rfl
          have hp1 : p < w1.heap.size := B_lt h1.blk
          have hsz : w.heap.size = w1.heap.size := o1.size.symm
          have z6 := n6.size
          have ps' : ¬ s'.blk p := fun hk => (k7 p hk).elim hne6.2.1 (fun h2 => by omega)
          refine ⟨w8, s', ?_, ⟨?_, ?_, ?_, ?_, ?_⟩, ?_, ?_⟩
          · have l6 := read1 h6
            simp only [e2, bind2_some, e3, Option.bind_some, add_mk, Nat.zero_add]
            have sl : slA ⟨w1.heap.size, 1, none⟩ 64 0 64 64 1 = some ⟨some ⟨w1.heap.size, 1, none⟩, 64, 64⟩ := by simp [slA]
            simp only [sl, Option.bind_some, e4, bind2_some, e5, read1 h5, l5, e6, List.length_cons, List.length_nil, Nat.zero_add, e7, e8]
            rw [chk_pos l6]
          · refine ⟨?_, ?_, ?_, ?_, ?_, ?_⟩
            · simp only [trips_S]; exact h.wf.s64
            · intro x hx
              simp only [List.mem_append, List.mem_singleton] at hx
              rcases hx with hx | rfl
              · exact h.wf.w64 x hx
              · simp [pad]; omega
            · intro x hx
              simp only [List.mem_append, List.mem_singleton, trips_S] at hx ⊢
              rcases hx with hx | rfl
              · exact h.wf.wat x hx
              · simp only [Dk.bad, Bool.or_eq_true, decide_eq_true_eq, not_or] at hi; omega
            · exact h.wf.trips.l0
            · exact h.wf.trips.l1
            · exact h.wf.trips.n
          · rw [b8]; rfl
          · rw [o8.B (Ne.symm hne6.1)]
            exact f7.B h6.sure hne6.2.2
          · have := o8.own own7 ps'
            rw [trips_W] at this
            simpa [flatW_snoc] using this
          · rw [n7, h6.n, trips_W]; simp
          · refine (o1.fr (S := DAt.foot p sb s) (.inl rfl)).trans ?_
            refine (f16.fr.mono (fun _ h => h.elim)).trans_new ((f7.mono (S' := DAt.foot p sb s) (fun i hi => .inl (.inr (.inr hi)))).trans (o8.fr (.inl rfl))) (fun i hi => .inl hi)
          · intro k hk
            rcases k7 k hk with h' | h'
            · exact .inl h'
            · exact .inr (by omega)
/-! ### Rounds -/
theorem putL_app {a r vs : List Value} {o : Nat} (h : o + vs.length ≤ a.length) : putL (a ++ r) o vs = putL a o vs ++ r := by
  unfold putL
  rw [List.take_append_of_le_length (by omega), List.drop_append_of_le_length h]
  simp [List.append_assoc]

theorem flatS_put {S : List (List Int)} {x : Int × List Int} {m : Nat} (hS : ∀ s ∈ S, s.length = 64) (hx : x.2.length = 64) (hm : m ≤ 64) (hi : x.1.toNat < S.length) :
    putL (flatS S) (x.1.toNat * 64) (nums .u8 (x.2.take m)) = flatS (putS S x m) := by
  obtain ⟨i, b⟩ := x
  simp only at hx hi ⊢
  generalize hj : i.toNat = j at hi
  simp only [putS, hj]
  clear hj
  induction S generalizing j with
  | nil => simp at hi
  | cons s S ih =>
    have hs := hS s (by simp)
    have hln : (nums .u8 s).length = 64 := by simp [hs]
    have htl : (nums .u8 (b.take m)).length = m := by simp [hx]; omega
    cases j with
    | zero =>
      simp only [putL, flatS, List.flatMap_cons, Nat.zero_mul, List.take_zero, List.nil_append, List.set_cons_zero, Nat.zero_add, htl, List.getD_cons_zero]
      rw [List.drop_append_of_le_length (by omega)]
      simp [nums, List.append_assoc, List.map_drop]
    | succ j =>
      have := ih (fun y hy => hS y (by simp [hy])) j (by simpa using hi)
      simp only [flatS, List.flatMap_cons, List.set_cons_succ, List.getD_cons_succ] at this ⊢
      rw [← this]
      have e1 : (j + 1) * 64 = 64 + j * 64 := by rw [Nat.succ_mul]; omega
      simp only [putL, e1]
      rw [takeA _ _ hln, show 64 + j * 64 + (nums .u8 (b.take m)).length = 64 + (j * 64 + (nums .u8 (b.take m)).length) by omega, dropA _ _ hln]
      simp only [List.append_assoc]
theorem wlen {W : List (Int × List Int)} (h : ∀ x ∈ W, x.2.length = 64) : ∀ x ∈ W, (Value.int .i64 x.1 :: nums .u8 x.2).length = 65 := fun x hx => by simp [h x hx]
theorem slen {S : List (List Int)} (h : ∀ s ∈ S, s.length = 64) : ∀ s ∈ S, (nums .u8 s).length = 64 := fun s hs => by simp [h s hs]
theorem wrap_nat {k : Nat} (h : k < 9223372036854775807) : IntKind.wrap .i64 ((k : Int) + 1) = ((k + 1 : Nat) : Int) := by rw [IntKind.wrap_i64]; omega
/-- A write's box: what a round lays into a new variable. -/
theorem box_ok {x : Int × List Int} (hx : x.2.length = 64) : ∃ w2 w3, mk w 88 ([.int .i64 0] ++ List.replicate 64 (.int .u8 0)) = some (⟨w.heap.size, 0, none⟩, w2) ∧ stA w2 ⟨w.heap.size, 0, none⟩ 0 (.int .i64 x.1 :: nums .u8 x.2) = some w3 ∧
    B w3 w.heap.size = some (.int .i64 x.1 :: nums .u8 x.2, 88) ∧ (∀ S, Fz w.heap.size S w w3) ∧ w3.heap.size = w.heap.size + 1 := by
  obtain ⟨w2, e2, n2⟩ := mk_s (w := w) (T := 88) (cs := [.int .i64 0] ++ List.replicate 64 (.int .u8 0))
  obtain ⟨w3, e3, b3, o3⟩ := stA_s (o := 0) (vs := .int .i64 x.1 :: nums .u8 x.2) n2.b (by simp [hx]) (cons_one rfl nums_one)
  rw [putL_full (by simp [hx])] at b3
  exact ⟨w2, w3, e2, e3, b3, fun S => (n2.fr _ _ (Nat.le_refl _)).trans (o3.fz (.inr (Nat.le_refl _))), by have := n2.size; have := o3.size; omega⟩
theorem sync_loop {n : Nat} {left age : Int} {down : Bool} {W : List (Int × List Int)} (hne : p ≠ sb.b) (hsb : ¬ s.blk sb.b) (hn : s.n = W.length) (hW : W.length < 1000000) (h64 : ∀ x ∈ W, x.2.length = 64) (hat : ∀ x ∈ W, 0 ≤ x.1 ∧ x.1 < n) :
    ∀ (suf : List (Int × List Int)) (pre : List (Int × List Int)) (S : List (List Int)) (w : World), W = pre ++ suf → S.length = n → (∀ s ∈ S, s.length = 64) → B w p = some (dkC sb n s left down age, 84) → B w sb.b = some (flatS S ++ sb.r, 86) → Rd w s 65 (flatW W) →
      ∃ w', loopF (fun r : Int × World => sector_Disk_Sync_l1 s (some ⟨p, 0, none⟩) r.1 r.2) ((pre.length : Int), w) = some w' ∧ B w' sb.b = some (flatS (suf.foldl (fun S x => putS S x 64) S) ++ sb.r, 86) ∧ Fr (fun k => k = sb.b) w w' := by
  intro suf
  induction suf with
  | nil =>
    intro pre S w hpre hSn hS hp hsbk hrd
    refine ⟨w, loopF_done ?_, hsbk, Fr.refl⟩
    have : W.length = pre.length := by rw [hpre]; simp
    simp [sector_Disk_Sync_l1, hn, this]
  | cons x suf ih =>
    intro pre S w hpre hSn hS hp hsbk hrd
    have hxW : x ∈ W := by rw [hpre]; simp
    have hlen : pre.length < W.length := by rw [hpre]; simp
    have hat' := hat x hxW
    have hx := h64 x hxW
    obtain ⟨a, ea, la, ca, _⟩ := rd_at (i := pre.length) hrd (by omega)
    have hchunk : ((flatW W).drop (pre.length * 65)).take 65 = .int .i64 x.1 :: nums .u8 x.2 := by
      have := chunk (f := fun x => .int .i64 x.1 :: nums .u8 x.2) W pre.length (wlen h64) hlen
      have hg : W[pre.length] = x := by simp [hpre]
      rw [hg] at this
      exact this
    rw [hchunk] at la
    obtain ⟨w2, w3, e2, e3, b3, f3, z3⟩ := box_ok (w := w) hx
    obtain ⟨w4, e4, d4, g4, z4, _⟩ := dr_s (w := w3)
    have f4 : ∀ S, Fz w.heap.size S w w4 := fun S => (f3 S).trans (g4 _ _)
    have hp4 := (f4 (fun _ => False)).B hp (B_lt hp) id
    have hs4 := (f4 (fun _ => False)).B hsbk (B_lt hsbk) id
    have b4 := (d4 w.heap.size).trans b3
    have i1 : ldI .i64 w4 ⟨w.heap.size, 0, none⟩ = some x.1 := ldI_B b4 rfl
    have i2 : ldA 64 w4 ⟨w.heap.size, 1, none⟩ 0 = some (nums .u8 x.2) := by
      rw [ldA_B (n := 64) (o := 1) b4 (by simp [hx])]
      simp [List.take_of_length_le, hx]
    have i3 : ldL w4 ⟨p, 0, none⟩ = some ⟨some ⟨sb.b, 0, none⟩, n, sb.c⟩ := ldL_B hp4 rfl
    have hxn : x.1.toNat < S.length := by omega
    have hfl : (flatS S).length = S.length * 64 := flatLen S (slen hS)
    have i4 : ix ⟨some ⟨sb.b, 0, none⟩, n, sb.c⟩ x.1 64 = some ⟨sb.b, x.1.toNat * 64, none⟩ := by
      simp [ix, hat'.1, hat'.2]
    have hle : x.1.toNat * 64 + 64 ≤ S.length * 64 := by
      have := Nat.mul_le_mul_right 64 hxn
      rw [Nat.succ_mul] at this; exact this
    obtain ⟨w5, e5, b5, o5⟩ := stA_s (o := x.1.toNat * 64) (vs := nums .u8 x.2) hs4 (by rw [List.length_append, hfl]; simp only [nums_length, hx]; omega) nums_one
    have htk : nums .u8 x.2 = nums .u8 (x.2.take 64) := by rw [List.take_of_length_le (by omega)]
    rw [htk, putL_app (by rw [hfl]; simp [hx]; exact hle), flatS_put hS hx (Nat.le_refl _) hxn] at b5
    have f5 : Fr (fun k => k = sb.b) w w5 := ((f4 (fun k => k = sb.b)).trans (o5.fz (.inl rfl))).fr
    obtain ⟨w', e', b', f'⟩ := ih (pre ++ [x]) (putS S x 64) w5 (by rw [hpre]; simp) (by rw [putS_length]; exact hSn) (putS_64 hS hx (Nat.le_refl _) hxn) (by rw [o5.B hne]; exact hp4) b5
      ((hrd.fr (f4 (fun _ => False)).fr (fun _ _ _ h => h)).fr (o5.fr (S := fun k => k = sb.b) rfl) (fun a ha _ e => hsb ⟨a, ha, e⟩))
    refine ⟨w', ?_, b', f5.trans f'⟩
    rw [← e', show ((pre ++ [x]).length : Int) = ((pre.length + 1 : Nat) : Int) by simp]
    refine loopF_next ?_
    have hlt : (pre.length : Int) < (s.n : Int) := by omega
    simp only [sector_Disk_Sync_l1, hlt, decide_true, if_true, ea, Option.bind_some, la, e2, bind2_some, e3, e4, add_mk, Nat.zero_add, i3, i1, i2, i4, e5]
    rw [wrap_nat (by omega)]
theorem sync_ok (h : DAt w p sb s D) (hbd : D.W.length < 1000000) :
    ∃ w' s', sector_Disk_Sync (some ⟨p, 0, none⟩) w = some (D.sync.1, w') ∧ DAt w' p sb s' D.sync.2 ∧ Fr (DAt.foot p sb s) w w' ∧ (∀ k, s'.blk k → s.blk k ∨ w.heap.size ≤ k) := by
  unfold sector_Disk_Sync Dk.sync
  simp only [Option.isNone_some, Bool.false_eq_true, if_false, Option.bind_some, add_mk, Nat.zero_add, read3 h]
  by_cases hd : D.down = true
  · exact ⟨w, s, by simp [hd], by simpa [hd] using h, Fr.refl, fun k hk => .inl hk⟩
  · obtain ⟨w1, e1, h1, o1⟩ := trips_ok h
    simp only [hd, Bool.false_eq_true, if_false, e1, bind2_some]
    by_cases ht : D.trips.1 = true
    · simp only [ht, if_true]
      exact ⟨w1, s, rfl, h1, o1.fr (.inl rfl), fun k hk => .inl hk⟩
    · simp only [ht, Bool.false_eq_true, if_false, read1 h1, Option.bind_some]
      have hne := h1.ne
      obtain ⟨w2, e2, b2, f2⟩ := sync_loop (n := D.trips.2.S.length) (W := D.trips.2.W) hne.1 hne.2.2 h1.n (by rw [trips_W]; exact hbd) h1.wf.w64 h1.wf.wat D.trips.2.W [] D.trips.2.S w1 rfl rfl h1.wf.s64 h1.blk h1.sure h1.waits.rd
      simp only [List.length_nil, Int.ofNat_zero] at e2
      have bp2 := f2.B h1.blk hne.1
      obtain ⟨w3, e3, b3, o3⟩ := stV_s (o := 1) (v := Sl.nil.v) bp2 (by simp [dkC]) rfl
      have e2' : loopF (fun s_1 => sector_Disk_Sync_l1 s (some ⟨p, 0, none⟩) s_1.1 s_1.2) (0, w1) = some w2 := e2
      have hfold : ∀ (l : List (Int × List Int)) (S : List (List Int)), (∀ x ∈ l, x.2.length = 64 ∧ 0 ≤ x.1 ∧ x.1 < S.length) → (∀ s ∈ S, s.length = 64) → (l.foldl (fun S x => putS S x 64) S).length = S.length ∧ ∀ s ∈ l.foldl (fun S x => putS S x 64) S, s.length = 64 := by
        intro l
        induction l with
        | nil => intro S _ hS; exact ⟨rfl, hS⟩
        | cons x l ih =>
          intro S hx hS
          have hx0 := hx x (by simp)
          obtain ⟨a1, a2⟩ := ih (putS S x 64) (fun y hy => by rw [putS_length]; exact hx y (by simp [hy])) (putS_64 hS hx0.1 (Nat.le_refl _) (by omega))
          exact ⟨by simp only [List.foldl_cons]; rw [a1, putS_length], by simpa only [List.foldl_cons] using a2⟩
      have hF := hfold D.W D.S (fun x hx => ⟨h.wf.w64 x hx, h.wf.wat x hx⟩) h.wf.s64
      refine ⟨w3, Sl.nil, by simp only [e2', Option.bind_some, e3], ⟨⟨?_, by simp, by simp, h.wf.trips.l0, h.wf.trips.l1, by simp only; rw [hF.1]; exact h.wf.n⟩, ?_, ?_, Own.nil, rfl⟩, ?_, fun k hk => ?_⟩
      · exact hF.2
      · rw [b3]; simp only; rw [hF.1, ← trips_S D]; rfl
      · rw [o3.B (Ne.symm hne.1), b2, trips_S, trips_W]
      · exact ((o1.fr (.inl rfl)).trans (f2.mono fun i hi => .inl (.inr (.inl hi)))).trans (o3.fr (.inl rfl))
      · obtain ⟨a, ha, _⟩ := hk; cases ha
/-! ### Crash -/
theorem fate_ok {f : Sl} {fs : List Int} {k : Nat} (hf : Rd w f 1 (nums .i64 fs)) : (if decide ((k : Int) < (f.n : Int)) = true then (ix f (k : Int) 1).bind fun p => (ldI .i64 w p).bind fun v => some (IntKind.wrap .u64 v, w) else some (0, w)) = some (fate fs k, w) := by
  have hl : fs.length = f.n := by have := hf.len; simpa using this
  unfold fate
  by_cases hk : k < fs.length
  · have h1 : (k : Int) < (f.n : Int) := by omega
    obtain ⟨a, ea, _, ca, _⟩ := rd_at (i := k) hf (by omega)
    have hv := ca 0 (.int .i64 (fs.getD k 0)) (by omega) (by rw [nums_get]; simp [List.getD, hk])
    have e0 : a.add 0 = a := by simp [Addr.add]
    rw [e0] at hv
    simp only [h1, decide_true, if_true, hk, ea, Option.bind_some, ldI_cell hv]
  · have h1 : ¬ (k : Int) < (f.n : Int) := by omega
    simp only [h1, decide_false, Bool.false_eq_true, if_false, hk]
theorem fate_range (fs : List Int) (k : Nat) : 0 ≤ fate fs k ∧ fate fs k < 18446744073709551616 := by
  unfold fate
  split
  · have h : ∀ x : Int, IntKind.wrap .u64 x = x % 18446744073709551616 := fun x => by simp [IntKind.wrap, IntKind.bits, IntKind.signed]
    rw [h]; omega
  · omega
theorem crash1_keep {fs : List Int} {k : Nat} {S : List (List Int)} {x : Int × List Int} (hS : ∀ s ∈ S, s.length = 64) (hx : x.2.length = 64) (hi : x.1.toNat < S.length) : (crash1 fs k S x).length = S.length ∧ ∀ s ∈ crash1 fs k S x, s.length = 64 := by
  have hr := fate_range fs k
  unfold crash1
  split
  · exact ⟨putS_length, putS_64 hS hx (Nat.le_refl _) hi⟩
  · split
    · have h1 : ((fate fs k).tdiv 3).tmod 64 < 64 := Int.tmod_lt_of_pos _ (by omega)
      exact ⟨putS_length, putS_64 hS hx (by omega) hi⟩
    · exact ⟨rfl, hS⟩
theorem crash_loop {n : Nat} {left age : Int} {down : Bool} {W : List (Int × List Int)} {f : Sl} {fs : List Int} (hne : p ≠ sb.b) (hsb : ¬ s.blk sb.b) (hn : s.n = W.length) (hW : W.length < 1000000) (h64 : ∀ x ∈ W, x.2.length = 64) (hat : ∀ x ∈ W, 0 ≤ x.1 ∧ x.1 < n) (hfb : ∀ a, f.p = some a → 0 < f.n → a.block ≠ sb.b) :
    ∀ (suf : List (Int × List Int)) (pre : List (Int × List Int)) (S : List (List Int)) (w : World), W = pre ++ suf → S.length = n → (∀ s ∈ S, s.length = 64) → B w p = some (dkC sb n s left down age, 84) → B w sb.b = some (flatS S ++ sb.r, 86) → Rd w s 65 (flatW W) → Rd w f 1 (nums .i64 fs) →
      ∃ w', loopF (fun r : Int × World => sector_Disk_Crash_l1 s f (some ⟨p, 0, none⟩) r.1 r.2) ((pre.length : Int), w) = some w' ∧ B w' sb.b = some (flatS (crashS fs pre.length suf S) ++ sb.r, 86) ∧ Fr (fun k => k = sb.b) w w' := by
  intro suf
  induction suf with
  | nil =>
    intro pre S w hpre hSn hS hp hsbk hrd hf
    refine ⟨w, loopF_done ?_, hsbk, Fr.refl⟩
    have : W.length = pre.length := by rw [hpre]; simp
    simp [sector_Disk_Crash_l1, hn, this]
  | cons x suf ih =>
    intro pre S w hpre hSn hS hp hsbk hrd hf
    have hxW : x ∈ W := by rw [hpre]; simp
    have hlen : pre.length < W.length := by rw [hpre]; simp
    have hat' := hat x hxW
    have hx := h64 x hxW
    obtain ⟨a, ea, la, ca, _⟩ := rd_at (i := pre.length) hrd (by omega)
    have hchunk : ((flatW W).drop (pre.length * 65)).take 65 = .int .i64 x.1 :: nums .u8 x.2 := by
      have := chunk (f := fun x => .int .i64 x.1 :: nums .u8 x.2) W pre.length (wlen h64) hlen
      have hg : W[pre.length] = x := by simp [hpre]
      rw [hg] at this
      exact this
    rw [hchunk] at la
    obtain ⟨w2, w3, e2, e3, b3, f3, z3⟩ := box_ok (w := w) hx
    obtain ⟨w4, e4, d4, g4, z4, _⟩ := dr_s (w := w3)
    have f4 : ∀ S, Fz w.heap.size S w w4 := fun S => (f3 S).trans (g4 _ _)
    have hp4 := (f4 (fun _ => False)).B hp (B_lt hp) id
    have hs4 := (f4 (fun _ => False)).B hsbk (B_lt hsbk) id
    have b4 := (d4 w.heap.size).trans b3
    have i1 : ldI .i64 w4 ⟨w.heap.size, 0, none⟩ = some x.1 := ldI_B b4 rfl
    have i2 : ldA 64 w4 ⟨w.heap.size, 1, none⟩ 0 = some (nums .u8 x.2) := by
      rw [ldA_B (n := 64) (o := 1) b4 (by simp [hx])]
      simp [List.take_of_length_le, hx]
    have i3 : ldL w4 ⟨p, 0, none⟩ = some ⟨some ⟨sb.b, 0, none⟩, n, sb.c⟩ := ldL_B hp4 rfl
    have hxn : x.1.toNat < S.length := by omega
    have hfl : (flatS S).length = S.length * 64 := flatLen S (slen hS)
    have i4 : ix ⟨some ⟨sb.b, 0, none⟩, n, sb.c⟩ x.1 64 = some ⟨sb.b, x.1.toNat * 64, none⟩ := by
      simp [ix, hat'.1, hat'.2]
    have hle : x.1.toNat * 64 + 64 ≤ S.length * 64 := by
      have := Nat.mul_le_mul_right 64 hxn
      rw [Nat.succ_mul] at this; exact this
    have hf3 : Rd w3 f 1 (nums .i64 fs) := hf.fr (f3 (fun _ => False)).fr (fun _ _ _ h => h)
    have hfate := fate_ok (k := pre.length) hf3
    have hr := fate_range fs pre.length
    -- what the round leaves
    have round : ∃ w5, sector_Disk_Crash_l1 s f (some ⟨p, 0, none⟩) (pre.length : Int) w = some (.inl (((pre.length + 1 : Nat) : Int), w5)) ∧ B w5 sb.b = some (flatS (crash1 fs pre.length S x) ++ sb.r, 86) ∧ Fr (fun k => k = sb.b) w w5 ∧ B w5 p = B w4 p := by
      have hlt : (pre.length : Int) < (s.n : Int) := by omega
      simp only [decide_eq_true_eq] at hfate
      have h3 : rmI (fate fs pre.length) 3 = some ((fate fs pre.length).tmod 3) := by simp [rmI]
      simp only [sector_Disk_Crash_l1, hlt, decide_true, if_true, ea, Option.bind_some, la, e2, bind2_some, e3, hfate, h3, add_mk, Nat.zero_add, beq_iff_eq, decide_eq_true_eq, wrap_nat (show pre.length < 9223372036854775807 by omega)]
      by_cases c1 : (fate fs pre.length).tmod 3 = 1
      · obtain ⟨w5, e5, b5, o5⟩ := stA_s (o := x.1.toNat * 64) (vs := nums .u8 x.2) hs4 (by rw [List.length_append, hfl]; simp only [nums_length, hx]; omega) nums_one
        have htk : nums .u8 x.2 = nums .u8 (x.2.take 64) := by rw [List.take_of_length_le (by omega)]
        rw [htk, putL_app (by rw [hfl]; simp [hx]; exact hle), flatS_put hS hx (Nat.le_refl _) hxn] at b5
        refine ⟨w5, ?_, ?_, ((f4 (fun k => k = sb.b)).trans (o5.fz (.inl rfl))).fr, o5.B hne⟩
        · simp only [c1, if_true, e4, Option.bind_some, i3, i1, i2, i4, e5]
        · rw [b5]; simp only [crash1, c1, if_true]
      · by_cases c2 : (fate fs pre.length).tmod 3 = 2
        · have hm0 : 0 ≤ ((fate fs pre.length).tdiv 3).tmod 64 := Int.tmod_nonneg _ (Int.tdiv_nonneg hr.1 (by omega))
          have hm1 : ((fate fs pre.length).tdiv 3).tmod 64 < 64 := Int.tmod_lt_of_pos _ (by omega)
          have hdv : dvI .u64 (fate fs pre.length) 3 = some ((fate fs pre.length).tdiv 3) := by
            have h : ∀ x : Int, IntKind.wrap .u64 x = x % 18446744073709551616 := fun x => by simp [IntKind.wrap, IntKind.bits, IntKind.signed]
            have h1 : (fate fs pre.length).tdiv 3 = fate fs pre.length / 3 := Int.tdiv_eq_ediv_of_nonneg hr.1
            simp only [dvI, h, h1]
            rw [if_neg (by omega)]
            congr 1
            omega
          have hrm : rmI ((fate fs pre.length).tdiv 3) 64 = some (((fate fs pre.length).tdiv 3).tmod 64) := by simp [rmI]
          obtain ⟨m, hm⟩ : ∃ m, ((fate fs pre.length).tdiv 3).tmod 64 = m := ⟨_, rfl⟩
          rw [hm] at hm0 hm1 hrm
          have s1 : slA ⟨sb.b, x.1.toNat * 64, none⟩ 64 0 m 64 1 = some ⟨some ⟨sb.b, x.1.toNat * 64, none⟩, m.toNat, 64⟩ := by
            simp [slA, hm0]; omega
          have s2 : slA ⟨w.heap.size, 1, none⟩ 64 0 64 64 1 = some ⟨some ⟨w.heap.size, 1, none⟩, 64, 64⟩ := by simp [slA]
          have rd4 : Rd w4 ⟨some ⟨w.heap.size, 1, none⟩, 64, 64⟩ 1 (nums .u8 x.2) := by
            have := Rd.of_B (n := 64) (c := 64) (sz := 1) (o := 1) b4 (by simp [hx])
            simpa [List.take_of_length_le, hx] using this
          obtain ⟨w5, e5, b5, o5⟩ := cpS_s (u := 29) (m := m.toNat) (c := 64) st29 (o := x.1.toNat * 64) hs4 (by rw [List.length_append, hfl]; omega) rd4 nums_one
          have hmin : min 64 m.toNat * 1 = m.toNat := by omega
          have htk : (nums .u8 x.2).take m.toNat = nums .u8 (x.2.take m.toNat) := by simp [nums, List.map_take]
          simp only [hmin] at b5
          rw [htk, putL_app (by rw [hfl]; simp [hx]; omega), flatS_put hS hx (by omega) hxn] at b5
          refine ⟨w5, ?_, ?_, ((f4 (fun k => k = sb.b)).trans (o5.fz (.inl rfl))).fr, o5.B hne⟩
          · have c1' : ¬ (2 : Int) = 1 := by omega
            simp only [c2, c1', if_true, if_false, e4, Option.bind_some, i3, i1, i4, hdv, hrm, s1, s2, e5, bind2_some]
          · rw [b5]
            simp only [crash1]
            rw [if_neg c1, if_pos c2, hm]
        · refine ⟨w3, ?_, ?_, (f3 _).fr, ?_⟩
          · simp only [c1, c2, if_false, Option.bind_some]
          · rw [(f3 (fun _ => False)).B hsbk (B_lt hsbk) id]; simp only [crash1, c1, c2, if_false]
          · exact (d4 p).symm
    obtain ⟨w5, e5, b5, f5, bp5⟩ := round
    have hk := crash1_keep (fs := fs) (k := pre.length) hS hx hxn
    have hfr : ∀ a, f.p = some a → 0 < f.n → ¬ a.block = sb.b := hfb
    obtain ⟨w', e', b', f'⟩ := ih (pre ++ [x]) (crash1 fs pre.length S x) w5 (by rw [hpre]; simp) (by rw [hk.1]; exact hSn) hk.2 (bp5.trans hp4) b5
      (hrd.fr f5 (fun a ha _ e => hsb ⟨a, ha, e⟩)) (hf.fr f5 hfr)
    refine ⟨w', ?_, by simpa [crashS] using b', f5.trans f'⟩
    rw [← e', show ((pre ++ [x]).length : Int) = ((pre.length + 1 : Nat) : Int) by simp]
    exact loopF_next e5
theorem crashS_keep {fs : List Int} : ∀ (l : List (Int × List Int)) (k : Nat) (S : List (List Int)), (∀ x ∈ l, x.2.length = 64 ∧ 0 ≤ x.1 ∧ x.1 < S.length) → (∀ s ∈ S, s.length = 64) → (crashS fs k l S).length = S.length ∧ ∀ s ∈ crashS fs k l S, s.length = 64
  | [], _, S, _, hS => ⟨rfl, hS⟩
  | x :: l, k, S, hx, hS => by
    have hx0 := hx x (by simp)
    have hk := crash1_keep (fs := fs) (k := k) hS hx0.1 (by omega)
    have := crashS_keep (fs := fs) l (k + 1) (crash1 fs k S x) (fun y hy => by rw [hk.1]; exact hx y (by simp [hy])) hk.2
    exact ⟨this.1.trans hk.1, this.2⟩
theorem crash_ok {f : Sl} {fs : List Int} (h : DAt w p sb s D) (hbd : D.W.length < 1000000) (hf : Rd w f 1 (nums .i64 fs)) (hfb : ∀ a, f.p = some a → 0 < f.n → a.block ≠ sb.b) :
    ∃ w', sector_Disk_Crash (some ⟨p, 0, none⟩) f w = some (0, w') ∧ DAt w' p sb Sl.nil (D.crash fs) ∧ Fr (DAt.foot p sb s) w w' := by
  have hne := h.ne
  obtain ⟨w1, e1, b1, f1⟩ := crash_loop (f := f) (fs := fs) (n := D.S.length) (W := D.W) hne.1 hne.2.2 h.n hbd h.wf.w64 h.wf.wat hfb D.W [] D.S w rfl rfl h.wf.s64 h.blk h.sure h.waits.rd hf
  simp only [List.length_nil, Int.ofNat_zero] at e1
  have bp1 := f1.B h.blk hne.1
  obtain ⟨w2, e2, b2, o2⟩ := stV_s (o := 1) (v := Sl.nil.v) bp1 (by simp [dkC]) rfl
  obtain ⟨w3, e3, b3, o3⟩ := stV_s (o := 2) (v := .int .i64 0) b2 (by simp [dkC]) rfl
  obtain ⟨w4, e4, b4, o4⟩ := stV_s (o := 3) (v := .bool false) b3 (by simp [dkC]) rfl
  have l4 : ldI .i64 w4 ⟨p, 4, none⟩ = some D.age := ldI_B b4 rfl
  obtain ⟨w5, e5, b5, o5⟩ := stV_s (o := 4) (v := .int .i64 (IntKind.wrap .i64 (D.age + 1))) b4 (by simp [dkC]) rfl
  have o25 : One p w1 w5 := o2.trans (o3.trans (o4.trans o5))
  have e1' : loopF (fun r : Int × World => sector_Disk_Crash_l1 s f (some ⟨p, 0, none⟩) r.1 r.2) (0, w) = some w1 := e1
  have hk := crashS_keep (fs := fs) D.W 0 D.S (fun x hx => ⟨h.wf.w64 x hx, h.wf.wat x hx⟩) h.wf.s64
  refine ⟨w5, ?_, ⟨⟨?_, by simp [Dk.crash], by simp [Dk.crash], by simp [Dk.crash], by simp [Dk.crash], ?_⟩, ?_, ?_, Own.nil, rfl⟩, ?_⟩
  · unfold sector_Disk_Crash
    simp only [Option.isNone_some, Bool.false_eq_true, if_false, Option.bind_some, add_mk, Nat.zero_add, read1 h, e1', e2, e3, e4, l4, e5]
  · exact hk.2
  · simp only [Dk.crash]; rw [hk.1]; exact h.wf.n
  · rw [b5]; simp only [Dk.crash]; rw [hk.1]; rfl
  · rw [o25.B (Ne.symm hne.1), b1]; rfl
  · exact (f1.mono fun i hi => .inl (.inr (.inl hi))).trans (o25.fr (.inl rfl))
/-! ### Read, Sure, Fork -/
theorem flatS_at {S : List (List Int)} {r : List Value} {i : Nat} (hS : ∀ s ∈ S, s.length = 64) (hi : i < S.length) : ((flatS S ++ r).drop (i * 64)).take 64 = nums .u8 (S.getD i []) := by
  have hfl : (flatS S).length = S.length * 64 := flatLen S (slen hS)
  have hle : i * 64 + 64 ≤ S.length * 64 := by
    have := Nat.mul_le_mul_right 64 hi
    rw [Nat.succ_mul] at this; exact this
  rw [List.drop_append_of_le_length (by omega), List.take_append_of_le_length (by rw [List.length_drop]; omega)]
  have := chunk (f := nums .u8) S i (slen hS) hi
  rw [show S.getD i [] = S[i] by rw [List.getD_eq_getElem?_getD, List.getElem?_eq_getElem hi]; rfl]
  exact this
/-- A row that a reader gives: a new block of 64 bytes, or nothing. -/
structure Row (w w' : World) (o : Sl) (xs : List Int) : Prop where
  own : ∃ T, Own w' T o 1 (nums .u8 xs)
  new : ∀ a, o.p = some a → w.heap.size ≤ a.block
  fr : ∀ S, Fr S w w'
theorem Row.rd {o : Sl} {xs : List Int} (h : Row w w' o xs) : Rd w' o 1 (nums .u8 xs) := by obtain ⟨T, h⟩ := h.own; exact h.rd
theorem Row.cap {o : Sl} {xs : List Int} (h : Row w w' o xs) : o.n ≤ o.c := by obtain ⟨T, h⟩ := h.own; exact h.cap
theorem Row.n {o : Sl} {xs : List Int} (h : Row w w' o xs) : o.n = xs.length := by have := h.rd.len; simpa using this.symm
theorem Row.none : Row w w Sl.nil [] := ⟨⟨0, Own.nil⟩, fun a h => (by cases h), fun S => Fr.refl⟩
/-- The copy of one synced sector. -/
theorem copy_ok (h : DAt w p sb s D) {i : Int} (hi : D.bad i = false) : ∃ a w1 w2, ix ⟨some ⟨sb.b, 0, none⟩, D.S.length, sb.c⟩ i 64 = some a ∧ ldA 64 w a 0 = some (nums .u8 (D.S.getD i.toNat [])) ∧
    mk w 86 (List.replicate 64 (.int .u8 0)) = some (⟨w.heap.size, 0, none⟩, w1) ∧ stA w1 ⟨w.heap.size, 0, none⟩ 0 (nums .u8 (D.S.getD i.toNat [])) = some w2 ∧
    B w2 w.heap.size = some (nums .u8 (D.S.getD i.toNat []), 86) ∧ (∀ S, Fr S w w2) ∧ w2.heap.size = w.heap.size + 1 := by
  have hb : ¬ i < 0 ∧ ¬ (D.S.length : Int) ≤ i := by simpa [Dk.bad] using hi
  have hn : i.toNat < D.S.length := by omega
  have hl : (D.S.getD i.toNat []).length = 64 := by
    rw [List.getD_eq_getElem?_getD, List.getElem?_eq_getElem hn]; exact h.wf.s64 _ (List.getElem_mem hn)
  have hfl : (flatS D.S).length = D.S.length * 64 := flatLen D.S (slen h.wf.s64)
  have hle : i.toNat * 64 + 64 ≤ D.S.length * 64 := by
    have := Nat.mul_le_mul_right 64 hn
    rw [Nat.succ_mul] at this; exact this
  obtain ⟨w1, e1, n1⟩ := mk_s (w := w) (T := 86) (cs := List.replicate 64 (.int .u8 0))
  obtain ⟨w2, e2, b2, o2⟩ := stA_s (o := 0) (vs := nums .u8 (D.S.getD i.toNat [])) n1.b (by simp only [nums_length, hl, List.length_replicate]; omega) nums_one
  rw [putL_full (by simp only [nums_length, hl, List.length_replicate])] at b2
  refine ⟨⟨sb.b, i.toNat * 64, none⟩, w1, w2, ?_, ?_, e1, e2, b2, fun S => ((n1.fr _ _ (Nat.le_refl _)).trans (o2.fz (.inr (Nat.le_refl _)))).fr, by have := n1.size; have := o2.size; omega⟩
  · unfold ix
    simp [show 0 ≤ i by omega, show i < (D.S.length : Int) by omega]
  · rw [ldA_B h.sure (by rw [List.length_append, hfl]; omega), flatS_at h.wf.s64 hn]
theorem sl64 {b : Nat} : slA ⟨b, 0, none⟩ 64 0 64 64 1 = some ⟨some ⟨b, 0, none⟩, 64, 64⟩ := by simp [slA]
theorem getS_len (h : D.Wf) {i : Int} (hi : D.bad i = false) : (D.S.getD i.toNat []).length = 64 := by
  have hb : ¬ i < 0 ∧ ¬ (D.S.length : Int) ≤ i := by simpa [Dk.bad] using hi
  have hn : i.toNat < D.S.length := by omega
  rw [List.getD_eq_getElem?_getD, List.getElem?_eq_getElem hn]; exact h.s64 _ (List.getElem_mem hn)
theorem row_of {w2 : World} {xs : List Int} {T : TypeId} (hb : B w2 w.heap.size = some (nums .u8 xs, T)) (hx : xs.length = 64) (hf : ∀ S, Fr S w w2) : Row w w2 ⟨some ⟨w.heap.size, 0, none⟩, 64, 64⟩ xs := by
  exact ⟨⟨T, by simp only [nums_length, hx], Nat.le_refl _, by simp only; omega, .inr ⟨_, [], rfl, by rw [List.append_nil]; exact hb, by simp⟩⟩, fun a ha => by cases ha; exact Nat.le_refl _, hf⟩
theorem sure_ok {i : Int} (h : DAt w p sb s D) : ∃ o w', sector_Disk_Sure (some ⟨p, 0, none⟩) i w = some (o, (D.sure i).2, w') ∧ Row w w' o (D.sure i).1 := by
  unfold sector_Disk_Sure Dk.sure
  have hbad : (if decide (i < 0) = true then some (true, w) else some (decide ((D.S.length : Int) ≤ i), w)) = some (D.bad i, w) := by
    unfold Dk.bad; by_cases h0 : i < 0 <;> simp [h0]
  simp only [Option.isNone_some, Bool.false_eq_true, if_false, Option.bind_some, add_mk, Nat.zero_add, read0 h, hbad, bind2_some]
  by_cases hi : D.bad i = true
  · simp only [hi, if_true]
    exact ⟨_, _, rfl, Row.none⟩
  · have hi' : D.bad i = false := by simpa using hi
    obtain ⟨a, w1, w2, ea, el, e1, e2, b2, f2, z2⟩ := copy_ok h hi'
    simp only [hi', Bool.false_eq_true, if_false, ea, Option.bind_some, el, e1, bind2_some, e2, sl64]
    exact ⟨_, _, rfl, row_of b2 (getS_len h.wf hi') f2⟩
theorem cur_len (h : D.Wf) {i : Int} (hi : D.bad i = false) : ∀ (l : List (Int × List Int)) (b : List Int), (∀ x ∈ l, x.2.length = 64) → b.length = 64 → (l.foldl (fun b x => if x.1 = i then x.2 else b) b).length = 64
  | [], b, _, hb => hb
  | x :: l, b, hl, hb => by
    rw [List.foldl_cons]
    refine cur_len h hi l _ (fun y hy => hl y (by simp [hy])) ?_
    split
    · exact hl x (by simp)
    · exact hb
theorem read_loop {T : TypeId} {i : Int} {g : Nat} {b : List Int} (h : DAt w p sb s D) (hbd : D.W.length < 1000000) (hg : B w g = some (nums .u8 b, T)) (hb : b.length = 64) (hnew : ¬ DAt.foot p sb s g) :
    ∀ n, n ≤ D.W.length → ∃ w', loopF (fun r : Int × World => sector_Disk_Read_l1 (some ⟨p, 0, none⟩) i ⟨g, 0, none⟩ r.1 r.2) ((n : Int) - 1, w) = some w' ∧ B w' g = some (nums .u8 ((D.W.take n).foldl (fun b x => if x.1 = i then x.2 else b) b), T) ∧ One g w w' := by
  intro n
  induction n with
  | zero =>
    intro _
    refine ⟨w, loopF_done ?_, by simpa using hg, One.refl⟩
    simp [sector_Disk_Read_l1]
  | succ n ih =>
    intro hn
    have hlen : n < D.W.length := by omega
    obtain ⟨a, ea, la, ca, _⟩ := rd_at (i := n) h.waits.rd (by rw [h.n]; omega)
    have hx := h.wf.w64 (D.W[n]) (List.getElem_mem hlen)
    have hchunk : ((flatW D.W).drop (n * 65)).take 65 = .int .i64 D.W[n].1 :: nums .u8 D.W[n].2 := chunk (f := fun x => .int .i64 x.1 :: nums .u8 x.2) D.W n (wlen h.wf.w64) hlen
    have hj : ∀ j v, (Value.int .i64 D.W[n].1 :: nums .u8 D.W[n].2)[j]? = some v → w.cell? (a.add j) = some v := by
      intro j v hv
      have hj : j < 65 := by have := (List.getElem?_eq_some_iff.1 hv).1; simpa [hx] using this
      refine ca j v hj ?_
      rw [← hchunk, List.getElem?_take, if_pos hj, List.getElem?_drop] at hv
      exact hv
    have i1 : ldI .i64 w (a.add 0) = some D.W[n].1 := ldI_cell (hj 0 _ rfl)
    have ewr : IntKind.wrap .i64 ((n : Int) - 1) = (n : Int) - 1 := by rw [IntKind.wrap_i64]; omega
    have etk : (D.W.take (n + 1)).foldl (fun b x => if x.1 = i then x.2 else b) b = if D.W[n].1 = i then D.W[n].2 else (D.W.take n).foldl (fun b x => if x.1 = i then x.2 else b) b := by
      rw [List.take_succ_eq_append_getElem hlen, List.foldl_append]; rfl
    rw [etk, show ((n + 1 : Nat) : Int) - 1 = (n : Int) by omega]
    have h0 : (0 : Int) ≤ (n : Int) := by omega
    by_cases hc : D.W[n].1 = i
    · have i2 : ldA 64 w (a.add 1) 0 = some (nums .u8 D.W[n].2) := by
        refine ldA_cells 64 w (a.add 1) 0 _ (by simp [hx]) (fun j v hv => ?_)
        have := hj (1 + j) v (by rw [Nat.add_comm]; simpa using hv)
        rw [← this, Nat.zero_add]; congr 1; unfold Addr.add; simp [Nat.add_assoc]
      obtain ⟨w', e', b', o'⟩ := stA_s (o := 0) (vs := nums .u8 D.W[n].2) hg (by simp [hx, hb]) nums_one
      rw [putL_full (by simp [hx, hb])] at b'
      refine ⟨w', loopF_done ?_, by simpa [hc] using b', o'⟩
      simp only [sector_Disk_Read_l1, h0, decide_true, if_true, Option.bind_some, add_mk, Nat.zero_add, read1 h, ea, i1, i2, e', hc, beq_self_eq_true]
    · obtain ⟨w', e', b', o'⟩ := ih (by omega)
      refine ⟨w', ?_, by simpa [hc] using b', o'⟩
      rw [← e']
      refine loopF_next ?_
      have hc' : (D.W[n].1 == i) = false := by simpa using hc
      simp only [sector_Disk_Read_l1, h0, decide_true, if_true, Option.bind_some, add_mk, Nat.zero_add, read1 h, ea, i1, hc', Bool.false_eq_true, if_false, ewr]
theorem read_ok {i : Int} (h : DAt w p sb s D) (hbd : D.W.length < 1000000) : ∃ o w', sector_Disk_Read (some ⟨p, 0, none⟩) i w = some (o, (D.read i).2, w') ∧ Row w w' o (D.read i).1 := by
  unfold sector_Disk_Read Dk.read
  have hbad : (if decide (i < 0) = true then some (true, w) else some (decide ((D.S.length : Int) ≤ i), w)) = some (D.bad i, w) := by
    unfold Dk.bad; by_cases h0 : i < 0 <;> simp [h0]
  simp only [Option.isNone_some, Bool.false_eq_true, if_false, Option.bind_some, add_mk, Nat.zero_add, read3 h, read0 h, hbad, bind2_some]
  by_cases hd : D.down = true
  · simp only [hd, if_true]
    exact ⟨_, _, rfl, Row.none⟩
  simp only [hd, Bool.false_eq_true, if_false]
  by_cases hi : D.bad i = true
  · simp only [hi, if_true]
    exact ⟨_, _, rfl, Row.none⟩
  · have hi' : D.bad i = false := by simpa using hi
    obtain ⟨a, w1, w2, ea, el, e1, e2, b2, f2, z2⟩ := copy_ok h hi'
    have h2 : DAt w2 p sb s D := h.fr (f2 (fun _ => False)) (fun _ _ h => h)
    obtain ⟨w3, e3, b3, o3⟩ := read_loop (i := i) h2 hbd b2 (getS_len h.wf hi') (fun hk => by have := h.lt hk; omega) D.W.length (Nat.le_refl _)
    rw [List.take_length] at b3
    have ewr : IntKind.wrap .i64 ((s.n : Int) - 1) = (D.W.length : Int) - 1 := by rw [IntKind.wrap_i64, h.n]; omega
    simp only [hi', Bool.false_eq_true, if_false, ea, Option.bind_some, el, e1, bind2_some, e2, read1 h2, ewr, e3, sl64]
    refine ⟨_, _, rfl, row_of b3 (cur_len h.wf hi' _ _ h.wf.w64 (getS_len h.wf hi')) (fun S => (f2 S).trans_new (o3.fr (S := fun k => k = w.heap.size) rfl) (fun i hi => .inr (Nat.le_of_eq hi.symm)))⟩
/-- A copy of an owned slice. -/
theorem clone_ok {t T : TypeId} {sz by_ : Nat} {Z : List Value} {s : Sl} {cs : List Value} (st : ST Try.prog t T sz by_ Z) (h : Rd w s sz cs) (h1 : ∀ v ∈ cs, v.oneCell' = true) (hb : s.n * by_ ≤ 140737488355328) :
    ∃ s' w', (if (s.p.isNone) = true then some (Sl.nil, w) else bind2 (bsl w T sz []) fun s2 w3 => bind2 (apS Try.prog t s2 s w3) fun s5 w6 => some (s5, w6)) = some (s', w') ∧ Own w' T s' sz cs ∧ s'.n = s.n ∧ (∀ k, s'.blk k → w.heap.size ≤ k) ∧ (∀ S, Fr S w w') := by
  by_cases hn : s.p.isNone = true
  · have h0 : s.n = 0 := by
      rcases Nat.eq_zero_or_pos s.n with h0 | h0
      · exact h0
      · obtain ⟨a, ha, _⟩ := h.at_ h0; rw [ha] at hn; simp at hn
    have hc : cs = [] := List.eq_nil_of_length_eq_zero (by rw [h.len, h0]; simp)
    subst hc
    refine ⟨Sl.nil, w, by rw [if_pos hn], Own.nil, h0.symm, fun k hk => ?_, fun S => Fr.refl⟩
    · obtain ⟨a, ha, _⟩ := hk; cases ha
  · obtain ⟨w1, e1, n1⟩ := bsl_s (w := w) (T := T) (sz := sz) (ps := []) (by simp)
    have o1 : Own w1 T ⟨some ⟨w.heap.size, 0, none⟩, 0, 0⟩ sz [] := Own.of_new (by simpa using n1) (by simp) (by omega)
    have f1 : ∀ S, Fr S w w1 := fun S => (n1.fr _ S (Nat.le_refl _)).fr
    obtain ⟨s', w2, e2, o2, f2, n2, k2⟩ := apS_own st o1 (h.fr (f1 (fun _ => False)) (fun _ _ _ h => h)) h1 (by simpa using hb)
    have hblk : ∀ k, s'.blk k → w.heap.size ≤ k := fun k hk => (k2 k hk).elim (fun ⟨a, ha, hk⟩ => by cases ha; exact Nat.le_of_eq hk) (fun h => by have := n1.size; omega)
    refine ⟨s', w2, ?_, by simpa using o2, by simpa using n2, hblk, fun S => (f1 S).trans_new f2 (fun i hi => by obtain ⟨a, ha, hk⟩ := hi; cases ha; exact .inr (Nat.le_of_eq hk))⟩
    · rw [if_neg hn]; simp only [e1, bind2_some, List.length_nil, e2]
theorem flatS_one {S : List (List Int)} : ∀ v ∈ flatS S, v.oneCell' = true := by
  intro v hv
  obtain ⟨x, _, hx⟩ := List.mem_flatMap.1 hv
  exact nums_one v hx
theorem fork_ok (h : DAt w p sb s D) (hbd : D.W.length < 1000000) : ∃ w' sb' s', sector_Disk_Fork (some ⟨p, 0, none⟩) w = some (some ⟨w.heap.size, 0, none⟩, w') ∧ DAt w' w.heap.size sb' s' D ∧ (∀ S, Fr S w w') ∧ (∀ k, DAt.foot w.heap.size sb' s' k → w.heap.size ≤ k) := by
  obtain ⟨w1, e1, n1⟩ := mk_s (w := w) (T := 84) (cs := [.slice none 0 0, .slice none 0 0, .int .i64 0, .bool false, .int .i64 0])
  obtain ⟨w2, e2, b2, o2⟩ := stA_s (o := 0) (vs := dkC sb D.S.length s D.left D.down D.age) n1.b (by simp [dkC]) (by
    intro v hv; simp only [dkC, List.mem_cons, List.not_mem_nil, or_false] at hv; rcases hv with rfl | rfl | rfl | rfl | rfl <;> rfl)
  rw [putL_full (by simp [dkC])] at b2
  have l0 : ldA 5 w ⟨p, 0, none⟩ 0 = some (dkC sb D.S.length s D.left D.down D.age) := by
    rw [ldA_B h.blk (by simp [dkC])]; rfl
  obtain ⟨w3, e3, d3, g3, z3, _⟩ := dr_s (w := w2)
  have f13 : ∀ S, Fz w.heap.size S w w3 := fun S => (n1.fr _ _ (Nat.le_refl _)).trans ((o2.fz (.inr (Nat.le_refl _))).trans (g3 _ _))
  have h3 : DAt w3 p sb s D := h.fr (f13 (fun _ => False)).fr (fun _ _ h => h)
  have b3 := (d3 w.heap.size).trans b2
  have hfl : (flatS D.S).length = D.S.length * 64 := flatLen D.S (slen h.wf.s64)
  have hn := h.wf.n
  have rdS : Rd w3 ⟨some ⟨sb.b, 0, none⟩, D.S.length, sb.c⟩ 64 (flatS D.S) := by
    have := Rd.of_B (o := 0) (n := D.S.length) (c := sb.c) (sz := 64) h3.sure (by rw [List.length_append, hfl]; omega)
    rwa [List.drop_zero, List.take_append_of_le_length (by omega), List.take_of_length_le (by omega)] at this
  obtain ⟨s4, w4, e4, own4, n4, k4, f4⟩ := clone_ok st81 rdS flatS_one (by simp only; omega)
  have h4 := h3.fr (f4 (fun _ => False)) (fun _ _ h => h)
  have b4 := (f4 (fun _ => False)).B b3 id
  obtain ⟨s5, w5, e5, own5, n5, k5, f5⟩ := clone_ok st82 h4.waits.rd flatW_one (by rw [h4.n]; omega)
  have h5 := h4.fr (f5 (fun _ => False)) (fun _ _ h => h)
  have b5 := (f5 (fun _ => False)).B b4 id
  have own45 := own4.fr (f5 (fun _ => False)) (fun _ _ h => h)
  obtain ⟨w6, e6, b6, o6⟩ := stV_s (o := 0) (v := s4.v) b5 (by simp [dkC]) rfl
  obtain ⟨w7, e7, b7, o7⟩ := stV_s (o := 1) (v := s5.v) b6 (by simp [dkC]) rfl
  have o57 : One w.heap.size w5 w7 := o6.trans o7
  have z23 : w3.heap.size = w.heap.size + 1 := by have := n1.size; have := o2.size; omega
  have z34 : w3.heap.size ≤ w4.heap.size := (f4 (fun _ => False)).size
  have own4' := o57.own own45 (fun hk => by have := k4 _ hk; omega)
  have own5' := o57.own own5 (fun hk => by have := k5 _ hk; omega)
  simp only at n4
  rcases own4'.h with ⟨_, h0, _⟩ | ⟨g, rest, hp, hb, _⟩
  · omega
  have hg : w.heap.size ≤ g := by have := k4 g ⟨_, hp, rfl⟩; omega
  have e4' : slices_Clone_sector_block_sector_block ⟨some ⟨sb.b, 0, none⟩, D.S.length, sb.c⟩ w3 = some (s4, w4) := e4
  have e5' : slices_Clone_sector_write_sector_write s w4 = some (s5, w5) := e5
  refine ⟨w7, ⟨g, s4.c, rest⟩, s5, ?_, ⟨h.wf, ?_, hb, own5', by rw [n5, h4.n]⟩, fun S => ?_, ?_⟩
  · unfold sector_Disk_Fork
    simp only [Option.isNone_some, Bool.false_eq_true, if_false, Option.bind_some, add_mk, Nat.zero_add, l0, e1, bind2_some, e2, e3, read0 h3, e4', read1 h4, e5', e6, e7]
    rw [chk_pos (read1 h3)]
  · rw [b7]
    have : s4 = ⟨some ⟨g, 0, none⟩, D.S.length, s4.c⟩ := by cases s4; simp only at hp n4; subst hp; subst n4; rfl
    simp only [dkC, List.set_cons_zero, List.set_cons_succ]
    rw [this]
  · exact ((f13 S).fr.trans ((f4 S).trans (f5 S))).trans_new (o57.fr (S := fun k => k = w.heap.size) rfl) (fun i hi => .inr (Nat.le_of_eq hi.symm))
  · rintro k (rfl | rfl | hk)
    · exact Nat.le_refl _
    · exact hg
    · have := k5 k hk; omega
end
end Go.Proofs.Ytoanmomopcaikaa.D
