/- What each law of chapter 9 asks first, and the laws that need no other disk. -/
import Derived.Test.YtoanmomopcaikaaDisk
namespace Go.Proofs.Ytoanmomopcaikaa.D
open Go
set_option linter.unusedVariables false
set_option linter.unusedSimpArgs false
section
variable {w w' : World} {p n : Nat} {D : Dk} {F : Nat → Prop}
theorem ld_u8 {s : Sl} {xs : List Int} {i : Nat} (h : Rd w s 1 (nums .u8 xs)) (hi : i < xs.length) : ∃ a, ix s (i : Int) 1 = some a ∧ ldI .u8 w a = some (xs.getD i 0) := by
  have hl : xs.length = s.n := by have := h.len; simpa using this
  obtain ⟨a, ea, _, ca, _⟩ := rd_at (i := i) h (by omega)
  have hv := ca 0 (.int .u8 (xs.getD i 0)) (by omega) (by rw [nums_get]; simp [List.getD, hi])
  have e0 : a.add 0 = a := by simp [Addr.add]
  rw [e0] at hv
  exact ⟨a, ea, ldI_cell hv⟩
theorem live_ok : ∃ w', grapevinelaw09_live w = some (true, w') ∧ ∀ S, Fr S w w' := by
  obtain ⟨p, w1, e1, d1, f1, hp⟩ := Disk.new (w := w) (m := 2) (by omega) (by omega)
  obtain ⟨w2, w3, e2, e3, r3, f3⟩ := lit_s (w := w1) (P := Try.prog) (t := 29) (T := 5) (ps := [[.int .u8 97], [.int .u8 98]]) (m := 2) rfl Try.underlying29 Try.underlying5 (by simp)
  have d3 := d1.fr (f3 (fun _ => False)) (fun _ _ h => h)
  have r3' : Rd w3 ⟨some ⟨w1.heap.size, 0, none⟩, 2, 2⟩ 1 (nums .u8 [97, 98]) := r3
  obtain ⟨w4, e4, d4, f4⟩ := d3.write (i := 0) r3' (by decide)
  have f01 := (f1 (fun _ => False)).size
  have f13 := (f3 (fun _ => False)).size
  have d4' := up_grow (by omega) d4
  have hw : (Dk.new 2).write 0 [97, 98] = (0, { Dk.new 2 with W := [(0, pad [97, 98])] }) := by rfl
  simp only [show (2 : Int).toNat = 2 from rfl] at d4' e4 f4
  rw [hw] at d4' e4
  obtain ⟨w5, e5, r5, f5, z5⟩ := ints_s (w := w4) (T := 3) (k := .i64) (xs := [5]) (ps := [[.int .i64 5]]) (m := 1) rfl rfl
  have d5 := d4'.below.fr (f5 (fun _ => False)) (fun _ _ h => h)
  have f34 := f4.size
  obtain ⟨w6, e6, d6, f6⟩ := d5.crash (by simp) r5 (fun a ha _ hk => by cases ha; exact absurd hk.2 (Nat.lt_irrefl _))
  have d6' := up_below (by omega) d6
  have f56 := f6.size
  obtain ⟨o, w7, e7, r7⟩ := d6'.read (i := 0) (by simp [Dk.crash])
  have hr : (({ Dk.new 2 with W := [(0, pad [97, 98])] } : Dk).crash [5]).read 0 = (97 :: List.replicate 63 0, 0) := by kernel_rfl
  rw [hr] at e7 r7
  have l7 := r7.n
  simp only [List.length_cons, List.length_replicate] at l7
  obtain ⟨a0, x0, y0⟩ := ld_u8 (i := 0) r7.rd (by simp)
  obtain ⟨a1, x1, y1⟩ := ld_u8 (i := 1) r7.rd (by simp)
  refine ⟨w7, ?_, fun S => ?_⟩
  · unfold grapevinelaw09_live
    have y0' : ldI .u8 w7 a0 = some 97 := y0
    have y1' : ldI .u8 w7 a1 = some 0 := y1
    have x0' : ix o 0 1 = some a0 := x0
    have x1' : ix o 1 1 = some a1 := x1
    simp only [e1, bind3_some, bind2_some, Option.isNone_some, Bool.false_eq_true, if_false, bne_self_eq_false, e2, e3, e4, e5, e6, e7, beq_self_eq_true, if_true, l7, Nat.reduceAdd, Int.cast_ofNat_Int, x0', x1', Option.bind_some, y0', y1']
  · exact Fr.all ((((((f1 _).trans (f3 _)).trans f4).trans (f5 _)).trans f6.up).trans (r7.fr _))
theorem wrap_u64 (x : Int) : IntKind.wrap .u64 x = x % 18446744073709551616 := by simp [IntKind.wrap, IntKind.bits, IntKind.signed]
/-! ### SectorNew -/
theorem SectorNew_law (m : Int) (_ : (Lit.int .i64 m).wf = true) : ∃ w', grapevinelaw09_SectorNew m w = some (true, w') ∧ Fr (fun k => w.heap.size ≤ k) w w' := by
  unfold grapevinelaw09_SectorNew
  by_cases h1 : m < 1
  · obtain ⟨w', e, f⟩ := live_ok (w := w)
    refine ⟨w', ?_, f _⟩
    unfold sector_New
    simp only [h1, decide_true, if_true, bind3_some, bind2_some, e, Option.isNone_none, beq_self_eq_true]
  · by_cases h2 : 512 < m
    · obtain ⟨w', e, f⟩ := live_ok (w := w)
      refine ⟨w', ?_, f _⟩
      unfold sector_New
      simp only [h1, h2, decide_true, decide_false, Bool.false_eq_true, if_false, if_true, bind3_some, bind2_some, e, Option.isNone_none, beq_self_eq_true]
    · obtain ⟨p, w1, e1, d1, f1, hp⟩ := Disk.new (w := w) (m := m) (by omega) (by omega)
      obtain ⟨w2, e2, f2⟩ := live_ok (w := w1)
      have d2 := d1.fr (f2 (fun _ => False)) (fun _ _ h => h)
      have hs : ((Dk.new m.toNat).S.length : Int) = m := by simp [Dk.new]; omega
      refine ⟨w2, ?_, (f1 _).trans (f2 _)⟩
      simp only [e1, h1, h2, decide_false, Bool.false_eq_true, if_false, bind3_some, bind2_some, e2, if_true, beq_self_eq_true, Option.isNone_some, Bool.not_false, d2.size, hs, d2.waits, d2.downs]
      rfl
/-! ### SectorNone -/
theorem SectorNone_law (m : Int) (_ : (Lit.int .i64 m).wf = true) (b : Sl) (bs : List Int) (hb : Arg w.heap.size w b 1 (nums .u8 bs)) (_ : ∀ n ∈ bs, (Lit.int .u8 n).wf = true) (_ : b.n ≤ b.c) (_ : b.c ≤ maxLen) :
    ∃ w', grapevinelaw09_SectorNone m b w = some (true, w') ∧ Fr (fun k => w.heap.size ≤ k) w w' := by
  obtain ⟨w1, e1, f1⟩ := live_ok (w := w)
  obtain ⟨w2, e2, _, f2, _⟩ := ints_s (w := w1) (T := 3) (k := .i64) (xs := [m]) (ps := [[.int .i64 m]]) (m := 1) rfl rfl
  refine ⟨w2, ?_, (f1 _).trans (f2 _)⟩
  simp only [grapevinelaw09_SectorNone, sector_Disk_Read, sector_Disk_Sure, sector_Disk_Write, sector_Disk_Sync, sector_Disk_Trip, sector_Disk_Crash, sector_Disk_Size, sector_Disk_Waits, sector_Disk_Age, sector_Disk_Down, sector_Disk_Fork, Option.isNone_none, if_true, bind2_some, bind3_some, e1, e2, beq_self_eq_true, Sl.nil, Bool.not_false, Int.ofNat_zero]
  rfl
/-! ### SectorTorn -/
theorem slS_rd {s : Sl} {cs : List Value} {lo hi : Nat} (h : Rd w s 1 cs) (h1 : lo ≤ hi) (h2 : hi ≤ s.n) (h3 : s.n ≤ s.c) :
    ∃ s', slS s (lo : Int) (hi : Int) (s.c : Int) 1 = some s' ∧ Rd w s' 1 ((cs.drop lo).take (hi - lo)) ∧ s'.n = hi - lo ∧ s'.n ≤ s'.c := by
  have hl : cs.length = s.n := by have := h.len; simpa using this
  refine ⟨⟨if (s.c : Int) = (lo : Int) then s.p else s.p.map (·.add lo), hi - lo, s.c - lo⟩, ?_, ⟨by simp; omega, fun hn => ?_⟩, rfl, by simp only; omega⟩
  · unfold slS
    rw [if_pos (by omega)]
    simp only [Int.toNat_natCast, Nat.mul_one, Option.some.injEq, Sl.mk.injEq, true_and]
    constructor <;> omega
  · simp only at hn
    obtain ⟨a, ha, hc⟩ := h.at_ (by omega)
    rw [if_neg (by omega), ha]
    refine ⟨a.add lo, rfl, fun j v hv => ?_⟩
    rw [add_add']
    refine hc _ v ?_
    rw [List.getElem?_take] at hv
    split at hv
    · rwa [List.getElem?_drop] at hv
    · cases hv
theorem slS_str {s : Sl} {xs : List Int} {lo hi : Nat} (h : Rd w s 1 (nums .u8 xs)) (h1 : lo ≤ hi) (h2 : hi ≤ s.n) (h3 : s.n ≤ s.c) :
    ∃ s', slS s (lo : Int) (hi : Int) (s.c : Int) 1 = some s' ∧ b2s s' w = some (strOfNums ((xs.drop lo).take (hi - lo))) := by
  obtain ⟨s', e, r, _⟩ := slS_rd h h1 h2 h3
  refine ⟨s', e, b2s_Rd ?_⟩
  have : nums .u8 ((xs.drop lo).take (hi - lo)) = ((nums .u8 xs).drop lo).take (hi - lo) := by simp [nums, List.map_take, List.map_drop]
  rw [this]; exact r
theorem sEq_self (s : ByteArray) : sEq s s = true := by simp [sEq]
theorem torn_loop {c i u : Sl} {cs is us : List Int} {m : Nat} (hm : m ≤ 64) (hc : cs = is.take m ++ us.drop m) (lc : cs.length = 64) (li : is.length = 64) (lu : us.length = 64) (ic : i.n ≤ i.c) (uc : u.n ≤ u.c) (cc : c.n ≤ c.c) :
    ∀ (d k : Nat) (w : World), k + d = m → Rd w c 1 (nums .u8 cs) → Rd w i 1 (nums .u8 is) → Rd w u 1 (nums .u8 us) →
      ∃ w', loopF (fun s : Int × World => grapevinelaw09_SectorTorn_l1 c i u s.1 s.2) ((k : Int), w) = some (.inr (true, w')) ∧ ∀ S, Fr S w w' := by
  have step : ∀ (k : Nat) (w : World), k ≤ m → Rd w c 1 (nums .u8 cs) → Rd w i 1 (nums .u8 is) → Rd w u 1 (nums .u8 us) →
      ∃ w', (∀ S, Fr S w w') ∧ (grapevinelaw09_SectorTorn_l1 c i u (k : Int) w = some (.inr (.inr (true, w'))) ∨ (k < m ∧ grapevinelaw09_SectorTorn_l1 c i u (k : Int) w = some (.inl (((k + 1 : Nat) : Int), w')))) := by
    intro k w hk rc ri ru
    obtain ⟨w1, e1, _, g1, _, _⟩ := dr_s (w := w)
    have f1 : ∀ S, Fr S w w1 := fun S => (g1 w.heap.size S).fr
    have rc := rc.fr (f1 (fun _ => False)) (fun _ _ _ h => h)
    have ri := ri.fr (f1 (fun _ => False)) (fun _ _ _ h => h)
    have ru := ru.fr (f1 (fun _ => False)) (fun _ _ _ h => h)
    have nc : cs.length = c.n := by have := rc.len; simpa using this
    have ni : is.length = i.n := by have := ri.len; simpa using this
    have nu : us.length = u.n := by have := ru.len; simpa using this
    obtain ⟨s1, a1, b1⟩ := slS_str (lo := 0) (hi := k) rc (by omega) (by omega) cc
    obtain ⟨s2, a2, b2⟩ := slS_str (lo := 0) (hi := k) ri (by omega) (by omega) ic
    obtain ⟨s3, a3, b3⟩ := slS_str (lo := k) (hi := c.n) rc (by omega) (by omega) cc
    obtain ⟨s4, a4, b4⟩ := slS_str (lo := k) (hi := u.n) ru (by omega) (by omega) uc
    simp only [Int.ofNat_zero] at a1 a2
    have hk64 : (k : Int) ≤ 64 := by omega
    have hwr : IntKind.wrap .i64 ((k : Int) + 1) = ((k + 1 : Nat) : Int) := wrap_nat (by omega)
    obtain ⟨w2, e2, f2⟩ := live_ok (w := w1)
    unfold grapevinelaw09_SectorTorn_l1
    simp only [hk64, decide_true, if_true, e1, Option.bind_some, a1, a2, a3, a4, b1, b2, b3, b4]
    by_cases t1 : sEq (strOfNums ((cs.drop 0).take (k - 0))) (strOfNums ((is.drop 0).take (k - 0))) = true
    · by_cases t2 : sEq (strOfNums ((cs.drop k).take (c.n - k))) (strOfNums ((us.drop k).take (u.n - k))) = true
      · refine ⟨w2, fun S => (f1 S).trans (f2 S), .inl ?_⟩
        simp only [t1, t2, if_true, bind2_some, e2]
      · refine ⟨w1, f1, .inr ⟨?_, ?_⟩⟩
        · rcases Nat.lt_or_ge k m with h | h
          · exact h
          · have : k = m := by omega
            subst this
            refine absurd ?_ t2
            have hd : cs.drop k = us.drop k := by
              rw [hc, List.drop_append, List.drop_of_length_le (by simp; omega)]; simp; omega
            rw [hd, ← nc, ← nu, lc, lu]; exact sEq_self _
        · simp only [t1, t2, if_true, bind2_some, Bool.false_eq_true, if_false, hwr]
    · refine ⟨w1, f1, .inr ⟨?_, ?_⟩⟩
      · rcases Nat.lt_or_ge k m with h | h
        · exact h
        · have : k = m := by omega
          subst this
          refine absurd ?_ t1
          have hd : cs.take k = is.take k := by
            rw [hc, List.take_append_of_le_length (by simp; omega), List.take_take, Nat.min_self]
          simp only [List.drop_zero, Nat.sub_zero, hd]; exact sEq_self _
      · simp only [t1, if_true, bind2_some, Bool.false_eq_true, if_false, hwr]
  intro d
  induction d with
  | zero =>
    intro k w hk rc ri ru
    obtain ⟨w', f, h | ⟨h, _⟩⟩ := step k w (by omega) rc ri ru
    · exact ⟨w', loopF_done h, f⟩
    · omega
  | succ d ih =>
    intro k w hk rc ri ru
    obtain ⟨w', f, h | ⟨_, h⟩⟩ := step k w (by omega) rc ri ru
    · exact ⟨w', loopF_done h, f⟩
    · obtain ⟨w2, e2, f2⟩ := ih (k + 1) w' (by omega) (rc.fr (f (fun _ => False)) (fun _ _ _ h => h)) (ri.fr (f (fun _ => False)) (fun _ _ _ h => h)) (ru.fr (f (fun _ => False)) (fun _ _ _ h => h))
      exact ⟨w2, by rw [← e2]; exact loopF_next h, fun S => (f S).trans (f2 S)⟩
theorem pad_len {b : List Int} (h : b.length ≤ 64) : (pad b).length = 64 := by simp [pad]; omega
theorem put1 {z b : List Int} (hz : z.length = 64) (hb : b.length = 64) : putS [z] (0, b) 64 = [b] := by
  simp [putS, List.take_of_length_le, hz, hb, List.drop_of_length_le]
theorem SectorTorn_law (a : Sl) (us : List Int) (ha : Arg w.heap.size w a 1 (nums .u8 us)) (_ : ∀ n ∈ us, (Lit.int .u8 n).wf = true) (_ : a.n ≤ a.c) (_ : a.c ≤ maxLen)
    (b : Sl) (vs : List Int) (hb : Arg w.heap.size w b 1 (nums .u8 vs)) (_ : ∀ n ∈ vs, (Lit.int .u8 n).wf = true) (_ : b.n ≤ b.c) (_ : b.c ≤ maxLen) (m : Int) (_ : (Lit.int .i64 m).wf = true) :
    ∃ w', grapevinelaw09_SectorTorn a b m w = some (true, w') ∧ Fr (fun k => w.heap.size ≤ k) w w' := by
  have na : (us.length : Int) = (a.n : Int) := by have := ha.rd.len; simp at this; omega
  have nb : (vs.length : Int) = (b.n : Int) := by have := hb.rd.len; simp at this; omega
  obtain ⟨p, w1, e1, d1, f1, hp⟩ := Disk.new (w := w) (m := 1) (by omega) (by omega)
  have z1 := (f1 (fun _ => False)).size
  have ha1 := ha.fr (f1 _)
  have hb1 := hb.fr (f1 _)
  obtain ⟨w2, e2, d2, f2⟩ := d1.write (i := 0) ha1.rd (by decide)
  have d2 := up_grow (by omega) d2
  have z2 := f2.size
  have ha2 := ha1.fr f2
  have hb2 := hb1.fr f2
  unfold grapevinelaw09_SectorTorn
  simp only [e1, bind3_some, bind2_some, bne_self_eq_false, Bool.false_eq_true, if_false, Option.isNone_some, e2]
  by_cases la : 64 < us.length
  · have hw : ((Dk.new (1 : Int).toNat).write 0 us).1 = 6 := by simp [Dk.write, Dk.new, Dk.bad, la]
    obtain ⟨w3, e3, f3⟩ := live_ok (w := w2)
    refine ⟨w3, ?_, ((f1 _).trans f2).trans (f3 _)⟩
    have : decide (64 < (a.n : Int)) = true := by simp; omega
    simp only [hw, show ((6 : Int) != 0) = true from rfl, if_true, bind2_some, e3, this]
  · have hw : (Dk.new (1 : Int).toNat).write 0 us = (0, { Dk.new 1 with W := [(0, pad us)] }) := by simp [Dk.write, Dk.new, Dk.bad, la, Dk.trips]
    rw [hw] at d2 ⊢
    obtain ⟨w3, e3, d3, f3⟩ := d2.sync (by simp)
    have d3 := up_grow (by omega) d3
    have z3 := f3.size
    have hs : Dk.sync { Dk.new 1 with W := [(0, pad us)] } = (0, { Dk.new 1 with S := [pad us] }) := by
      have h1 := put1 (z := List.replicate 64 0) (by simp) (pad_len (b := us) (by omega))
      simp [Dk.sync, Dk.new, Dk.trips, -List.reduceReplicate, h1]
    simp only [bne_self_eq_false, Bool.false_eq_true, if_false, e3, bind2_some]
    simp only [hs, bne_self_eq_false, Bool.false_eq_true, if_false] at d3 ⊢
    have hb3 := hb2.fr f3
    obtain ⟨w4, e4, d4, f4⟩ := d3.write (i := 0) hb3.rd (by simp [Dk.new])
    have d4 := up_grow (by omega) d4
    have z4 := f4.size
    simp only [e4, bind2_some]
    by_cases lb : 64 < vs.length
    · have hw : (Dk.write { Dk.new 1 with S := [pad us] } 0 vs).1 = 6 := by simp [Dk.write, Dk.new, Dk.bad, lb]
      obtain ⟨w5, e5, f5⟩ := live_ok (w := w4)
      refine ⟨w5, ?_, ((((f1 _).trans f2).trans f3).trans f4).trans (f5 _)⟩
      have : decide (64 < (b.n : Int)) = true := by simp; omega
      have : decide (64 < (a.n : Int)) = false := by simp; omega
      simp only [hw, show ((6 : Int) != 0) = true from rfl, if_true, bind2_some, e5, *, Bool.false_eq_true, if_false]
    · have hw : Dk.write { Dk.new 1 with S := [pad us] } 0 vs = (0, { Dk.new 1 with S := [pad us], W := [(0, pad vs)] }) := by simp [Dk.write, Dk.new, Dk.bad, lb, Dk.trips]
      rw [hw] at d4
      simp only [hw, bne_self_eq_false, Bool.false_eq_true, if_false]
      obtain ⟨o5, w5, e5, r5⟩ := d4.sure (i := 0)
      have d5 := d4.below.fr (r5.fr (fun _ => False)) (fun _ _ h => h)
      obtain ⟨o6, w6, e6, r6⟩ := d5.read (i := 0) (by simp)
      have d6 := d5.fr (r6.fr (fun _ => False)) (fun _ _ h => h)
      obtain ⟨w7, e7, r7, f7, z7⟩ := ints_s (w := w6) (T := 3) (k := .i64) (xs := [m]) (ps := [[.int .i64 m]]) (m := 1) rfl rfl
      have d7 := d6.fr (f7 (fun _ => False)) (fun _ _ h => h)
      have z5 := (r5.fr (fun _ => False)).size
      have z6 := (r6.fr (fun _ => False)).size
      obtain ⟨w8, e8, d8, f8⟩ := d7.crash (by simp) r7 (fun a ha _ hk => by cases ha; have := hk.2; simp only at this; omega)
      have d8 := up_below (by omega) d8
      obtain ⟨o9, w9, e9, r9⟩ := d8.read (i := 0) (by simp [Dk.crash])
      have la' := pad_len (b := us) (by omega)
      have lb' := pad_len (b := vs) (by omega)
      have hsure : Dk.sure { Dk.new 1 with S := [pad us], W := [(0, pad vs)] } 0 = (pad us, 0) := by simp [Dk.sure, Dk.bad]
      have hread : Dk.read { Dk.new 1 with S := [pad us], W := [(0, pad vs)] } 0 = (pad vs, 0) := by simp [Dk.read, Dk.bad, Dk.cur, Dk.new]
      have hcr : ∃ q, q ≤ 64 ∧ Dk.read (Dk.crash { Dk.new 1 with S := [pad us], W := [(0, pad vs)] } [m]) 0 = ((pad vs).take q ++ (pad us).drop q, 0) := by
        have hc1 : ∃ q, q ≤ 64 ∧ crash1 [m] 0 [pad us] (0, pad vs) = [(pad vs).take q ++ (pad us).drop q] := by
          unfold crash1
          split
          · exact ⟨64, Nat.le_refl _, by simp [putS]⟩
          · split
            · have hr := fate_range [m] 0
              have h1 : ((fate [m] 0).tdiv 3).tmod 64 < 64 := Int.tmod_lt_of_pos _ (by omega)
              exact ⟨(((fate [m] 0).tdiv 3).tmod 64).toNat, by omega, by simp [putS]⟩
            · exact ⟨0, by omega, by simp⟩
        obtain ⟨q, hq, e⟩ := hc1
        exact ⟨q, hq, by simp [Dk.read, Dk.crash, Dk.bad, Dk.cur, crashS, e]⟩
      obtain ⟨q, hq, hcr⟩ := hcr
      rw [hsure] at e5 r5
      rw [hread] at e6 r6
      rw [hcr] at e9 r9
      have n5 := r5.n
      have n6 := r6.n
      have n9 := r9.n
      have lc : ((pad vs).take q ++ (pad us).drop q).length = 64 := by simp [la', lb']; omega
      rw [la'] at n5
      rw [lb'] at n6
      rw [lc] at n9
      have f69 : Fr (fun k => w.heap.size ≤ k ∧ k < w4.heap.size) w6 w9 := ((f7 _).trans f8).trans (r9.fr _)
      have f59 : Fr (fun k => w.heap.size ≤ k ∧ k < w4.heap.size) w5 w9 := (r6.fr _).trans f69
      obtain ⟨w10, e10, f10⟩ := torn_loop (c := o9) (i := o6) (u := o5) hq rfl lc lb' la' r6.cap r5.cap r9.cap q 0 w9 (by omega) r9.rd (r6.rd.fr f69 (fun a ha _ h => by have := r6.new a ha; omega)) (r5.rd.fr f59 (fun a ha _ h => by have := r5.new a ha; omega))
      refine ⟨w10, ?_, ((((((f1 _).trans f2).trans f3).trans f4).trans (r5.fr _)).trans f59.up).trans (f10 _)⟩
      simp only [Int.ofNat_zero] at e10
      simp only [e5, e6, e7, e8, e9, bind3_some, bind2_some, bne_self_eq_false, Bool.false_eq_true, if_false, n5, n6, n9, Int.cast_ofNat_Int, e10, Option.bind_some, Sum.elim_inr, u2]
end
end Go.Proofs.Ytoanmomopcaikaa.D
