/- SectorTrips: the n-th write or sync trips. -/
import Derived.Test.YtoanmomopcaikaaLaws9
namespace Go.Proofs.Ytoanmomopcaikaa.D
open Go
set_option linter.unusedVariables false
set_option linter.unusedSimpArgs false
/-! ### The plain law -/
/-- What is so behind c writes and syncs that count, where the disk trips at the N-th. -/
structure TInv (N c : Int) (D : Dk) : Prop where
  sl : D.S.length = 4
  c0 : 0 ≤ c
  z : N = 0 → D.left = 0 ∧ D.down = false
  lo : 0 < N → c < N → D.left = N - c ∧ D.down = false
  hi : 0 < N → N ≤ c → D.down = true
section
variable {w w' : World} {p n : Nat} {F : Nat → Prop} {D : Dk} {l : Sl} {L : List (List Value)} {ds : List Dd} {N c : Int}
/-- Whether it trips now. -/
def trp (N c : Int) : Bool := decide (0 < N) && decide (N ≤ c + 1)
theorem TInv.trips (h : TInv N c D) (hN : 0 ≤ N) (hd : D.down = false) : D.trips.1 = trp N c ∧ TInv N (c + 1) D.trips.2 := by
  have hc0 := h.c0
  by_cases h0 : N = 0
  · obtain ⟨z1, z2⟩ := h.z h0
    have ht : D.trips = (false, D) := by unfold Dk.trips; rw [if_pos z1]
    rw [ht]
    exact ⟨by simp [trp, h0], h.sl, by omega, fun _ => ⟨z1, z2⟩, fun h' => by omega, fun h' => by omega⟩
  · have hlt : c < N := by
      rcases Int.lt_or_le c N with h' | h'
      · exact h'
      · have := h.hi (by omega) h'; rw [hd] at this; cases this
    obtain ⟨l1, _⟩ := h.lo (by omega) hlt
    have hl0 : ¬ D.left = 0 := by omega
    have ht : D.trips = (D.left - 1 == 0, { D with left := D.left - 1, down := D.left - 1 == 0 }) := by unfold Dk.trips; rw [if_neg hl0]
    rw [ht]
    by_cases hN1 : N ≤ c + 1
    · have e1 : (D.left - 1 == 0) = true := by simp; omega
      rw [e1]
      refine ⟨by simp [trp, hN1]; omega, h.sl, by omega, fun h' => by omega, fun h' h2 => by omega, fun _ _ => rfl⟩
    · have e1 : (D.left - 1 == 0) = false := by simp; omega
      rw [e1]
      refine ⟨by simp [trp, hN1], h.sl, by omega, fun h' => by omega, fun h' h2 => ⟨by simp only; omega, rfl⟩, fun h' h2 => by omega⟩
theorem TInv.down (h : TInv N c D) (hN : 0 ≤ N) (hd : D.down = true) : trp N c = true ∧ TInv N (c + 1) D := by
  have h0 : ¬ N = 0 := fun h0 => by have := (h.z h0).2; rw [hd] at this; cases this
  have h1 : N ≤ c := by
    rcases Int.lt_or_le c N with h' | h'
    · have := (h.lo (by omega) h').2; rw [hd] at this; cases this
    · exact h'
  have hc0 := h.c0
  exact ⟨by simp [trp]; omega, h.sl, by omega, fun h' => by omega, fun _ h' => by omega, fun _ _ => hd⟩
theorem TInv.of {D' : Dk} (h : TInv N c D) (hs : D'.S.length = D.S.length) (hl : D'.left = D.left) (hd : D'.down = D.down) : TInv N c D' :=
  ⟨by rw [hs]; exact h.sl, h.c0, fun h0 => by rw [hl, hd]; exact h.z h0, fun h1 h2 => by rw [hl, hd]; exact h.lo h1 h2, fun h1 h2 => by rw [hd]; exact h.hi h1 h2⟩
theorem TInv.write (h : TInv N c D) (hN : 0 ≤ N) {i : Int} {b : List Int} (h0 : 0 ≤ i) (h4 : i < 4) (hb : b.length ≤ 64) : ((D.write i b).1 == 10) = trp N c ∧ TInv N (c + 1) (D.write i b).2 := by
  have hbad : D.bad i = false := by simp [Dk.bad, h.sl]; omega
  have hl : ¬ 64 < b.length := by omega
  unfold Dk.write
  by_cases hd : D.down = true
  · rw [if_pos hd]
    obtain ⟨t1, t2⟩ := h.down hN hd
    exact ⟨by rw [t1]; rfl, t2⟩
  · rw [if_neg hd, hbad, if_neg (by simp), if_neg hl]
    obtain ⟨t1, t2⟩ := h.trips hN (by simpa using hd)
    by_cases ht : D.trips.1 = true
    · rw [if_pos ht]
      exact ⟨by rw [← t1, ht]; rfl, t2⟩
    · rw [if_neg ht]
      have : D.trips.1 = false := by simpa using ht
      exact ⟨by rw [← t1, this]; rfl, t2.of rfl rfl rfl⟩
theorem TInv.sync (h : TInv N c D) (hN : 0 ≤ N) : (D.sync.1 == 10) = trp N c ∧ TInv N (c + 1) D.sync.2 := by
  unfold Dk.sync
  by_cases hd : D.down = true
  · rw [if_pos hd]
    obtain ⟨t1, t2⟩ := h.down hN hd
    exact ⟨by rw [t1]; rfl, t2⟩
  · rw [if_neg hd]
    obtain ⟨t1, t2⟩ := h.trips hN (by simpa using hd)
    by_cases ht : D.trips.1 = true
    · rw [if_pos ht]
      exact ⟨by rw [← t1, ht]; rfl, t2⟩
    · rw [if_neg ht]
      have : D.trips.1 = false := by simpa using ht
      exact ⟨by rw [← t1, this]; rfl, t2.of (by simp only [trips_S]; exact fold_len _ _) rfl rfl⟩
theorem TInv.skip (h : TInv N c D) {i : Int} {b : List Int} (hx : ¬ (0 ≤ i ∧ i < 4 ∧ b.length ≤ 64)) : (D.write i b).2 = D := by
  unfold Dk.write
  by_cases hd : D.down = true
  · rw [if_pos hd]
  rw [if_neg hd]
  by_cases hb : D.bad i = true
  · rw [if_pos hb]
  rw [if_neg hb]
  have : 64 < b.length := by
    simp only [Dk.bad, h.sl, Bool.or_eq_true, decide_eq_true_eq, not_or] at hb
    omega
  rw [if_pos this]
/-! ### The loop -/
theorem Script.cells (h : Script n w l L ds) {k : Nat} (hk : k < l.n) : ∃ a d b f, ix l (k : Int) 4 = some a ∧ (∀ (j : Nat) v, j < 4 → ([.int .i64 d.k, .int .i64 d.i, b.v, f.v] : List Value)[j]? = some v → w.cell? (a.add j) = some v) ∧ DeedOf n w b f d := by
  obtain ⟨a, c, d, e1, e2, e3, b, f, hc, hd⟩ := h.at_ hk
  subst hc
  obtain ⟨a', ea', la, ca, _⟩ := rd_at (i := k) h.arg.rd hk
  rw [e1] at ea'
  cases ea'
  rw [e2] at la
  refine ⟨a, d, b, f, e1, fun j v hj hv => ca j v hj ?_, hd⟩
  rw [Option.some.inj la, List.getElem?_take, if_pos hj, List.getElem?_drop] at hv
  exact hv
theorem trips_loop (hN : 0 ≤ N) (hN1 : N ≤ 255) :
    ∀ (m k : Nat) (c : Int) (D : Dk) (w : World), k + m = min l.n 200 → Disk w p (fun j => n ≤ j) D → TInv N c D → n ≤ w.heap.size → Script n w l L ds → D.W.length ≤ k → c ≤ k →
      ∃ w' D' c', loopF (fun r : Int × Int × World => grapevinelaw09_SectorTrips_l1 l (some ⟨p, 0, none⟩) N r.1 r.2.1 r.2.2) (c, (k : Int), w) = some (.inl (c', w')) ∧ Disk w' p (fun j => n ≤ j) D' ∧ TInv N c' D' ∧ Fr (fun j => n ≤ j) w w' ∧ D'.W.length ≤ 200 := by
  intro m
  induction m with
  | zero =>
    intro k c D w hk h ht hw hs hbd hck
    refine ⟨w, D, c, loopF_done ?_, h, ht, Fr.refl, by omega⟩
    by_cases h1 : (k : Int) < (l.n : Int)
    · have g1 : decide ((k : Int) < (l.n : Int)) = true := by simp; omega
      have g2 : decide ((k : Int) < 200) = false := by simp; omega
      simp only [grapevinelaw09_SectorTrips_l1, g1, g2, if_true, Bool.false_eq_true, if_false, bind2_some]
    · have g1 : decide ((k : Int) < (l.n : Int)) = false := by simp; omega
      simp only [grapevinelaw09_SectorTrips_l1, g1, Bool.false_eq_true, if_false, bind2_some]
  | succ m ih =>
    intro k c D w hk h ht hw hs hbd hck
    have g1 : decide ((k : Int) < (l.n : Int)) = true := by simp; omega
    have g2 : decide ((k : Int) < 200) = true := by simp; omega
    obtain ⟨a, d, b, f, e1, hj, hd⟩ := hs.cells (k := k) (by omega)
    have c0 : ldI .i64 w (a.add 0) = some d.k := ldI_cell (hj 0 _ (by omega) rfl)
    have c1 : ldI .i64 w (a.add 1) = some d.i := ldI_cell (hj 1 _ (by omega) rfl)
    have c2 : ldL w (a.add 2) = some b := ldL_cell (hj 2 _ (by omega) rfl)
    have hbn : d.bs.length = b.n := by have := hd.hb.rd.len; simpa using this
    have hc0 := ht.c0
    have hwk : IntKind.wrap .i64 ((k : Int) + 1) = ((k + 1 : Nat) : Int) := wrap_nat (by omega)
    have hwN : IntKind.wrap .i64 N = N := by rw [IntKind.wrap_i64]; omega
    have hwc : IntKind.wrap .i64 (c + 1) = c + 1 := by rw [IntKind.wrap_i64]; omega
    -- what follows a deed that counts
    have cont : ∀ (v : Int) (w2 : World), (v == 10) = trp N c → ((bind2 (if (decide (0 < N)) = true then some (((v == 10) != (decide (IntKind.wrap .i64 N ≤ IntKind.wrap .i64 (c + 1)))), w2) else some (((v == 10) != false), w2)) fun v86 w87 =>
        if v86 = true then ((some (.inr (.inr (false, w87)) : (Int × Int × World) ⊕ ((Int × World) ⊕ (Bool × World)))).bind fun g39 => some (.inl g39)) else some (.inr ((IntKind.wrap .i64 (c + 1)), w87))) : Option (((Int × Int × World) ⊕ ((Int × World) ⊕ (Bool × World))) ⊕ (Int × World))) = some (.inr (c + 1, w2)) := by
      intro v w2 hv
      rw [hv, hwN, hwc]
      by_cases h0 : 0 < N
      · have g : decide (0 < N) = true := by simpa using h0
        rw [if_pos g]
        have : (trp N c != decide (N ≤ c + 1)) = false := by simp [trp, h0]
        rw [this]; rfl
      · have g : ¬ decide (0 < N) = true := by simpa using h0
        rw [if_neg g]
        have : (trp N c != false) = false := by simp [trp, h0]
        rw [this]; rfl
    by_cases k0 : d.k = 0
    · have t0 : (d.k == 0) = true := by simpa using k0
      obtain ⟨w1, a1, d1, q1, z1, cc1⟩ := dr_s (w := w)
      have f1 : ∀ S, Fr S w w1 := fun S => (q1 w.heap.size S).fr
      have r1 : ldI .i64 w1 (a.add 1) = some d.i := ldI_cell ((cc1 _).trans (hj 1 _ (by omega) rfl))
      have r2 : ldL w1 (a.add 2) = some b := ldL_cell ((cc1 _).trans (hj 2 _ (by omega) rfl))
      obtain ⟨w2, a2, x2, f2⟩ := (h.fr (f1 (fun _ => False)) (fun _ _ h => h)).write (i := d.i) (hd.hb.fr (f1 _)).rd (by omega)
      have x2 := up_grow (by omega) x2
      have f12 := (f1 (fun j => n ≤ j)).trans f2
      have z2 := f2.size
      have hW := write_W D d.i d.bs
      by_cases hcnt : 0 ≤ d.i ∧ d.i < 4 ∧ d.bs.length ≤ 64
      · obtain ⟨t1, t2⟩ := ht.write hN hcnt.1 hcnt.2.1 hcnt.2.2
        obtain ⟨w', D', c', e', x', i', f', n'⟩ := ih (k + 1) (c + 1) _ w2 (by omega) x2 t2 (by omega) (hs.fr f12) (by omega) (by omega)
        refine ⟨w', D', c', ?_, x', i', f12.trans f', n'⟩
        rw [← e', ← hwk]
        refine loopF_next ?_
        have u1 : decide (0 ≤ d.i) = true := by simpa using hcnt.1
        have u2 : decide (d.i < 4) = true := by simpa using hcnt.2.1
        have u3 : decide ((b.n : Int) ≤ 64) = true := by simp; omega
        unfold grapevinelaw09_SectorTrips_l1
        rw [if_pos g1, g2, bind2_some, if_pos rfl, e1, Option.bind_some, c0, Option.bind_some, if_pos t0, Option.bind_some, c1, Option.bind_some, if_pos u1, Option.bind_some, c1, Option.bind_some, if_pos u2, Option.bind_some, c2, Option.bind_some, u3, bind2_some, a1, Option.bind_some, Option.bind_some, r1, Option.bind_some, Option.bind_some, r2, Option.bind_some, a2, bind2_some, bind3_some, if_pos rfl, cont _ _ t1, bindX_inr]
        rfl
      · rw [ht.skip hcnt] at x2
        obtain ⟨w', D', c', e', x', i', f', n'⟩ := ih (k + 1) c D w2 (by omega) x2 ht (by omega) (hs.fr f12) (by omega) (by omega)
        refine ⟨w', D', c', ?_, x', i', f12.trans f', n'⟩
        rw [← e', ← hwk]
        refine loopF_next ?_
        unfold grapevinelaw09_SectorTrips_l1
        rw [if_pos g1, g2, bind2_some, if_pos rfl, e1, Option.bind_some, c0, Option.bind_some, if_pos t0, Option.bind_some, c1, Option.bind_some]
        have hv : (if decide (0 ≤ d.i) = true then (some a).bind fun p59 => (ldI .i64 w (p59.add 1)).bind fun v61 => if decide (v61 < 4) = true then (some a).bind fun p64 => (ldL w (p64.add 2)).bind fun v66 => some (decide ((v66.n : Int) ≤ 64), w) else some (false, w) else some (false, w)) = some (false, w) := by
          by_cases u1 : 0 ≤ d.i
          · rw [if_pos (by simpa using u1), Option.bind_some, c1, Option.bind_some]
            by_cases u2 : d.i < 4
            · rw [if_pos (by simpa using u2), Option.bind_some, c2, Option.bind_some]
              have : decide ((b.n : Int) ≤ 64) = false := by simp; omega
              rw [this]
            · rw [if_neg (by simpa using u2)]
          · rw [if_neg (by simpa using u1)]
        rw [hv, bind2_some, a1, Option.bind_some, Option.bind_some, r1, Option.bind_some, Option.bind_some, r2, Option.bind_some, a2, bind2_some, bind3_some, if_neg (by simp), bindX_inr]
        rfl
    · have t0 : ¬ (d.k == 0) = true := by simpa using k0
      by_cases k2 : d.k = 2
      · have t2 : (d.k == 2) = true := by simpa using k2
        obtain ⟨w2, a2, x2, f2⟩ := h.sync (by omega)
        have x2 := up_grow (by omega) x2
        have z2 := f2.size
        obtain ⟨t1, ti⟩ := ht.sync hN
        have hW : D.sync.2.W.length ≤ D.W.length := by
          unfold Dk.sync
          split; · simp
          split
          · simp [trips_W]
          · simp
        obtain ⟨w', D', c', e', x', i', f', n'⟩ := ih (k + 1) (c + 1) _ w2 (by omega) x2 ti (by omega) (hs.fr f2) (by omega) (by omega)
        refine ⟨w', D', c', ?_, x', i', f2.trans f', n'⟩
        rw [← e', ← hwk]
        refine loopF_next ?_
        unfold grapevinelaw09_SectorTrips_l1
        rw [if_pos g1, g2, bind2_some, if_pos rfl, e1, Option.bind_some, c0, Option.bind_some, if_neg t0, if_pos t2, a2, bind2_some, bind3_some, if_pos rfl, cont _ _ t1, bindX_inr]
        rfl
      · have t2 : ¬ (d.k == 2) = true := by simpa using k2
        obtain ⟨w', D', c', e', x', i', f', n'⟩ := ih (k + 1) c D w (by omega) h ht hw hs (by omega) (by omega)
        refine ⟨w', D', c', ?_, x', i', f', n'⟩
        rw [← e', ← hwk]
        refine loopF_next ?_
        unfold grapevinelaw09_SectorTrips_l1
        rw [if_pos g1, g2, bind2_some, if_pos rfl, e1, Option.bind_some, c0, Option.bind_some, if_neg t0, if_neg t2, bind3_some, if_neg (by simp), bindX_inr]
        rfl
theorem SectorTrips_law (l : Sl) (L : List (List Value)) (ds : List Dd) (hs : Script w.heap.size w l L ds) (N : Int) (hN : (Lit.int .u8 N).wf = true) :
    ∃ w', grapevinelaw09_SectorTrips l N w = some (true, w') ∧ Fr (fun k => w.heap.size ≤ k) w w' := by
  have hN2 : 0 ≤ N ∧ N ≤ 255 := by simpa [Lit.wf, IntKind.min, IntKind.max, IntKind.signed, IntKind.bits] using hN
  have hwN : IntKind.wrap .i64 N = N := by rw [IntKind.wrap_i64]; omega
  obtain ⟨p, w1, e1, d1, f1, hp⟩ := Disk.new (w := w) (m := 4) (by omega) (by omega)
  have z1 := (f1 (fun _ => False)).size
  obtain ⟨w2, e2, d2, f2⟩ := d1.trip (m := N) (by omega)
  have d2 := up_grow (by omega) d2
  have z2 := f2.size
  have ht : (Dk.new (4 : Int).toNat).trip N = (0, { Dk.new 4 with left := N }) := by
    have : ¬ N < 0 := by omega
    simp [Dk.trip, Dk.new, this]
  rw [ht] at e2 d2
  obtain ⟨w3, D3, c3, e3, d3, i3, f3, n3⟩ := trips_loop (N := N) (n := w.heap.size) (p := p) hN2.1 hN2.2 (min l.n 200) 0 0 _ w2 (by omega) d2 ⟨by simp [Dk.new], Int.le_refl _, fun h => ⟨h, rfl⟩, fun h1 h2 => ⟨by simp, rfl⟩, fun h1 h2 => by omega⟩ (by omega) ((hs.fr (f1 _)).fr f2) (by simp [Dk.new]) (by simp)
  simp only [Int.ofNat_zero] at e3
  obtain ⟨w4, e4, f4⟩ := live_ok (w := w3)
  have d4 := d3.fr (f4 (fun _ => False)) (fun _ _ h => h)
  obtain ⟨w5, e5, d5, f5⟩ := d4.crash (f := Sl.nil) (fs := []) (by omega) (Rd.nil rfl) Out.nil
  obtain ⟨w6, e6, d6, f6⟩ := d5.sync (by simp [Dk.crash])
  have hsy : (D3.crash []).sync.1 = 0 := by simp [Dk.sync, Dk.crash, Dk.trips]
  have z3 := f3.size
  have z4 := (f4 (fun _ => False)).size
  refine ⟨w6, ?_, ((((((f1 _).trans f2).trans f3).trans (f4 _)).trans f5).trans_new f6 (fun k hk => hk.elim .inl (fun h => .inr (by omega))))⟩
  have hlast : (bind2 (sector_Disk_Crash (some ⟨p, 0, none⟩) Sl.nil w4) fun v106 w107 => if (v106 == 0) = true then bind2 (sector_Disk_Down (some ⟨p, 0, none⟩) w107) fun v110 w111 => if (!v110) = true then bind2 (sector_Disk_Sync (some ⟨p, 0, none⟩) w111) fun v114 w115 => some ((v114 == 0), w115) else some (false, w111) else some (false, w107)) = some (true, w6) := by
    rw [e5, bind2_some, if_pos (by decide), d5.downs, bind2_some, if_pos (by simp [Dk.crash]), e6, bind2_some, hsy]
    rfl
  unfold grapevinelaw09_SectorTrips
  rw [e1, bind3_some, if_neg (by decide), if_neg (by simp), hwN, e2, bind2_some, bind2_some, if_neg (by simp), e3, Option.bind_some]
  simp only [Sum.elim_inl, u2]
  rw [e4, bind2_some, if_pos rfl, d4.downs, bind2_some]
  by_cases h0 : 0 < N
  · have hdn : (D3.down == decide (N ≤ c3)) = true := by
      by_cases hc : N ≤ c3
      · rw [i3.hi h0 hc]; simp [hc]
      · rw [(i3.lo h0 (by omega)).2]; simp [hc]
    rw [if_pos (by simpa using h0), if_pos hdn, hlast, bind2_some]
  · have hdn : (D3.down == false) = true := by rw [(i3.z (by omega)).2]; rfl
    rw [if_neg (by simpa using h0), if_pos hdn, hlast, bind2_some]
end
end Go.Proofs.Ytoanmomopcaikaa.D
