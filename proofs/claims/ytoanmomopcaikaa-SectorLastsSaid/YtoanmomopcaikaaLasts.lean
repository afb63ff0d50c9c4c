/- SectorLasts: what was synced lasts. -/
import Derived.Test.YtoanmomopcaikaaAll9
namespace Go.Proofs.Ytoanmomopcaikaa.D
open Go
set_option linter.unusedVariables false
set_option linter.unusedSimpArgs false
/-- The cells of a Behind that was read. -/
def BehindAt (n : Nat) (w : World) (c : List Value) (i : Int) (s : Sl) (L : List (List Value)) (ds : List Dd) (f : Sl) (fs : List Int) : Prop := c = [.int .i64 i, s.v, f.v] ∧ Script n w s L ds ∧ Arg n w f 1 (nums .i64 fs)
section
variable {w w' : World} {p x y n : Nat} {F G R S : Nat → Prop} {D : Dk} {l : Sl} {L : List (List Value)} {ds : List Dd}
theorem len3 {α : Type} {l : List α} (h : l.length = 3) : ∃ a b c, l = [a, b, c] := by
  match l, h with
  | [a, b, c], _ => exact ⟨a, b, c, rfl⟩
theorem open_behind {H : Type} {enc : TypeId × Value → H} {base m : Nat} {spare : Nat → Bool} {held : Bool} {c : List Value} {y : DataW H × List MemPlace} (h : DataW.trod enc Try.prog w base spare held m 43 c = some y) (hx : ∀ v ∈ y.1.weights Try.prog 43, v ≤ 140737488351232) :
    ∃ i s L ds f fs, BehindAt w.heap.size w c i s L ds f fs := by
  obtain ⟨xs, m', _, hy, hl, hlen, hf⟩ := DataW.trod_struct Try.underlying43 h
  have hl3 : c.length = 3 := hl.trans (by kernel_rfl)
  have c1 : Try.prog.cellsOf 3 = 1 := by kernel_rfl
  have c2 : Try.prog.cellsOf 37 = 1 := by kernel_rfl
  have c3 : Try.prog.cellsOf 35 = 1 := by kernel_rfl
  have hlen3 : xs.length = 3 := hlen
  clear hlen hl
  obtain ⟨v0, v1, v2, rfl⟩ := len3 hl3
  obtain ⟨y0, y1, y2, rfl⟩ := len3 hlen3
  have h0 : DataW.trod enc Try.prog w base spare held m' 3 (([v0, v1, v2].drop 0).take (Try.prog.cellsOf 3)) = some y0 := hf 0 _ rfl
  have h1 : DataW.trod enc Try.prog w base spare held m' 37 (([v0, v1, v2].drop 1).take (Try.prog.cellsOf 37)) = some y1 := hf 1 _ rfl
  have h2 : DataW.trod enc Try.prog w base spare held m' 35 (([v0, v1, v2].drop 2).take (Try.prog.cellsOf 35)) = some y2 := hf 2 _ rfl
  simp only [c1, c2, c3, List.drop_zero, List.take_succ_cons, List.take_zero, List.drop_succ_cons] at h0 h1 h2
  obtain ⟨k, e0, _, _⟩ := DataW.trod_int Try.underlying3 h0
  rw [hy] at hx
  have w1 : ∀ v ∈ y1.1.weights Try.prog 37, v ≤ 140737488351232 := wts_struct Try.underlying43 hx 1 _ y1.1 rfl rfl
  have w2 : ∀ v ∈ y2.1.weights Try.prog 35, v ≤ 140737488351232 := wts_struct Try.underlying43 hx 2 _ y2.1 rfl rfl
  obtain ⟨s, L, ds, e1, r1⟩ := open_script h1 w1
  obtain ⟨f, fs, e2, r2, n2⟩ := open_nums2 Try.underlying35 Try.underlying3 (by kernel_rfl) (of_decide_eq_true (by kernel_rfl)) h2 w2
  obtain rfl := (List.cons.inj e0).1
  obtain rfl := (List.cons.inj e1).1
  obtain rfl := (List.cons.inj e2).1
  exact ⟨k, s, L, ds, f, fs, rfl, r1, arg_of r2 (by decide)⟩
/-! ### The plain law -/
theorem crash_far {fs : List Int} {i : Nat} : ∀ (W : List (Int × List Int)) (k : Nat) (S : List (List Int)), (∀ x ∈ W, x.1 ≠ (i : Int) ∧ 0 ≤ x.1) → (crashS fs k W S).getD i [] = S.getD i []
  | [], _, _, _ => rfl
  | x :: W, k, S, h => by
    rw [crashS, crash_far W _ _ (fun y hy => h y (by simp [hy]))]
    have hx := h x (by simp)
    have : ∀ m, (putS S x m).getD i [] = S.getD i [] := fun m => by
      unfold putS
      rw [List.getD_eq_getElem?_getD, List.getElem?_set_ne (by omega), ← List.getD_eq_getElem?_getD]
    unfold crash1
    split
    · exact this _
    · split
      · exact this _
      · rfl
/-- What stays while other sectors are written. -/
structure Held (D : Dk) (S : List (List Int)) (i : Int) : Prop where
  s : D.S = S
  d : D.down = false
  l : D.left = 0
  w : ∀ x ∈ D.W, x.1 ≠ i
theorem Held.write {S : List (List Int)} {i j : Int} {b : List Int} (h : Held D S i) (hj : j ≠ i) : Held (D.write j b).2 S i := by
  unfold Dk.write
  split; · exact h
  split; · exact h
  split; · exact h
  have ht : D.trips = (false, D) := by unfold Dk.trips; rw [if_pos h.l]
  rw [ht]
  simp only [Bool.false_eq_true, if_false]
  refine ⟨h.s, h.d, h.l, fun x hx => ?_⟩
  simp only [List.mem_append, List.mem_singleton] at hx
  rcases hx with hx | rfl
  · exact h.w x hx
  · exact hj
theorem zero_loop {s : Sl} {xs : List Int} (h : Rd w s 1 (nums .u8 xs)) (hz : ∀ x ∈ xs, x = 0) (hmax : s.n < 1000000) : ∀ (m k : Nat), k + m = s.n → loopF (fun r : Int × World => grapevinelaw09_zero_l1 s r.1 r.2) ((k : Int), w) = some (.inl w) := by
  have hl : xs.length = s.n := by have := h.len; simpa using this
  intro m
  induction m with
  | zero =>
    intro k hk
    have : k = s.n := by omega
    subst this
    exact loopF_done (by simp [grapevinelaw09_zero_l1])
  | succ m ih =>
    intro k hk
    rw [← ih (k + 1) (by omega)]
    obtain ⟨a, e1, e2⟩ := ld_u8 (i := k) h (by omega)
    have hx : xs.getD k 0 = 0 := by
      rw [List.getD_eq_getElem?_getD, List.getElem?_eq_getElem (by omega)]
      exact hz _ (List.getElem_mem _)
    rw [hx] at e2
    have hlt : decide ((k : Int) < (s.n : Int)) = true := by simp; omega
    refine loopF_next ?_
    simp only [grapevinelaw09_zero_l1, hlt, if_true, e1, Option.bind_some, e2, bne_self_eq_false, Bool.false_eq_true, if_false]
    rw [wrap_nat (by omega)]
theorem zero_ok {s : Sl} {xs : List Int} (h : Rd w s 1 (nums .u8 xs)) (hz : ∀ x ∈ xs, x = 0) (hmax : s.n < 1000000) : grapevinelaw09_zero s w = some (true, w) := by
  have := zero_loop h hz hmax s.n 0 (by omega)
  simp only [Int.ofNat_zero] at this
  unfold grapevinelaw09_zero
  rw [this, Option.bind_some]; rfl
theorem lasts_loop {b v : Int} {s f : Sl} {n : Nat} {g : Nat} {Sx : List (List Int)} (hv : IntKind.wrap .i64 v = v) (hg : n ≤ g) :
    ∀ (m k : Nat) (D : Dk) (F : Nat → Prop) (w : World), k + m = min s.n 100 → Disk w x F D → Held D Sx v → (∀ j, F j → n ≤ j ∧ j ≠ g) → n ≤ w.heap.size → g < w.heap.size → Script n w s L ds → B w g = some ([.int .i64 b, s.v, f.v], 43) → D.W.length ≤ k →
      ∃ w' D' F', loopF (fun r : Int × World => grapevinelaw09_SectorLasts_l1 ⟨g, 0, none⟩ v (some ⟨x, 0, none⟩) r.1 r.2) ((k : Int), w) = some w' ∧ Disk w' x F' D' ∧ Held D' Sx v ∧ (∀ j, F' j → n ≤ j ∧ j ≠ g) ∧ Fr (fun j => n ≤ j ∧ j ≠ g) w w' ∧ D'.W.length ≤ 100 := by
  intro m
  induction m with
  | zero =>
    intro k D F w hk h hh hF hw hgl hs hb hbd
    have l1 : ldL w ⟨g, 1, none⟩ = some s := ldL_B hb rfl
    refine ⟨w, D, F, loopF_done ?_, h, hh, hF, Fr.refl, by omega⟩
    by_cases h1 : (k : Int) < (s.n : Int)
    · have g1 : decide ((k : Int) < (s.n : Int)) = true := by simp; omega
      have g2 : decide ((k : Int) < 100) = false := by simp; omega
      simp only [grapevinelaw09_SectorLasts_l1, add_mk, Nat.zero_add, l1, Option.bind_some, g1, g2, if_true, Bool.false_eq_true, if_false, bind2_some]
    · have g1 : decide ((k : Int) < (s.n : Int)) = false := by simp; omega
      simp only [grapevinelaw09_SectorLasts_l1, add_mk, Nat.zero_add, l1, Option.bind_some, g1, Bool.false_eq_true, if_false, bind2_some]
  | succ m ih =>
    intro k D F w hk h hh hF hw hgl hs hb hbd
    have l1 : ldL w ⟨g, 1, none⟩ = some s := ldL_B hb rfl
    have h1 : decide ((k : Int) < (s.n : Int)) = true := by simp; omega
    have h2 : decide ((k : Int) < 100) = true := by simp; omega
    obtain ⟨a, c, d, e1, e2, e3, bd, fd, hc, hd⟩ := hs.at_ (i := k) (by omega)
    subst hc
    obtain ⟨a', ea', _, ca, _⟩ := rd_at (i := k) hs.arg.rd (by omega)
    rw [e1] at ea'
    cases ea'
    have hL : k < L.length := by rw [hs.ln]; omega
    have hcc : (L.flatten.drop (k * 4)).take 4 = [.int .i64 d.k, .int .i64 d.i, bd.v, fd.v] := by
      have h3 := hs.arg.rd
      obtain ⟨a2, ea2, la2, _, _⟩ := rd_at (i := k) h3 (by omega)
      rw [e1] at ea2
      cases ea2
      rw [e2] at la2
      exact (Option.some.inj la2).symm
    have hj : ∀ (j : Nat) v, j < 4 → ([.int .i64 d.k, .int .i64 d.i, bd.v, fd.v] : List Value)[j]? = some v → w.cell? (a.add j) = some v := by
      intro j v hj hv
      refine ca j v hj ?_
      rw [← hcc, List.getElem?_take, if_pos hj, List.getElem?_drop] at hv
      exact hv
    have c0 : ldI .i64 w (a.add 0) = some d.k := ldI_cell (hj 0 _ (by omega) rfl)
    have c1 : ldI .i64 w (a.add 1) = some d.i := ldI_cell (hj 1 _ (by omega) rfl)
    have c2 : ldL w (a.add 2) = some bd := ldL_cell (hj 2 _ (by omega) rfl)
    by_cases hc : d.k = 0 ∧ d.i ≠ v
    · obtain ⟨w1, a1, d1, g1, z1, q1⟩ := dr_s (w := w)
      have f1 : ∀ S, Fr S w w1 := fun S => (g1 w.heap.size S).fr
      have b1 := (d1 g).trans hb
      have r1 : ldI .i64 w1 (a.add 1) = some d.i := ldI_cell ((q1 _).trans (hj 1 _ (by omega) rfl))
      have r2 : ldL w1 (a.add 2) = some bd := ldL_cell ((q1 _).trans (hj 2 _ (by omega) rfl))
      have r3 : ldL w1 ⟨g, 1, none⟩ = some s := ldL_B b1 rfl
      obtain ⟨w2, a2, x2, f2⟩ := (h.fr (f1 (fun _ => False)) (fun _ _ h => h)).write (i := d.i) (hd.hb.fr (f1 _)).rd (by omega)
      have z2 := f2.size
      have f2n : Fr (fun j => n ≤ j ∧ j ≠ g) w w2 := (f1 _).trans (f2.mono fun j hj => .inl (hF j hj))
      obtain ⟨w', D', F', e', x', h', q', f', n'⟩ := ih (k + 1) _ (grow F w1 w2) w2 (by omega) x2 (hh.write hc.2) (fun j hj => hj.elim (hF j) (fun h => ⟨by omega, by omega⟩)) (by omega) (by omega)
        (hs.fr (f2n.mono fun j hj => .inl hj.1)) (f2n.B hb (fun hj => hj.2 rfl)) (by have := write_W D d.i d.bs; omega)
      refine ⟨w', D', F', ?_, x', h', q', f2n.trans f', n'⟩
      rw [← e', ← wrap_nat (show k < 9223372036854775807 by omega)]
      refine loopF_next ?_
      have t1 : (d.k == 0) = true := by simpa using hc.1
      have t2 : (d.i != v) = true := by simpa using hc.2
      simp only [grapevinelaw09_SectorLasts_l1, add_mk, Nat.zero_add, l1, Option.bind_some, h1, if_true, h2, bind2_some, e1, c0, t1, c1, hv, t2, a1, r3, r1, r2, a2]
    · obtain ⟨w', D', F', e', x', h', q', f', n'⟩ := ih (k + 1) D F w (by omega) h hh hF hw hgl hs hb (by omega)
      refine ⟨w', D', F', ?_, x', h', q', f', n'⟩
      rw [← e', ← wrap_nat (show k < 9223372036854775807 by omega)]
      refine loopF_next ?_
      by_cases t1 : d.k = 0
      · have t2 : d.i = v := Classical.byContradiction fun h => hc ⟨t1, h⟩
        have t1' : (d.k == 0) = true := by simpa using t1
        simp only [grapevinelaw09_SectorLasts_l1, add_mk, Nat.zero_add, l1, Option.bind_some, h1, if_true, h2, bind2_some, e1, c0, t1', c1, hv, t2, bne_self_eq_false, Bool.false_eq_true, if_false]
      · have t1' : (d.k == 0) = false := by simpa using t1
        simp only [grapevinelaw09_SectorLasts_l1, add_mk, Nat.zero_add, l1, Option.bind_some, h1, if_true, h2, bind2_some, e1, c0, t1', Bool.false_eq_true, if_false]
theorem SectorLasts_law (l : Sl) (L : List (List Value)) (ds : List Dd) (hs : Script w.heap.size w l L ds) (b : Sl) (bs : List Int) (hb : Arg w.heap.size w b 1 (nums .u8 bs)) (_ : ∀ n ∈ bs, (Lit.int .u8 n).wf = true) (hbc : b.n ≤ b.c) (_ : b.c ≤ maxLen)
    (c : List Value) (hbe : ∃ i s L ds f fs, BehindAt w.heap.size w c i s L ds f fs) :
    ∃ w', grapevinelaw09_SectorLasts l b c w = some (true, w') ∧ Fr (fun k => w.heap.size ≤ k) w w' := by
  obtain ⟨i, s, L2, ds2, f, fs, rfl, hs2, hf⟩ := hbe
  have hbn : bs.length = b.n := by have := hb.rd.len; simpa using this
  obtain ⟨w2, e2, n2⟩ := mk_s (w := w) (T := 43) (cs := [.int .i64 i, s.v, f.v])
  have f2 : ∀ S, Fr S w w2 := fun S => (n2.fr _ S (Nat.le_refl _)).fr
  have z2 := n2.size
  obtain ⟨w3, x, y, D, F, G, R, vv, e3, hp, hlo, f3, hD, hbd, hv⟩ := play_ok 7 (hs.fr (f2 _)) (by omega)
  have z3 := (f3 (fun _ => False)).size
  have b3 := (f3 (fun _ => False)).B n2.b id
  have hS8 : D.S.length = 8 := by
    rw [hD, run_S]; simp [Dk.new]; omega
  -- the crash
  obtain ⟨w4, e4, x4, f4⟩ := hp.x.crash (f := Sl.nil) (fs := []) (by omega) (Rd.nil rfl) Out.nil
  have f4n : Fr (fun j => w.heap.size ≤ j ∧ j ≠ w.heap.size) w3 w4 := f4.mono fun j hj => .inl (by have := hlo j (.inl hj); omega)
  have z4 := f4.size
  have b4 := f4n.B b3 (fun h => h.2 rfl)
  have f24 : Fr (fun k => w.heap.size ≤ k) w w4 := ((f2 _).trans (f3 _)).trans (f4n.mono fun j hj => .inl hj.1)
  have hD1 : D.crash [] = { S := D.S, W := [], left := 0, down := false, age := IntKind.wrap .i64 (D.age + 1) } := by simp only [Dk.crash, crash_none]
  have x4' : Disk w4 x (fun j => w.heap.size ≤ j ∧ j ≠ w.heap.size) (D.crash []) := x4.mono fun j hj h => h.elim (fun h => by have := hlo j (.inl h); omega) (fun h => by omega)
  obtain ⟨v, hvd⟩ : ∃ v, (i % 18446744073709551616) % 8 = v := ⟨_, rfl⟩
  have hv0 : 0 ≤ v ∧ v < 8 := by omega
  have hrm : rmI (IntKind.wrap .u64 i) 8 = some v := by
    have h1 : (i % 18446744073709551616).tmod 8 = (i % 18446744073709551616) % 8 := Int.tmod_eq_emod_of_nonneg (by omega)
    simp only [rmI, wrap_u64, h1, hvd]; simp
  have hwr : IntKind.wrap .i64 v = v := by rw [IntKind.wrap_i64]; omega
  have l4 : ldI .i64 w4 ⟨w.heap.size, 0, none⟩ = some i := ldI_B b4 rfl
  obtain ⟨w5, e5, x5, f5⟩ := x4'.write (i := v) (hb.fr f24).rd (by simp [Dk.crash])
  have z5 := f5.size
  have b5 := f5.B b4 (fun h => h.2 rfl)
  have f25 : Fr (fun k => w.heap.size ≤ k) w w5 := f24.trans (f5.mono fun j hj => .inl hj.1)
  by_cases hl : 64 < bs.length
  · have hw : ((D.crash []).write v bs).1 = 6 := by
      rw [hD1]
      have : ¬ (v < 0) ∧ ¬ ((D.S.length : Int) ≤ v) := by omega
      simp [Dk.write, Dk.bad, hl, this]
    obtain ⟨w6, e6, f6⟩ := live_ok (w := w5)
    refine ⟨w6, ?_, f25.trans (f6 _)⟩
    have hdl : decide (64 < (b.n : Int)) = true := by simp; omega
    unfold grapevinelaw09_SectorLasts
    rw [e2, bind2_some, e3, bind4_some]
    rw [if_neg (by decide), e4, bind2_some, add_mk, Nat.zero_add, l4, Option.bind_some, hrm, Option.bind_some, hwr, e5, bind2_some, hw, if_pos (by decide), e6, bind2_some, if_pos rfl, hdl, bind2_some]
  · have hw : (D.crash []).write v bs = (0, { S := D.S, W := [(v, pad bs)], left := 0, down := false, age := IntKind.wrap .i64 (D.age + 1) }) := by
      rw [hD1]
      have : ¬ (v < 0) ∧ ¬ ((D.S.length : Int) ≤ v) := by omega
      simp [Dk.write, Dk.bad, Dk.trips, hl, this]
    rw [hw] at x5 e5
    have hpl := pad_len (b := bs) (by omega)
    have x5' : Disk w5 x (fun j => w.heap.size ≤ j ∧ j ≠ w.heap.size) _ := x5.mono fun j hj h => h.elim id (fun h => by omega)
    obtain ⟨w6, e6, x6, f6⟩ := x5'.sync (by simp)
    have z6 := f6.size
    have b6 := f6.B b5 (fun h => h.2 rfl)
    have hsy : Dk.sync { S := D.S, W := [(v, pad bs)], left := 0, down := false, age := IntKind.wrap .i64 (D.age + 1) } = (0, { S := putS D.S (v, pad bs) 64, W := [], left := 0, down := false, age := IntKind.wrap .i64 (D.age + 1) }) := by
      simp [Dk.sync, Dk.trips]
    rw [hsy] at x6 e6
    have x6' : Disk w6 x (fun j => w.heap.size ≤ j ∧ j ≠ w.heap.size) _ := x6.mono fun j hj h => h.elim id (fun h => by omega)
    have f26 : Fr (fun k => w.heap.size ≤ k) w w6 := f25.trans (f6.mono fun j hj => .inl hj.1)
    obtain ⟨w7, D7, F7, e7, x7, h7, q7, f7, n7⟩ := lasts_loop (b := i) (f := f) (n := w.heap.size) (g := w.heap.size) (L := L2) (ds := ds2) (Sx := putS D.S (v, pad bs) 64) hwr (Nat.le_refl _) (min s.n 100) 0 _ _ w6 (by omega) x6' ⟨rfl, rfl, rfl, by simp⟩ (fun j hj => hj) (by omega) (by omega) (hs2.fr f26) b6 (by simp)
    simp only [Int.ofNat_zero] at e7
    have b7 := f7.B b6 (fun h => h.2 rfl)
    have f27 : Fr (fun k => w.heap.size ≤ k) w w7 := f26.trans (f7.mono fun j hj => .inl hj.1)
    have l7 : ldL w7 ⟨w.heap.size, 2, none⟩ = some f := ldL_B b7 rfl
    obtain ⟨w8, e8, x8, f8⟩ := x7.crash (by omega) (hf.fr f27).rd (fun a ha h0 hk => by have := hf.lo a ha h0; have := (q7 _ hk).1; omega)
    obtain ⟨o9, w9, e9, r9⟩ := x8.read (i := v) (by simp [Dk.crash])
    have hvn : v.toNat < D.S.length := by omega
    have hget : (putS D.S (v, pad bs) 64).getD v.toNat [] = pad bs := by
      rw [put_get (x := (v, pad bs)) hpl hp.wf.s64 hvn (by simp only; omega), if_pos (by simp only; omega)]
    have hrd : (D7.crash fs).read v = (pad bs, 0) := by
      have hb : (D7.crash fs).bad v = false := by
        simp only [Dk.bad, Dk.crash, crash_len, h7.s, putS_length]; simp; omega
      unfold Dk.read
      rw [hb]
      simp only [Dk.crash, Bool.false_eq_true, if_false, Dk.cur, List.foldl_nil]
      have := crash_far (fs := fs) (i := v.toNat) D7.W 0 D7.S (fun y hy => ⟨by have := h7.w y hy; omega, (x7.wf.wat y hy).1⟩)
      rw [this, h7.s, hget]
    rw [hrd] at e9 r9
    have n9 := r9.n
    rw [hpl] at n9
    obtain ⟨w10, e10, _, g10, _, _⟩ := dr_s (w := w9)
    have f10 : ∀ S, Fr S w9 w10 := fun S => (g10 w9.heap.size S).fr
    obtain ⟨w11, e11, f11⟩ := live_ok (w := w10)
    have f28 : Fr (fun k => w.heap.size ≤ k) w w8 := f27.trans (f8.mono fun j hj => .inl (q7 j hj).1)
    have r11 : Rd w11 o9 1 (nums .u8 (pad bs)) := (r9.rd.fr (f10 (fun _ => False)) (fun _ _ _ h => h)).fr (f11 (fun _ => False)) (fun _ _ _ h => h)
    have hb11 : Rd w11 b 1 (nums .u8 bs) := (hb.fr (((f28.trans (r9.fr _)).trans (f10 _)).trans (f11 _))).rd
    obtain ⟨s1, a1, b1⟩ := slS_str (lo := 0) (hi := b.n) r11 (by omega) (by omega) r9.cap
    obtain ⟨s2, a2, rr2, m2, _⟩ := slS_rd (lo := b.n) (hi := o9.n) r11 (by omega) (by omega) r9.cap
    simp only [Int.ofNat_zero, List.drop_zero, Nat.sub_zero] at a1 b1
    have ht : (pad bs).take b.n = bs := by rw [← hbn]; simp [pad]
    rw [ht] at b1
    have hz2 : ((nums .u8 (pad bs)).drop b.n).take (o9.n - b.n) = nums .u8 (List.replicate (64 - bs.length) 0) := by
      rw [show (nums .u8 (pad bs)).drop b.n = nums .u8 (List.replicate (64 - bs.length) 0) by rw [← hbn]; simp [nums, pad]]
      exact List.take_of_length_le (by simp; omega)
    rw [hz2] at rr2
    have hzero := zero_ok rr2 (fun x hx => (List.mem_replicate.1 hx).2) (by omega)
    refine ⟨w11, ?_, ((f28.trans (r9.fr _)).trans (f10 _)).trans (f11 _)⟩
    unfold grapevinelaw09_SectorLasts
    rw [e2, bind2_some, e3, bind4_some]
    rw [if_neg (by decide), e4, bind2_some, add_mk, Nat.zero_add, l4, Option.bind_some, hrm, Option.bind_some, hwr, e5, bind2_some, if_neg (by simp), e6, bind2_some, if_neg (by simp), e7, Option.bind_some, add_mk, Nat.zero_add, l7, Option.bind_some, e8, bind2_some, e9, bind3_some, e10, Option.bind_some, e11, bind2_some]
    have n9' : ((o9.n : Int) == 64) = true := by rw [n9]; rfl
    rw [if_pos rfl, if_pos (by simp), if_pos n9', a1, Option.bind_some, b1, Option.bind_some, b2s_Rd hb11, Option.bind_some, if_pos (sEq_self _), a2, Option.bind_some, hzero, bind2_some, bind2_some]
end
end Go.Proofs.Ytoanmomopcaikaa.D
