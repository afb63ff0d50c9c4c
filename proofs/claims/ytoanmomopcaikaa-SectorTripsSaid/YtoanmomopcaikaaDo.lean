/- A deed of a script on both disks. -/
import Derived.Test.YtoanmomopcaikaaPair
namespace Go.Proofs.Ytoanmomopcaikaa.D
open Go
set_option linter.unusedVariables false
set_option linter.unusedSimpArgs false

structure Dd where
  k : Int
  i : Int
  bs : List Int
  fs : List Int
def Dk.deed (D : Dk) (d : Dd) : Dk := if d.k = 0 then (D.write d.i d.bs).2 else if d.k = 1 then D else if d.k = 2 then D.sync.2 else if d.k = 3 then (D.trip d.i).2 else if d.k = 4 then D.crash d.fs else D
structure DeedOf (n : Nat) (w : World) (b f : Sl) (d : Dd) : Prop where
  hb : Arg n w b 1 (nums .u8 d.bs)
  hf : Arg n w f 1 (nums .i64 d.fs)
  bn : b.n ≤ 140737488351232
  i : d.i ≤ 9223372036854775807
/-- The cells of a deed that was read. -/
def DeedAt (n : Nat) (w : World) (c : List Value) (d : Dd) : Prop := ∃ b f : Sl, c = [.int .i64 d.k, .int .i64 d.i, b.v, f.v] ∧ DeedOf n w b f d
section
variable {w w' : World} {p x y n : Nat} {F G R S : Nat → Prop} {D : Dk} {d : Dd} {c : List Value}
theorem DeedOf.fr {b f : Sl} (h : DeedOf n w b f d) (hf : Fr (fun k => n ≤ k) w w') : DeedOf n w' b f d := ⟨h.hb.fr hf, h.hf.fr hf, h.bn, h.i⟩
theorem DeedAt.fr (h : DeedAt n w c d) (hf : Fr (fun k => n ≤ k) w w') : DeedAt n w' c d := by
  obtain ⟨b, f, e, h⟩ := h
  exact ⟨b, f, e, h.fr hf⟩
theorem own_ix {T : TypeId} {s : Sl} {xs : List Int} {k : Nat} (h : Own w T s 1 (nums .u8 xs)) (hk : k < s.n) : ∃ g rest, s.p = some ⟨g, 0, none⟩ ∧ B w g = some (nums .u8 xs ++ rest, T) ∧ rest.length = (s.c - s.n) * 1 ∧ ix s (k : Int) 1 = some ⟨g, k, none⟩ := by
  rcases h.h with ⟨_, h0, _⟩ | ⟨g, rest, hp, hB, hl⟩
  · omega
  refine ⟨g, rest, hp, hB, hl, ?_⟩
  unfold ix
  rw [hp, Option.bind_some, if_pos (by omega), add_mk]; simp
theorem own_set {T : TypeId} {s : Sl} {xs : List Int} {k : Nat} (v : Int) (h : Own w T s 1 (nums .u8 xs)) (hk : k < s.n) :
    ∃ g w', ix s (k : Int) 1 = some ⟨g, k, none⟩ ∧ s.blk g ∧ ldI .u8 w ⟨g, k, none⟩ = some (xs.getD k 0) ∧ stV w ⟨g, k, none⟩ (.int .u8 v) = some w' ∧ Own w' T s 1 (nums .u8 (xs.set k v)) ∧ Fr s.blk w w' := by
  have hl : xs.length = s.n := by have := h.len; simpa using this
  obtain ⟨g, rest, hp, hB, hr, e⟩ := own_ix h hk
  obtain ⟨w', e', b', o'⟩ := stV_s (o := k) (v := .int .u8 v) hB (by rw [List.length_append, nums_length]; omega) rfl
  refine ⟨g, w', e, ⟨_, hp, rfl⟩, ldI_B hB ?_, e', ⟨by simp [hl], h.cap, h.max, .inr ⟨g, rest, hp, ?_, hr⟩⟩, o'.fr ⟨_, hp, rfl⟩⟩
  · rw [List.getElem?_append_left (by simp; omega), nums_get]
    simp [List.getD, hl, hk]
  · rw [b', List.set_append_left _ _ (by simp; omega)]
    simp [nums, List.map_set]
theorem own_loop {T : TypeId} {s : Sl} {step : Int → World → Option ((Int × World) ⊕ World)} (hmax : s.n < 9223372036854775807)
    (hstep : ∀ (k : Nat) (w : World) (xs : List Int), k < s.n → Own w T s 1 (nums .u8 xs) → ∃ g v w', stV w ⟨g, k, none⟩ (.int .u8 v) = some w' ∧ ix s (k : Int) 1 = some ⟨g, k, none⟩ ∧ step (k : Int) w = some (.inl (IntKind.wrap .i64 ((k : Int) + 1), w')))
    (hend : ∀ w : World, step (s.n : Int) w = some (.inr w)) :
    ∀ (m k : Nat) (w : World) (xs : List Int), k + m = s.n → Own w T s 1 (nums .u8 xs) → ∃ w', loopF (fun r : Int × World => step r.1 r.2) ((k : Int), w) = some w' ∧ Fr s.blk w w' := by
  intro m
  induction m with
  | zero =>
    intro k w xs hk ho
    have : k = s.n := by omega
    subst this
    exact ⟨w, loopF_done (hend w), Fr.refl⟩
  | succ m ih =>
    intro k w xs hk ho
    obtain ⟨g, v, w1, e1, e2, e3⟩ := hstep k w xs (by omega) ho
    obtain ⟨g', w1', e2', _, _, e1', o1, f1⟩ := own_set v ho (show k < s.n by omega)
    rw [e2] at e2'
    simp only [Option.some.injEq, Addr.mk.injEq, and_true] at e2'
    subst e2'
    rw [e1] at e1'
    cases e1'
    obtain ⟨w', e', f'⟩ := ih (k + 1) w1 _ (by omega) o1
    refine ⟨w', ?_, f1.trans f'⟩
    rw [← e', ← wrap_nat (show k < 9223372036854775807 by omega)]
    exact loopF_next e3
theorem xor_loop {T : TypeId} {s : Sl} {xs : List Int} (ho : Own w T s 1 (nums .u8 xs)) (hmax : s.n < 9223372036854775807) : ∃ w', loopF (fun r : Int × World => grapevinelaw09_do_l1 s r.1 r.2) (0, w) = some w' ∧ Fr s.blk w w' := by
  refine own_loop (step := grapevinelaw09_do_l1 s) hmax (fun k w xs hk ho => ?_) (fun w => by simp [grapevinelaw09_do_l1]) s.n 0 w xs (by omega) ho
  obtain ⟨g, w', e1, _, e2, e3, _, _⟩ := own_set (bxor .u8 (xs.getD k 0) 119) ho hk
  have hlt : decide ((k : Int) < (s.n : Int)) = true := by simp; omega
  exact ⟨g, _, w', e3, e1, by simp only [grapevinelaw09_do_l1, hlt, if_true, e1, Option.bind_some, e2, e3]⟩
theorem nine_loop {T : TypeId} {s : Sl} {xs : List Int} (ho : Own w T s 1 (nums .u8 xs)) (hmax : s.n < 9223372036854775807) : ∃ w', loopF (fun r : Int × World => grapevinelaw09_do_l2 s r.1 r.2) (0, w) = some w' ∧ Fr s.blk w w' := by
  refine own_loop (step := grapevinelaw09_do_l2 s) hmax (fun k w xs hk ho => ?_) (fun w => by simp [grapevinelaw09_do_l2]) s.n 0 w xs (by omega) ho
  obtain ⟨g, w', e1, _, e2, e3, _, _⟩ := own_set 9 ho hk
  have hlt : decide ((k : Int) < (s.n : Int)) = true := by simp; omega
  exact ⟨g, _, w', e3, e1, by simp only [grapevinelaw09_do_l2, hlt, if_true, e1, Option.bind_some, e2, e3]⟩
/-- What was done behind new blocks alone. -/
theorem Step.of_new {w0 : World} {D' : Dk} (h : Step w w' x y F G R D') (hlt : ∀ k, F k ∨ G k ∨ R k → k < w0.heap.size) (hf : ∀ S, Fr S w0 w) : Step w0 w' x y F G R D' := by
  obtain ⟨F', G', R', h1, h2, h3, h4, h5⟩ := h
  have z := (hf (fun _ => False)).size
  refine ⟨F', G', R', h1, fun k hk => (h2 k hk).elim .inl (fun h => .inr (by omega)), fun k hk => (h3 k hk).elim .inl (fun h => .inr (by omega)), fun k hk => (h4 k hk).elim .inl (fun h => .inr (by omega)), ?_⟩
  refine (hf _).trans_new h5 (fun k hk => .inl ⟨hk.1, fun hb => hk.2 ?_⟩)
  obtain ⟨cc, hc⟩ := hb
  exact ⟨cc, (hf (fun _ => False)).B hc id⟩
theorem Pair.wf (h : Pair w x y F G R D) : D.Wf := h.x.wf
theorem do_ok (h : Pair w x y F G R D) (hn : ∀ k, F k ∨ G k → n ≤ k) (hw : n ≤ w.heap.size) (hd : DeedAt n w c d) (hbd : D.W.length < 900000) :
    ∃ w', grapevinelaw09_do (some ⟨x, 0, none⟩) (some ⟨y, 0, none⟩) c w = some (true, w') ∧ Step w w' x y F G R (D.deed d) := by
  obtain ⟨b, f, rfl, hd⟩ := hd
  obtain ⟨w2, e2, n2⟩ := mk_s (w := w) (T := 40) (cs := [.int .i64 d.k, .int .i64 d.i, b.v, f.v])
  have f2 : ∀ S, Fr S w w2 := fun S => (n2.fr _ S (Nat.le_refl _)).fr
  have h2 := h.all f2
  have hd2 := hd.fr (f2 _)
  have b2 := n2.b
  have z2 := n2.size
  have rk : ∀ {w' : World}, B w' w.heap.size = some ([.int .i64 d.k, .int .i64 d.i, b.v, f.v], 40) → ldI .i64 w' ⟨w.heap.size, 0, none⟩ = some d.k ∧ ldI .i64 w' ⟨w.heap.size, 1, none⟩ = some d.i ∧ ldL w' ⟨w.heap.size, 2, none⟩ = some b ∧ ldL w' ⟨w.heap.size, 3, none⟩ = some f :=
    fun hb => ⟨ldI_B hb rfl, ldI_B hb rfl, ldL_B hb rfl, ldL_B hb rfl⟩
  have hlt : ∀ k, F k ∨ G k → k < w.heap.size := fun k hk => h.lt k (hk.elim .inl (fun h => .inr (.inl h)))
  -- the deed's own block is not the disks'
  have keep : ∀ {w1 w' : World} {F' : Nat → Prop}, Fr F' w1 w' → (∀ k, F' k → F k ∨ G k) → B w1 w.heap.size = some ([.int .i64 d.k, .int .i64 d.i, b.v, f.v], 40) → B w' w.heap.size = some ([.int .i64 d.k, .int .i64 d.i, b.v, f.v], 40) :=
    fun hf hk hb => hf.B hb (fun hm => Nat.lt_irrefl _ (hlt _ (hk _ hm)))
  have argk : ∀ {w1 w' : World} {F' : Nat → Prop}, Fr F' w1 w' → (∀ k, F' k → F k ∨ G k) → DeedOf n w1 b f d → DeedOf n w' b f d :=
    fun hf hk hb => hb.fr (hf.mono fun k hm => .inl (hn k (hk k hm)))
  obtain ⟨r0, r1, r2, r3⟩ := rk b2
  unfold grapevinelaw09_do
  rw [e2, bind2_some, add_mk, Nat.zero_add, r0, Option.bind_some]
  by_cases k0 : d.k = 0
  · have t0 : (d.k == 0) = true := by simpa using k0
    rw [if_pos t0]
    have hbn := hd.bn
    obtain ⟨w3, o, w4, a1, a2, a3, a4, f3, f4⟩ := rowcopy_ok hd2.hb.rd (by omega)
    have g4 : ∀ S, Fr S w w4 := fun S => (f2 S).trans (f4 S)
    have h4 := h.all g4
    have b3 := (f3 (fun _ => False)).B b2 id
    have b4 := (f4 (fun _ => False)).B b2 id
    have hd4 := hd.fr (g4 _)
    obtain ⟨w5, a5, x5, f5⟩ := h4.x.nb.write (i := d.i) a3.rd (by omega)
    have b5 := keep f5 (fun k hk => .inl hk.1) b4
    have hd5 := argk f5 (fun k hk => .inl hk.1) hd4
    obtain ⟨w6, a6, y6, f6⟩ := (h4.y.fr f5 (fun k hk hm => h.fg k hm.1 hk) (fun k _ hb hm => hm.2 hb)).write (i := d.i) hd5.hb.rd (by omega)
    have st := h4.both x5 f5 (fun _ => y6) f6
    have o6 : RowAt w6 o d.bs := (a3.fr f5 (fun k hk => hk.2)).fr f6 (fun k hk => hk.2)
    have hon : d.bs.length = o.n := by have := a3.len; simpa using this
    have hbl : d.bs.length = b.n := by have := hd.hb.rd.len; simpa using this
    obtain ⟨w7, a7, f7⟩ := xor_loop o6 (by omega)
    refine ⟨w7, ?_, ?_⟩
    · obtain ⟨q0, q1, q2, q3⟩ := rk b3
      obtain ⟨s0, s1, s2, s3⟩ := rk b4
      obtain ⟨u0, u1, u2, u3⟩ := rk b5
      rw [a1, bind2_some, add_mk, q2, Option.bind_some, a2, bind2_some, add_mk, s1, Option.bind_some, a5, bind2_some, u1, Option.bind_some, u2, Option.bind_some, a6, bind2_some, a7, Option.bind_some, beq_self_eq_true]
    · have hD : D.deed d = (D.write d.i d.bs).2 := by unfold Dk.deed; rw [if_pos k0]
      rw [hD]
      obtain ⟨F', G', R', p1, p2, p3, p4, p5⟩ := st
      have hblk : ∀ k, o.blk k → w2.heap.size ≤ k ∧ k < w4.heap.size := fun k hk => ⟨a4 k hk, Own.lt a3 hk⟩
      have z7 := f7.size
      refine ⟨F', G', R', ⟨p1.x.fr f7 ?_, p1.y.fr f7 ?_ ?_, p1.fg, fun k hk => by have := p1.lt k hk; omega⟩, ?_, ?_, ?_, ?_⟩
      · intro k hk hb
        have := hblk k hb
        rcases p2 k hk with h' | h'
        · have := h.lt k (.inl h'); omega
        · omega
      · intro k hk hb
        have := hblk k hb
        rcases p3 k hk with h' | h'
        · have := h.lt k (.inr (.inl h')); omega
        · omega
      · intro k hk _ hb
        have := hblk k hb
        rcases p4 k hk with h' | h'
        · have := h.lt k (.inr (.inr h')); omega
        · omega
      · exact fun k hk => (p2 k hk).elim .inl (fun h => .inr (by have := (g4 (fun _ => False)).size; omega))
      · exact fun k hk => (p3 k hk).elim .inl (fun h => .inr (by have := (g4 (fun _ => False)).size; omega))
      · exact fun k hk => (p4 k hk).elim .inl (fun h => .inr (by have := (g4 (fun _ => False)).size; omega))
      · refine ((g4 _).trans_new p5 (fun k hk => .inl ⟨hk.1, fun hb => hk.2 ?_⟩)).trans_new f7 (fun k hk => .inr (by have := hblk k hk; omega))
        obtain ⟨cc, hc⟩ := hb
        exact ⟨cc, (g4 (fun _ => False)).B hc id⟩
  have t0 : ¬ (d.k == 0) = true := by simpa using k0
  rw [if_neg t0]
  by_cases k1 : d.k = 1
  · have t1 : (d.k == 1) = true := by simpa using k1
    rw [if_pos t1]
    have hD : D.deed d = D := by unfold Dk.deed; rw [if_neg k0, if_pos k1]
    rw [hD]
    obtain ⟨o3, w3, a3, r3'⟩ := h2.x.read (i := d.i) (by omega)
    have h3 := h2.all r3'.fr
    obtain ⟨o4, w4, a4, r4'⟩ := h3.y.read (i := d.i) (by omega)
    have h4 := h3.all r4'.fr
    have g4 : ∀ S, Fr S w w4 := fun S => ((f2 S).trans (r3'.fr S)).trans (r4'.fr S)
    obtain ⟨T, o3'⟩ := r3'.own
    have o34 : Own w4 T o3 1 (nums .u8 (D.read d.i).1) := o3'.fr (r4'.fr (fun _ => False)) (fun _ _ h => h)
    have hl : (D.read d.i).1.length ≤ 64 := by
      unfold Dk.read
      split
      · simp
      · split
        · simp
        · rename_i hb
          rw [Dk.cur, cur_len h.wf (by simpa using hb) _ _ h.wf.w64 (getS_len h.wf (by simpa using hb))]
          exact Nat.le_refl _
    obtain ⟨w5, a5, f5⟩ := nine_loop o34 (by rw [r3'.n]; omega)
    have q3 : ldI .i64 w3 ⟨w.heap.size, 1, none⟩ = some d.i := (rk ((r3'.fr (fun _ => False)).B b2 id)).2.1
    have hnew : ∀ k, o3.blk k → w2.heap.size ≤ k := fun k ⟨ad, ha, hk⟩ => hk ▸ r3'.new ad ha
    refine ⟨w5, ?_, F, G, R, ?_, fun k hk => .inl hk, fun k hk => .inl hk, fun k hk => .inl hk, (g4 _).trans_new f5 (fun k hk => .inr (by have := hnew k hk; omega))⟩
    · rw [add_mk, r1, Option.bind_some, a3, bind3_some, q3, Option.bind_some, a4, bind3_some, b2s_Rd o34.rd, Option.bind_some, b2s_Rd r4'.rd, Option.bind_some, if_pos (sEq_self _), bind2_some, a5, Option.bind_some, beq_self_eq_true]
    · refine h4.fr f5 (fun k hk hb => ?_) (fun k hk _ hb => ?_)
      · have := hnew k hb; have := hlt k hk; omega
      · have := hnew k hb; have := h.lt k (.inr (.inr hk)); omega
  have t1 : ¬ (d.k == 1) = true := by simpa using k1
  rw [if_neg t1]
  by_cases k2 : d.k = 2
  · have t2 : (d.k == 2) = true := by simpa using k2
    rw [if_pos t2]
    have hD : D.deed d = D.sync.2 := by unfold Dk.deed; rw [if_neg k0, if_neg k1, if_pos k2]
    rw [hD]
    obtain ⟨w5, a5, x5, f5⟩ := h2.x.nb.sync (by omega)
    obtain ⟨w6, a6, y6, f6⟩ := (h2.y.fr f5 (fun k hk hm => h.fg k hm.1 hk) (fun k _ hb hm => hm.2 hb)).sync (by omega)
    refine ⟨w6, ?_, (h2.both x5 f5 (fun _ => y6) f6).of_new h.lt f2⟩
    rw [a5, bind2_some, a6, bind2_some, beq_self_eq_true]
  have t2 : ¬ (d.k == 2) = true := by simpa using k2
  rw [if_neg t2]
  obtain ⟨w3, e3, d3, g3, z3, _⟩ := dr_s (w := w2)
  have f3 : ∀ S, Fr S w w3 := fun S => (f2 S).trans (g3 w2.heap.size S).fr
  have h3 := h.all f3
  have hd3 := hd.fr (f3 _)
  have b3 := (d3 w.heap.size).trans b2
  obtain ⟨q0, q1, q2, q3⟩ := rk b3
  by_cases k3 : d.k = 3
  · have t3 : (d.k == 3) = true := by simpa using k3
    rw [if_pos t3]
    have hD : D.deed d = (D.trip d.i).2 := by unfold Dk.deed; rw [if_neg k0, if_neg k1, if_neg k2, if_pos k3]
    rw [hD]
    obtain ⟨w5, a5, x5, f5⟩ := h3.x.nb.trip (m := d.i) hd.i
    have b5 := keep f5 (fun k hk => .inl hk.1) b3
    obtain ⟨s0, s1, s2, s3⟩ := rk b5
    obtain ⟨w6, a6, y6, f6⟩ := (h3.y.fr f5 (fun k hk hm => h.fg k hm.1 hk) (fun k _ hb hm => hm.2 hb)).trip (m := d.i) hd.i
    refine ⟨w6, ?_, (h3.both x5 f5 (fun _ => y6) f6).of_new h.lt f3⟩
    rw [e3, Option.bind_some, add_mk, q1, Option.bind_some, a5, bind2_some, s1, Option.bind_some, a6, bind2_some, chk_pos rfl, beq_self_eq_true]
  have t3 : ¬ (d.k == 3) = true := by simpa using k3
  rw [if_neg t3]
  by_cases k4 : d.k = 4
  · have t4 : (d.k == 4) = true := by simpa using k4
    rw [if_pos t4]
    have hD : D.deed d = D.crash d.fs := by unfold Dk.deed; rw [if_neg k0, if_neg k1, if_neg k2, if_neg k3, if_pos k4]
    rw [hD]
    have outF : Out (NB w3 F) f := fun a ha h0 hk => by have := hd.hf.lo a ha h0; have := hn _ (.inl hk.1); omega
    have outG : Out G f := fun a ha h0 hk => by have := hd.hf.lo a ha h0; have := hn _ (.inr hk); omega
    obtain ⟨w5, a5, x5, f5⟩ := h3.x.nb.crash (by omega) hd3.hf.rd outF
    have b5 := keep f5 (fun k hk => .inl hk.1) b3
    have hd5 := argk f5 (fun k hk => .inl hk.1) hd3
    obtain ⟨s0, s1, s2, s3⟩ := rk b5
    obtain ⟨w6, a6, y6, f6⟩ := (h3.y.fr f5 (fun k hk hm => h.fg k hm.1 hk) (fun k _ hb hm => hm.2 hb)).crash (by omega) hd5.hf.rd outG
    refine ⟨w6, ?_, (h3.both x5 f5 (fun _ => y6) f6).of_new h.lt f3⟩
    rw [e3, Option.bind_some, add_mk, q3, Option.bind_some, a5, bind2_some, s3, Option.bind_some, a6, bind2_some, chk_pos rfl, beq_self_eq_true]
  have t4 : ¬ (d.k == 4) = true := by simpa using k4
  rw [if_neg t4]
  have hD : D.deed d = D := by unfold Dk.deed; rw [if_neg k0, if_neg k1, if_neg k2, if_neg k3, if_neg k4]
  rw [hD]
  obtain ⟨s1, l1, m1⟩ := h3.y.rd1
  have l3 := h3.y.rd3
  have l4 := h3.y.rd4
  refine ⟨w3, ?_, F, G, R, h3, fun k hk => .inl hk, fun k hk => .inl hk, fun k hk => .inl hk, f3 _⟩
  simp only [e3, Option.bind_some, h3.x.downs, bind2_some, add_mk, Nat.zero_add, l3, h3.x.waits, l1, m1, h3.x.ages, l4, beq_self_eq_true, if_true, chk_pos]
end
end Go.Proofs.Ytoanmomopcaikaa.D
