/- Scripts on both disks. -/
import Derived.Test.YtoanmomopcaikaaDo
namespace Go.Proofs.Ytoanmomopcaikaa.D
open Go
set_option linter.unusedVariables false
set_option linter.unusedSimpArgs false

/-- A slice of deeds, read. -/
structure Script (n : Nat) (w : World) (l : Sl) (L : List (List Value)) (ds : List Dd) : Prop where
  ln : L.length = l.n
  dn : ds.length = L.length
  c4 : ∀ c ∈ L, c.length = 4
  arg : Arg n w l 4 L.flatten
  deed : ∀ (i : Nat) (c : List Value) (d : Dd), L[i]? = some c → ds[i]? = some d → DeedAt n w c d
def Dk.run (D : Dk) (ds : List Dd) : Dk := ds.foldl Dk.deed D
section
variable {w w' : World} {p x y n : Nat} {F G R S : Nat → Prop} {D : Dk} {l : Sl} {L : List (List Value)} {ds : List Dd}
theorem Script.fr (h : Script n w l L ds) (hf : Fr (fun k => n ≤ k) w w') : Script n w' l L ds :=
  ⟨h.ln, h.dn, h.c4, h.arg.fr hf, fun i c d hc hd => (h.deed i c d hc hd).fr hf⟩
theorem Script.at_ (h : Script n w l L ds) {i : Nat} (hi : i < l.n) : ∃ a c d, ix l (i : Int) 4 = some a ∧ ldA 4 w a 0 = some c ∧ ds[i]? = some d ∧ DeedAt n w c d := by
  have hL : i < L.length := by rw [h.ln]; exact hi
  have hd : i < ds.length := by rw [h.dn]; exact hL
  obtain ⟨a, ea, la, _, _⟩ := rd_at (i := i) h.arg.rd hi
  have hc : (L.flatten.drop (i * 4)).take 4 = L[i] := by
    have := chunk (f := fun c : List Value => c) L i h.c4 hL
    rwa [List.flatMap_id'] at this
  rw [hc] at la
  exact ⟨a, L[i], ds[i], ea, la, List.getElem?_eq_getElem hd, h.deed i _ _ (List.getElem?_eq_getElem hL) (List.getElem?_eq_getElem hd)⟩
theorem write_W (D : Dk) (i : Int) (b : List Int) : (D.write i b).2.W.length ≤ D.W.length + 1 := by
  unfold Dk.write
  split; · simp
  split; · simp
  split; · simp
  split
  · simp [trips_W]
  · simp
theorem deed_W (D : Dk) (d : Dd) : (D.deed d).W.length ≤ D.W.length + 1 := by
  unfold Dk.deed
  split; · exact write_W D _ _
  split; · omega
  split
  · unfold Dk.sync
    split; · simp
    split
    · simp [trips_W]
    · simp
  split
  · unfold Dk.trip
    split; · simp
    split <;> simp
  split
  · simp [Dk.crash]
  · omega
theorem run_W (ds : List Dd) : ∀ D : Dk, (D.run ds).W.length ≤ D.W.length + ds.length := by
  induction ds with
  | nil => intro D; exact Nat.le_refl _
  | cons d ds ih =>
    intro D
    have h1 := ih (D.deed d)
    have h2 := deed_W D d
    simp only [Dk.run, List.foldl_cons, List.length_cons] at h1 ⊢
    omega
theorem fold_len : ∀ (W : List (Int × List Int)) (S : List (List Int)), (W.foldl (fun S x => putS S x 64) S).length = S.length
  | [], _ => rfl
  | x :: W, S => by rw [List.foldl_cons, fold_len W, putS_length]
theorem crash_len {fs : List Int} : ∀ (W : List (Int × List Int)) (k : Nat) (S : List (List Int)), (crashS fs k W S).length = S.length
  | [], _, _ => rfl
  | x :: W, k, S => by
    rw [crashS, crash_len W]
    unfold crash1
    split
    · exact putS_length
    · split
      · exact putS_length
      · rfl
theorem deed_S (D : Dk) (d : Dd) : (D.deed d).S.length = D.S.length := by
  unfold Dk.deed
  split
  · unfold Dk.write
    split; · rfl
    split; · rfl
    split; · rfl
    split
    · simp only [trips_S]
    · simp only [trips_S]
  split; · rfl
  split
  · unfold Dk.sync
    split; · rfl
    split
    · simp only [trips_S]
    · exact fold_len _ _
  split
  · unfold Dk.trip
    split; · rfl
    split <;> rfl
  split
  · exact crash_len _ _ _
  · rfl
theorem run_S (ds : List Dd) : ∀ D : Dk, (D.run ds).S.length = D.S.length := by
  induction ds with
  | nil => intro D; rfl
  | cons d ds ih => intro D; exact (ih (D.deed d)).trans (deed_S D d)
/-- A loop over the deeds of a script, on both disks. -/
theorem script_loop {T : Type} {step : Int → World → Option ((Int × World) ⊕ (World ⊕ T))}
    (hstep : ∀ (k : Nat) (w w1 : World) (a : Addr) (c : List Value), k < l.n → k < 300 → ix l (k : Int) 4 = some a → ldA 4 w a 0 = some c → grapevinelaw09_do (some ⟨x, 0, none⟩) (some ⟨y, 0, none⟩) c w = some (true, w1) → step (k : Int) w = some (.inl (((k + 1 : Nat) : Int), w1)))
    (hend : ∀ (k : Nat) (w : World), ¬ (k < l.n ∧ k < 300) → step (k : Int) w = some (.inr (.inl w))) :
    ∀ (m k : Nat) (D : Dk) (F G R : Nat → Prop) (w : World), k + m = min l.n 300 → Pair w x y F G R D → (∀ k, F k ∨ G k → n ≤ k) → n ≤ w.heap.size → Script n w l L ds → D.W.length ≤ 1000 + k →
      ∃ w' D', loopF (fun r : Int × World => step r.1 r.2) ((k : Int), w) = some (.inl w') ∧ D' = D.run ((ds.drop k).take m) ∧ Step w w' x y F G R D' := by
  intro m
  induction m with
  | zero =>
    intro k D F G R w hk hp hn hw hs hbd
    refine ⟨w, D, loopF_done (hend k w (by omega)), by simp [Dk.run], F, G, R, hp, fun k hk => .inl hk, fun k hk => .inl hk, fun k hk => .inl hk, Fr.refl⟩
  | succ m ih =>
    intro k D F G R w hk hp hn hw hs hbd
    obtain ⟨a, c, d, e1, e2, e3, hd⟩ := hs.at_ (i := k) (by omega)
    obtain ⟨w1, e4, F1, G1, R1, p1, q1, q2, q3, f1⟩ := do_ok hp hn hw hd (by omega)
    have z1 := f1.size
    obtain ⟨w2, D2, e5, e6, F2, G2, R2, p2, t1, t2, t3, f2⟩ := ih (k + 1) (D.deed d) F1 G1 R1 w1 (by omega) p1 (fun k hk => by
        rcases hk with hk | hk
        · exact (q1 k hk).elim (fun h => hn k (.inl h)) (fun h => by omega)
        · exact (q2 k hk).elim (fun h => hn k (.inr h)) (fun h => by omega)) (by omega)
      (hs.fr (f1.mono fun k hk => .inl (hn k hk.1))) (by have := deed_W D d; omega)
    refine ⟨w2, D2, ?_, ?_, F2, G2, R2, p2, ?_, ?_, ?_, ?_⟩
    · rw [← e5]
      exact loopF_next (hstep k w w1 a c (by omega) (by omega) e1 e2 e4)
    · rw [e6]
      have hkd : k < ds.length := (List.getElem?_eq_some_iff.1 e3).1
      have hdk : ds[k] = d := (List.getElem?_eq_some_iff.1 e3).2
      rw [List.drop_eq_getElem_cons hkd, List.take_succ_cons, hdk]; rfl
    · exact fun k hk => (t1 k hk).elim (q1 k) (fun h => .inr (by omega))
    · exact fun k hk => (t2 k hk).elim (q2 k) (fun h => .inr (by omega))
    · exact fun k hk => (t3 k hk).elim (q3 k) (fun h => .inr (by omega))
    · refine f1.trans_new f2 (fun k hk => ?_)
      rcases hk.1 with h | h
      · exact (q1 k h).elim (fun h => .inl ⟨.inl h, fun hb => hk.2 (f1.byt hb)⟩) .inr
      · exact (q2 k h).elim (fun h => .inl ⟨.inr h, fun hb => hk.2 (f1.byt hb)⟩) .inr
theorem size_law (m : Int) : ∃ v, grapevinelaw09_size m w = some (v, w) ∧ 1 ≤ v ∧ v ≤ 8 ∧ v = 1 + (m % 18446744073709551616) % 8 := by
  refine ⟨1 + (m % 18446744073709551616) % 8, ?_, by omega, by omega, rfl⟩
  unfold grapevinelaw09_size
  have h1 : (m % 18446744073709551616).tmod 8 = (m % 18446744073709551616) % 8 := Int.tmod_eq_emod_of_nonneg (by omega)
  simp only [wrap_u64, rmI, show ¬ ((8 : Int) = 0) by omega, if_false, Option.bind_some, h1, IntKind.wrap_i64, Option.some.injEq, Prod.mk.injEq, and_true]
  omega
theorem play_ok (m : Int) (hs : Script n w l L ds) (hw : n ≤ w.heap.size) : ∃ w' x y D F G R v, grapevinelaw09_play m l w = some (some ⟨x, 0, none⟩, some ⟨y, 0, none⟩, true, w') ∧ Pair w' x y F G R D ∧ (∀ k, F k ∨ G k ∨ R k → w.heap.size ≤ k) ∧ (∀ S, Fr S w w') ∧
    D = (Dk.new v).run (ds.take 300) ∧ D.W.length ≤ 300 ∧ (v : Int) = 1 + (m % 18446744073709551616) % 8 := by
  obtain ⟨v, ev, v1, v8, vm⟩ := size_law (w := w) m
  obtain ⟨x, w1, e1, d1, f1, _⟩ := Disk.new (w := w) (m := v) v1 (by omega)
  obtain ⟨v', ev', _, _, vm'⟩ := size_law (w := w1) m
  have hv : v' = v := by rw [vm, vm']
  rw [hv] at ev'
  obtain ⟨y, w2, e2, d2, f2⟩ := RDisk.new (w := w1) (m := v) v1 (by omega)
  have z1 := (f1 (fun _ => False)).size
  have z2 := (f2 (fun _ => False)).size
  have hp : Pair w2 x y (fun k => w.heap.size ≤ k ∧ k < w1.heap.size) (fun k => w1.heap.size ≤ k ∧ k < w2.heap.size) (fun k => w1.heap.size ≤ k ∧ k < w2.heap.size) (Dk.new v.toNat) :=
    ⟨(d1.mono (G := fun k => w.heap.size ≤ k ∧ k < w1.heap.size) fun k hk h => ⟨h, hk⟩).fr (f2 (fun _ => False)) (fun _ _ h => h), d2.mono (fun k hk h => ⟨h, hk⟩) (fun k hk h => ⟨h, hk⟩), fun k h1 h2 => by omega, fun k hk => by omega⟩
  obtain ⟨w3, D3, e3, e3', F3, G3, R3, p3, t1, t2, t3, f3⟩ := script_loop (step := fun k w => grapevinelaw09_play_l1 l (some ⟨x, 0, none⟩) (some ⟨y, 0, none⟩) k w) (l := l) (L := L) (ds := ds) (n := n)
    (fun k w w1 a c h1 h2 h3 h4 h5 => by
      have g1 : decide ((k : Int) < (l.n : Int)) = true := by simp; omega
      have g2 : decide ((k : Int) < 300) = true := by simp; omega
      simp only [grapevinelaw09_play_l1, g1, g2, if_true, bind2_some, h3, Option.bind_some, h4, h5, Bool.not_true, Bool.false_eq_true, if_false]
      rw [wrap_nat (by omega)])
    (fun k w h => by
      by_cases g1 : (k : Int) < (l.n : Int)
      · have g2 : ¬ (k : Int) < 300 := by omega
        simp [grapevinelaw09_play_l1, g1, g2]
      · simp [grapevinelaw09_play_l1, g1])
    (min l.n 300) 0 (Dk.new v.toNat) _ _ _ w2 (by omega) hp (fun k hk => by omega) (by omega) ((hs.fr (f1 _)).fr (f2 _)) (by simp [Dk.new])
  simp only [Int.ofNat_zero, List.drop_zero] at e3 e3'
  have hD : D3 = (Dk.new v.toNat).run (ds.take 300) := by
    rw [e3']
    congr 1
    have hl : ds.length = l.n := by rw [hs.dn, hs.ln]
    rw [← hl, ← List.take_take]
    exact List.take_of_length_le (by rw [List.length_take]; exact Nat.min_le_right _ _)
  refine ⟨w3, x, y, D3, F3, G3, R3, v.toNat, ?_, p3, ?_, fun S => ?_, hD, ?_, by omega⟩
  · unfold grapevinelaw09_play
    rw [ev, bind2_some, e1, bind3_some, ev', bind2_some, e2, bind3_some]
    simp only [bne_self_eq_false, Bool.false_eq_true, if_false, Option.isNone_some, bind2_some]
    rw [e3, Option.bind_some]
    rfl
  · intro k hk
    rcases hk with hk | hk | hk
    · exact (t1 k hk).elim (fun h => h.1) (fun h => by omega)
    · exact (t2 k hk).elim (fun h => by omega) (fun h => by omega)
    · exact (t3 k hk).elim (fun h => by omega) (fun h => by omega)
  · exact ((f1 S).trans (f2 S)).trans_new f3 (fun k hk => .inr (by rcases hk.1 with h | h <;> omega))
  · rw [hD]
    have := run_W (ds.take 300) (Dk.new v.toNat)
    simp only [Dk.new, List.length_nil, List.length_take] at this ⊢
    omega
/-! ### same -/
theorem same_loop (h : Pair w x y F G R D) (hbd : D.W.length < 900000) :
    ∀ (m : Nat) (i : Int) (w : World), i + m = D.S.length + 1 → -1 ≤ i → Pair w x y F G R D → ∃ w', loopF (fun r : Int × World => grapevinelaw09_same_l1 (some ⟨y, 0, none⟩) (some ⟨x, 0, none⟩) r.1 r.2) (i, w) = some (.inl w') ∧ ∀ S, Fr S w w' := by
  have hn := h.x.wf.n
  intro m
  induction m with
  | zero =>
    intro i w hi _ h
    obtain ⟨s, e0, en⟩ := h.y.rd0
    refine ⟨w, loopF_done ?_, fun S => Fr.refl⟩
    have : decide (i ≤ (s.n : Int)) = false := by simp; omega
    simp only [grapevinelaw09_same_l1, Option.bind_some, add_mk, Nat.zero_add, e0, this, Bool.false_eq_true, if_false]
  | succ m ih =>
    intro i w hi hi1 h
    obtain ⟨s, e0, en⟩ := h.y.rd0
    have hle : decide (i ≤ (s.n : Int)) = true := by simp; omega
    obtain ⟨o1, w1, e1, r1⟩ := h.x.read (i := i) (by omega)
    have h1 := h.all r1.fr
    obtain ⟨o2, w2, e2, r2⟩ := h1.y.read (i := i) (by omega)
    have h2 := h1.all r2.fr
    obtain ⟨o3, w3, e3, r3⟩ := h2.x.sure (i := i)
    have h3 := h2.all r3.fr
    obtain ⟨o4, w4, e4, r4⟩ := h3.y.sure (i := i)
    have h4 := h3.all r4.fr
    have nf : ∀ k : Nat, (fun _ : Nat => False) k → ¬ (fun _ : Nat => False) k := fun _ h => h.elim
    have b1 : b2s o1 w4 = some (strOfNums (D.read i).1) := b2s_Rd (((r1.rd.fr (r2.fr (fun _ => False)) (fun _ _ _ h => h)).fr (r3.fr (fun _ => False)) (fun _ _ _ h => h)).fr (r4.fr (fun _ => False)) (fun _ _ _ h => h))
    have b2 : b2s o2 w4 = some (strOfNums (D.read i).1) := b2s_Rd ((r2.rd.fr (r3.fr (fun _ => False)) (fun _ _ _ h => h)).fr (r4.fr (fun _ => False)) (fun _ _ _ h => h))
    have b3 : b2s o3 w4 = some (strOfNums (D.sure i).1) := b2s_Rd (r3.rd.fr (r4.fr (fun _ => False)) (fun _ _ _ h => h))
    have b4 : b2s o4 w4 = some (strOfNums (D.sure i).1) := b2s_Rd r4.rd
    obtain ⟨w', e', f'⟩ := ih (i + 1) w4 (by omega) (by omega) h4
    refine ⟨w', ?_, fun S => ((((r1.fr S).trans (r2.fr S)).trans (r3.fr S)).trans (r4.fr S)).trans (f' S)⟩
    rw [← e']
    have hwr : IntKind.wrap .i64 (i + 1) = i + 1 := by rw [IntKind.wrap_i64]; omega
    rw [← hwr]
    refine loopF_next ?_
    unfold grapevinelaw09_same_l1
    rw [Option.bind_some, add_mk, Nat.zero_add, e0, Option.bind_some, if_pos hle, e1, bind3_some, e2, bind3_some, e3, bind3_some, e4, bind3_some, b1, Option.bind_some, b2, Option.bind_some, sEq_self]
    simp only [Bool.not_true, Bool.false_eq_true, if_false, bne_self_eq_false, b3, Option.bind_some, b4, sEq_self, bind2_some]
theorem same_ok (h : Pair w x y F G R D) (hbd : D.W.length < 900000) : ∃ w', grapevinelaw09_same (some ⟨x, 0, none⟩) (some ⟨y, 0, none⟩) w = some (true, w') ∧ ∀ S, Fr S w w' := by
  obtain ⟨w1, e1, _, g1, _, _⟩ := dr_s (w := w)
  have f1 : ∀ S, Fr S w w1 := fun S => (g1 w.heap.size S).fr
  have h1 := h.all f1
  obtain ⟨s0, l0, m0⟩ := h1.y.rd0
  obtain ⟨s1, l1, m1⟩ := h1.y.rd1
  have l3 := h1.y.rd3
  have l4 := h1.y.rd4
  obtain ⟨w', e', f'⟩ := same_loop h1 hbd (D.S.length + 2) (-1) w1 (by omega) (by omega) h1
  refine ⟨w', ?_, fun S => (f1 S).trans (f' S)⟩
  unfold grapevinelaw09_same
  simp only [e1, Option.bind_some, h1.x.downs, bind2_some, add_mk, Nat.zero_add, l3, bne_self_eq_false, Bool.false_eq_true, if_false, h1.x.waits, l1, m1, h1.x.size, l0, m0, h1.x.ages, l4, chk_pos]
  rw [e', Option.bind_some]
  rfl
end
end Go.Proofs.Ytoanmomopcaikaa.D
