/- SectorAll: a crash that keeps all is a sync; one without fates leaves what was sure. -/
import Derived.Test.YtoanmomopcaikaaLaws9
namespace Go.Proofs.Ytoanmomopcaikaa.D
open Go
set_option linter.unusedVariables false
set_option linter.unusedSimpArgs false
theorem st35 : ST Try.prog 35 3 1 8 [.int .i64 0] := ⟨Try.underlying35, ⟨Try.t3, .int .i64 0, by kernel_rfl, by kernel_rfl, rfl, rfl, rfl⟩, rfl, by decide, by decide⟩
section
variable {w w' : World} {p x y n : Nat} {F G R S : Nat → Prop} {D : Dk} {l : Sl} {L : List (List Value)} {ds : List Dd}
/-! ### The plain law -/
theorem fate_one {k m : Nat} (h : k < m) : (fate (List.replicate m 1) k).tmod 3 = 1 := by
  have : fate (List.replicate m 1) k = 1 := by
    unfold fate
    rw [if_pos (by simpa using h)]
    have : (List.replicate m (1 : Int)).getD k 0 = 1 := by rw [List.getD_eq_getElem?_getD, List.getElem?_replicate]; simp [h]
    rw [this]; rfl
  rw [this]; rfl
theorem crash_ones {m : Nat} : ∀ (W : List (Int × List Int)) (k : Nat) (S : List (List Int)), k + W.length ≤ m → crashS (List.replicate m 1) k W S = W.foldl (fun S x => putS S x 64) S
  | [], _, _, _ => rfl
  | x :: W, k, S, h => by
    simp only [List.length_cons] at h
    simp only [crashS, List.foldl_cons]
    have : crash1 (List.replicate m 1) k S x = putS S x 64 := by unfold crash1; rw [if_pos (fate_one (by omega))]
    rw [this]
    exact crash_ones W (k + 1) _ (by omega)
theorem crash_none : ∀ (W : List (Int × List Int)) (k : Nat) (S : List (List Int)), crashS [] k W S = S
  | [], _, _ => rfl
  | x :: W, k, S => by
    simp only [crashS]
    have : crash1 [] k S x = S := by simp [crash1, fate]
    rw [this]
    exact crash_none W (k + 1) S
theorem put_get {S : List (List Int)} {x : Int × List Int} {i : Nat} (hx : x.2.length = 64) (hS : ∀ s ∈ S, s.length = 64) (hi : i < S.length) (hxS : 0 ≤ x.1 ∧ x.1 < S.length) :
    (putS S x 64).getD i [] = if x.1 = (i : Int) then x.2 else S.getD i [] := by
  unfold putS
  rw [List.getD_eq_getElem?_getD]
  by_cases h : x.1 = (i : Int)
  · rw [if_pos h, show x.1.toNat = i by omega, List.getElem?_set_self hi]
    have hl : (S.getD i []).length = 64 := by
      rw [List.getD_eq_getElem?_getD, List.getElem?_eq_getElem hi]; exact hS _ (List.getElem_mem hi)
    simp only [Option.getD_some]
    rw [List.take_of_length_le (by omega), List.drop_of_length_le (by omega), List.append_nil]
  · rw [if_neg h, List.getElem?_set_ne (by omega), ← List.getD_eq_getElem?_getD]
theorem fold_get {i : Nat} : ∀ (W : List (Int × List Int)) (S : List (List Int)), (∀ x ∈ W, x.2.length = 64 ∧ 0 ≤ x.1 ∧ x.1 < S.length) → (∀ s ∈ S, s.length = 64) → i < S.length →
    (W.foldl (fun S x => putS S x 64) S).getD i [] = W.foldl (fun b x => if x.1 = (i : Int) then x.2 else b) (S.getD i [])
  | [], _, _, _, _ => rfl
  | x :: W, S, hx, hS, hi => by
    have h0 := hx x (by simp)
    simp only [List.foldl_cons]
    rw [fold_get W (putS S x 64) (fun y hy => by rw [putS_length]; exact hx y (by simp [hy])) (putS_64 hS h0.1 (Nat.le_refl _) (by omega)) (by rw [putS_length]; exact hi), put_get h0.1 hS hi h0.2]
theorem crash_all (h : D.Wf) {i : Nat} (hi : i < D.S.length) : ((D.crash (List.replicate D.W.length 1)).read i) = (D.cur i, 0) := by
  have hk := crashS_keep (fs := List.replicate D.W.length 1) D.W 0 D.S (fun x hx => ⟨h.w64 x hx, h.wat x hx⟩) h.s64
  unfold Dk.read
  have hb : (D.crash (List.replicate D.W.length 1)).bad (i : Int) = false := by simp only [Dk.bad, Dk.crash, hk.1]; simp; omega
  rw [hb]
  simp only [Dk.crash, Bool.false_eq_true, if_false, Dk.cur, List.foldl_nil, Int.toNat_natCast]
  rw [crash_ones D.W 0 D.S (by omega), fold_get D.W D.S (fun x hx => ⟨h.w64 x hx, h.wat x hx⟩) h.s64 hi]
theorem crash_sure (h : D.Wf) {i : Nat} (hi : i < D.S.length) : ((D.crash []).read i) = ((D.sure i).1, 0) := by
  unfold Dk.read Dk.sure
  have hb : (D.crash []).bad (i : Int) = false := by simp only [Dk.bad, Dk.crash, crash_none]; simp; omega
  have hb' : D.bad (i : Int) = false := by simp only [Dk.bad]; simp; omega
  rw [hb, hb']
  simp [Dk.crash, crash_none, Dk.cur]
/-! ### The fates -/
theorem ones_loop :
    ∀ (d k : Nat) (s : Sl) (w : World), k + d = D.W.length → D.W.length < 900000 → Disk w x F D → Own w 3 s 1 (nums .i64 (List.replicate k 1)) → (∀ j, s.blk j → n ≤ j) → n ≤ w.heap.size → (∀ j, F j → ¬ s.blk j) → (∀ j, F j → j < w.heap.size) →
      ∃ w' s', loopF (fun r : Sl × Int × World => grapevinelaw09_SectorAll_l1 (some ⟨x, 0, none⟩) r.1 r.2.1 r.2.2) (s, (k : Int), w) = some (s', w') ∧ Own w' 3 s' 1 (nums .i64 (List.replicate D.W.length 1)) ∧ (∀ j, s'.blk j → n ≤ j) ∧ (∀ j, F j → ¬ s'.blk j) ∧ Fr (fun j => s.blk j) w w' := by
  intro d
  induction d with
  | zero =>
    intro k s w hk hbd h ho hn hw hF hl
    have : k = D.W.length := by omega
    subst this
    refine ⟨w, s, loopF_done ?_, ho, hn, hF, Fr.refl⟩
    simp [grapevinelaw09_SectorAll_l1, h.waits]
  | succ d ih =>
    intro k s w hk hbd h ho hn hw hF hl
    have hsn : s.n = k := by have := ho.len; simp at this; omega
    obtain ⟨w1, e1, n1⟩ := bsl_s (w := w) (T := 3) (sz := 1) (ps := [[.int .i64 1]]) (by simp)
    have f1 : ∀ S, Fr S w w1 := fun S => (n1.fr _ S (Nat.le_refl _)).fr
    have o1 : Own w1 3 ⟨some ⟨w.heap.size, 0, none⟩, 1, 1⟩ 1 [.int .i64 1] := Own.of_new (w := w) (by simpa using n1) rfl (by omega)
    obtain ⟨s', w2, e2, o2, f2, n2, k2⟩ := apS_own st35 (ho.fr (f1 (fun _ => False)) (fun _ _ h => h)) o1.rd (by intro v hv; simp at hv; subst hv; rfl) (by rw [hsn]; simp only; omega)
    have z1 := n1.size
    have h2 : Disk w2 x F D := (h.fr (f1 (fun _ => False)) (fun _ _ h => h)).fr f2 hF
    have e3 : nums .i64 (List.replicate k 1) ++ [Value.int .i64 1] = nums .i64 (List.replicate (k + 1) 1) := by
      rw [List.replicate_succ']; simp [nums]
    rw [e3] at o2
    have hF2 : ∀ j, F j → ¬ s'.blk j := fun j hj hs => (k2 j hs).elim (hF j hj) (fun h => by have := hl j hj; omega)
    obtain ⟨w3, s3, e4, o4, hn4, hF4, f4⟩ := ih (k + 1) s' w2 (by omega) hbd h2 o2 (fun j hj => (k2 j hj).elim (hn j) (fun h => by omega)) (by have := f2.size; omega) hF2 (fun j hj => by have := hl j hj; have := f2.size; omega)
    refine ⟨w3, s3, ?_, o4, hn4, hF4, ((f1 _).trans f2).trans_new f4 (fun j hj => (k2 j hj).elim .inl (fun h => .inr (by omega)))⟩
    rw [← e4]
    refine loopF_next ?_
    have hlt : decide ((k : Int) < (D.W.length : Int)) = true := by simp; omega
    unfold grapevinelaw09_SectorAll_l1
    rw [h.waits, bind2_some, if_pos hlt, e1, bind2_some]
    simp only [List.length_cons, List.length_nil, Nat.zero_add]
    rw [e2, bind2_some, wrap_nat (by omega)]
theorem all_loop {q1 q2 : Nat} {F1 F2 : Nat → Prop} (hbd : D.W.length < 900000) :
    ∀ (m k : Nat) (w : World), k + m = D.S.length → Disk w x F D → Disk w q1 F1 (D.crash (List.replicate D.W.length 1)) → Disk w q2 F2 (D.crash []) →
      ∃ w', loopF (fun r : Int × World => grapevinelaw09_SectorAll_l2 (some ⟨x, 0, none⟩) (some ⟨q2, 0, none⟩) (some ⟨q1, 0, none⟩) r.1 r.2) ((k : Int), w) = some (.inl w') ∧ ∀ S, Fr S w w' := by
  intro m
  induction m with
  | zero =>
    intro k w hk h h1 h2
    have : D.S.length = k := by omega
    refine ⟨w, loopF_done ?_, fun S => Fr.refl⟩
    simp [grapevinelaw09_SectorAll_l2, h.size, this]
  | succ m ih =>
    intro k w hk h h1 h2
    have hkS : k < D.S.length := by omega
    have hn := h.wf.n
    have hlt : decide ((k : Int) < (D.S.length : Int)) = true := by simp; omega
    obtain ⟨o1, w1, e1, r1⟩ := h.sure (i := (k : Int))
    have g1 := h.fr (r1.fr (fun _ => False)) (fun _ _ h => h)
    have g11 := h1.fr (r1.fr (fun _ => False)) (fun _ _ h => h)
    have g12 := h2.fr (r1.fr (fun _ => False)) (fun _ _ h => h)
    obtain ⟨o2, w2, e2, r2⟩ := g12.read (i := (k : Int)) (by simp [Dk.crash])
    rw [crash_sure h.wf hkS] at e2 r2
    have i1 := g1.fr (r2.fr (fun _ => False)) (fun _ _ h => h)
    have i11 := g11.fr (r2.fr (fun _ => False)) (fun _ _ h => h)
    have i12 := g12.fr (r2.fr (fun _ => False)) (fun _ _ h => h)
    obtain ⟨o3, w3, e3, r3⟩ := i11.read (i := (k : Int)) (by simp [Dk.crash])
    rw [crash_all h.wf hkS] at e3 r3
    have j1 := i1.fr (r3.fr (fun _ => False)) (fun _ _ h => h)
    have j11 := i11.fr (r3.fr (fun _ => False)) (fun _ _ h => h)
    have j12 := i12.fr (r3.fr (fun _ => False)) (fun _ _ h => h)
    have b1 : b2s o1 w3 = some (strOfNums (D.sure k).1) := b2s_Rd ((r1.rd.fr (r2.fr (fun _ => False)) (fun _ _ _ h => h)).fr (r3.fr (fun _ => False)) (fun _ _ _ h => h))
    have b2 : b2s o2 w3 = some (strOfNums (D.sure k).1) := b2s_Rd (r2.rd.fr (r3.fr (fun _ => False)) (fun _ _ _ h => h))
    have b3 : b2s o3 w3 = some (strOfNums (D.cur k)) := b2s_Rd r3.rd
    have f3 : ∀ S, Fr S w w3 := fun S => ((r1.fr S).trans (r2.fr S)).trans (r3.fr S)
    by_cases hd : D.down = true
    · obtain ⟨w', e', f'⟩ := ih (k + 1) w3 (by omega) j1 j11 j12
      refine ⟨w', ?_, fun S => (f3 S).trans (f' S)⟩
      rw [← e', ← wrap_nat (show k < 9223372036854775807 by omega)]
      refine loopF_next ?_
      unfold grapevinelaw09_SectorAll_l2
      rw [h.size, bind2_some, if_pos hlt, e1, bind3_some, e2, bind3_some, e3, bind3_some]
      simp only [bne_self_eq_false, Bool.false_eq_true, if_false, b1, b2, Option.bind_some, sEq_self, Bool.not_true, bind2_some, j1.downs, hd, bindX_inr, u1]
    · have hd' : D.down = false := by simpa using hd
      have hr : D.read (k : Int) = (D.cur k, 0) := by
        unfold Dk.read
        have hb : D.bad (k : Int) = false := by simp only [Dk.bad]; simp; omega
        simp only [hd', hb, Bool.false_eq_true, if_false]
      obtain ⟨o4, w4, e4, r4⟩ := j1.read (i := (k : Int)) (by omega)
      rw [hr] at e4 r4
      have b3' : b2s o3 w4 = some (strOfNums (D.cur k)) := b2s_Rd (r3.rd.fr (r4.fr (fun _ => False)) (fun _ _ _ h => h))
      have b4 : b2s o4 w4 = some (strOfNums (D.cur k)) := b2s_Rd r4.rd
      obtain ⟨w', e', f'⟩ := ih (k + 1) w4 (by omega) (j1.fr (r4.fr (fun _ => False)) (fun _ _ h => h)) (j11.fr (r4.fr (fun _ => False)) (fun _ _ h => h)) (j12.fr (r4.fr (fun _ => False)) (fun _ _ h => h))
      refine ⟨w', ?_, fun S => ((f3 S).trans (r4.fr S)).trans (f' S)⟩
      rw [← e', ← wrap_nat (show k < 9223372036854775807 by omega)]
      refine loopF_next ?_
      unfold grapevinelaw09_SectorAll_l2
      rw [h.size, bind2_some, if_pos hlt, e1, bind3_some, e2, bind3_some, e3, bind3_some]
      simp only [bne_self_eq_false, Bool.false_eq_true, if_false, b1, b2, Option.bind_some, sEq_self, Bool.not_true, bind2_some, j1.downs, hd', Bool.not_false, if_true, e4, bind3_some, b3', b4, bindX_inr, u1]
theorem SectorAll_law (l : Sl) (L : List (List Value)) (ds : List Dd) (hs : Script w.heap.size w l L ds) :
    ∃ w', grapevinelaw09_SectorAll l w = some (true, w') ∧ Fr (fun k => w.heap.size ≤ k) w w' := by
  obtain ⟨w1, x, y, D, F, G, R, v, e1, hp, hlo, f1, _, hbd, _⟩ := play_ok 5 hs (Nat.le_refl _)
  have z1 := (f1 (fun _ => False)).size
  obtain ⟨q1, w2, e2, d2, f2⟩ := hp.x.fork (by omega)
  have z2 := (f2 (fun _ => False)).size
  have x2 := hp.x.fr (f2 (fun _ => False)) (fun _ _ h => h)
  obtain ⟨q2, w3, e3, d3, f3⟩ := x2.fork (by omega)
  have z3 := (f3 (fun _ => False)).size
  have x3 := x2.fr (f3 (fun _ => False)) (fun _ _ h => h)
  have a3 : Disk w3 q1 (fun k => w1.heap.size ≤ k ∧ k < w2.heap.size) D := (d2.mono (G := fun k => w1.heap.size ≤ k ∧ k < w2.heap.size) fun k hk h => ⟨h, hk⟩).fr (f3 (fun _ => False)) (fun _ _ h => h)
  have b3 : Disk w3 q2 (fun k => w2.heap.size ≤ k ∧ k < w3.heap.size) D := d3.mono (G := fun k => w2.heap.size ≤ k ∧ k < w3.heap.size) fun k hk h => ⟨h, hk⟩
  have hFlt : ∀ k, F k → k < w1.heap.size := fun k hk => hp.lt k (.inl hk)
  obtain ⟨w4, s4, e4, o4, hn4, hF4, f4⟩ := ones_loop (n := w3.heap.size) D.W.length 0 Sl.nil w3 (by omega) (by omega) x3 Own.nil (fun j ⟨a, ha, _⟩ => by cases ha) (Nat.le_refl _) (fun j _ ⟨a, ha, _⟩ => by cases ha) (fun j hj => by have := hFlt j hj; omega)
  simp only [Int.ofNat_zero] at e4
  have f4 : ∀ S, Fr S w3 w4 := fun S => f4.mono (fun j ⟨a, ha, _⟩ => by cases ha)
  have z4 := (f4 (fun _ => False)).size
  have x4 := x3.fr (f4 (fun _ => False)) (fun _ _ h => h)
  have a4 := a3.fr (f4 (fun _ => False)) (fun _ _ h => h)
  have b4 := b3.fr (f4 (fun _ => False)) (fun _ _ h => h)
  obtain ⟨w5, e5, a5, f5⟩ := a4.crash (by omega) o4.rd (fun a ha _ hk => by have := hn4 a.block ⟨a, ha, rfl⟩; omega)
  have z5 := f5.size
  have x5 := x4.fr f5 (fun k hk hn => by have := hFlt k hk; omega)
  have b5 := b4.fr f5 (fun k hk hn => by omega)
  obtain ⟨w6, e6, b6, f6⟩ := b5.crash (f := Sl.nil) (fs := []) (by omega) (Rd.nil rfl) Out.nil
  have x6 := x5.fr f6 (fun k hk hn => by have := hFlt k hk; omega)
  have a6 := a5.fr f6 (fun k hk hn => by rcases hk with hk | hk <;> omega)
  obtain ⟨w7, e7, f7⟩ := all_loop (by omega) D.S.length 0 w6 (by omega) x6 a6 b6
  simp only [Int.ofNat_zero] at e7
  obtain ⟨w8, e8, f8⟩ := live_ok (w := w7)
  have a8 := (a6.fr (f7 (fun _ => False)) (fun _ _ h => h)).fr (f8 (fun _ => False)) (fun _ _ h => h)
  have b8 := (b6.fr (f7 (fun _ => False)) (fun _ _ h => h)).fr (f8 (fun _ => False)) (fun _ _ h => h)
  refine ⟨w8, ?_, (((((((f1 _).trans (f2 _)).trans (f3 _)).trans (f4 _)).trans (f5.mono fun k hk => .inl (by omega))).trans (f6.mono fun k hk => .inl (by omega))).trans (f7 _)).trans (f8 _)⟩
  unfold grapevinelaw09_SectorAll
  rw [e1, bind4_some]
  simp only [Bool.not_true, Bool.false_eq_true, if_false]
  rw [e2, bind2_some, e3, bind2_some, e4, bind2_some, e5, bind2_some, e6, bind2_some, e7, Option.bind_some]
  simp only [Sum.elim_inl, u1]
  rw [e8, bind2_some, if_pos rfl, a8.waits, bind2_some]
  simp only [Dk.crash, List.length_nil, Int.ofNat_zero, beq_self_eq_true, if_true]
  rw [b8.waits, bind2_some]
  simp only [Dk.crash, List.length_nil, Int.ofNat_zero, beq_self_eq_true, if_true]
  rw [a8.downs, bind2_some]
  rfl
end
end Go.Proofs.Ytoanmomopcaikaa.D
