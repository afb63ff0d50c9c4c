/- The laws of chapter 9 that play scripts. -/
import Derived.Test.YtoanmomopcaikaaScript
namespace Go.Proofs.Ytoanmomopcaikaa.D
open Go
set_option linter.unusedVariables false
set_option linter.unusedSimpArgs false
section
variable {w w' : World} {p x y n : Nat} {F G R S : Nat → Prop} {D : Dk} {l : Sl} {L : List (List Value)} {ds : List Dd}
theorem SectorPlays_law (m : Int) (_ : (Lit.int .i64 m).wf = true) (l : Sl) (L : List (List Value)) (ds : List Dd) (hs : Script w.heap.size w l L ds) :
    ∃ w', grapevinelaw09_SectorPlays m l w = some (true, w') ∧ Fr (fun k => w.heap.size ≤ k) w w' := by
  obtain ⟨w1, x, y, D, F, G, R, v, e1, hp, hlo, f1, _, hbd, _⟩ := play_ok m hs (Nat.le_refl _)
  obtain ⟨w2, e2, f2⟩ := live_ok (w := w1)
  obtain ⟨w3, e3, f3⟩ := same_ok (hp.all f2) (by omega)
  refine ⟨w3, ?_, ((f1 _).trans (f2 _)).trans (f3 _)⟩
  unfold grapevinelaw09_SectorPlays
  rw [e1, bind4_some, e2, bind2_some, if_pos rfl, if_pos rfl, e3, bind2_some, bind2_some]
theorem SectorForks_law (l : Sl) (L : List (List Value)) (ds : List Dd) (hs : Script w.heap.size w l L ds) (l' : Sl) (L' : List (List Value)) (ds' : List Dd) (hs' : Script w.heap.size w l' L' ds') :
    ∃ w', grapevinelaw09_SectorForks l l' w = some (true, w') ∧ Fr (fun k => w.heap.size ≤ k) w w' := by
  obtain ⟨w1, x, y, D, F, G, R, v, e1, hp, hlo, f1, _, hbd, _⟩ := play_ok 6 hs (Nat.le_refl _)
  have z1 := (f1 (fun _ => False)).size
  obtain ⟨f, w2, e2, d2, f2⟩ := hp.x.fork (by omega)
  have z2 := (f2 (fun _ => False)).size
  have hp2 := hp.all f2
  obtain ⟨g, w3, e3, d3, f3⟩ := hp2.y.fork (by omega)
  have z3 := (f3 (fun _ => False)).size
  have hp3 := hp2.all f3
  have hq : Pair w3 f g (fun k => w1.heap.size ≤ k ∧ k < w2.heap.size) (fun k => w2.heap.size ≤ k ∧ k < w3.heap.size) R D :=
    ⟨(d2.mono (G := fun k => w1.heap.size ≤ k ∧ k < w2.heap.size) fun k hk h => ⟨h, hk⟩).fr (f3 (fun _ => False)) (fun _ _ h => h), d3.mono (fun k hk h => ⟨h, hk⟩) (fun k _ h => h), fun k h1 h2 => by omega, fun k hk => by
      rcases hk with h | h | h
      · omega
      · omega
      · have := hp.lt k (.inr (.inr h)); omega⟩
  obtain ⟨w4, D4, e4, _, F4, G4, R4, p4, t1, t2, t3, f4⟩ := script_loop (step := fun k w => grapevinelaw09_SectorForks_l1 l' (some ⟨f, 0, none⟩) (some ⟨g, 0, none⟩) k w) (l := l') (L := L') (ds := ds') (n := w.heap.size)
    (fun k w w1 a c h1 h2 h3 h4 h5 => by
      have g1 : decide ((k : Int) < (l'.n : Int)) = true := by simp; omega
      have g2 : decide ((k : Int) < 300) = true := by simp; omega
      simp only [grapevinelaw09_SectorForks_l1, g1, g2, if_true, bind2_some, h3, Option.bind_some, h4, h5, Bool.not_true, Bool.false_eq_true, if_false]
      rw [wrap_nat (by omega)])
    (fun k w h => by
      by_cases g1 : (k : Int) < (l'.n : Int)
      · have g2 : ¬ (k : Int) < 300 := by omega
        simp [grapevinelaw09_SectorForks_l1, g1, g2]
      · simp [grapevinelaw09_SectorForks_l1, g1])
    (min l'.n 300) 0 D _ _ _ w3 (by omega) hq (fun k hk => by omega) (by omega) (((hs'.fr (f1 _)).fr (f2 _)).fr (f3 _)) (by omega)
  simp only [Int.ofNat_zero] at e4
  have hp4 : Pair w4 x y F G R D := hp3.fr f4 (fun k hk hn => by
    have : k < w1.heap.size := hp.lt k (hk.elim .inl (fun h => .inr (.inl h)))
    rcases hn.1 with h | h <;> omega) (fun k _ hb hn => hn.2 hb)
  obtain ⟨w5, e5, f5⟩ := live_ok (w := w4)
  obtain ⟨w6, e6, f6⟩ := same_ok (hp4.all f5) (by omega)
  have hbd4 : D4.W.length < 900000 := by
    have := run_W ((ds'.drop 0).take (min l'.n 300)) D
    have h4 : ((ds'.drop 0).take (min l'.n 300)).length ≤ 300 := by rw [List.length_take]; omega
    subst D4
    omega
  obtain ⟨w7, e7, f7⟩ := same_ok ((p4.all f5).all f6) hbd4
  refine ⟨w7, ?_, ((((((f1 _).trans (f2 _)).trans (f3 _)).trans (f4.mono fun k hk => .inl (by rcases hk.1 with h | h <;> omega))).trans (f5 _)).trans (f6 _)).trans (f7 _)⟩
  unfold grapevinelaw09_SectorForks
  rw [e1, bind4_some]
  simp only [Bool.not_true, Bool.false_eq_true, if_false]
  rw [e2, bind2_some, e3, bind2_some, e4, Option.bind_some]
  simp only [Sum.elim_inl, u1]
  rw [e5, bind2_some, if_pos rfl, e6, bind2_some, if_pos rfl, e7, bind2_some, bind2_some]
end
end Go.Proofs.Ytoanmomopcaikaa.D
