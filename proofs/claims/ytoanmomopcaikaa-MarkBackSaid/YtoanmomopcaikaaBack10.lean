/- MarkBack: the walk, over the plain law. -/
import Derived.Test.YtoanmomopcaikaaMark10
import Derived.Test.YtoanmomopcaikaaOpen10
import Derived.Test.YtoanmomopcaikaaFnB
namespace Go.Proofs.Ytoanmomopcaikaa.D
open Go
set_option linter.unusedVariables false
set_option linter.unusedSimpArgs false
theorem Ex.next {S R : Type} {step : S → Option (S ⊕ R)} {s s' : S} {Φ : R → Prop} (e : step s = some (.inl s')) (h : Ex (loopF step s') Φ) : Ex (loopF step s) Φ := by rw [loopF_next e]; exact h
theorem Ex.done {S R : Type} {step : S → Option (S ⊕ R)} {s : S} {r : R} {Φ : R → Prop} (e : step s = some (.inr r)) (h : Φ r) : Ex (loopF step s) Φ := ⟨r, loopF_done e, h⟩
section
variable {F F0 : Nat → Prop} {g g' g0 : Gh} {w w' w0 : World} {L : List Rs} {p x y c e a b : Nat} {D D' : Dk} {ws hs : List Value} {L' : Rs} {z : Int} {t : Bool}
theorem ixA_3 {k : Nat} (hk : k < 3) : ixA ⟨a, 0, none⟩ (k : Int) 3 1 = some ⟨a, k, none⟩ := by
  unfold ixA
  rw [if_pos (by omega)]
  simp [add_mk]
theorem back1 (H : Hp F0 g0 w0 g w [bxR a ws 71, bxR b hs 72, dkR x D, bxR p (prC x c y e) 75, rdR y D]) (hc : Cp g w c x 1 3) (hb : D.Bt) (hW : D.W.length < 900000) (h1 : ws.length = 3) (h2 : hs.length = 3) {k : Nat} (hk : k < 3) :
    ∃ w', grapevinelaw10_MarkBack_l1 (some ⟨p, 0, none⟩) ⟨a, 0, none⟩ ⟨b, 0, none⟩ (k : Int) w = some (.inl (((k + 1 : Nat) : Int), w')) ∧ Hp F0 g0 w0 g w' [bxR a (ws.set k (.int .i64 (D.get 1 3 k).1)) 71, bxR b (hs.set k (.bool (D.get 1 3 k).2)) 72, dkR x D, bxR p (prC x c y e) 75, rdR y D] ∧ Mo g w g w' := by
  obtain ⟨w1, e1, H1, m1⟩ := H.m2.mget hc hb hW k
  obtain ⟨w2, e2, H2, m2⟩ := H1.sw.stV (o := k) (x := .int .i64 (D.get 1 3 k).1) (by omega) rfl
  obtain ⟨w3, e3, H3, m3⟩ := H2.m2.stV (o := k) (x := .bool (D.get 1 3 k).2) (by omega) rfl
  refine ⟨w3, ?_, H3.sw, m1.t (m2.t m3)⟩
  unfold grapevinelaw10_MarkBack_l1
  have hp : ldP w ⟨p, 1, none⟩ = some (some ⟨c, 0, none⟩) := ldP_B H.m3.bx rfl
  rw [if_pos (by simp; omega), Option.bind_some, add_mk, hp, Option.bind_some, e1, bind3_some, ixA_3 hk, Option.bind_some, e2, Option.bind_some, ixA_3 hk, Option.bind_some, e3, Option.bind_some, wrap_nat (by omega)]
theorem back2 (H : Hp F0 g0 w0 g w [bxR a ws 71, bxR b hs 72, dkR x D, bxR p (prC x c y e) 75, L']) (hc : Cp g w c x 1 3) (hb : D.Bt) (hW : D.W.length < 900000) {k : Nat} (hk : k < 3) {i : Int}
    (h1 : ws[k]? = some (.int .i64 z)) (h2 : hs[k]? = some (.bool t)) (hs' : (k : Int) ≠ i → D.get 1 3 k = (z, t)) :
    ∃ w', grapevinelaw10_MarkBack_l2 (some ⟨p, 0, none⟩) i ⟨a, 0, none⟩ ⟨b, 0, none⟩ (k : Int) w = some (.inl (((k + 1 : Nat) : Int), w')) ∧ Hp F0 g0 w0 g w' [bxR a ws 71, bxR b hs 72, dkR x D, bxR p (prC x c y e) 75, L'] ∧ Mo g w g w' := by
  obtain ⟨w1, e1, H1, m1⟩ := H.m2.mget hc hb hW k
  refine ⟨w1, ?_, H1.b2, m1⟩
  unfold grapevinelaw10_MarkBack_l2
  have hp : ldP w ⟨p, 1, none⟩ = some (some ⟨c, 0, none⟩) := ldP_B H.m3.bx rfl
  rw [if_pos (by simp; omega), Option.bind_some, add_mk, hp, Option.bind_some, e1, bind3_some]
  by_cases hi : (k : Int) = i
  · rw [if_neg (by simpa using hi), bind2_some, if_neg (by simp), wrap_nat (by omega)]
  · have hg := hs' hi
    rw [if_pos (by simpa using hi), ixA_3 hk, Option.bind_some, ldI_B H1.sw.bx h1, Option.bind_some, hg, if_neg (by simp), ixA_3 hk, Option.bind_some, ldB_B H1.m2.bx h2, Option.bind_some]
    simp only [bne_self_eq_false, bind2_some, Bool.false_eq_true, if_false]
    rw [wrap_nat (by omega)]
end
theorem MarkBack_law {w : World} (l : Sl) (ds : List Dm) (hs : PL dmR 5 (old w) w l ds) (i : Int) (_ : (Lit.int .i64 i).wf = true) (v : Int) (_ : (Lit.int .i64 v).wf = true) : ∃ w', grapevinelaw10_MarkBack l i v w = some (true, w') ∧ Fr (fun k => w.heap.size ≤ k) w w' := by
  have key : Ex (grapevinelaw10_MarkBack l i v w) fun r => r.1 = true ∧ Fr (fun k => w.heap.size ≤ k) w r.2 := by
    unfold grapevinelaw10_MarkBack
    refine Ex.j3 (pplay (F0 := fun _ => False) (Hp.beg (old_lt w)) hs) ?_
    rintro a0 b0 w1 ⟨p, g1, x, c, y, e, rfl, rfl, m1, D, hD, h1, hW⟩
    simp only at h1 m1 ⊢
    rw [if_neg (by simp)]
    obtain ⟨a, w2, e2, H2, m2⟩ := h1.H.box (T := 71) (cs := [.int .i64 0, .int .i64 0, .int .i64 0])
    obtain ⟨b, w3, e3, H3, m3⟩ := H2.box (T := 72) (cs := [.bool false, .bool false, .bool false])
    obtain ⟨w4, e4, H4, m4⟩ := H3.sw.stA (o := 0) (vs := [.int .i64 0, .int .i64 0, .int .i64 0]) (by simp) (by intro v hv; simp at hv; subst hv; rfl)
    obtain ⟨w5, e5, H5, m5⟩ := H4.sw.stA (o := 0) (vs := [.bool false, .bool false, .bool false]) (by simp) (by intro v hv; simp at hv; subst hv; rfl)
    refine Ex.b2 e2 (Ex.b2 e3 (Ex.b1 e4 (Ex.b1 e5 ?_)))
    have mc := m2.t (m3.t (m4.t m5))
    have H5' : Hp (fun _ => False) (old w) w g1 w5 [bxR a [.int .i64 0, .int .i64 0, .int .i64 0] 71, bxR b [.bool false, .bool false, .bool false] 72, dkR x D, bxR p (prC x c y e) 75, rdR y D] := H5.sw.m3.b2
    obtain ⟨w6, e6, H6, m6⟩ := back1 H5' (h1.c.mo mc) h1.bt (by omega) rfl rfl (k := 0) (by omega)
    obtain ⟨w7, e7, H7, m7⟩ := back1 H6 (h1.c.mo (mc.t m6)) h1.bt (by omega) rfl rfl (k := 1) (by omega)
    obtain ⟨w8, e8, H8, m8⟩ := back1 H7 (h1.c.mo (mc.t (m6.t m7))) h1.bt (by omega) rfl rfl (k := 2) (by omega)
    have c8 := h1.c.mo (mc.t (m6.t (m7.t m8)))
    refine Ex.j1 (Ψ := fun w' => w' = w8) ?_ ?_
    · refine Ex.next (s' := (((0 + 1 : Nat) : Int), w6)) e6 (Ex.next (s' := (((1 + 1 : Nat) : Int), w7)) e7 (Ex.next (s' := (((2 + 1 : Nat) : Int), w8)) e8 (Ex.done (r := w8) ?_ rfl)))
      simp only [grapevinelaw10_MarkBack_l1]; rfl
    rintro w' rfl
    obtain ⟨w9, e9, H9, m9⟩ := H8.m2.mput c8 h1.bt (by omega) (by rw [h1.n]; decide) i v
    have hp8 : ldP w' ⟨p, 1, none⟩ = some (some ⟨c, 0, none⟩) := ldP_B H8.m3.bx rfl
    have hp9 : ldP w9 ⟨p, 1, none⟩ = some (some ⟨c, 0, none⟩) := ldP_B H9.m3.bx rfl
    have c9 := c8.mo m9
    refine Ex.s1 (Ex.b1 hp8 (Ex.b2 e9 ?_))
    by_cases he' : ¬ (D.put 1 3 i v).1 = 0
    · have he := he'
      obtain ⟨w10, e10, f10⟩ := live10_ok (w := w9)
      exact Ex.t (by simpa using he) (Ex.b2 e10 (Ex.ret ⟨rfl, (H9.old f10).fin⟩))
    have he : (D.put 1 3 i v).1 = 0 := Decidable.not_not.1 he'
    obtain ⟨hback, hoth⟩ := put_back h1.H.sw.dwf h1.n he
    obtain ⟨_, i0, i1, v0, v1, _⟩ := put_ok_is h1.H.sw.dwf h1.n he
    obtain ⟨D', hD'⟩ : ∃ D', (D.put 1 3 i v).2 = D' := ⟨_, rfl⟩
    have hbt' : D'.Bt := hD' ▸ h1.bt.put 1 3 i v
    have hW' : D'.W.length < 900000 := by have := put_W D 1 3 i v; rw [hD'] at this; omega
    rw [hD'] at H9 hback hoth
    obtain ⟨w10, e10, H10, m10⟩ := H9.mget c9 hbt' hW' i
    refine Ex.f (by simp [he]) (Ex.b1 hp9 (Ex.b3 e10 ?_))
    have H10' := H10.b2
    have gk : ∀ k : Nat, (k : Int) < 3 → (k : Int) ≠ i → D'.get 1 3 k = ((D.get 1 3 k).1, (D.get 1 3 k).2) := fun k hk hi => hoth k (by omega) hk hi
    obtain ⟨w11, e11, H11, m11⟩ := back2 H10' (c9.mo m10) hbt' hW' (k := 0) (by omega) (i := i) rfl rfl (gk 0 (by decide))
    obtain ⟨w12, e12, H12, m12⟩ := back2 H11 (c9.mo (m10.t m11)) hbt' hW' (k := 1) (by omega) (i := i) rfl rfl (gk 1 (by decide))
    obtain ⟨w13, e13, H13, m13⟩ := back2 H12 (c9.mo (m10.t (m11.t m12))) hbt' hW' (k := 2) (by omega) (i := i) rfl rfl (gk 2 (by decide))
    refine Ex.j1 (Ψ := fun r => r = .inl w13) ?_ ?_
    · refine Ex.next (s' := (((0 + 1 : Nat) : Int), w11)) e11 (Ex.next (s' := (((1 + 1 : Nat) : Int), w12)) e12 (Ex.next (s' := (((2 + 1 : Nat) : Int), w13)) e13 (Ex.done (r := .inl w13) ?_ rfl)))
      simp only [grapevinelaw10_MarkBack_l2]; rfl
    rintro r rfl
    simp only [Sum.elim_inl, u1]
    obtain ⟨w14, e14, f14⟩ := live10_ok (w := w13)
    refine Ex.b2 (a := true) (b := w14) ?_ (Ex.ret ⟨rfl, (H13.old f14).fin⟩)
    rw [e14, bind2_some, if_pos rfl, hback, if_pos rfl, if_pos (by simp), if_pos (by simpa using i0), if_pos (by simpa using i1), if_pos (by simpa using v0), decide_eq_true v1]
  obtain ⟨⟨r, w'⟩, e, rfl, f⟩ := key
  exact ⟨w', e, f⟩
end Go.Proofs.Ytoanmomopcaikaa.D
