/- MarkLasts: the walk. -/
import Derived.Test.YtoanmomopcaikaaTorn10
namespace Go.Proofs.Ytoanmomopcaikaa.D
open Go
set_option linter.unusedVariables false
set_option linter.unusedSimpArgs false
theorem add_blk (a : Addr) (j : Nat) : (a.add j).block = a.block := by unfold Addr.add; split <;> rfl
section
variable {F0 : Nat → Prop} {g g' g0 : Gh} {w w' w0 : World} {p x y c e q : Nat} {D D2 E : Dk} {d : Dm} {more : Sl} {ms : List Dm} {cs5 : List Value} {b f : Value}
/-- The state in the loop: the cell rests. -/
structure Lp (F0 : Nat → Prop) (g0 : Gh) (w0 : World) (g : Gh) (w : World) (p x c y e : Nat) (D D2 : Dk) (i : Int) (k : Nat) (E : Dk) : Prop where
  H : Hp F0 g0 w0 g w [dkR x E, bxR p (prC x c y e) 75, rdR y D]
  c : Cp g w c x 1 3
  r : Rests D2 E i
  bt : E.Bt
  W : E.W.length ≤ k
theorem lasts_loop (hs : PL dmR 5 g w more ms) (hq : Bp g w q [.int .i64 d.k, .int .i64 d.i, .int .i64 d.v, b, f] 78) (i0 : 0 ≤ d.i) (i1 : d.i < 3) :
    ∀ (m k : Nat) (w1 : World) (g1 : Gh) (E : Dk), k + m = min ms.length 100 → Mo g w g1 w1 → Lp F0 g0 w0 g1 w1 p x c y e D D2 d.i k E →
    Ex (loopF (fun s : Int × World => grapevinelaw10_MarkLasts_l1 more ⟨q, 0, none⟩ (some ⟨p, 0, none⟩) s.1 s.2) ((k : Int), w1)) fun w' => ∃ g' E', Lp F0 g0 w0 g' w' p x c y e D D2 d.i 100 E' ∧ Mo g w g' w' := by
  intro m
  induction m with
  | zero =>
    intro k w1 g1 E hk hm h
    refine ⟨w1, loopF_done ?_, g1, E, ⟨h.H, h.c, h.r, h.bt, by have := h.W; omega⟩, hm⟩
    unfold grapevinelaw10_MarkLasts_l1
    simp only
    have hln := hs.len
    by_cases hl : (k : Int) < more.n
    · rw [if_pos (by simpa using hl), decide_eq_false (by omega)]; rfl
    · rw [if_neg (by simpa using hl)]; rfl
  | succ m ih =>
    intro k w1 g1 E hk hm h
    have hln := hs.len
    have hki : k < ms.length := by omega
    obtain ⟨a, cs, ea, ga, hl5, ⟨b', f', rfl, hb', hf', hby, hv⟩, hc⟩ := hs.at_ k ms[k] (List.getElem?_eq_getElem hki)
    obtain ⟨t, ht⟩ : ∃ t, ms[k] = t := ⟨_, rfl⟩
    rw [ht] at hc hby hv hb' hf'
    have hcell : ∀ {g' w'}, Mo g w g' w' → ldI .i64 w' (a.add 0) = some t.k ∧ ldI .i64 w' (a.add 1) = some t.i ∧ ldI .i64 w' (a.add 2) = some t.v ∧ ldL w' (a.add 4) = some f' := fun {g' w'} mo => by
      have : ∀ j v, [Value.int .i64 t.k, .int .i64 t.i, .int .i64 t.v, b'.v, f'.v][j]? = some v → w'.cell? (a.add j) = some v := fun j v hv => mo.cell ((add_blk a j).symm ▸ ga) (hc j v hv)
      exact ⟨ldI_cell (this 0 _ rfl), ldI_cell (this 1 _ rfl), ldI_cell (this 2 _ rfl), ldL_cell (this 4 _ rfl)⟩
    -- what a round does
    have round : ∃ w2 g2 E2, grapevinelaw10_MarkLasts_l1 more ⟨q, 0, none⟩ (some ⟨p, 0, none⟩) (k : Int) w1 = some (.inl (((k + 1 : Nat) : Int), w2)) ∧ Lp F0 g0 w0 g2 w2 p x c y e D D2 d.i (k + 1) E2 ∧ Mo g1 w1 g2 w2 := by
      have P0 : ∀ {g' w' L}, Hp F0 g0 w0 g' w' (bxR p (prC x c y e) 75 :: L) → ldP w' ⟨p, 0, none⟩ = some (some ⟨x, 0, none⟩) := fun H => ldP_B H.bx rfl
      have P1 : ∀ {g' w' L}, Hp F0 g0 w0 g' w' (bxR p (prC x c y e) 75 :: L) → ldP w' ⟨p, 1, none⟩ = some (some ⟨c, 0, none⟩) := fun H => ldP_B H.bx rfl
      obtain ⟨w2, e2, H2, m2⟩ := h.H.dr
      have hW := h.W
      have r1 := hcell hm
      have r2 := hcell (hm.t m2)
      have dI2 : ldI .i64 w2 ⟨q, 1, none⟩ = some d.i := ldI_B (hq.mo (hm.t m2)).at_ rfl
      have fin : ∀ {w' : World} {o : Option World}, o = some w' → (o.bind fun w44 => some (Sum.inl (β := World) (IntKind.wrap .i64 ((k : Int) + 1), w44))) = some (.inl (((k + 1 : Nat) : Int), w')) := fun h => by rw [h, Option.bind_some, wrap_nat (by omega)]
      have head : ∀ {ρ : Type} (f : World → Option ρ) (f' : World → Option ρ), (bind2 (if decide ((k : Int) < (more.n : Int)) = true then some (decide ((k : Int) < 100), w1) else some (false, w1)) fun v38 w39 => if v38 = true then f w39 else f' w39) = f w1 := fun f f' => by
        rw [if_pos (by simp; omega), decide_eq_true (by omega), bind2_some, if_pos rfl]
      by_cases t0 : t.k = 0 ∧ t.i ≠ d.i
      · obtain ⟨w3, e3, H3, m3⟩ := H2.dr
        obtain ⟨w4, e4, H4, m4⟩ := H3.mput (h.c.mo (m2.t m3)) h.bt (by omega) (by rw [h.r.n]; decide) t.i t.v
        have r3 := hcell (hm.t (m2.t m3))
        refine ⟨w4, g1, _, ?_, ⟨H4, h.c.mo (m2.t (m3.t m4)), h.r.put i0 i1 t0.2 t.v H4.dwf, h.bt.put _ _ _ _, Nat.le_trans (put_W _ _ _ _ _) (by omega)⟩, m2.t (m3.t m4)⟩
        unfold grapevinelaw10_MarkLasts_l1
        rw [head]
        refine fin ?_
        rw [e2, Option.bind_some, ea, Option.bind_some, r2.1, Option.bind_some, if_pos (by simpa using t0.1), Option.bind_some, r2.2.1, Option.bind_some, add_mk, dI2, Option.bind_some, bind2_some, if_pos (by simpa using t0.2), e3, Option.bind_some, Option.bind_some, add_mk, P1 H3.sw, Option.bind_some, Option.bind_some, r3.2.1, Option.bind_some, Option.bind_some, r3.2.2.1, Option.bind_some, e4, bind2_some]
      have test : (bind2 ((dr w1).bind fun w51 => (some a).bind fun p53 => (ldI .i64 w51 (p53.add 0)).bind fun v55 => if (v55 == 0) = true then (some a).bind fun p58 => (ldI .i64 w51 (p58.add 1)).bind fun v60 => (ldI .i64 w51 ((⟨q, 0, none⟩ : Addr).add 1)).bind fun v62 => some (v60 != v62, w51) else some (false, w51))) = fun (f : Bool → World → Option World) => f false w2 := by
        funext f
        rw [e2, Option.bind_some, Option.bind_some, r2.1, Option.bind_some]
        by_cases k0 : t.k = 0
        · have hi : t.i = d.i := Decidable.not_not.1 fun h => t0 ⟨k0, h⟩
          rw [if_pos (by simpa using k0), Option.bind_some, r2.2.1, Option.bind_some, add_mk, dI2, Option.bind_some, bind2_some, hi, bne_self_eq_false]
        · rw [if_neg (by simpa using k0), bind2_some]
      by_cases t3 : t.k = 3
      · obtain ⟨w3, e3, H3, m3⟩ := H2.dr
        obtain ⟨w4, e4, H4, m4⟩ := H3.dtrip (m := t.v) hv
        have r3 := hcell (hm.t (m2.t m3))
        refine ⟨w4, g1, _, ?_, ⟨H4, h.c.mo (m2.t (m3.t m4)), h.r.trip _ H4.dwf, ⟨by rw [(trip_S E t.v).1]; exact h.bt.s, by rw [(trip_S E t.v).2]; exact h.bt.w⟩, by rw [(trip_S E t.v).2]; omega⟩, m2.t (m3.t m4)⟩
        unfold grapevinelaw10_MarkLasts_l1
        rw [head, ea]
        refine fin ?_
        rw [test]
        simp only [Bool.false_eq_true, if_false, Option.bind_some, r2.1]
        rw [if_pos (by simpa using t3), e3, Option.bind_some, add_mk, Nat.zero_add, P0 H3.sw, Option.bind_some, r3.2.2.1, Option.bind_some, e4, bind2_some]
      by_cases t4 : t.k = 4
      · obtain ⟨w3, e3, H3, m3⟩ := H2.dr
        obtain ⟨w4, e4, H4, m4⟩ := H3.dcrash (hf'.mo (hm.t (m2.t m3))) (by omega)
        have r3 := hcell (hm.t (m2.t m3))
        refine ⟨w4, g1, _, ?_, ⟨H4, h.c.mo (m2.t (m3.t m4)), h.r.crash i0 h.bt H4.dwf, h.bt.crash _, by simp [Dk.crash]⟩, m2.t (m3.t m4)⟩
        unfold grapevinelaw10_MarkLasts_l1
        rw [head, ea]
        refine fin ?_
        rw [test]
        simp only [Bool.false_eq_true, if_false, Option.bind_some, r2.1]
        rw [if_neg (by simpa using t3), if_pos (by simpa using t4), e3, Option.bind_some, add_mk, Nat.zero_add, P0 H3.sw, Option.bind_some, r3.2.2.2, Option.bind_some, e4, bind2_some]
      · refine ⟨w2, g1, E, ?_, ⟨H2, h.c.mo m2, h.r, h.bt, by omega⟩, m2⟩
        unfold grapevinelaw10_MarkLasts_l1
        rw [head, ea]
        refine fin ?_
        rw [test]
        simp only [Bool.false_eq_true, if_false, Option.bind_some, r2.1]
        rw [if_neg (by simpa using t3), if_neg (by simpa using t4)]
    obtain ⟨w2, g2, E2, e2, h2, m2⟩ := round
    obtain ⟨w3, e3, g3, E3, h3, m3⟩ := ih (k + 1) w2 g2 E2 (by omega) (hm.t m2) h2
    exact ⟨w3, (loopF_next e2).trans e3, g3, E3, h3, m3⟩
end
theorem MarkLasts_law {w : World} (l : Sl) (ds : List Dm) (hs : PL dmR 5 (old w) w l ds) (cs : List Value) (hd : ∃ d, dmR (old w) w cs d) (l2 : Sl) (ms : List Dm) (hs2 : PL dmR 5 (old w) w l2 ms) : ∃ w', grapevinelaw10_MarkLasts l cs l2 w = some (true, w') ∧ Fr (fun k => w.heap.size ≤ k) w w' := by
  have key : Ex (grapevinelaw10_MarkLasts l cs l2 w) fun r => r.1 = true ∧ Fr (fun k => w.heap.size ≤ k) w r.2 := by
    obtain ⟨d, b, f, rfl, hb, hf, hby, hv⟩ := hd
    unfold grapevinelaw10_MarkLasts
    obtain ⟨q, g1, w1, e1, H1, m1, b1⟩ := (Hp.beg (F0 := fun _ => False) (old_lt w)).boxK 78 [.int .i64 d.k, .int .i64 d.i, .int .i64 d.v, b.v, f.v]
    refine Ex.b2 e1 ?_
    refine Ex.j3 (pplay (ds := ds) H1 (PL.mo (R := dmR) dmR_mo hs m1)) ?_
    rintro a0 b0 w2 ⟨p, g2, x, c, y, e, rfl, rfl, m2, D0, hD0, h2, hW⟩
    simp only at h2 m2 ⊢
    have P0 : ∀ {g' w' L}, Hp (fun _ => False) (old w) w g' w' (bxR p (prC x c y e) 75 :: L) → ldP w' ⟨p, 0, none⟩ = some (some ⟨x, 0, none⟩) := fun H => ldP_B H.bx rfl
    have P1 : ∀ {g' w' L}, Hp (fun _ => False) (old w) w g' w' (bxR p (prC x c y e) 75 :: L) → ldP w' ⟨p, 1, none⟩ = some (some ⟨c, 0, none⟩) := fun H => ldP_B H.bx rfl
    refine Ex.f (by simp) (Ex.s1 (Ex.b1 (P0 h2.H) ?_))
    obtain ⟨w3, e3, H3, m3⟩ := h2.H.sw.dcrash (f := Sl.nil) (fs := []) (PR.nil rfl) (by omega)
    refine Ex.b2 e3 ?_
    obtain ⟨D1, hD1⟩ : ∃ D1, D0.crash [] = D1 := ⟨_, rfl⟩
    have hW1 : D1.W = [] := by rw [← hD1]; rfl
    have hb1 : D1.Bt := hD1 ▸ h2.bt.crash []
    have hn1 : D1.S.length = 8 := by rw [← hD1]; exact (crash_S h2.bt []).trans h2.n
    rw [hD1] at H3
    obtain ⟨w4, e4, H4, m4⟩ := H3.dr
    have c4 := h2.c.mo (m3.t m4)
    have b4 := b1.mo (m2.t (m3.t m4))
    obtain ⟨w5, e5, H5, m5⟩ := H4.mput c4 hb1 (by simp [hW1]) (by rw [hn1]; decide) d.i d.v
    refine Ex.b1 e4 (Ex.b1 (P1 H4.sw) (Ex.b1 (ldI_B b4.at_ rfl) (Ex.b1 (ldI_B b4.at_ rfl) (Ex.b2 e5 ?_))))
    by_cases he : ¬ (D1.put 1 3 d.i d.v).1 = 0
    · obtain ⟨w6, e6, f6⟩ := live10_ok (w := w5)
      exact Ex.t (by simpa using he) (Ex.b2 e6 (Ex.ret ⟨rfl, (H5.old f6).fin⟩))
    have he := Decidable.not_not.1 he
    refine Ex.f (by simp [he]) ?_
    obtain ⟨_, i0, i1, _, _, _, hd2, hW2, _⟩ := put_ok_is H4.dwf hn1 he
    have hback := (put_back H4.dwf hn1 he).1
    have hn2 := (put_S D1 1 3 d.i d.v).trans hn1
    have hb2 := hb1.put 1 3 d.i d.v
    obtain ⟨D2, hD2⟩ : ∃ D2, (D1.put 1 3 d.i d.v).2 = D2 := ⟨_, rfl⟩
    rw [hD2] at H5 hd2 hW2 hback hn2 hb2
    have m15 := m1.t (m2.t (m3.t (m4.t m5)))
    have start : Lp (fun _ => False) (old w) w g2 w5 p x c y e D0 D2 d.i 0 D2 := ⟨H5, c4.mo m5, ⟨rfl, rfl, by rw [hW2]; simp, hn2, H5.dwf⟩, hb2, by simp [hW2]⟩
    refine Ex.j1 (lasts_loop (PL.mo (R := dmR) dmR_mo hs2 m15) (b4.mo m5) i0 i1 (min ms.length 100) 0 w5 g2 D2 (by omega) Mo.r start) ?_
    rintro w6 ⟨g6, E, h6, m6⟩
    have hW6 := h6.W
    obtain ⟨w7, e7, H7, m7⟩ := h6.H.dr
    have b7 := b4.mo (m5.t (m6.t m7))
    obtain ⟨w8, e8, H8, m8⟩ := H7.dcrash (hf.mo (m15.t (m6.t m7))) (by omega)
    obtain ⟨w9, e9, H9, m9⟩ := H8.dr
    have b9 := b7.mo (m8.t m9)
    have r8 := h6.r.crash (fs := d.fs) i0 h6.bt H8.dwf
    obtain ⟨w10, e10, H10, m10⟩ := H9.mget (h6.c.mo (m7.t (m8.t m9))) (h6.bt.crash d.fs) (by simp [Dk.crash]) d.i
    rw [r8.get i0 i1 hW2 hd2 hn2 rfl rfl, hback] at e10
    refine Ex.b1 e7 (Ex.b1 (P0 H7.sw) (Ex.b1 (ldL_B b7.at_ rfl) (Ex.b2 e8 (Ex.b1 e9 (Ex.b1 (P1 H9.sw) (Ex.b1 (ldI_B b9.at_ rfl) (Ex.b3 e10 ?_)))))))
    obtain ⟨w11, e11, f11⟩ := live10_ok (w := w10)
    have b11 := (b9.mo m10).mo (H10.mold f11)
    have hv11 : ldI .i64 w11 ⟨q, 2, none⟩ = some d.v := ldI_B b11.at_ rfl
    refine Ex.b2 (a := true) (b := w11) ?_ (Ex.ret ⟨rfl, (H10.old f11).fin⟩)
    rw [e11, bind2_some, if_pos rfl, if_pos rfl, add_mk, hv11, Option.bind_some]
    simp
  obtain ⟨⟨r, w'⟩, e, rfl, f⟩ := key
  exact ⟨w', e, f⟩
end Go.Proofs.Ytoanmomopcaikaa.D
