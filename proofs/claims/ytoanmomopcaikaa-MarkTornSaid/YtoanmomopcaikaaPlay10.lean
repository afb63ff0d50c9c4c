/- Chapter 10: start, do, same, play; MarkPlays. -/
import Derived.Test.YtoanmomopcaikaaPair10
namespace Go.Proofs.Ytoanmomopcaikaa.D
open Go
set_option linter.unusedVariables false
set_option linter.unusedSimpArgs false
section
variable {F F0 : Nat → Prop} {g g' g0 : Gh} {w w' w0 : World} {L : List Rs} {p x y c e : Nat} {D D' : Dk} {d : Dm} {cs : List Value}
theorem pstart (H : Hp F0 g0 w0 g w []) : Ex (grapevinelaw10_start w) fun r => ∃ p g' x c y e, r.1 = some ⟨p, 0, none⟩ ∧ r.2.1 = true ∧ Pr F0 g0 w0 g' r.2.2 p x c y e (Dk.new 8) ∧ Mo g w g' r.2.2 := by
  unfold grapevinelaw10_start
  obtain ⟨p, w1, e1, H1, m1⟩ := H.box (T := 75) (cs := List.replicate 4 (.pointer none))
  refine Ex.b2 e1 ?_
  obtain ⟨x, w2, e2, H2, m2⟩ := H1.dnew (m := 8) (by omega) (by omega)
  refine Ex.b3 e2 ?_
  obtain ⟨w3, e3, H3, m3⟩ := H2.sw.stV (o := 0) (x := .pointer (some ⟨x, 0, none⟩)) (by simp) rfl
  refine Ex.b1 e3 ?_
  obtain ⟨y, g4, w4, e4, H4, m4⟩ := H3.rnew (m := 8) (by omega) (by omega)
  refine Ex.b3 e4 ?_
  obtain ⟨w5, e5, H5, m5⟩ := H4.sw.stV (o := 2) (x := .pointer (some ⟨y, 0, none⟩)) (by simp) rfl
  refine Ex.b1 e5 ?_
  have H6 : Hp F0 g0 w0 g4 w5 [bxR p [.pointer (some ⟨x, 0, none⟩), .pointer none, .pointer (some ⟨y, 0, none⟩), .pointer none] 75, dkR x (Dk.new 8), rdR y (Dk.new 8)] := ⟨H5.sp, H5.sep.cons fun _ h => h.sw⟩
  refine Ex.j3 (Ψ := fun r => r.1 = ⟨p, 0, none⟩ ∧ r.2.1 = true ∧ ∃ g' c e, Pr F0 g0 w0 g' r.2.2 p x c y e (Dk.new 8) ∧ Mo g4 w5 g' r.2.2) ?_ ?_
  · rw [if_pos (by decide), if_pos (by decide)]
    refine Ex.b1 (ldP_B H6.bx rfl) ?_
    rw [if_pos (by rfl)]
    refine Ex.j2 (popen H6 (new_bt 8) (by simp [Dk.new])) fun a b ⟨ha, g', c, e, hP, m⟩ => Ex.ret ⟨rfl, ha, g', c, e, hP, m⟩
  · rintro a b w' ⟨ha, hb, g', c, e, hP, m⟩
    exact Ex.ret ⟨p, g', x, c, y, e, congrArg some ha, hb, hP, m1.t (m2.t (m3.t (m4.t (m5.t m))))⟩
theorem Pr.sw (h : Pr F0 g0 w0 g w p x c y e D) : Hp F0 g0 w0 g w [dkR x D, bxR p (prC x c y e) 75, rdR y D] := h.H.sw
/-- Both have done the same. -/
theorem pback {g1 g2 : Gh} {w1 w2 : World} (h : Pr F0 g0 w0 g w p x c y e D) (m1 : Mo g w g2 w2) (H : Hp F0 g0 w0 g2 w2 [rdR y D', dkR x D', bxR p (prC x c y e) 75]) (hb : D'.Bt) (hn : D'.S.length = D.S.length) : Pr F0 g0 w0 g2 w2 p x c y e D' :=
  ⟨⟨H.sp, (H.b2.sw).sep⟩, h.c.mo m1, h.e.mo m1, hb, hn.trans h.n⟩
theorem pdo (h : Pr F0 g0 w0 g w p x c y e D) (hd : dmR g w cs d) (hW : D.W.length < 800000) :
    Ex (grapevinelaw10_pair_do (some ⟨p, 0, none⟩) cs w) fun r => r.1 = true ∧ ∃ g' c e, Pr F0 g0 w0 g' r.2 p x c y e (D.deed10 d) ∧ Mo g w g' r.2 := by
  obtain ⟨b, f, rfl, hb, hf, hby, hv⟩ := hd
  obtain ⟨k1, k2, k3⟩ := deed10_keep h.bt d hby
  unfold grapevinelaw10_pair_do
  obtain ⟨q, g1, w1, e1, H1, m1, b1⟩ := h.H.boxK 78 [.int .i64 d.k, .int .i64 d.i, .int .i64 d.v, b.v, f.v]
  have rk : ∀ {g' w'}, Mo g1 w1 g' w' → ldI .i64 w' ⟨q, 0, none⟩ = some d.k ∧ ldI .i64 w' ⟨q, 1, none⟩ = some d.i ∧ ldI .i64 w' ⟨q, 2, none⟩ = some d.v ∧ ldL w' ⟨q, 3, none⟩ = some b ∧ ldL w' ⟨q, 4, none⟩ = some f :=
    fun m => ⟨ldI_B (b1.mo m).at_ rfl, ldI_B (b1.mo m).at_ rfl, ldI_B (b1.mo m).at_ rfl, ldL_B (b1.mo m).at_ rfl, ldL_B (b1.mo m).at_ rfl⟩
  refine Ex.b2 e1 (Ex.b1 (rk Mo.r).1 ?_)
  have h1 : Pr F0 g0 w0 g1 w1 p x c y e D := ⟨H1, h.c.mo m1, h.e.mo m1, h.bt, h.n⟩
  obtain ⟨w2, e2, H2, m2⟩ := H1.dr
  have h2 : Pr F0 g0 w0 g1 w2 p x c y e D := ⟨H2, h1.c.mo m2, h1.e.mo m2, h.bt, h.n⟩
  have P0 : ∀ {g' w' L x c y e}, Hp F0 g0 w0 g' w' (bxR p (prC x c y e) 75 :: L) → ldP w' ⟨p, 0, none⟩ = some (some ⟨x, 0, none⟩) := fun H => ldP_B H.bx rfl
  have P1 : ∀ {g' w' L x c y e}, Hp F0 g0 w0 g' w' (bxR p (prC x c y e) 75 :: L) → ldP w' ⟨p, 1, none⟩ = some (some ⟨c, 0, none⟩) := fun H => ldP_B H.bx rfl
  have P2 : ∀ {g' w' L x c y e}, Hp F0 g0 w0 g' w' (bxR p (prC x c y e) 75 :: L) → ldP w' ⟨p, 2, none⟩ = some (some ⟨y, 0, none⟩) := fun H => ldP_B H.bx rfl
  have P3 : ∀ {g' w' L x c y e}, Hp F0 g0 w0 g' w' (bxR p (prC x c y e) 75 :: L) → ldP w' ⟨p, 3, none⟩ = some (some ⟨e, 0, none⟩) := fun H => ldP_B H.bx rfl
  have rk2 := rk m2
  by_cases t0 : d.k = 0
  · rw [if_pos (by simpa using t0)]
    have hD : D.deed10 d = (D.put 1 3 d.i d.v).2 := by unfold Dk.deed10; rw [if_pos t0]
    rw [hD] at k1 k2 ⊢
    obtain ⟨w3, e3, H3, m3⟩ := H2.sw.mput h2.c h.bt (by omega) (by rw [h.n]; decide) d.i d.v
    have rk3 := rk (m2.t m3)
    obtain ⟨⟨r4, w4⟩, e4, g4, rfl, H4, m4⟩ := H3.m2.rput (h2.e.mo m3) h.bt (by omega) (by rw [h.n]; decide) d.i d.v
    refine Ex.b1 e2 (Ex.s1 (Ex.b1 (P1 H2) (Ex.b1 rk2.2.1 (Ex.b1 rk2.2.2.1 (Ex.b2 e3 (Ex.b1 (P3 H3.sw) (Ex.b1 rk3.2.1 (Ex.b1 rk3.2.2.1 (Ex.b2 e4 (Ex.ck (P3 H2) (Ex.ck rk2.2.1 (Ex.ck rk2.2.2.1 (Ex.ret ⟨by simp, g4, c, e, ?_, m1.t (m2.t (m3.t m4))⟩)))))))))))))
    exact pback (g1 := g1) (w1 := w2) h2 (m3.t m4) H4 k1 k2
  rw [if_neg (by simpa using t0)]
  by_cases t1 : d.k = 1
  · rw [if_pos (by simpa using t1)]
    have hD : D.deed10 d = (D.write d.i d.bs).2 := by unfold Dk.deed10; rw [if_neg t0, if_pos t1]
    rw [hD] at k1 k2 ⊢
    obtain ⟨w3, e3, H3, m3⟩ := H2.sw.dwrite (i := d.i) (hb.mo (m1.t m2)).rd (by omega)
    have rk3 := rk (m2.t m3)
    obtain ⟨g4, w4, e4, H4, m4⟩ := H3.m2.rwrite (i := d.i) (hb.mo (m1.t (m2.t m3))).rd (by omega)
    refine Ex.b1 e2 (Ex.s1 (Ex.b1 (P0 H2) (Ex.b1 rk2.2.1 (Ex.b1 rk2.2.2.2.1 (Ex.b2 e3 (Ex.b1 (P2 H3.sw) (Ex.b1 rk3.2.1 (Ex.b1 rk3.2.2.2.1 (Ex.b2 e4 (Ex.ck (P2 H2) (Ex.ck rk2.2.1 (Ex.ck rk2.2.2.2.1 (Ex.ret ⟨by simp, g4, c, e, ?_, m1.t (m2.t (m3.t m4))⟩)))))))))))))
    exact pback (g1 := g1) (w1 := w2) h2 (m3.t m4) H4 k1 k2
  rw [if_neg (by simpa using t1)]
  by_cases t2 : d.k = 2
  · rw [if_pos (by simpa using t2)]
    have hD : D.deed10 d = D.sync.2 := by unfold Dk.deed10; rw [if_neg t0, if_neg t1, if_pos t2]
    rw [hD] at k1 k2 ⊢
    obtain ⟨w3, e3, H3, m3⟩ := H2.sw.dsync (by omega)
    obtain ⟨g4, w4, e4, H4, m4⟩ := H3.m2.rsync (by omega)
    refine Ex.b1 e2 (Ex.s1 (Ex.b1 (P0 H2) (Ex.b2 e3 (Ex.b1 (P2 H3.sw) (Ex.b2 e4 (Ex.ck (P2 H2) (Ex.ret ⟨by simp, g4, c, e, ?_, m1.t (m2.t (m3.t m4))⟩)))))))
    exact pback (g1 := g1) (w1 := w2) h2 (m3.t m4) H4 k1 k2
  rw [if_neg (by simpa using t2)]
  by_cases t3 : d.k = 3
  · rw [if_pos (by simpa using t3)]
    have hD : D.deed10 d = (D.trip d.v).2 := by unfold Dk.deed10; rw [if_neg t0, if_neg t1, if_neg t2, if_pos t3]
    rw [hD] at k1 k2 ⊢
    obtain ⟨w3, e3, H3, m3⟩ := H2.sw.dtrip (m := d.v) hv
    have rk3 := rk (m2.t m3)
    obtain ⟨g4, w4, e4, H4, m4⟩ := H3.m2.rtrip (m := d.v) hv
    refine Ex.b1 e2 (Ex.s1 (Ex.b1 (P0 H2) (Ex.b1 rk2.2.2.1 (Ex.b2 e3 (Ex.b1 (P2 H3.sw) (Ex.b1 rk3.2.2.1 (Ex.b2 e4 (Ex.ck (P2 H2) (Ex.ck rk2.2.2.1 (Ex.ret ⟨by simp, g4, c, e, ?_, m1.t (m2.t (m3.t m4))⟩))))))))))
    exact pback (g1 := g1) (w1 := w2) h2 (m3.t m4) H4 k1 k2
  rw [if_neg (by simpa using t3)]
  by_cases t4 : d.k = 4
  · rw [if_pos (by simpa using t4)]
    have hD : D.deed10 d = D.crash d.fs := by unfold Dk.deed10; rw [if_neg t0, if_neg t1, if_neg t2, if_neg t3, if_pos t4]
    rw [hD] at k1 k2 ⊢
    obtain ⟨w3, e3, H3, m3⟩ := H2.sw.dcrash (hf.mo (m1.t m2)) (by omega)
    have rk3 := rk (m2.t m3)
    obtain ⟨g4, w4, e4, H4, m4⟩ := H3.m2.rcrash (hf.mo (m1.t (m2.t m3))) (by omega)
    have H5 : Hp F0 g0 w0 g4 w4 [bxR p (prC x c y e) 75, dkR x (D.crash d.fs), rdR y (D.crash d.fs)] := H4.b2.sw
    refine Ex.j2 (Ψ := fun r => r.1 = true ∧ ∃ g' c e, Pr F0 g0 w0 g' r.2 p x c y e (D.crash d.fs) ∧ Mo g4 w4 g' r.2) ?_ (fun a b ⟨ha, g', c, e, hP, m⟩ => Ex.ret ⟨ha, g', c, e, hP, m1.t (m2.t (m3.t (m4.t m)))⟩)
    refine Ex.b1 e2 (Ex.s1 (Ex.b1 (P0 H2) (Ex.b1 rk2.2.2.2.2 (Ex.b2 e3 (Ex.b1 (P2 H3.sw) (Ex.b1 rk3.2.2.2.2 (Ex.b2 e4 (Ex.t (by decide) ?_))))))))
    refine Ex.j2 (popen H5 k1 (k2.trans h.n)) fun a b ⟨ha, g', c, e, hP, m⟩ => Ex.ck (P2 H2) (Ex.ck rk2.2.2.2.2 (Ex.ret ⟨ha, g', c, e, hP, m⟩))
  rw [if_neg (by simpa using t4)]
  have hD : D.deed10 d = D := by unfold Dk.deed10; rw [if_neg t0, if_neg t1, if_neg t2, if_neg t3, if_neg t4]
  rw [hD]
  exact Ex.s1 (Ex.b1 (P1 H1) (Ex.b2 (count_ok h1.c.at_) (Ex.ret ⟨by simp, g1, c, e, h1, m1⟩)))
theorem psame (h : Pr F0 g0 w0 g w p x c y e D) (hW : D.W.length < 800000) :
    Ex (grapevinelaw10_pair_same (some ⟨p, 0, none⟩) w) fun r => r.1 = true ∧ ∃ g', Pr F0 g0 w0 g' r.2 p x c y e D ∧ Mo g w g' r.2 := by
  unfold grapevinelaw10_pair_same
  have P0 : ∀ {g' w' L}, Hp F0 g0 w0 g' w' (bxR p (prC x c y e) 75 :: L) → ldP w' ⟨p, 0, none⟩ = some (some ⟨x, 0, none⟩) := fun H => ldP_B H.bx rfl
  have P1 : ∀ {g' w' L}, Hp F0 g0 w0 g' w' (bxR p (prC x c y e) 75 :: L) → ldP w' ⟨p, 1, none⟩ = some (some ⟨c, 0, none⟩) := fun H => ldP_B H.bx rfl
  have P2 : ∀ {g' w' L}, Hp F0 g0 w0 g' w' (bxR p (prC x c y e) 75 :: L) → ldP w' ⟨p, 2, none⟩ = some (some ⟨y, 0, none⟩) := fun H => ldP_B H.bx rfl
  have P3 : ∀ {g' w' L}, Hp F0 g0 w0 g' w' (bxR p (prC x c y e) 75 :: L) → ldP w' ⟨p, 3, none⟩ = some (some ⟨e, 0, none⟩) := fun H => ldP_B H.bx rfl
  have l1 : Ex (loopF (fun s : Int × World => grapevinelaw10_pair_same_l1 (some ⟨p, 0, none⟩) s.1 s.2) ((-1), w)) fun r => ∃ w', r = .inl w' ∧ ∃ g', Pr F0 g0 w0 g' w' p x c y e D ∧ Mo g w g' w' := by
    refine Ex.loop (fun (m : Nat) (s : Int × World) => s.1 + (m : Int) = 4 ∧ -1 ≤ s.1 ∧ ∃ g', Pr F0 g0 w0 g' s.2 p x c y e D ∧ Mo g w g' s.2) ?_ 5 _ ⟨rfl, by simp, g, h, Mo.r⟩
    rintro m ⟨i, w1⟩ ⟨hm, hi, g1, h1, m1⟩
    simp only at hm hi h1 m1 ⊢
    unfold grapevinelaw10_pair_same_l1
    by_cases hc : i ≤ 3
    · refine Ex.t (by simpa using hc) (Ex.s1 (Ex.b1 (P1 h1.H) ?_))
      obtain ⟨w2, e2, H2, m2⟩ := h1.H.sw.mget h1.c h1.bt (by omega) i
      obtain ⟨w3, e3, H3, m3⟩ := H2.m2.rget (h1.e.mo m2) h1.bt (by omega) i
      refine Ex.b3 e2 (Ex.b1 (P3 H2.sw) (Ex.b3 e3 (Ex.b2 (a := false) (b := w3) (by simp) (Ex.f (by simp) (Ex.ret ?_)))))
      have hw : IntKind.wrap .i64 (i + 1) = i + 1 := by rw [IntKind.wrap_i64]; omega
      refine ⟨m - 1, by omega, by simp only [hw]; omega, by simp only [hw]; omega, g1, ?_, m1.t (m2.t m3)⟩
      exact pback (g1 := g1) (w1 := w1) h1 (m2.t m3) H3 h1.bt rfl
    · exact Ex.f (by simpa using hc) (Ex.ret ⟨w1, rfl, g1, h1, m1⟩)
  refine Ex.j1 l1 ?_
  rintro r ⟨w1, rfl, g1, h1, m1⟩
  simp only [Sum.elim_inl, u1]
  have l2 : Ex (loopF (fun s : Int × World => grapevinelaw10_pair_same_l2 (some ⟨p, 0, none⟩) s.1 s.2) (0, w1)) fun r => ∃ w', r = .inl w' ∧ ∃ g', Pr F0 g0 w0 g' w' p x c y e D ∧ Mo g w g' w' := by
    refine Ex.loop (fun (m : Nat) (s : Int × World) => s.1 + (m : Int) = 8 ∧ 0 ≤ s.1 ∧ ∃ g', Pr F0 g0 w0 g' s.2 p x c y e D ∧ Mo g w g' s.2) ?_ 8 _ ⟨rfl, by simp, g1, h1, m1⟩
    rintro m ⟨i, w1⟩ ⟨hm, hi, g1, h1, m1⟩
    simp only at hm hi h1 m1 ⊢
    unfold grapevinelaw10_pair_same_l2
    by_cases hc : i < 8
    · refine Ex.t (by simpa using hc) (Ex.s1 (Ex.b1 (P0 h1.H) ?_))
      obtain ⟨o2, w2, T2, e2, H2, m2⟩ := h1.H.sw.dsure i
      obtain ⟨o3, w3, T3, e3, H3, m3⟩ := H2.m3.rsure i
      have b3 : b2s o3 w3 = some (strOfNums (D.sure i).1) := b2s_Rd H3.ow.rd
      have b2 : b2s o2 w3 = some (strOfNums (D.sure i).1) := b2s_Rd H3.m2.ow.rd
      refine Ex.b3 e2 (Ex.b1 (P2 H2.m2) (Ex.b3 e3 (Ex.b2 (a := false) (b := w3) ?_ (Ex.f (by simp) (Ex.ret ?_)))))
      · rw [if_neg (by simp), b2, Option.bind_some, b3, Option.bind_some, sEq_self]; rfl
      have hw : IntKind.wrap .i64 (i + 1) = i + 1 := by rw [IntKind.wrap_i64]; omega
      refine ⟨m - 1, by omega, by simp only [hw]; omega, by simp only [hw]; omega, g1, ?_, m1.t (m2.t m3)⟩
      exact pback (g1 := g1) (w1 := w1) h1 (m2.t m3) H3.tl.sw.tl h1.bt rfl
    · exact Ex.f (by simpa using hc) (Ex.ret ⟨w1, rfl, g1, h1, m1⟩)
  refine Ex.j1 l2 ?_
  rintro r ⟨w2, rfl, g2, h2, m2⟩
  simp only [Sum.elim_inl, u1]
  obtain ⟨w3, e3, H3, m3⟩ := h2.H.dr
  refine Ex.b1 e3 (Ex.s1 (Ex.b1 (P0 H3) (Ex.b2 H3.sw.ddown (Ex.b1 (P2 H3) (Ex.s1 (Ex.b1 H3.m2.rd3 (Ex.ck (P2 H3) (Ex.ck H3.m2.rd3 (Ex.ret ⟨by simp, g2, ⟨H3, h2.c.mo m3, h2.e.mo m3, h2.bt, h2.n⟩, m2.t m3⟩)))))))))
/-- A script: play runs it on both. -/
theorem play_loop {l : Sl} {ds : List Dm} (hs : PL dmR 5 g w l ds) : ∀ (m i : Nat) (w1 : World) (g1 : Gh) (c e : Nat) (D : Dk), i + m = min ds.length 200 → Mo g w g1 w1 → Pr F0 g0 w0 g1 w1 p x c y e D → D.W.length ≤ i →
    Ex (loopF (fun s : Bool × Int × World => grapevinelaw10_play_l1 l (some ⟨p, 0, none⟩) s.1 s.2.1 s.2.2) (true, (i : Int), w1)) fun r => r.1 = true ∧ ∃ g' c e, Pr F0 g0 w0 g' r.2 p x c y e (((ds.take 200).drop i).foldl Dk.deed10 D) ∧ Mo g1 w1 g' r.2 ∧ (((ds.take 200).drop i).foldl Dk.deed10 D).W.length ≤ 200 := by
  intro m
  induction m with
  | zero =>
    intro i w1 g1 c e D him hm h hW
    have hd : (ds.take 200).drop i = [] := List.drop_of_length_le (by rw [List.length_take]; omega)
    rw [hd]
    refine ⟨(true, w1), loopF_done ?_, rfl, g1, c, e, h, Mo.r, by simp only [List.foldl_nil]; omega⟩
    unfold grapevinelaw10_play_l1
    simp only
    have hln := hs.len
    by_cases hl : (i : Int) < l.n
    · rw [if_pos trivial, if_pos (by simpa using hl), decide_eq_false (by omega)]; rfl
    · rw [if_pos trivial, if_neg (by simpa using hl)]; rfl
  | succ m ih =>
    intro i w1 g1 c e D him hm h hW
    have hi : i < ds.length := by omega
    have hln := hs.len
    obtain ⟨a, cs, ea, ga, hl5, hR, hc⟩ := hs.at_ i ds[i] (List.getElem?_eq_getElem hi)
    have hla : ldA 5 w1 a 0 = some cs := ldA_cells 5 w1 a 0 cs hl5 fun j v hv => by
      rw [Nat.zero_add]
      exact hm.cell (by have : (a.add j).block = a.block := by unfold Addr.add; split <;> rfl
                        rw [this]; exact ga) (hc j v hv)
    have hby : Bytes ds[i].bs := by obtain ⟨_, _, _, _, _, hb, _⟩ := hR; exact hb
    obtain ⟨⟨r2, w2⟩, e2, hr2, g2, c2, e2', h2, m2⟩ := pdo h (dmR_mo hR hm) (by omega)
    simp only at hr2 h2 m2; subst hr2
    have hk := deed10_keep h.bt ds[i] hby
    obtain ⟨⟨r3, w3⟩, e3, hr3, g3, h3, m3⟩ := psame h2 (by omega)
    simp only at hr3 h3 m3; subst hr3
    obtain ⟨⟨r4, w4⟩, e4, hr4, g4, c4, e4', h4, m4, hw4⟩ := ih (i + 1) w3 g3 c2 e2' _ (by omega) (hm.t (m2.t m3)) h3 (by omega)
    simp only at hr4; subst hr4
    have hdrop : (ds.take 200).drop i = ds[i] :: (ds.take 200).drop (i + 1) := by
      have hlt : i < (ds.take 200).length := by rw [List.length_take]; omega
      rw [List.drop_eq_getElem_cons hlt, List.getElem_take]
    refine ⟨(true, w4), ?_, rfl, g4, c4, e4', by rw [hdrop]; exact h4, m2.t (m3.t m4), by rw [hdrop]; exact hw4⟩
    rw [← e4, ← wrap_nat (show i < 9223372036854775807 by omega)]
    refine loopF_next ?_
    simp only
    unfold grapevinelaw10_play_l1
    rw [if_pos rfl, if_pos (by simp; omega), decide_eq_true (by omega), bind2_some, if_pos rfl, ea, Option.bind_some, hla, Option.bind_some, e2, bind2_some, if_pos rfl, e3, bind2_some, bind2_some]
theorem pplay {l : Sl} {ds : List Dm} (H : Hp F0 g0 w0 g w []) (hs : PL dmR 5 g w l ds) : Ex (grapevinelaw10_play l w) fun r => ∃ p g' x c y e, r.1 = some ⟨p, 0, none⟩ ∧ r.2.1 = true ∧ Mo g w g' r.2.2 ∧
    ∃ D, D = (ds.take 200).foldl Dk.deed10 (Dk.new 8) ∧ Pr F0 g0 w0 g' r.2.2 p x c y e D ∧ D.W.length ≤ 200 := by
  unfold grapevinelaw10_play
  refine Ex.j3 (pstart H) ?_
  rintro a b w1 ⟨p, g1, x, c, y, e, rfl, rfl, h1, m1⟩
  simp only at h1 m1 ⊢
  refine Ex.j2 (play_loop (ds := ds) (PL.mo (R := dmR) dmR_mo hs m1) (min ds.length 200) 0 w1 g1 c e _ (by omega) Mo.r h1 (by simp [Dk.new])) ?_
  rintro a w2 ⟨rfl, g2, c2, e2, h2, m2, hw⟩
  rw [List.drop_zero] at h2 hw
  exact Ex.ret ⟨p, g2, x, c2, y, e2, rfl, rfl, m1.t m2, _, rfl, h2, hw⟩
end
theorem MarkPlays_law {w : World} (l : Sl) (ds : List Dm) (hs : PL dmR 5 (old w) w l ds) : ∃ w', grapevinelaw10_MarkPlays l w = some (true, w') ∧ Fr (fun k => w.heap.size ≤ k) w w' := by
  have key : Ex (grapevinelaw10_MarkPlays l w) fun r => r.1 = true ∧ Fr (fun k => w.heap.size ≤ k) w r.2 := by
    unfold grapevinelaw10_MarkPlays
    refine Ex.j3 (pplay (F0 := fun _ => False) (Hp.beg (old_lt w)) hs) ?_
    rintro a b w1 ⟨p, g1, x, c, y, e, rfl, rfl, m1, D, hD, h1, hW⟩
    obtain ⟨w2, e2, f2⟩ := live10_ok (w := w1)
    refine Ex.b2 (a := true) (b := w2) (by rw [e2, bind2_some, if_pos rfl]) (Ex.ret ⟨rfl, (h1.H.old f2).fin⟩)
  obtain ⟨⟨r, w'⟩, e, rfl, f⟩ := key
  exact ⟨w', e, f⟩
end Go.Proofs.Ytoanmomopcaikaa.D
