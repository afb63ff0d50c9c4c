/- Chapter 12's scripts and laws. -/
import Derived.Test.YtejkaciimmfgcaaPair12
namespace Go.Proofs.Ytejkaciimmfgcaa.D
open Go
set_option linter.unusedVariables false
set_option linter.unusedSimpArgs false
section
variable {F0 : Nat → Prop} {g g0 : Gh} {w w0 : World} {L : List Rs} {b c i : Nat} {now to : Int} {T : Nat → Option Int} {s : Sl} {ds : List Dw}
theorem dec300 {n j : Nat} (hj : j < n) : (decide ((j : Int) < 300), w) = (decide (j < n ∧ j < 300), w) := by
  by_cases h : j < 300
  · rw [decide_eq_true (show (j : Int) < 300 by omega), decide_eq_true (show j < n ∧ j < 300 from ⟨hj, h⟩)]
  · rw [decide_eq_false (show ¬ (j : Int) < 300 by omega), decide_eq_false (fun k => h k.2)]
theorem PL.dw {g' : Gh} {w' : World} (h : PL dwR 3 g w s ds) (m : Mo g w g' w') : PL dwR 3 g' w' s ds := h.mo (fun h _ => h) m
theorem PL.dwA (h : PL dwR 3 g w s ds) {j : Nat} {d : Dw} (hd : ds[j]? = some d) : ∃ a, D.ix s (j : Int) 3 = some a ∧ ldA 3 w a 0 = some d.cs := by
  obtain ⟨a, cs, e1, hg, hl, hr, hc⟩ := h.at_ j d hd
  obtain rfl : cs = d.cs := hr
  exact ⟨a, e1, ldA_cells 3 w a 0 _ hl fun j v hv => by rw [Nat.zero_add]; exact hc j v hv⟩
theorem play_ok (hs : PL dwR 3 g w s ds) (H : Hp F0 g0 w0 g w L) (now : Int) {Φ : Option Addr × Option Addr × Bool × World → Prop}
    (h1 : (now < 0 ∨ 1099511627776 < now) → ∀ w', Hp F0 g0 w0 g w' L → Mo g w g w' → Φ (none, none, true, w'))
    (h2 : ¬ (now < 0 ∨ 1099511627776 < now) → ∀ b c w' now' T', Hp F0 g0 w0 g w' (wheelR b now' T' :: refW c now' T' :: L) → Mo g w g w' → Φ (some ⟨b, 0, none⟩, some ⟨c, 0, none⟩, true, w')) :
    (grapevinelaw12_play now s w).t Φ := by
  unfold grapevinelaw12_play
  rcases wNew_ok H now with ⟨hc, e1⟩ | ⟨hc, b, w1, e1, H1, m1⟩
  · rcases rNew_ok H now with ⟨-, e2⟩ | ⟨hc', -⟩
    · refine Nd.b3 e1 (Nd.b3 e2 (Nd.j2 (Ψ := fun r => r = (false, w)) (Nd.f (by simp) (Nd.ret rfl)) ?_))
      rintro _ _ he
      cases he
      refine Nd.f (by simp) ?_
      refine Nd.j1 (Ψ := fun o => o = .inl w) ?_ ?_
      · refine Nd.next ?_
        show (grapevinelaw12_play_l1 none s none 0 w).t _
        unfold grapevinelaw12_play_l1
        refine Nd.j2 (Ψ := fun r => r = (false, w)) (Nd.f (by simp) (Nd.ret rfl)) ?_
        rintro _ _ he
        cases he
        exact Nd.f (by simp) (Nd.ret rfl)
      · rintro _ rfl
        exact Nd.ret (h1 hc w H Mo.r)
    · exact (hc' hc).elim
  · rcases rNew_ok H1 now with ⟨hc', -⟩ | ⟨-, c, w2, e2, H2, m2⟩
    · exact (hc hc').elim
    · refine Nd.b3 e1 (Nd.b3 e2 (Nd.j2 (Ψ := fun r => r = (false, w2)) (Nd.f (by simp) (Nd.ret (by simp))) ?_))
      rintro _ _ he
      cases he
      refine Nd.f (by simp) ?_
      refine Nd.j1 (Ψ := fun o => ∃ w' now' T', o = .inl w' ∧ Hp F0 g0 w0 g w' (wheelR b now' T' :: refW c now' T' :: L) ∧ Mo g w g w') ?_ ?_
      · refine Nd.loop (fun m t => ∃ (j : Nat) (w' : World) (now' : Int) (T' : Nat → Option Int), t = ((j : Int), w') ∧ m + j = 300 ∧ j ≤ ds.length ∧ Hp F0 g0 w0 g w' (wheelR b now' T' :: refW c now' T' :: L) ∧ Mo g w g w') ?_ 300 _ ⟨0, w2, now, fun _ => none, rfl, rfl, by omega, H2.sw, m1.t m2⟩
        rintro m _ ⟨j, w', now', T', rfl, hm, hjl, H3, m3⟩
        have hs' := hs.dw m3
        have hn := hs.len
        show (grapevinelaw12_play_l1 (some ⟨b, 0, none⟩) s (some ⟨c, 0, none⟩) (j : Int) w').t _
        unfold grapevinelaw12_play_l1
        refine Nd.j2 (Ψ := fun r => r = (decide (j < ds.length ∧ j < 300), w')) ?_ ?_
        · refine Nd.t (by simp) ?_
          by_cases hj : j < ds.length
          · exact Nd.t (by simp; omega) (Nd.ret (dec300 hj))
          · exact Nd.f (by simp; omega) (Nd.ret (by simp [hj]))
        · rintro _ _ he
          cases he
          by_cases hj : j < ds.length ∧ j < 300
          · obtain ⟨d, hd⟩ : ∃ d, ds[j]? = some d := ⟨_, List.getElem?_eq_getElem hj.1⟩
            obtain ⟨a, a1, a2⟩ := hs'.dwA hd
            refine Nd.t (decide_eq_true hj) (Nd.b1 a1 (Nd.b1 a2 ?_))
            refine Nd.j2 (Ψ := fun r => r.1 = true ∧ ∃ now' T', Hp F0 g0 w0 g r.2 (wheelR b now' T' :: refW c now' T' :: L) ∧ Mo g w' g r.2) (do_ok H3 d fun w4 n4 T4 H4 m4 => ⟨rfl, n4, T4, H4, m4⟩) ?_
            rintro v w4 ⟨hv, n4, T4, H4, m4⟩
            cases hv
            refine Nd.f (by simp) (Nd.ret ⟨m - 1, by omega, j + 1, w4, n4, T4, by rw [wr64 (by omega) (by omega)]; rfl, by omega, by omega, H4, m3.t m4⟩)
          · exact Nd.f (by simpa using hj) (Nd.ret ⟨w', now', T', rfl, H3, m3⟩)
      · rintro o ⟨w', now', T', rfl, H3, m3⟩
        exact Nd.ret (h2 hc b c w' now' T' H3 m3)
end
def Good (w : World) (r : Bool × World) : Prop := r.1 = true ∧ Fr (fun k => w.heap.size ≤ k) w r.2
theorem WheelPlays_law {w : World} (x : Int) (hx : (Lit.int .i64 x).wf = true) (s : Sl) (ds : List Dw) (hs : PL dwR 3 (old w) w s ds) : (grapevinelaw12_WheelPlays x s w).t (Good w) := by
  unfold grapevinelaw12_WheelPlays
  have H0 : Hp (fun _ => False) (old w) w (old w) w [] := Hp.beg (old_lt w)
  refine Nd.j4 (Ψ := fun r => r.2.2.1 = true ∧ (r.1 = none ∧ Hp (fun _ => False) (old w) w (old w) r.2.2.2 [] ∨ ∃ b c now T, r.1 = some ⟨b, 0, none⟩ ∧ r.2.1 = some ⟨c, 0, none⟩ ∧ Hp (fun _ => False) (old w) w (old w) r.2.2.2 [wheelR b now T, refW c now T]))
    (play_ok hs H0 x (fun _ w' H m => ⟨rfl, .inl ⟨rfl, H⟩⟩) fun _ b c w' now T H m => ⟨rfl, .inr ⟨b, c, now, T, rfl, rfl, H⟩⟩) ?_
  rintro a c ok w1 ⟨hok, ⟨rfl, H1⟩ | ⟨b, c', now, T, rfl, rfl, H1⟩⟩
  · cases hok
    refine Nd.j2 (Ψ := Good w) (Nd.j2 (Ψ := fun r => r.1 = true ∧ Hp (fun _ => False) (old w) w (old w) r.2 []) (live12_ok H1 fun w' H m => ⟨rfl, H⟩) ?_) (fun _ _ h => Nd.ret h)
    rintro v w2 ⟨hv, H2⟩
    cases hv
    exact Nd.t rfl (Nd.t rfl (Nd.t (by simp) (Nd.ret ⟨rfl, H2.fin⟩)))
  · cases hok
    refine Nd.j2 (Ψ := Good w) (Nd.j2 (Ψ := fun r => r.1 = true ∧ Hp (fun _ => False) (old w) w (old w) r.2 [wheelR b now T, refW c' now T]) (live12_ok H1 fun w' H m => ⟨rfl, H⟩) ?_) (fun _ _ h => Nd.ret h)
    rintro v w2 ⟨hv, H2⟩
    cases hv
    obtain ⟨w3, e3, H3, -⟩ := lsame_ok H2
    exact Nd.t rfl (Nd.t rfl (Nd.f (by simp) (Nd.b2 e3 (Nd.ret ⟨rfl, H3.fin⟩))))
section
variable {F0 : Nat → Prop} {g g0 : Gh} {w w0 : World} {L : List Rs} {b c i : Nat} {now to : Int} {T : Nat → Option Int} {s : Sl} {ds : List Dw}
theorem play0 (hs : PL dwR 3 g w s ds) (H : Hp F0 g0 w0 g w L) (now : Int) (hc : ¬ (now < 0 ∨ 1099511627776 < now)) :
    (grapevinelaw12_play now s w).t fun r => ∃ b c now T, r.1 = some ⟨b, 0, none⟩ ∧ r.2.1 = some ⟨c, 0, none⟩ ∧ r.2.2.1 = true ∧ Hp F0 g0 w0 g r.2.2.2 (wheelR b now T :: refW c now T :: L) ∧ Mo g w g r.2.2.2 :=
  play_ok hs H now (fun h => (hc h).elim) fun _ b c w' now T H m => ⟨b, c, now, T, rfl, rfl, rfl, H, m⟩
/-- Advance to a tick that may be. -/
theorem wAdv1 (H : Hp F0 g0 w0 g w (wheelR b now T :: L)) (to : Int) (hc : ¬ (to < now ∨ 1099511627776 < to)) :
    (wheel_Wheel_Advance (some ⟨b, 0, none⟩) to w).t fun r => r.2.1 = 0 ∧ ∃ l, Told T to l ∧ l.length ≤ 65 ∧ Hp F0 g0 w0 g r.2.2 (owR 3 1 r.1 (l.map nv) :: wheelR b to (aft T to) :: L) ∧ Mo g w g r.2.2 :=
  wAdv_ok H to (fun h => (hc h).elim) fun _ l z w' ht Hn m => ⟨rfl, l, ht, by
    have hr := (H.wrng).2
    exact nodup_len (n := 65) (l := l) (ht.ord.imp (fun {a c} h e => by subst e; exact h.asymm h)) (fun i hi => by
      obtain ⟨a, ha, -⟩ := (ht.mem i).1 hi
      have := hr i a ha
      omega), Hn, m⟩
theorem aft_aft {a c : Int} (h : a ≤ c) : aft (aft T a) c = aft T c := by
  funext i
  unfold aft
  cases T i with
  | none => rfl
  | some x =>
    by_cases h1 : x ≤ a
    · simp only [h1, if_true, show x ≤ c by omega]
    · simp only [h1, if_false]
theorem told_cat {a c : Int} (h : a ≤ c) {l l' : List Nat} (h1 : Told T a l) (h2 : Told (aft T a) c l') : Told T c (l ++ l') := by
  have hT : ∀ i x, aft T a i = some x → T i = some x ∧ a < x := fun i x hx => by
    unfold aft at hx
    cases hi : T i with
    | none => rw [hi] at hx; cases hx
    | some y =>
      rw [hi] at hx
      simp only at hx
      split at hx
      · cases hx
      · cases hx; exact ⟨rfl, by omega⟩
  refine ⟨List.pairwise_append.2 ⟨h1.ord, h2.ord.imp ?_, fun x hx y hy => ?_⟩, fun i => ?_⟩
  · rintro i j ⟨x, y, e1, e2, h3⟩
    exact ⟨x, y, (hT i x e1).1, (hT j y e2).1, h3⟩
  · obtain ⟨u, e1, h3⟩ := (h1.mem x).1 hx
    obtain ⟨v, e2, h4⟩ := (h2.mem y).1 hy
    have := hT y v e2
    exact ⟨u, v, e1, this.1, .inl (by omega)⟩
  · rw [List.mem_append, h1.mem, h2.mem]
    constructor
    · rintro (⟨x, e, h3⟩ | ⟨x, e, h3⟩)
      · exact ⟨x, e, by omega⟩
      · exact ⟨x, (hT i x e).1, h3⟩
    · rintro ⟨x, e, h3⟩
      by_cases hx : x ≤ a
      · exact .inl ⟨x, e, hx⟩
      · refine .inr ⟨x, ?_, h3⟩
        unfold aft
        rw [e]
        simp only
        rw [if_neg hx]
end
theorem WheelForks_law {w : World} (s : Sl) (ds : List Dw) (hs : PL dwR 3 (old w) w s ds) (s' : Sl) (ds' : List Dw) (hs' : PL dwR 3 (old w) w s' ds') : (grapevinelaw12_WheelForks s s' w).t (Good w) := by
  unfold grapevinelaw12_WheelForks
  have H0 : Hp (fun _ => False) (old w) w (old w) w [] := Hp.beg (old_lt w)
  refine Nd.j4 (play0 hs H0 3 (by omega)) ?_
  rintro _ _ _ w1 ⟨b, c, now, T, rfl, rfl, rfl, H1, m1⟩
  refine Nd.j2 (Ψ := fun r => r = (false, w1)) (Nd.f (by simp) (Nd.ret rfl)) ?_
  rintro _ _ he
  cases he
  obtain ⟨b', w2, e2, H2, m2⟩ := wFork_ok H1
  obtain ⟨c', w3, e3, H3, m3⟩ := rFork_ok H2.m2
  have H4 : Hp (fun _ => False) (old w) w (old w) w3 (wheelR b' now T :: refW c' now T :: wheelR b now T :: refW c now T :: []) := H3.perm ((List.Perm.cons _ (List.Perm.swap _ _ _)).trans ((List.Perm.swap _ _ _).trans (List.Perm.cons _ (List.Perm.cons _ (List.Perm.swap _ _ _)))))
  refine Nd.f (by simp) (Nd.b2 e2 (Nd.b2 e3 ?_))
  refine Nd.j1 (Ψ := fun o => ∃ w' now' T', o = .inl w' ∧ Hp (fun _ => False) (old w) w (old w) w' (wheelR b' now' T' :: refW c' now' T' :: wheelR b now T :: refW c now T :: [])) ?_ ?_
  · refine Nd.loop (fun m t => ∃ (j : Nat) (w' : World) (now' : Int) (T' : Nat → Option Int), t = ((j : Int), w') ∧ m + j = 300 ∧ j ≤ ds'.length ∧ Hp (fun _ => False) (old w) w (old w) w' (wheelR b' now' T' :: refW c' now' T' :: wheelR b now T :: refW c now T :: []) ∧ Mo (old w) w (old w) w') ?_ 300 _ ⟨0, w3, now, T, rfl, rfl, by omega, H4, m1.t (m2.t m3)⟩
    rintro m _ ⟨j, w', now', T', rfl, hm, hjl, H5, m5⟩
    have hs2 := hs'.dw m5
    have hn := hs'.len
    show (grapevinelaw12_WheelForks_l1 s' (some ⟨b', 0, none⟩) (some ⟨c', 0, none⟩) (j : Int) w').t _
    unfold grapevinelaw12_WheelForks_l1
    refine Nd.j2 (Ψ := fun r => r = (decide (j < ds'.length ∧ j < 300), w')) ?_ ?_
    · by_cases hj : j < ds'.length
      · exact Nd.t (by simp; omega) (Nd.ret (dec300 hj))
      · exact Nd.f (by simp; omega) (Nd.ret (by simp [hj]))
    · rintro _ _ he
      cases he
      by_cases hj : j < ds'.length ∧ j < 300
      · obtain ⟨d, hd⟩ : ∃ d, ds'[j]? = some d := ⟨_, List.getElem?_eq_getElem hj.1⟩
        obtain ⟨a, a1, a2⟩ := hs2.dwA hd
        refine Nd.t (decide_eq_true hj) (Nd.b1 a1 (Nd.b1 a2 ?_))
        refine Nd.j2 (Ψ := fun r => r.1 = true ∧ ∃ now' T', Hp (fun _ => False) (old w) w (old w) r.2 (wheelR b' now' T' :: refW c' now' T' :: wheelR b now T :: refW c now T :: []) ∧ Mo (old w) w' (old w) r.2) (do_ok H5 d fun w4 n4 T4 H4 m4 => ⟨rfl, n4, T4, H4, m4⟩) ?_
        rintro v w4 ⟨hv, n4, T4, H4, m4⟩
        cases hv
        refine Nd.f (by simp) (Nd.ret ⟨m - 1, by omega, j + 1, w4, n4, T4, by rw [wr64 (by omega) (by omega)]; rfl, by omega, by omega, H4, m5.t m4⟩)
      · exact Nd.f (by simpa using hj) (Nd.ret ⟨w', now', T', rfl, H5⟩)
  · rintro o ⟨w4, now', T', rfl, H5⟩
    refine Nd.j2 (Ψ := Good w) (Nd.j2 (Ψ := fun r => r.1 = true ∧ Hp (fun _ => False) (old w) w (old w) r.2 (wheelR b' now' T' :: refW c' now' T' :: wheelR b now T :: refW c now T :: [])) (live12_ok H5 fun w' H m => ⟨rfl, H⟩) ?_) (fun _ _ h => Nd.ret h)
    rintro v w5 ⟨hv, H6⟩
    cases hv
    obtain ⟨w6, e6, H7, -⟩ := lsame_ok (H6.m3.m3)
    obtain ⟨w7, e7, H8, -⟩ := lsame_ok (H7.m3.m3)
    exact Nd.t rfl (Nd.b2 e6 (Nd.t rfl (Nd.b2 e7 (Nd.ret ⟨rfl, H8.fin⟩))))
theorem WheelNext_law {w : World} (s : Sl) (ds : List Dw) (hs : PL dwR 3 (old w) w s ds) : (grapevinelaw12_WheelNext s w).t (Good w) := by
  unfold grapevinelaw12_WheelNext
  have H0 : Hp (fun _ => False) (old w) w (old w) w [] := Hp.beg (old_lt w)
  refine Nd.j4 (play0 hs H0 0 (by omega)) ?_
  rintro _ _ _ w1 ⟨b, c, now, T, rfl, rfl, rfl, H1, m1⟩
  refine Nd.j2 (Ψ := fun r => r = (false, w1)) (Nd.f (by simp) (Nd.ret rfl)) ?_
  rintro _ _ he
  cases he
  obtain ⟨n, f, w2, e2, x2, H2, m2⟩ := wNext_ok H1
  refine Nd.f (by simp) (Nd.b3 e2 ?_)
  rcases x2 with ⟨rfl, rfl, hnone⟩ | ⟨rfl, ⟨i, hi⟩, hmin⟩
  · refine Nd.t rfl (Nd.j2 (Ψ := Good w) (Nd.j2 (Ψ := fun r => r.1 = true ∧ Hp (fun _ => False) (old w) w (old w) r.2 (wheelR b now T :: refW c now T :: [])) (live12_ok H2 fun w' H m => ⟨rfl, H⟩) ?_) (fun _ _ h => Nd.ret h))
    rintro v w3 ⟨hv, H3⟩
    cases hv
    obtain ⟨z, w4, e4, H4, -⟩ := wIds_ok H3
    have hid : idsL T = [] := List.filter_eq_nil_iff.2 fun i _ => by rw [hnone i]; simp
    have hz : z.n = 0 := by have := H4.nD; rw [hid] at this; exact this
    exact Nd.t rfl (Nd.t (by decide) (Nd.b2 e4 (Nd.ret ⟨by simp [hz], H4.fin⟩)))
  · have hrng := H2.wrng
    have hr := hrng.2 i n hi
    refine Nd.f (by simp) ?_
    refine Nd.jX (Ψ := fun w' => ∃ now' L', Hp (fun _ => False) (old w) w (old w) w' (wheelR b now' T :: L') ∧ (now' ≤ n ∨ now' = now) ∧ 0 ≤ now' ∧ now' ≤ 1099511627776) ?_ ?_
    · refine Nd.b2 (wNow_T H2) ?_
      by_cases hlt : now < n
      · refine Nd.t (by simpa using hlt) ?_
        rw [wr64 (by omega) (by omega)]
        refine Nd.j3 (wAdv1 H2 (n - 1) (by omega)) ?_
        rintro z e w3 ⟨he, l, ht, -, H3, -⟩
        cases he
        have hl : l = [] := List.eq_nil_iff_forall_not_mem.2 fun k hk => by
          obtain ⟨a, ha, hle⟩ := (ht.mem k).1 hk
          have := hmin k a ha
          omega
        subst hl
        have hz : z.n = 0 := by have := H3.nD; exact this
        have haft : aft T (n - 1) = T := by
          funext k
          unfold aft
          cases hk : T k with
          | none => rfl
          | some a =>
            have := hmin k a hk
            simp only
            rw [if_neg (by omega)]
        rw [haft] at H3
        refine Nd.j2 (Ψ := fun r => r = (false, w3)) (Nd.f (by simp) (Nd.ret (by simp [hz]))) ?_
        rintro _ _ he
        cases he
        exact Nd.f (by simp) (Nd.ret ⟨n - 1, _, H3.tl, .inl (by omega), by omega, by omega⟩)
      · exact Nd.f (by simpa using hlt) (Nd.ret ⟨now, _, H2, .inr rfl, hrng.1.1, hrng.1.2⟩)
    · rintro w3 ⟨now', L', H3, hno, hno2, hno3⟩
      have hmx : mxI n now' = if now' > n then now' else n := rfl
      refine Nd.b2 (wNow_T H3) ?_
      refine Nd.j3 (wAdv1 H3 (mxI n now') (by rw [hmx]; split <;> omega)) ?_
      rintro z e w4 ⟨he, l, ht, -, H4, -⟩
      cases he
      have hin : i ∈ l := (ht.mem i).2 ⟨n, hi, by rw [hmx]; split <;> omega⟩
      have hz : 0 < z.n := by have h1 : z.n = l.length := H4.nD; have h2 := List.length_pos_of_mem hin; omega
      refine Nd.j2 (Ψ := Good w) (Nd.j2 (Ψ := fun r => r.1 = true ∧ Hp (fun _ => False) (old w) w (old w) r.2 (owR 3 1 z (l.map nv) :: wheelR b (mxI n now') (aft T (mxI n now')) :: L')) (live12_ok H4 fun w' H m => ⟨rfl, H⟩) ?_) (fun _ _ h => Nd.ret h)
      rintro v w5 ⟨hv, H5⟩
      cases hv
      exact Nd.t rfl (Nd.t (by decide) (Nd.ret ⟨by simpa using hz, H5.fin⟩))
theorem u16_range {n : Int} (h : (Lit.int .u16 n).wf = true) : 0 ≤ n ∧ n < 65536 := by
  simp [Lit.wf, IntKind.min, IntKind.max, IntKind.signed, IntKind.bits] at h; omega
theorem WheelCuts_law {w : World} (s : Sl) (ds : List Dw) (hs : PL dwR 3 (old w) w s ds) (x : Int) (hx : (Lit.int .u16 x).wf = true) (y : Int) (hy : (Lit.int .u16 y).wf = true) : (grapevinelaw12_WheelCuts s x y w).t (Good w) := by
  unfold grapevinelaw12_WheelCuts
  have hx := u16_range hx
  have hy := u16_range hy
  have H0 : Hp (fun _ => False) (old w) w (old w) w [] := Hp.beg (old_lt w)
  refine Nd.j4 (play0 hs H0 0 (by omega)) ?_
  rintro _ _ _ w1 ⟨b, c, now, T, rfl, rfl, rfl, H1, m1⟩
  refine Nd.j2 (Ψ := fun r => r = (false, w1)) (Nd.f (by simp) (Nd.ret rfl)) ?_
  rintro _ _ he
  cases he
  have hrng := H1.wrng
  refine Nd.f (by simp) (Nd.b2 (wNow_T H1) ?_)
  refine Nd.j3 (wAdv1 H1 now (by omega)) ?_
  rintro z e w2 ⟨he, l0, -, -, H2, -⟩
  cases he
  have H2 := H2.tl
  obtain ⟨T1, hT1⟩ : ∃ T1, T1 = aft T now := ⟨_, rfl⟩
  rw [← hT1] at H2
  obtain ⟨b', w3, e3, H3, m3⟩ := wFork_ok H2
  have H4 := H3.sw
  have ea : IntKind.wrap .i64 (now + IntKind.wrap .i64 x) = now + x := by rw [wr64 (x := x) (by omega) (by omega), wr64 (by omega) (by omega)]
  have eb : IntKind.wrap .i64 (now + x + IntKind.wrap .i64 y) = now + x + y := by rw [wr64 (x := y) (by omega) (by omega), wr64 (by omega) (by omega)]
  refine Nd.f (by simp) (Nd.b2 e3 (Nd.b2 (wNow_T H4) ?_))
  rw [ea, eb]
  by_cases hm : 1099511627776 < now + x + y
  · refine Nd.t (by simpa using hm) (Nd.j2 (Ψ := Good w) (live12_ok H4 fun w' H m => ⟨rfl, H.fin⟩) (fun _ _ h => Nd.ret h))
  · refine Nd.f (by simpa using hm) ?_
    refine Nd.j3 (wAdv1 H4 (now + x) (by omega)) ?_
    rintro z1 e w5 ⟨he, l1, t1, n1, H5, -⟩
    cases he
    refine Nd.j3 (wAdv1 H5.sw (now + x + y) (by omega)) ?_
    rintro z2 e w6 ⟨he, l2, t2, n2, H6, -⟩
    cases he
    refine Nd.j3 (wAdv1 H6.m3 (now + x + y) (by omega)) ?_
    rintro z3 e w7 ⟨he, l3, t3, n3, H7, -⟩
    cases he
    rw [aft_aft (by omega)] at H7
    have el : l1 ++ l2 = l3 := (told_cat (by omega) t1 t2).uniq t3
    refine Nd.j2 (Ψ := Good w) (Nd.j2 (Ψ := fun r => r.1 = true ∧ Hp (fun _ => False) (old w) w (old w) r.2 (owR 3 1 z3 (l3.map nv) :: wheelR b' (now + x + y) (aft T1 (now + x + y)) :: owR 3 1 z2 (l2.map nv) :: wheelR b (now + x + y) (aft T1 (now + x + y)) :: owR 3 1 z1 (l1.map nv) :: refW c now T :: [])) (live12_ok H7 fun w' H m => ⟨rfl, H⟩) ?_) (fun _ _ h => Nd.ret h)
    rintro v w8 ⟨hv, H8⟩
    cases hv
    have H9 : Hp (fun _ => False) (old w) w (old w) w8 (owR 3 1 z1 (l1.map nv) :: owR 3 1 z2 (l2.map nv) :: owR 3 1 z3 (l3.map nv) :: wheelR b' (now + x + y) (aft T1 (now + x + y)) :: wheelR b (now + x + y) (aft T1 (now + x + y)) :: refW c now T :: []) := H8.m4.perm (List.Perm.cons _ ((List.Perm.cons _ (List.Perm.swap _ _ _)).trans (List.Perm.swap _ _ _)))
    have k1 := H9.nD
    have k2 := H9.tl.nD
    obtain ⟨z4, w9, e9, -, H10, -⟩ := Hp.apS stI H9 H9.tl.rd (by simp [nv, Value.oneCell']) (by omega)
    rw [← List.map_append] at H10
    have H11 := H10.sw.tl
    obtain ⟨w10, e10, H12, -⟩ := same_ok H11 (by rw [List.length_append]; omega)
    have H13 := H12.tl.tl.sw
    obtain ⟨z5, w11, e11, H14, -⟩ := wIds_ok H13
    obtain ⟨z6, w12, e12, H15, -⟩ := wIds_ok H14.m2
    obtain ⟨w13, e13, H16, -⟩ := same_ok H15.m2 (Nat.le_trans idsL_len (by omega))
    refine Nd.t rfl (Nd.t (by decide) (Nd.t (by decide) (Nd.t (by decide) (Nd.b2 e9 (Nd.b2 e10 (Nd.t (by simpa using el) (Nd.b2 (wNow_T H13) (Nd.b2 (wNow_T H13.sw) (Nd.t (by simp) (Nd.b2 e11 (Nd.b2 e12 (Nd.b2 e13 (Nd.ret ⟨by simp, H16.fin⟩)))))))))))))
end Go.Proofs.Ytejkaciimmfgcaa.D
