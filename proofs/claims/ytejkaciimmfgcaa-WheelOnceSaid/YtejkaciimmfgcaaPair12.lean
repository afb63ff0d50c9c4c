/- Chapter 12's deeds on both wheels. -/
import Derived.Test.YtejkaciimmfgcaaRWa
import Derived.Test.YtejkaciimmfgcaaArgs
import Derived.Test.YtejkaciimmfgcaaFnX
namespace Go.Proofs.Ytejkaciimmfgcaa.D
open Go
set_option linter.unusedVariables false
set_option linter.unusedSimpArgs false
structure Dw where
  k : Int
  i : Int
  a : Int
def Dw.cs (d : Dw) : List Value := [iv d.k, iv d.i, iv d.a]
def dwR (_ : Gh) (_ : World) (cs : List Value) (d : Dw) : Prop := cs = d.cs
section
variable {F0 : Nat → Prop} {g g0 : Gh} {w w0 : World} {L : List Rs} {b c i : Nat} {now to : Int} {T : Nat → Option Int}
theorem told_eq {l : List Nat} {to : Int} (h : Told T to l) (l' : List Nat) (h1 : l'.Pairwise (TLt T)) (h2 : ∀ i, i ∈ l' ↔ ∃ a, T i = some a ∧ a ≤ to) : l = l' := h.uniq ⟨h1, h2⟩
/-! ### live -/
theorem sing_flat : ∀ l : List Nat, (l.map fun k => [nv k]).flatten = l.map nv
  | [] => rfl
  | x :: l => by rw [List.map_cons, List.flatten_cons, sing_flat l]; rfl
theorem lit_same {z : Sl} {l : List Nat} (l' : List Nat) (hl : l.length ≤ 1000) (hl' : l'.length ≤ 1000) (H : Hp F0 g0 w0 g w (owR 3 1 z (l.map nv) :: L)) :
    ∃ s w1 w2, bsl w 3 1 (l'.map fun k => [nv k]) = some (s, w1) ∧ grapevineref12_Same z s w1 = some (decide (l = l'), w2) ∧ Hp F0 g0 w0 g w2 (owR 3 1 z (l.map nv) :: L) ∧ Mo g w g w2 := by
  obtain ⟨s, w1, e1, n1, -, H1, m1⟩ := H.bsl (T := 3) (sz := 1) (ps := l'.map fun k => [nv k]) (by intro p hp; obtain ⟨k, -, rfl⟩ := List.mem_map.1 hp; rfl) (by simp; omega)
  rw [sing_flat] at H1
  obtain ⟨w2, e2, H2, m2⟩ := same_ok H1.sw hl
  exact ⟨s, w1, w2, e1, e2, H2.sw.tl, m1.t m2⟩
theorem live12_ok (H : Hp F0 g0 w0 g w L) {Φ : Bool × World → Prop} (h : ∀ w', Hp F0 g0 w0 g w' L → Mo g w g w' → Φ (true, w')) : (grapevinelaw12_live w).t Φ := by
  unfold grapevinelaw12_live
  rcases wNew_ok H 0 with ⟨h0, -⟩ | ⟨-, b, w1, e1, H1, m1⟩
  · omega
  obtain ⟨w2, e2, H2, m2⟩ := wSet_ok H1 1 9
  obtain ⟨w3, e3, H3, m3⟩ := wSet_ok H2 2 5
  obtain ⟨w4, e4, H4, m4⟩ := wSet_ok H3 3 9
  rw [if_neg (by decide)] at e2 H2
  rw [if_neg (by decide)] at e3 H3
  rw [if_neg (by decide)] at e4
  simp only [if_neg (show ¬ ((1 : Int) < 1 ∨ (64 : Int) < 1 ∨ (9 : Int) < 0 ∨ (1099511627776 : Int) < 9) by decide), if_neg (show ¬ ((2 : Int) < 1 ∨ (64 : Int) < 2 ∨ (5 : Int) < 0 ∨ (1099511627776 : Int) < 5) by decide), if_neg (show ¬ ((3 : Int) < 1 ∨ (64 : Int) < 3 ∨ (9 : Int) < 0 ∨ (1099511627776 : Int) < 9) by decide)] at H4
  obtain ⟨T, hT⟩ : ∃ T : Nat → Option Int, T = upN (upN (upN (fun _ => none) (1 : Int).toNat (some 9)) (2 : Int).toNat (some 5)) (3 : Int).toNat (some 9) := ⟨_, rfl⟩
  rw [← hT] at H4
  have t1 : T 1 = some 9 := by rw [hT]; rfl
  have t2 : T 2 = some 5 := by rw [hT]; rfl
  have t3 : T 3 = some 9 := by rw [hT]; rfl
  have t0 : ∀ i a, T i = some a → i = 1 ∨ i = 2 ∨ i = 3 := fun i a ha => by
    rw [hT] at ha
    simp only [upN, show (1 : Int).toNat = 1 from rfl, show (2 : Int).toNat = 2 from rfl, show (3 : Int).toNat = 3 from rfl] at ha
    by_cases h3 : i = 3
    · omega
    · by_cases h2 : i = 2
      · omega
      · by_cases h1 : i = 1
        · omega
        · simp [h1, h2, h3] at ha
  refine Nd.b3 e1 (Nd.j2 (Ψ := fun r => r = (false, w4)) ?_ ?_)
  · refine Nd.f (by decide) (Nd.f (by simp) (Nd.b2 e2 (Nd.f (by decide) (Nd.b2 e3 (Nd.f (by decide) (Nd.b2 e4 (Nd.ret rfl)))))))
  · rintro _ _ he
    cases he
    refine Nd.f (by simp) ?_
    refine Nd.j3 (Ψ := fun r => r.2.1 = 0 ∧ Hp F0 g0 w0 g r.2.2 (owR 3 1 r.1 ([2].map nv) :: wheelR b 5 (aft T 5) :: L) ∧ Mo g w4 g r.2.2) (wAdv_ok H4 5 (fun h => by omega) fun _ l z w' ht Hn m => ?_) ?_
    · have : l = [2] := told_eq ht [2] (by simp) (fun i => by
        constructor
        · intro hi; have : i = 2 := by simpa using hi
          subst this; exact ⟨5, t2, by omega⟩
        · rintro ⟨a, ha, hle⟩
          rcases t0 i a ha with rfl | rfl | rfl
          · rw [t1] at ha; cases ha; omega
          · simp
          · rw [t3] at ha; cases ha; omega)
      subst this
      exact ⟨rfl, Hn, m⟩
    · rintro x e w5 ⟨he, H5, m5⟩
      cases he
      have a1 : aft T 5 1 = some 9 := by unfold aft; rw [t1]; rfl
      have a3 : aft T 5 3 = some 9 := by unfold aft; rw [t3]; rfl
      have a0 : ∀ i a, aft T 5 i = some a → i = 1 ∨ i = 3 := fun i a ha => by
        unfold aft at ha
        cases hi : T i with
        | none => rw [hi] at ha; cases ha
        | some a' =>
          rcases t0 i a' hi with rfl | rfl | rfl
          · omega
          · rw [t2] at ha; simp at ha
          · omega
      refine Nd.j3 (Ψ := fun r => r.2.1 = 0 ∧ Hp F0 g0 w0 g r.2.2 (owR 3 1 r.1 ([1, 3].map nv) :: wheelR b 9 (aft (aft T 5) 9) :: owR 3 1 x ([2].map nv) :: L) ∧ Mo g w5 g r.2.2) (wAdv_ok H5.sw 9 (fun h => by omega) fun _ l z w' ht Hn m => ?_) ?_
      · have : l = [1, 3] := told_eq ht [1, 3] (by
          refine List.pairwise_cons.2 ⟨fun k hk => ?_, by simp⟩
          have : k = 3 := by simpa using hk
          subst this
          exact ⟨9, 9, a1, a3, by omega⟩) (fun i => by
          constructor
          · intro hi
            have : i = 1 ∨ i = 3 := by simpa using hi
            rcases this with rfl | rfl
            · exact ⟨9, a1, by omega⟩
            · exact ⟨9, a3, by omega⟩
          · rintro ⟨a, ha, -⟩
            rcases a0 i a ha with rfl | rfl <;> simp)
        subst this
        exact ⟨rfl, Hn, m⟩
      · rintro y e w6 ⟨he, H6, m6⟩
        cases he
        obtain ⟨s1, w7, w8, e7, e8, H8, m8⟩ := lit_same [2] (by simp) (by simp) (H6.m2)
        obtain ⟨s2, w9, w10, e9, e10, H10, m10⟩ := lit_same [1, 3] (by simp) (by simp) (H8.sw)
        refine Nd.j2 (Ψ := fun r => r = (true, w10)) ?_ ?_
        · refine Nd.t (by decide) (Nd.t (by decide) (Nd.b2 e7 (Nd.b2 e8 (Nd.t (by simp) (Nd.b2 e9 (Nd.b2 e10 (Nd.ret (by simp))))))))
        · rintro _ _ he
          cases he
          exact Nd.ret (h w10 H10.tl.tl.tl (m1.t (m2.t (m3.t (m4.t (m5.t (m6.t (m8.t m10))))))))
/-! ### same -/
theorem idsL_len : (idsL T).length ≤ 64 := by
  have := List.length_filter_le (fun i => (T i).isSome) (List.range' 1 64)
  rw [List.length_range'] at this
  exact this
theorem lsame_ok (H : Hp F0 g0 w0 g w (wheelR b now T :: refW c now T :: L)) : ∃ w', grapevinelaw12_same (some ⟨b, 0, none⟩) (some ⟨c, 0, none⟩) w = some (true, w') ∧ Hp F0 g0 w0 g w' (wheelR b now T :: refW c now T :: L) ∧ Mo g w g w' := by
  obtain ⟨n, f, w1, e1, x1, H1, m1⟩ := wNext_ok H
  obtain ⟨n', f', e2, x2⟩ := rNext_ok H1.sw
  obtain ⟨rfl, rfl⟩ := x1.uniq x2
  have H2 := H1.nw (nw_drew H1.lt)
  have m2 := (nw_drew H1.lt).mo
  have e3 := wNow_T H2
  have e4 := rNow H2.sw
  obtain ⟨z1, w3, e5, H3, m3⟩ := wIds_ok H2
  obtain ⟨z2, w4, e6, H4, m4⟩ := rIds_ok H3.m2
  obtain ⟨w5, e7, H5, m5⟩ := same_ok H4.m2 (Nat.le_trans idsL_len (by omega))
  have H6 : Hp F0 g0 w0 g w5 (wheelR b now T :: refW c now T :: L) := H5.tl.tl.sw
  have lp := Ex.loop (step := fun s : Int × World => grapevinelaw12_same_l1 (some ⟨b, 0, none⟩) (some ⟨c, 0, none⟩) s.1 s.2) (Φ := fun o => o = .inl w5)
    (fun m s => ∃ x : Int, s = (x, w5) ∧ (m : Int) + x = 66 ∧ -1 ≤ x) (fun m s ⟨x, e, hm, hx⟩ => by
      subst e
      unfold grapevinelaw12_same_l1
      by_cases hl : x ≤ 65
      · refine Ex.t (by simpa using hl) (Ex.b3 (wAt_T H6 x) (Ex.b3 (rAt_ok H6.sw x) (Ex.b2 (a := false) (b := w5) (by simp) (Ex.f (by simp) (Ex.ret ⟨m - 1, by omega, x + 1, by rw [wr64 (by omega) (by omega)], by omega, by omega⟩)))))
      · exact Ex.f (by simpa using hl) (Ex.ret rfl)) 67 ((-1 : Int), w5) ⟨-1, rfl, by omega, by omega⟩
  obtain ⟨o, e8, rfl⟩ := lp
  refine ⟨w5, ?_, H6, m1.t (m2.t (m3.t (m4.t m5)))⟩
  unfold grapevinelaw12_same
  have e5' : wheel_Wheel_Ids (some ⟨b, 0, none⟩) w1.drew = some (z1, w3) := e5
  rw [e1, bind3_some, e2, bind3_some]
  simp only [D.dr, Option.bind_some, e3, bind2_some, add_mk, Nat.zero_add, e4]
  rw [if_neg (by simp), if_neg (by simp), if_neg (by simp), e5', bind2_some, e6, bind2_some, e7, bind2_some, chk_pos trivial, bind2_some, if_neg (by simp), e8]
  rfl
/-! ### do -/
theorem do_ok (H : Hp F0 g0 w0 g w (wheelR b now T :: refW c now T :: L)) (d : Dw) {Φ : Bool × World → Prop}
    (h : ∀ w' now' T', Hp F0 g0 w0 g w' (wheelR b now' T' :: refW c now' T' :: L) → Mo g w g w' → Φ (true, w')) : (grapevinelaw12_do (some ⟨b, 0, none⟩) (some ⟨c, 0, none⟩) d.cs w).t Φ := by
  obtain ⟨pd, w1, e1, H1, m1⟩ := H.box (cs := d.cs) (T := 30)
  have l0 : ldI .i64 w1 ⟨pd, 0, none⟩ = some d.k := H1.ldI rfl
  have l2 : ldI .i64 w1 ⟨pd, 2, none⟩ = some d.a := H1.ldI rfl
  have H2 := H1.nw (nw_drew H1.lt)
  have m2 := m1.t (nw_drew H1.lt).mo
  have l1 : ldI .i64 w1.drew ⟨pd, 1, none⟩ = some d.i := H2.ldI rfl
  have hadv : ∀ (to : Int) (w2 : World), Hp F0 g0 w0 g w2 (bxR pd d.cs 30 :: wheelR b now T :: refW c now T :: L) → Mo g w g w2 → ((fun (v6 : Int) (w7 : World) =>
      cb3 (wheel_Wheel_Advance (some ⟨b, 0, none⟩) v6 w7) fun v72 v73 w74 => lb3 (grapevineref12_Wheel_Advance (some ⟨c, 0, none⟩) v6 w74) fun v76 v77 w78 =>
      cb2 (lb2 (grapevineref12_Same v72 v76 w78) fun v84 w85 => if v84 = true then (nret ((v73 == v77), w85)) else (nret (false, w85))) fun v80 w81 => nret (v80, w81)) to w2).t Φ := by
    intro to w2 H3 m3
    refine Nd.j3 (Ψ := fun r => (to < now ∨ 1099511627776 < to) ∧ r.1 = Sl.nil ∧ r.2.1 = 2 ∧ Hp F0 g0 w0 g r.2.2 (wheelR b now T :: bxR pd d.cs 30 :: refW c now T :: L) ∧ Mo g w2 g r.2.2 ∨ ¬ (to < now ∨ 1099511627776 < to) ∧ r.2.1 = 0 ∧ ∃ l, Told T to l ∧ Hp F0 g0 w0 g r.2.2 (owR 3 1 r.1 (l.map nv) :: wheelR b to (aft T to) :: bxR pd d.cs 30 :: refW c now T :: L) ∧ Mo g w2 g r.2.2)
      (wAdv_ok H3.sw to (fun hc w' Hn m => .inl ⟨hc, rfl, rfl, Hn, m⟩) fun hc l z w' ht Hn m => .inr ⟨hc, rfl, l, ht, Hn, m⟩) ?_
    rintro x e w4 (⟨hc, rfl, rfl, H4, m4⟩ | ⟨hc, rfl, l, ht, H4, m4⟩)
    · rcases rAdv_ok H4.m2 to with ⟨-, e5⟩ | ⟨hc', -⟩
      · refine Nd.b3 e5 (Nd.j2 (Ψ := fun r => r.1 = true ∧ Hp F0 g0 w0 g r.2 (wheelR b now T :: refW c now T :: L) ∧ Mo g w4 g r.2) ?_ fun v w5 ⟨hv, H5, m5⟩ => ?_)
        · have hn := (H4.onil (T := 3) (sz := 1)).onil (T := 3) (sz := 1)
          obtain ⟨w6, e6, H6, m6⟩ := same_ok (l := []) (l' := []) hn (by simp)
          exact Nd.b2 e6 (Nd.t (by simp) (Nd.ret ⟨rfl, H6.tl.tl.sw.tl, m6⟩))
        · subst hv
          exact Nd.ret (h w5 _ _ H5 (m3.t (m4.t m5)))
      · exact (hc' hc).elim
    · rcases rAdv_ok H4.m3 to with ⟨hc', -⟩ | ⟨-, l', z', w5, e5, ht', H5, m5⟩
      · exact (hc hc').elim
      · have := ht.uniq ht'
        subst this
        refine Nd.b3 e5 (Nd.j2 (Ψ := fun r => r.1 = true ∧ Hp F0 g0 w0 g r.2 (wheelR b to (aft T to) :: refW c to (aft T to) :: L) ∧ Mo g w5 g r.2) ?_ fun v w6 ⟨hv, H6, m6⟩ => ?_)
        · have hll : l.length ≤ 1000 := by
            have hr := (H.wrng).2
            have := nodup_len (n := 65) (l := l) (ht.ord.imp (fun {a c} h e => by subst e; exact h.asymm h)) (fun i hi => by
              obtain ⟨a, ha, -⟩ := (ht.mem i).1 hi
              have := hr i a ha
              omega)
            omega
          obtain ⟨w6, e6, H6, m6⟩ := same_ok (H5.perm (L' := owR 3 1 x (l.map nv) :: owR 3 1 z' (l.map nv) :: refW c to (aft T to) :: wheelR b to (aft T to) :: bxR pd d.cs 30 :: L) ((List.Perm.cons _ (List.Perm.swap _ _ _)).trans (List.Perm.swap _ _ _))) hll
          exact Nd.b2 e6 (Nd.t (by simp) (Nd.ret ⟨by simp, H6.tl.tl.sw.perm (List.Perm.cons _ (List.Perm.swap _ _ _)) |>.sw.tl.sw.perm (by exact List.Perm.swap _ _ _), m6⟩))
        · subst hv
          exact Nd.ret (h w6 _ _ H6 (m3.t (m4.t (m5.t m6))))
  unfold grapevinelaw12_do
  refine Nd.b2 e1 (Nd.b1 (by rw [add_mk]; exact l2) (Nd.jX (Ψ := fun r => ∃ w2, r.2 = w2 ∧ Hp F0 g0 w0 g w2 (bxR pd d.cs 30 :: wheelR b now T :: refW c now T :: L) ∧ Mo g w g w2) (Nd.b1 (by rw [add_mk]; exact l0) ?_) ?_))
  · by_cases k0 : d.k = 0
    · obtain ⟨w3, e3, H3, m3⟩ := wSet_ok H2.sw d.i d.a
      obtain ⟨w4, e4, H4, m4⟩ := rSet_ok H3.m2 d.i d.a
      have l3 : ldI .i64 w3 ⟨pd, 1, none⟩ = some d.i := H3.sw.ldI rfl
      refine Nd.t (by simp [k0]) (Nd.b1 (a := w1.drew) rfl (Nd.b1 (by rw [add_mk]; exact l1) (Nd.b2 e3 (Nd.b1 (by rw [add_mk]; exact l3) (Nd.b2 e4 (Nd.ck (by rw [add_mk]; exact l1) ?_))))))
      refine Nd.j1 (Ψ := fun r => Φ r) (Nd.ret ?_) (fun r hr => Nd.ret hr)
      simp only [beq_self_eq_true]
      exact h w4 _ _ (H4.m2.tl.sw.sw.perm (List.Perm.swap _ _ _)|>.sw |>.sw) (m2.t (m3.t m4))
    · refine Nd.f (by simpa using k0) ?_
      by_cases k1 : d.k = 1
      · obtain ⟨w3, e3, H3, m3⟩ := wDrop_ok H2.sw d.i
        obtain ⟨w4, e4, H4, m4⟩ := rDrop_ok H3.m2 d.i
        have l3 : ldI .i64 w3 ⟨pd, 1, none⟩ = some d.i := H3.sw.ldI rfl
        refine Nd.t (by simp [k1]) (Nd.b1 (a := w1.drew) rfl (Nd.b1 (by rw [add_mk]; exact l1) (Nd.b2 e3 (Nd.b1 (by rw [add_mk]; exact l3) (Nd.b2 e4 (Nd.ck (by rw [add_mk]; exact l1) ?_))))))
        refine Nd.j1 (Ψ := fun r => Φ r) (Nd.ret ?_) (fun r hr => Nd.ret hr)
        simp only [beq_self_eq_true]
        exact h w4 _ _ (H4.m2.tl.sw.sw.perm (List.Perm.swap _ _ _)|>.sw |>.sw) (m2.t (m3.t m4))
      · refine Nd.f (by simpa using k1) ?_
        by_cases k3 : d.k = 3
        · obtain ⟨n, f, e3, -⟩ := rNext_ok H1.m2
          refine Nd.t (by simp [k3]) (Nd.b3 e3 (Nd.s1 (Nd.b1 (by rw [add_mk]; exact rNow H1.m2) ?_)))
          refine Nd.j2 (Ψ := fun r => r.2 = w1) ?_ ?_
          · by_cases hf : f = true
            · exact Nd.t hf (Nd.ret rfl)
            · exact Nd.f hf (Nd.ret rfl)
          · rintro v w2 rfl
            by_cases hv : v = true
            · exact Nd.t hv (Nd.ret ⟨w2, rfl, H1, m1⟩)
            · exact Nd.f hv (Nd.ret ⟨w2, rfl, H1, m1⟩)
        · refine Nd.f (by simpa using k3) ?_
          by_cases k2 : d.k = 2
          · exact Nd.t (by simp [k2]) (Nd.ret ⟨w1, rfl, H1, m1⟩)
          · refine Nd.f (by simpa using k2) (Nd.b1 (a := w1.drew) rfl (Nd.b2 (wNow_T H2.sw) (Nd.s1 (Nd.b1 (by rw [add_mk]; exact rNow H2.m2) (Nd.ck (by rw [add_mk]; exact rNow H2.m2) ?_)))))
            refine Nd.j1 (Ψ := fun r => Φ r) (Nd.ret ?_) (fun r hr => Nd.ret hr)
            simp only [beq_self_eq_true]
            exact h w1.drew _ _ H2.tl m2
  · rintro ⟨v, w2⟩ ⟨w3, rfl, H3, m3⟩
    exact hadv v w2 H3 m3
end
end Go.Proofs.Ytejkaciimmfgcaa.D
