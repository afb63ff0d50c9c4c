/- WheelNone and WheelOnce. -/
import Derived.Test.YtejkaciimmfgcaaOpen12
namespace Go.Proofs.Ytejkaciimmfgcaa.D
open Go
set_option linter.unusedVariables false
set_option linter.unusedSimpArgs false
section
variable {F0 : Nat → Prop} {g g0 : Gh} {w w0 : World} {L : List Rs} {b c i : Nat} {now to : Int} {T : Nat → Option Int} {s : Sl} {ds : List Dw}
theorem idsNil : wheel_Wheel_Ids none w = some (Sl.nil, w) := by
  have lp := Ex.loop (step := fun s : Sl × Int × World => wheel_Wheel_Ids_l1 none s.1 s.2.1 s.2.2) (Φ := fun o => o = (Sl.nil, w))
    (fun m t => ∃ x : Int, t = (Sl.nil, x, w) ∧ (m : Int) + x = 65 ∧ 1 ≤ x) (fun m t ⟨x, e, hm, hx⟩ => by
      subst e
      show Ex (wheel_Wheel_Ids_l1 none Sl.nil x w) _
      unfold wheel_Wheel_Ids_l1
      by_cases hl : x ≤ 64
      · refine Ex.t (by simpa using hl) (Ex.b2 (a := Sl.nil) (b := w) (by rw [has_nil, bind2_some, if_neg (by simp)]) (Ex.ret ⟨m - 1, by omega, x + 1, by rw [wr64 (by omega) (by omega)], by omega, by omega⟩))
      · exact Ex.f (by simpa using hl) (Ex.ret rfl)) 64 (Sl.nil, (1 : Int), w) ⟨1, rfl, by omega, by omega⟩
  obtain ⟨o, e, rfl⟩ := lp
  unfold wheel_Wheel_Ids
  rw [e, bind2_some]
/-- All of an owned slice's numbers are written over. -/
theorem nines {z : Sl} {l : List Nat} (hl : l.length ≤ 1000) (H : Hp F0 g0 w0 g w (owR 3 1 z (l.map nv) :: L)) :
    (nloop (fun t : Int × World => grapevinelaw12_WheelNone_l1 z t.1 t.2) (0, w)).t fun w' => Hp F0 g0 w0 g w' L := by
  have hn := H.nD
  refine Nd.loop (fun m t => ∃ (j : Nat) (cs : List Value) (w' : World), t = ((j : Int), w') ∧ m + j = l.length ∧ cs.length = l.length ∧ Hp F0 g0 w0 g w' (owR 3 1 z cs :: L)) ?_ l.length _ ⟨0, _, w, rfl, by omega, by simp, H⟩
  rintro m _ ⟨j, cs, w', rfl, hm, hc, H⟩
  show (grapevinelaw12_WheelNone_l1 z (j : Int) w').t _
  unfold grapevinelaw12_WheelNone_l1
  by_cases hj : j < l.length
  · obtain ⟨p, rest, hp, -⟩ := H.ow.at_ (by omega)
    have hi : D.ix z (j : Int) 1 = some ⟨p, j, none⟩ := by unfold D.ix; rw [hp]; simp; omega
    obtain ⟨w2, e2, H2, -⟩ := H.oset (o := j) hp (by omega) (x := .int .i64 9) (by omega) rfl
    exact Nd.t (by simp; omega) (Nd.b1 hi (Nd.b1 e2 (Nd.ret ⟨m - 1, by omega, j + 1, _, w2, by rw [wr64 (by omega) (by omega)]; rfl, by omega, by simpa using hc, H2⟩)))
  · exact Nd.f (by simp; omega) (Nd.ret H.tl)
end
theorem WheelNone_law {w : World} (x : Int) (hx : (Lit.int .i64 x).wf = true) (y : Int) (hy : (Lit.int .i64 y).wf = true) : (grapevinelaw12_WheelNone x y w).t (Good w) := by
  unfold grapevinelaw12_WheelNone
  have H0 : Hp (fun _ => False) (old w) w (old w) w [] := Hp.beg (old_lt w)
  refine Nd.j3 (Ψ := fun r => r.1 = Sl.nil ∧ r.2.1 = 1 ∧ Hp (fun _ => False) (old w) w (old w) r.2.2 []) ?_ ?_
  · unfold wheel_Wheel_Advance
    obtain ⟨p, w1, e1, H1, -⟩ := H0.box (cs := [.pointer none]) (T := 24)
    exact Nd.b2 e1 (Nd.b1 (H1.ldP rfl) (Nd.t (by simp) (Nd.ret ⟨rfl, rfl, H1.tl⟩)))
  rintro _ _ w1 ⟨h1, h2, H1⟩
  cases h1; cases h2
  have eAt : wheel_Wheel_At none x w1 = some (0, false, w1) := by unfold wheel_Wheel_At; rw [has_nil, bind2_some, if_pos (by simp)]
  have eNx : wheel_Wheel_Next none w1 = some (0, false, w1) := by unfold wheel_Wheel_Next; rw [if_pos (by simp)]
  have eSe : wheel_Wheel_Set none x y w1 = some (1, w1) := by unfold wheel_Wheel_Set; rw [if_pos (by simp)]; rfl
  have eDr : wheel_Wheel_Drop none x w1 = some (1, w1) := by unfold wheel_Wheel_Drop; rw [if_pos (by simp)]
  have eNo : wheel_Wheel_Now none w1 = some (0, w1) := by unfold wheel_Wheel_Now; rw [if_pos (by simp)]
  have eFo : wheel_Wheel_Fork none w1 = some (none, w1) := by unfold wheel_Wheel_Fork; rw [if_pos (by simp)]
  refine Nd.b3 eAt (Nd.b3 eNx (Nd.j2 (Ψ := fun r => r = (false, w1)) ?_ ?_))
  · exact Nd.f (by decide) (Nd.f (by decide) (Nd.f (by simp) (Nd.f (by decide) (Nd.f (by simp) (Nd.b2 eSe (Nd.f (by decide) (Nd.b2 eDr (Nd.f (by decide) (Nd.b2 eNo (Nd.f (by decide) (Nd.b2 idsNil (Nd.f (by decide) (Nd.b2 eFo (Nd.ret (by simp)))))))))))))))
  rintro _ _ he
  cases he
  refine Nd.f (by simp) ?_
  rcases wNew_ok H1 0 with ⟨h0, -⟩ | ⟨-, b, w2, e2, H2, m2⟩
  · omega
  obtain ⟨w3, e3, H3, m3⟩ := wSet_ok H2 7 3
  obtain ⟨w4, e4, H4, m4⟩ := wSet_ok H3 2 4
  rw [if_neg (by decide)] at e3 e4
  simp only [if_neg (show ¬ ((7 : Int) < 1 ∨ (64 : Int) < 7 ∨ (3 : Int) < 0 ∨ (1099511627776 : Int) < 3) by decide), if_neg (show ¬ ((2 : Int) < 1 ∨ (64 : Int) < 2 ∨ (4 : Int) < 0 ∨ (1099511627776 : Int) < 4) by decide)] at H4
  obtain ⟨T, hT⟩ : ∃ T : Nat → Option Int, T = upN (upN (fun _ => none) (7 : Int).toNat (some 3)) (2 : Int).toNat (some 4) := ⟨_, rfl⟩
  rw [← hT] at H4
  have hid : idsL T = [2, 7] := by rw [hT]; rfl
  refine Nd.b3 e2 (Nd.j2 (Ψ := fun r => r = (false, w4)) (Nd.f (by decide) (Nd.f (by simp) (Nd.b2 e3 (Nd.f (by decide) (Nd.b2 e4 (Nd.ret rfl)))))) ?_)
  rintro _ _ he
  cases he
  obtain ⟨z, w5, e5, H5, -⟩ := wIds_ok H4
  refine Nd.f (by simp) (Nd.b2 e5 ?_)
  refine Nd.j1 (nines (by rw [hid]; simp) H5) ?_
  intro w6 H6
  refine Nd.j2 (Ψ := Good w) (Nd.j2 (Ψ := fun r => r.1 = true ∧ Hp (fun _ => False) (old w) w (old w) r.2 (wheelR b 0 T :: [])) (live12_ok H6 fun w' H m => ⟨rfl, H⟩) ?_) (fun _ _ h => Nd.ret h)
  rintro v w7 ⟨hv, H7⟩
  cases hv
  obtain ⟨z2, w8, e8, H8, -⟩ := wIds_ok H7
  obtain ⟨s1, w9, w10, e9, e10, H10, -⟩ := lit_same [2, 7] (Nat.le_trans idsL_len (by omega)) (by simp) H8
  exact Nd.t rfl (Nd.b2 e8 (Nd.b2 e9 (Nd.b2 e10 (Nd.ret ⟨by simpa using hid, H10.fin⟩))))
/-! ### WheelOnce -/
section
variable {F0 : Nat → Prop} {g g0 : Gh} {w w0 : World} {L : List Rs} {b c i pd : Nat} {now to : Int} {T : Nat → Option Int} {s : Sl} {ds : List Dw} {E : Nat → Int}
/-- The row of what is due. -/
def dueR (pd : Nat) (E : Nat → Int) : Rs := bxR pd (rg 65 fun i => iv (E i)) 28
def EOk (E : Nat → Int) (T : Nat → Option Int) : Prop := ∀ i, 1 ≤ i → i ≤ 64 → E i = (T i).getD (-1)
theorem dueI (H : Hp F0 g0 w0 g w (dueR pd E :: L)) {i : Nat} (hi : i < 65) : ixA ⟨pd, 0, none⟩ (i : Int) 65 1 = some ⟨pd, i, none⟩ ∧ ldI .i64 w ⟨pd, i, none⟩ = some (E i) := by
  refine ⟨?_, Hp.ldI H (rg_get hi)⟩
  have := ixA_n (b := pd) (o := 0) hi
  rwa [Nat.zero_add] at this
theorem dueS (H : Hp F0 g0 w0 g w (dueR pd E :: L)) {i : Nat} (hi : i < 65) (x : Int) : ∃ w', stV w ⟨pd, i, none⟩ (.int .i64 x) = some w' ∧ Hp F0 g0 w0 g w' (dueR pd (upN E i x) :: L) ∧ Mo g w g w' := by
  obtain ⟨w', e, H2, m⟩ := Hp.stV H (o := i) (x := iv x) (by simpa using hi) rfl
  rw [rg_set (f' := fun k => iv (upN E i x k)) (by simp) (fun k hk => by simp [upN_ne hk])] at H2
  exact ⟨w', e, H2, m⟩
theorem Rd.ixI {cs : List Value} {k : IntKind} {x : Int} {j : Nat} (h : Rd w s 1 cs) (hx : cs[j]? = some (.int k x)) : ∃ a, D.ix s (j : Int) 1 = some a ∧ D.ldI k w a = some x := by
  have hi : j < s.n := by have := h.len; have h2 := (List.getElem?_eq_some_iff.1 hx).1; omega
  obtain ⟨a, ha, hc⟩ := h.at_ (by omega)
  refine ⟨a.add (j * 1), ?_, by rw [Nat.mul_one]; exact ldI_cell (hc j _ hx)⟩
  unfold D.ix
  rw [ha]
  simp only [Option.bind_some]
  rw [if_pos ⟨by omega, by omega⟩]
  simp
theorem PL.dwI (h : PL dwR 3 g w s ds) {j : Nat} {d : Dw} (hd : ds[j]? = some d) {a : Addr} (ha : D.ix s (j : Int) 3 = some a) : ldI .i64 w (a.add 0) = some d.k ∧ ldI .i64 w (a.add 1) = some d.i ∧ ldI .i64 w (a.add 2) = some d.a := by
  obtain ⟨a', cs, e1, hg, hl, hr, hc⟩ := h.at_ j d hd
  obtain rfl : cs = d.cs := hr
  rw [ha] at e1; cases e1
  exact ⟨ldI_cell (hc 0 _ rfl), ldI_cell (hc 1 _ rfl), ldI_cell (hc 2 _ rfl)⟩
theorem EOk.set (h : EOk E T) (i : Nat) (x : Int) : EOk (upN E i x) (upN T i (some x)) := fun k h1 h2 => by
  by_cases hk : k = i
  · subst hk; simp
  · rw [upN_ne hk, upN_ne hk]; exact h k h1 h2
theorem EOk.drop (h : EOk E T) (i : Nat) : EOk (upN E i (-1)) (upN T i none) := fun k h1 h2 => by
  by_cases hk : k = i
  · subst hk; simp
  · rw [upN_ne hk, upN_ne hk]; exact h k h1 h2
theorem once1 (H : Hp F0 g0 w0 g w (dueR pd E :: L)) : (nloop (fun t : Int × World => grapevinelaw12_WheelOnce_l1 ⟨pd, 0, none⟩ t.1 t.2) (1, w)).t fun w' => ∃ E', EOk E' (fun _ => none) ∧ Hp F0 g0 w0 g w' (dueR pd E' :: L) ∧ Mo g w g w' := by
  refine Nd.loop (fun m t => ∃ (k : Nat) (E' : Nat → Int) (w' : World), t = (((k + 1 : Nat) : Int), w') ∧ m + k = 64 ∧ (∀ i, 1 ≤ i → i ≤ k → E' i = -1) ∧ Hp F0 g0 w0 g w' (dueR pd E' :: L) ∧ Mo g w g w') ?_ 64 _ ⟨0, E, w, rfl, rfl, fun i h1 h2 => by omega, H, Mo.r⟩
  rintro m _ ⟨k, E', w', rfl, hm, hE, H, Mm⟩
  show (grapevinelaw12_WheelOnce_l1 ⟨pd, 0, none⟩ ((k + 1 : Nat) : Int) w').t _
  unfold grapevinelaw12_WheelOnce_l1
  by_cases hk : k < 64
  · obtain ⟨w2, e2, H2, m2⟩ := dueS H (i := k + 1) (by omega) (-1)
    refine Nd.t (by simp; omega) (Nd.b1 (dueI H (i := k + 1) (by omega)).1 (Nd.b1 e2 (Nd.ret ⟨m - 1, by omega, k + 1, _, w2, by rw [wr64 (by omega) (by omega)]; rfl, by omega, fun i h1 h2 => ?_, H2, Mm.t m2⟩)))
    by_cases hi : i = k + 1
    · subst hi; simp
    · rw [upN_ne hi]; exact hE i h1 (by omega)
  · exact Nd.f (by simp; omega) (Nd.ret ⟨E', fun i h1 h2 => by rw [hE i h1 (by omega)]; rfl, H, Mm⟩)
theorem once2 (hs : PL dwR 3 g w s ds) (hE : EOk E T) (H : Hp F0 g0 w0 g w (wheelR b now T :: dueR pd E :: L)) :
    (nloop (fun t : Int × World => grapevinelaw12_WheelOnce_l2 s (some ⟨b, 0, none⟩) ⟨pd, 0, none⟩ t.1 t.2) (0, w)).t fun w' => ∃ E' T', EOk E' T' ∧ Hp F0 g0 w0 g w' (wheelR b now T' :: dueR pd E' :: L) ∧ Mo g w g w' := by
  have hn := hs.len
  refine Nd.loop (fun m t => ∃ (j : Nat) (E' : Nat → Int) (T' : Nat → Option Int) (w' : World), t = ((j : Int), w') ∧ m + j = 300 ∧ j ≤ ds.length ∧ EOk E' T' ∧ Hp F0 g0 w0 g w' (wheelR b now T' :: dueR pd E' :: L) ∧ Mo g w g w') ?_ 300 _ ⟨0, E, T, w, rfl, rfl, by omega, hE, H, Mo.r⟩
  rintro m _ ⟨j, E', T', w', rfl, hm, hjl, hE, H, Mm⟩
  have hs' := hs.dw Mm
  show (grapevinelaw12_WheelOnce_l2 s (some ⟨b, 0, none⟩) ⟨pd, 0, none⟩ (j : Int) w').t _
  unfold grapevinelaw12_WheelOnce_l2
  refine Nd.j2 (Ψ := fun r => r = (decide (j < ds.length ∧ j < 300), w')) ?_ ?_
  · by_cases hj : j < ds.length
    · exact Nd.t (by simp; omega) (Nd.ret (dec300 hj))
    · exact Nd.f (by simp; omega) (Nd.ret (by simp [hj]))
  rintro _ _ he
  cases he
  by_cases hj : j < ds.length ∧ j < 300
  · obtain ⟨d, hd⟩ : ∃ d, ds[j]? = some d := ⟨_, List.getElem?_eq_getElem hj.1⟩
    obtain ⟨a, a1, -⟩ := hs'.dwA hd
    refine Nd.t (decide_eq_true hj) ?_
    refine Nd.j1 (Ψ := fun w2 => ∃ E2 T2, EOk E2 T2 ∧ Hp F0 g0 w0 g w2 (wheelR b now T2 :: dueR pd E2 :: L) ∧ Mo g w' g w2) (Nd.b1 a1 (Nd.b1 (hs'.dwI hd a1).1 ?_)) ?_
    · by_cases k0 : d.k = 0
      · have H2 := H.nw (nw_drew H.lt)
        have m2 := (nw_drew H.lt).mo
        have hs2 := hs'.dw m2
        obtain ⟨w3, e3, H3, m3⟩ := wSet_ok H2 d.i d.a
        refine Nd.t (by simp [k0]) (Nd.b1 (a := w'.drew) rfl (Nd.b1 a1 (Nd.b1 (hs2.dwI hd a1).2.1 (Nd.b1 a1 (Nd.b1 (hs2.dwI hd a1).2.2 (Nd.b2 e3 ?_))))))
        by_cases hc : d.i < 1 ∨ 64 < d.i ∨ d.a < 0 ∨ 1099511627776 < d.a
        · rw [if_pos hc] at H3
          rw [if_pos hc]
          exact Nd.f (by simp) (Nd.ret ⟨E', T', hE, H3, m2.t m3⟩)
        · rw [if_neg hc] at H3
          rw [if_neg hc]
          have H4 := H3.nw (nw_drew H3.lt)
          have m4 := m2.t (m3.t (nw_drew H3.lt).mo)
          have hs4 := hs'.dw m4
          obtain ⟨k, hk⟩ : ∃ k : Nat, d.i = k := ⟨d.i.toNat, by omega⟩
          obtain ⟨w5, e5, H5, m5⟩ := dueS H4.sw (i := k) (by omega) d.a
          have h6 := (hs4.dwI hd a1).2.1
          rw [hk] at h6 H5
          rw [Int.toNat_natCast] at H5
          exact Nd.t (by simp) (Nd.b1 (a := w3.drew) rfl (Nd.b1 a1 (Nd.b1 h6 (Nd.b1 a1 (Nd.b1 (hs4.dwI hd a1).2.2 (Nd.b1 (dueI H4.sw (i := k) (by omega)).1 (Nd.b1 e5 (Nd.ret ⟨_, _, hE.set k d.a, H5.sw, m4.t m5⟩))))))))
      · refine Nd.f (by simpa using k0) ?_
        by_cases k1 : d.k = 1
        · obtain ⟨w3, e3, H3, m3⟩ := wDrop_ok H d.i
          refine Nd.t (by simp [k1]) (Nd.b1 a1 (Nd.b1 (hs'.dwI hd a1).2.1 (Nd.b2 e3 ?_)))
          by_cases hc : (tI T' d.i).isSome = true
          · rw [if_pos hc] at H3
            rw [if_pos hc]
            have hs4 := hs'.dw m3
            obtain ⟨k, hk, hk64⟩ : ∃ k : Nat, d.i = k ∧ k ≤ 64 := by
              unfold tI at hc
              split at hc
              · obtain ⟨x, hx⟩ := Option.isSome_iff_exists.1 hc
                have := H.wrng.2 _ x hx
                exact ⟨d.i.toNat, by omega, by omega⟩
              · simp at hc
            obtain ⟨w5, e5, H5, m5⟩ := dueS H3.sw (i := k) (by omega) (-1)
            have h6 := (hs4.dwI hd a1).2.1
            rw [hk] at h6 H5
            rw [Int.toNat_natCast] at H5
            exact Nd.t (by simp) (Nd.b1 a1 (Nd.b1 h6 (Nd.b1 (dueI H3.sw (i := k) (by omega)).1 (Nd.b1 e5 (Nd.ret ⟨_, _, hE.drop k, H5.sw, m3.t m5⟩)))))
          · rw [if_neg hc] at H3
            rw [if_neg hc]
            exact Nd.f (by simp) (Nd.ret ⟨E', T', hE, H3, m3⟩)
        · exact Nd.f (by simpa using k1) (Nd.ret ⟨E', T', hE, H, Mo.r⟩)
    · rintro w2 ⟨E2, T2, hE2, H2, m2⟩
      exact Nd.ret ⟨m - 1, by omega, j + 1, E2, T2, w2, by rw [wr64 (by omega) (by omega)]; rfl, by omega, by omega, hE2, H2, Mm.t m2⟩
  · exact Nd.f (by simpa using hj) (Nd.ret ⟨E', T', hE, H, Mm⟩)
/-- What is told is due, once, in order. -/
theorem once4 {x : Int} {i : Int} {l : List Nat} {z : Sl} (hE : EOk E T) (hr : ∀ k a, T k = some a → 1 ≤ k ∧ k ≤ 64 ∧ 0 ≤ a) (ht : Told T to l) (hl : l.length ≤ 65) (hi : 0 < i → ∀ k a, T k = some a → x < a) (H : Hp F0 g0 w0 g w (owR 3 1 z (l.map nv) :: dueR pd E :: L)) :
    (nloop (fun t : Int × World => grapevinelaw12_WheelOnce_l4 z ⟨pd, 0, none⟩ to i x t.1 t.2) (0, w)).t fun o => o = .inl w := by
  have hn := H.nD
  refine Nd.loop (fun m t => ∃ j : Nat, t = ((j : Int), w) ∧ m + j = l.length) ?_ l.length _ ⟨0, rfl, by omega⟩
  rintro m _ ⟨j, rfl, hm⟩
  show (grapevinelaw12_WheelOnce_l4 z ⟨pd, 0, none⟩ to i x (j : Int) w).t _
  unfold grapevinelaw12_WheelOnce_l4
  by_cases hj : j < l.length
  · obtain ⟨k, hk⟩ : ∃ k, l[j]? = some k := ⟨_, List.getElem?_eq_getElem hj⟩
    obtain ⟨a, a1, a2⟩ := H.ow.ixI (nvs_get hk)
    obtain ⟨u, hu, hule⟩ := (ht.mem k).1 (List.mem_of_getElem? hk)
    have hkr := hr k u hu
    obtain ⟨d1, d2⟩ := dueI H.tl (i := k) (by omega)
    have hEk : E k = u := by rw [hE k (by omega) (by omega), hu]; rfl
    rw [hEk] at d2
    have hprev : (if (decide (0 < (j : Int))) = true then (lb1 (ix z (IntKind.wrap .i64 ((j : Int) - 1)) 1) fun p156 => lb1 (ldI .i64 w p156) fun v158 => lb1 (ixA ⟨pd, 0, none⟩ v158 65 1) fun p160 => lb1 (ldI .i64 w p160) fun v162 => nret ((decide (u < v162)), w)) else (nret (false, w))).t fun r => r = (false, w) := by
      by_cases h0 : 0 < j
      · refine Nd.t (by simp; omega) ?_
        obtain ⟨q, hq⟩ : ∃ q, l[j - 1]? = some q := ⟨_, List.getElem?_eq_getElem (by omega)⟩
        obtain ⟨a', a3, a4⟩ := H.ow.ixI (nvs_get hq)
        obtain ⟨v, hv, -⟩ := (ht.mem q).1 (List.mem_of_getElem? hq)
        have hqr := hr q v hv
        obtain ⟨d3, d4⟩ := dueI H.tl (i := q) (by omega)
        have hEq : E q = v := by rw [hE q (by omega) (by omega), hv]; rfl
        rw [hEq] at d4
        have hlt : TLt T q k := by
          have h1 := List.pairwise_iff_getElem.1 ht.ord (j - 1) j (by omega) hj (by omega)
          rw [List.getElem?_eq_getElem (by omega)] at hq
          rw [List.getElem?_eq_getElem hj] at hk
          rw [Option.some.inj hq, Option.some.inj hk] at h1
          exact h1
        obtain ⟨v', u', e1, e2, h5⟩ := hlt
        rw [hv] at e1; rw [hu] at e2
        cases e1; cases e2
        refine Nd.b1 (by rw [wr64 (by omega) (by omega), show (j : Int) - 1 = ((j - 1 : Nat) : Int) by omega]; exact a3) (Nd.b1 a4 (Nd.b1 d3 (Nd.b1 d4 (Nd.ret ?_))))
        rw [decide_eq_false (by omega)]
      · exact Nd.f (by simp; omega) (Nd.ret rfl)
    refine Nd.t (by simp; omega) (Nd.b1 a1 (Nd.b1 a2 (Nd.b1 d1 (Nd.b1 d2 ?_))))
    refine Nd.j2 (Ψ := fun r => r = (false, w)) ?_ ?_
    · refine Nd.f (by simp; omega) (Nd.f (by simp; omega) ?_)
      by_cases h0 : 0 < i
      · have := hi h0 k u hu
        exact Nd.t (by simpa using h0) (Nd.f (by simp; omega) hprev)
      · exact Nd.f (by simpa using h0) hprev
    · rintro _ _ he
      cases he
      exact Nd.f (by simp) (Nd.ret ⟨m - 1, by omega, j + 1, by rw [wr64 (by omega) (by omega)]; rfl, by omega⟩)
  · exact Nd.f (by simp; omega) (Nd.ret rfl)
theorem once5 {l : List Nat} {z : Sl} (hr : ∀ k ∈ l, k < 65) (hl : l.length ≤ 65) (H : Hp F0 g0 w0 g w (owR 3 1 z (l.map nv) :: dueR pd E :: L)) :
    (nloop (fun t : Int × World => grapevinelaw12_WheelOnce_l5 z ⟨pd, 0, none⟩ t.1 t.2) (0, w)).t fun w' => Hp F0 g0 w0 g w' (owR 3 1 z (l.map nv) :: dueR pd (fun k => if k ∈ l then -1 else E k) :: L) ∧ Mo g w g w' := by
  have hn := H.nD
  refine Nd.loop (fun m t => ∃ (j : Nat) (w' : World), t = ((j : Int), w') ∧ m + j = l.length ∧ Hp F0 g0 w0 g w' (owR 3 1 z (l.map nv) :: dueR pd (fun k => if k ∈ l.take j then -1 else E k) :: L) ∧ Mo g w g w') ?_ l.length _ ⟨0, w, rfl, by omega, by simpa using H, Mo.r⟩
  rintro m _ ⟨j, w', rfl, hm, H, Mm⟩
  show (grapevinelaw12_WheelOnce_l5 z ⟨pd, 0, none⟩ (j : Int) w').t _
  unfold grapevinelaw12_WheelOnce_l5
  by_cases hj : j < l.length
  · obtain ⟨k, hk⟩ : ∃ k, l[j]? = some k := ⟨_, List.getElem?_eq_getElem hj⟩
    have hk65 := hr k (List.mem_of_getElem? hk)
    obtain ⟨a, a1, a2⟩ := H.ow.ixI (nvs_get hk)
    obtain ⟨w2, e2, H2, m2⟩ := dueS H.sw (i := k) hk65 (-1)
    refine Nd.t (by simp; omega) (Nd.b1 a1 (Nd.b1 a2 (Nd.b1 (dueI H.tl hk65).1 (Nd.b1 e2 (Nd.ret ⟨m - 1, by omega, j + 1, w2, by rw [wr64 (by omega) (by omega)]; rfl, by omega, ?_, Mm.t m2⟩)))))
    have e : upN (fun k => if k ∈ l.take j then -1 else E k) k (-1) = fun k => if k ∈ l.take (j + 1) then -1 else E k := by
      funext q
      by_cases hq : q = k
      · subst hq; rw [upN_same, if_pos (by rw [List.take_add_one, hk]; simp)]
      · rw [upN_ne hq]
        have : q ∈ l.take (j + 1) ↔ q ∈ l.take j := by rw [List.take_add_one, hk]; simp [hq]
        simp only [this]
    rw [e] at H2
    exact H2.sw
  · refine Nd.f (by simp; omega) (Nd.ret ⟨?_, Mm⟩)
    rwa [List.take_of_length_le (by omega)] at H
theorem once6 (hE : EOk E (aft T to)) (H : Hp F0 g0 w0 g w (dueR pd E :: L)) : (nloop (fun t : Int × World => grapevinelaw12_WheelOnce_l6 ⟨pd, 0, none⟩ to t.1 t.2) (1, w)).t fun o => o = .inl w := by
  refine Nd.loop (fun m t => ∃ k : Nat, t = (((k + 1 : Nat) : Int), w) ∧ m + k = 64) ?_ 64 _ ⟨0, rfl, rfl⟩
  rintro m _ ⟨k, rfl, hm⟩
  show (grapevinelaw12_WheelOnce_l6 ⟨pd, 0, none⟩ to ((k + 1 : Nat) : Int) w).t _
  unfold grapevinelaw12_WheelOnce_l6
  by_cases hk : k < 64
  · obtain ⟨d1, d2⟩ := dueI H (i := k + 1) (by omega)
    have hEk := hE (k + 1) (by omega) (by omega)
    refine Nd.t (by simp; omega) (Nd.j2 (Ψ := fun r => r = (false, w)) (Nd.b1 d1 (Nd.b1 d2 ?_)) ?_)
    · by_cases h0 : 0 ≤ E (k + 1)
      · refine Nd.t (by simpa using h0) (Nd.b1 d1 (Nd.b1 d2 (Nd.ret ?_)))
        have : ¬ E (k + 1) ≤ to := by
          unfold aft at hEk
          cases hT : T (k + 1) with
          | none => rw [hT] at hEk; simp at hEk; omega
          | some a =>
            rw [hT] at hEk
            simp only at hEk
            split at hEk
            · simp at hEk; omega
            · simp at hEk; omega
        rw [decide_eq_false this]
      · exact Nd.f (by simpa using h0) (Nd.ret rfl)
    · rintro _ _ he
      cases he
      exact Nd.f (by simp) (Nd.ret ⟨m - 1, by omega, k + 1, by rw [wr64 (by omega) (by omega)]; rfl, by omega⟩)
  · exact Nd.f (by simp; omega) (Nd.ret rfl)
theorem EOk.aft {l : List Nat} (hE : EOk E T) (ht : Told T to l) : EOk (fun k => if k ∈ l then -1 else E k) (aft T to) := fun k h1 h2 => by
  have h := hE k h1 h2
  unfold D.aft
  by_cases hk : k ∈ l
  · obtain ⟨a, ha, hle⟩ := (ht.mem k).1 hk
    simp only [hk, if_true, ha, hle]
    rfl
  · simp only [hk, if_false, h]
    cases hT : T k with
    | none => rfl
    | some a =>
      have : ¬ a ≤ to := fun hle => hk ((ht.mem k).2 ⟨a, hT, hle⟩)
      simp only [this, if_false]
end
theorem WheelOnce_law {w : World} (s : Sl) (ds : List Dw) (hs : PL dwR 3 (old w) w s ds) (q : Sl) (xs : List Int) (hq : Arg w.heap.size w q 1 (nums .u16 xs)) (hwf : ∀ n ∈ xs, (Lit.int .u16 n).wf = true) (hle : q.n ≤ q.c) (hmx : q.c ≤ maxLen) :
    (grapevinelaw12_WheelOnce s q w).t (Good w) := by
  unfold grapevinelaw12_WheelOnce
  have H0 : Hp (fun _ => False) (old w) w (old w) w [] := Hp.beg (old_lt w)
  have hq := PR.of_arg hq
  have hqn : xs.length = q.n := by have := hq.rd.len; simpa [nums] using this
  rcases wNew_ok H0 0 with ⟨h0, -⟩ | ⟨-, b, w1, e1, H1, m1⟩
  · omega
  refine Nd.b3 e1 (Nd.j2 (Ψ := fun r => r = (false, w1)) (Nd.f (by decide) (Nd.ret (by simp))) ?_)
  rintro _ _ he
  cases he
  obtain ⟨pd, w2, e2, H2, m2⟩ := H1.box (cs := List.replicate 65 (.int .i64 0)) (T := 28)
  rw [rg_rep] at H2
  refine Nd.f (by simp) (Nd.b2 e2 (Nd.j1 (once1 (E := fun _ => 0) H2) ?_))
  rintro w3 ⟨E3, hE3, H3, m3⟩
  have M3 := m1.t (m2.t m3)
  refine Nd.j1 (once2 (hs.dw M3) hE3 H3.sw) ?_
  rintro w4 ⟨E4, T4, hE4, H4, m4⟩
  have M4 := M3.t m4
  refine Nd.j1 (Ψ := fun o => ∃ w' now' T' E', o = .inl w' ∧ (∀ i, T' i = none) ∧ Hp (fun _ => False) (old w) w (old w) w' (wheelR b now' T' :: dueR pd E' :: [])) ?_ ?_
  · refine Nd.loop (fun m t => ∃ (at_ : Int) (i : Nat) (T : Nat → Option Int) (E : Nat → Int) (w' : World), t = (at_, (i : Int), w') ∧ m + i = 202 ∧ EOk E T ∧ Hp (fun _ => False) (old w) w (old w) w' (wheelR b at_ T :: dueR pd E :: []) ∧ Mo (old w) w (old w) w' ∧
      ((i ≤ q.n ∧ i ≤ 200 ∧ 0 ≤ at_ ∧ at_ ≤ 65535 * i ∧ (0 < i → ∀ k a, T k = some a → at_ < a)) ∨ (i ≤ 201 ∧ ¬ (i ≤ q.n ∧ i ≤ 200) ∧ ∀ k, T k = none))) ?_ 202 _ ⟨0, 0, T4, E4, w4, rfl, rfl, hE4, H4, M4, .inl ⟨by omega, by omega, by omega, by omega, fun h => by omega⟩⟩
    rintro m _ ⟨at_, i, T, E, w', rfl, hm, hE, H, Mm, hA⟩
    show (grapevinelaw12_WheelOnce_l3 q (some ⟨b, 0, none⟩) ⟨pd, 0, none⟩ at_ (i : Int) w').t _
    unfold grapevinelaw12_WheelOnce_l3
    refine Nd.j2 (Ψ := fun r => r = (decide (i ≤ q.n ∧ i ≤ 200), w')) ?_ ?_
    · by_cases hj : i ≤ q.n
      · refine Nd.t (by simp; omega) (Nd.ret ?_)
        have h3 : ((i : Int) ≤ 200) ↔ i ≤ 200 := by omega
        simp [hj, h3]
      · exact Nd.f (by simp; omega) (Nd.ret (by simp [hj]))
    rintro _ _ he
    cases he
    rcases hA with ⟨hi1, hi2, ha0, ha1, hgt⟩ | ⟨-, hno, hnone⟩
    · refine Nd.t (by simp [hi1, hi2]) ?_
      have hq' := hq.mo Mm
      have hrng := H.wrng
      refine Nd.j2 (Ψ := fun r => r.2 = w' ∧ at_ ≤ r.1 ∧ r.1 ≤ 1099511627776 ∧ (i < q.n ∧ i < 200 ∧ r.1 ≤ 65535 * (i + 1) ∨ ¬ (i < q.n ∧ i < 200) ∧ r.1 = 1099511627776)) ?_ ?_
      · refine Nd.j2 (Ψ := fun r => r = (decide (i < q.n ∧ i < 200), w')) ?_ ?_
        · by_cases hj : i < q.n
          · refine Nd.t (by simp; omega) (Nd.ret ?_)
            have h3 : ((i : Int) < 200) ↔ i < 200 := by omega
            simp [hj, h3]
          · exact Nd.f (by simp; omega) (Nd.ret (by simp [hj]))
        rintro _ _ he
        cases he
        by_cases hj : i < q.n ∧ i < 200
        · obtain ⟨x, hx⟩ : ∃ x, xs[i]? = some x := ⟨_, List.getElem?_eq_getElem (by omega)⟩
          obtain ⟨a, a1, a2⟩ := hq'.rd.ixI (j := i) (k := .u16) (x := x) (by rw [nums_get, hx]; rfl)
          have hxr := u16_range (hwf x (List.mem_of_getElem? hx))
          refine Nd.t (decide_eq_true hj) (Nd.b1 a1 (Nd.b1 a2 (Nd.ret ?_)))
          rw [wr64 (x := x) (by omega) (by omega), wr64 (by omega) (by omega)]
          exact ⟨rfl, by simp only; omega, by simp only; omega, .inl ⟨hj.1, hj.2, by simp only; omega⟩⟩
        · exact Nd.f (by simpa using hj) (Nd.ret ⟨rfl, by simp only; omega, by simp only; omega, .inr ⟨hj, rfl⟩⟩)
      · rintro to w5 ⟨h5, hto1, hto2, hto3⟩
        cases h5
        refine Nd.j3 (wAdv1 H to (by omega)) ?_
        rintro z e w6 ⟨he, l, ht, hl, H6, m6⟩
        cases he
        have H6' : Hp (fun _ => False) (old w) w (old w) w6 (owR 3 1 z (l.map nv) :: dueR pd E :: wheelR b to (aft T to) :: []) := H6.perm (List.Perm.cons _ (List.Perm.swap _ _ _))
        refine Nd.f (by decide) (Nd.j1 (once4 (x := at_) (i := (i : Int)) hE (fun k a h => by have := hrng.2 k a h; omega) ht hl (fun h => hgt (by omega)) H6') ?_)
        rintro _ rfl
        refine Nd.j1 (once5 (fun k hk => by obtain ⟨a, ha, -⟩ := (ht.mem k).1 hk; have := hrng.2 k a ha; omega) hl H6') ?_
        rintro w7 ⟨H7, m7⟩
        refine Nd.j1 (once6 (hE.aft ht) H7.tl) ?_
        rintro _ rfl
        refine Nd.ret ⟨m - 1, by omega, to, i + 1, aft T to, _, w7, by rw [wr64 (by omega) (by omega)]; rfl, by omega, hE.aft ht, H7.tl.sw, Mm.t (m6.t m7), ?_⟩
        have haft : ∀ k a, aft T to k = some a → to < a ∧ T k = some a := fun k a h => by
          unfold aft at h
          cases hT : T k with
          | none => rw [hT] at h; cases h
          | some y =>
            rw [hT] at h
            simp only at h
            split at h
            · cases h
            · cases h; exact ⟨by omega, rfl⟩
        rcases hto3 with ⟨h1, h2, h3⟩ | ⟨h1, rfl⟩
        · exact .inl ⟨by omega, by omega, by omega, by omega, fun _ k a h => (haft k a h).1⟩
        · refine .inr ⟨by omega, by omega, fun k => ?_⟩
          cases hk : aft T 1099511627776 k with
          | none => rfl
          | some a =>
            have h2 := haft k a hk
            have := hrng.2 k a h2.2
            omega
    · exact Nd.f (by simpa using hno) (Nd.ret ⟨w', at_, T, E, rfl, hnone, H⟩)
  · rintro _ ⟨w5, now', T', E', rfl, hnone, H5⟩
    refine Nd.j2 (Ψ := Good w) (Nd.j2 (Ψ := fun r => r.1 = true ∧ Hp (fun _ => False) (old w) w (old w) r.2 (wheelR b now' T' :: dueR pd E' :: [])) (live12_ok H5 fun w' H m => ⟨rfl, H⟩) ?_) (fun _ _ h => Nd.ret h)
    rintro v w6 ⟨hv, H6⟩
    cases hv
    obtain ⟨z, w7, e7, H7, -⟩ := wIds_ok H6
    have hid : idsL T' = [] := List.filter_eq_nil_iff.2 fun i _ => by rw [hnone i]; simp
    have hz : z.n = 0 := by have := H7.nD; rw [hid] at this; exact this
    exact Nd.t rfl (Nd.b2 e7 (Nd.ret ⟨by simp [hz], H7.fin⟩))
end Go.Proofs.Ytejkaciimmfgcaa.D
