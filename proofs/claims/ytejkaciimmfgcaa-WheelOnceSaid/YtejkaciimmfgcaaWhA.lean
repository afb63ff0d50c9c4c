/- Advance of a wheel. -/
import Derived.Test.YtejkaciimmfgcaaWh2
namespace Go.Proofs.Ytejkaciimmfgcaa.D
open Go
set_option linter.unusedVariables false
set_option linter.unusedSimpArgs false
section
variable {M : WM} {to : Int} {i j s : Nat}
def dueF (M : WM) (to : Int) (l : List Nat) : List Nat := l.filter fun i => decide (M.a i ≤ to)
def resF (M : WM) (to : Int) (l : List Nat) : List Nat := l.filter fun i => !decide (M.a i ≤ to)
def accI (M : WM) (s : Nat) : List Nat := (List.range s).flatMap M.ids
theorem accI_succ : accI M (s + 1) = accI M s ++ M.ids s := by simp [accI, List.range_succ]
def Mst (M : WM) (dl : List Nat) (s : Nat) : WM := { M with sl := fun i => if i ∈ dl then 0 else M.sl i, S := fun k => if k < s then Sl.nil else M.S k, ids := fun k => if k < s then [] else M.ids k }
theorem mem_acc (wf : M.Wf) : i ∈ accI M 43 ↔ 0 < M.sl i := by
  unfold accI
  rw [List.mem_flatMap]
  constructor
  · rintro ⟨s, h1, h2⟩
    have := wf.ids s i h2
    omega
  · intro h
    obtain ⟨h1, h2, h3, h4⟩ := wf.there i h
    exact ⟨M.sl i, List.mem_range.2 (by have := wf.sl i; omega), h3⟩
theorem acc_nd (wf : M.Wf) : ∀ s, (accI M s).Nodup
  | 0 => by simp [accI]
  | s + 1 => by
    rw [accI_succ]
    refine List.nodup_append.2 ⟨acc_nd wf s, wf.nd s, fun a ha b hb e => ?_⟩
    subst e
    obtain ⟨k, h1, h2⟩ := List.mem_flatMap.1 (show a ∈ (List.range s).flatMap M.ids from ha)
    have h3 := List.mem_range.1 h1
    have h4 := wf.ids k a h2
    have h5 := wf.ids s a hb
    omega
theorem acc_len (wf : M.Wf) (s : Nat) : (accI M s).length ≤ 65 := nodup_len (acc_nd wf s) fun x hx => by
  obtain ⟨k, h1, h2⟩ := List.mem_flatMap.1 (show x ∈ (List.range s).flatMap M.ids from hx)
  have h4 := wf.ids k x h2
  have := wf.there x (by omega)
  omega
end
section
variable {F0 : Nat → Prop} {g g0 : Gh} {w w0 : World} {L : List Rs} {b pb i : Nat} {now to : Int} {T : Nat → Option Int} {M : WM}
theorem Hp.ne_ow {T1 T2 : TypeId} {sz : Nat} {z : Sl} {cs cs' : List Value} (H : Hp F0 g0 w0 g w (owR T1 sz z cs :: bxR b cs' T2 :: L)) : ¬ z.blk b := by
  obtain ⟨sp, F, h1, h2, F', h3, h4, h5⟩ := H
  intro hb
  exact (h4 b ((h3.2 b).2 rfl)).1.2 ((h1.2 b).2 hb)
/-- What Advance owns on its way. -/
abbrev AvH (F0 : Nat → Prop) (g0 : Gh) (w0 : World) (g : Gh) (w : World) (x y : Sl) (dl rl : List Nat) (pb b : Nat) (M : WM) (L : List Rs) : Prop :=
  Hp F0 g0 w0 g w (owR 3 1 x (dl.map nv) :: owR 3 1 y (rl.map nv) :: bxR pb [.pointer (some ⟨b, 0, none⟩)] 24 :: (whL b M ++ L))
theorem push_ok {z : Sl} {l : List Nat} (H : Hp F0 g0 w0 g w (owR 3 1 z (l.map nv) :: L)) (hl : l.length ≤ 1000) (i : Nat) :
    ∃ z1 w1 z2 w2, bsl w 3 1 [[.int .i64 (i : Int)]] = some (z1, w1) ∧ apS Try.prog 34 z z1 w1 = some (z2, w2) ∧ Hp F0 g0 w0 g w2 (owR 3 1 z2 ((l ++ [i]).map nv) :: L) ∧ Mo g w g w2 := by
  have hz : z.n = l.length := by have := H.ow.len; simp at this; omega
  obtain ⟨z2, w2, e3, n3, -, H3, m3⟩ := H.bsl (T := 3) (sz := 1) (ps := [[nv i]]) (by simp) (by simp)
  obtain ⟨z4, w4, e4, n4, H4, m4⟩ := Hp.apS stI H3.sw H3.rd (by simp [nv, Value.oneCell']) (by rw [n3]; simp only [List.length_cons, List.length_nil]; omega)
  refine ⟨z2, w2, z4, w4, e3, e4, ?_, m3.t m4⟩
  rw [List.map_append]
  exact H4.sw.tl
/-- One slot. -/
theorem adv_slot (wf : M.Wf) {s : Nat} (hs : s < 43) {x y : Sl} (H : AvH F0 g0 w0 g w x y (dueF M to (accI M s)) (resF M to (accI M s)) pb b (Mst M (dueF M to (accI M s)) s) L)
    {Φ : Sl × Sl × World → Prop} (h : ∀ x y w', AvH F0 g0 w0 g w' x y (dueF M to (accI M (s + 1))) (resF M to (accI M (s + 1))) pb b (Mst M (dueF M to (accI M (s + 1))) s) L → Mo g w g w' → Φ (x, y, w')) :
    (nloop (fun t : Sl × Sl × Int × World => wheel_Wheel_Advance_l2 (M.S s) ⟨pb, 0, none⟩ to t.1 t.2.1 t.2.2.1 t.2.2.2) (x, y, 0, w)).t Φ := by
  refine Nd.loop (fun m t => ∃ (j : Nat) (x y : Sl) (w' : World), t = (x, y, (j : Int), w') ∧ m + j = (M.ids s).length ∧
    AvH F0 g0 w0 g w' x y (dueF M to (accI M s ++ (M.ids s).take j)) (resF M to (accI M s ++ (M.ids s).take j)) pb b (Mst M (dueF M to (accI M s ++ (M.ids s).take j)) s) L ∧ Mo g w g w') ?_ (M.ids s).length _ ⟨0, x, y, w, rfl, by omega, by simpa using H, Mo.r⟩
  rintro m _ ⟨j, x, y, w', rfl, hm, H, Mm⟩
  have hS : (Mst M (dueF M to (accI M s ++ (M.ids s).take j)) s).S s = M.S s := by simp [Mst]
  have hI : (Mst M (dueF M to (accI M s ++ (M.ids s).take j)) s).ids s = M.ids s := by simp [Mst]
  have ho : Own w' 3 (M.S s) 1 ((M.ids s).map nv) := by
    have := (H.tl.tl.tl.slot hs).ow
    rwa [hS, hI] at this
  have hn : (M.S s).n = (M.ids s).length := by have := ho.len; simp at this; omega
  have hal : (accI M (s + 1)).length ≤ 65 := acc_len wf _
  rw [accI_succ, List.length_append] at hal
  show (wheel_Wheel_Advance_l2 (M.S s) ⟨pb, 0, none⟩ to x y (j : Int) w').t _
  unfold wheel_Wheel_Advance_l2
  by_cases hj : j < (M.ids s).length
  · obtain ⟨i, hi⟩ : ∃ i, (M.ids s)[j]? = some i := ⟨_, List.getElem?_eq_getElem hj⟩
    have hmem : i ∈ M.ids s := List.mem_of_getElem? hi
    have hsl := wf.ids s i hmem
    have hth := wf.there i (by omega)
    obtain ⟨a, a1, a2⟩ := ho.ixI (nvs_get hi)
    have htk : (M.ids s).take (j + 1) = (M.ids s).take j ++ [i] := by rw [List.take_add_one, hi]; rfl
    have hw : IntKind.i64.wrap ((j : Int) + 1) = ((j + 1 : Nat) : Int) := by rw [wr64 (by omega) (by omega)]; rfl
    have lp : ldP w' ⟨pb, 0, none⟩ = some (some ⟨b, 0, none⟩) := H.tl.tl.ldP rfl
    have x1 : ixA ⟨b, 1, none⟩ (i : Int) 65 1 = some ⟨b, 1 + i, none⟩ := ixA_n (by omega)
    have x2 : ixA ⟨b, 66, none⟩ (i : Int) 65 1 = some ⟨b, 66 + i, none⟩ := ixA_n (by omega)
    have la : ldI .i64 w' ⟨b, 1 + i, none⟩ = some (M.a i) := ldI_B H.tl.tl.tl.wB (WM.ga (M := Mst M _ s) (by omega))
    have htl : ((M.ids s).take j).length ≤ (M.ids s).length := by rw [List.length_take]; omega
    refine Nd.t (by simp; omega) ?_
    refine Nd.j3 (Ψ := fun r => AvH F0 g0 w0 g r.2.2 r.1 r.2.1 (dueF M to (accI M s ++ (M.ids s).take (j + 1))) (resF M to (accI M s ++ (M.ids s).take (j + 1))) pb b (Mst M (dueF M to (accI M s ++ (M.ids s).take (j + 1))) s) L ∧ Mo g w g r.2.2) ?_
      (fun x y w2 h2 => Nd.ret ⟨m - 1, by omega, j + 1, x, y, w2, by rw [hw], by omega, h2.1, h2.2⟩)
    refine Nd.b1 a1 (Nd.b1 a2 (Nd.b1 lp (Nd.s1 (Nd.b1 (by rw [add_mk]; exact x1) (Nd.b1 la ?_)))))
    by_cases hd : M.a i ≤ to
    · refine Nd.t (by simpa using hd) ?_
      obtain ⟨z1, w1, z2, w2, e1, e2, H2, m2⟩ := push_ok H (by have := List.length_filter_le (fun i => decide (M.a i ≤ to)) (accI M s ++ (M.ids s).take j); unfold dueF; rw [List.length_append] at this; omega) i
      have lp2 : ldP w2 ⟨pb, 0, none⟩ = some (some ⟨b, 0, none⟩) := H2.tl.tl.ldP rfl
      have H3 : Hp F0 g0 w0 g w2 (bxR b (Mst M (dueF M to (accI M s ++ (M.ids s).take j)) s).cs 95 :: owR 3 1 z2 ((dueF M to (accI M s ++ (M.ids s).take j) ++ [i]).map nv) :: owR 3 1 y ((resF M to (accI M s ++ (M.ids s).take j)).map nv) :: bxR pb [.pointer (some ⟨b, 0, none⟩)] 24 :: (slsL (Mst M (dueF M to (accI M s ++ (M.ids s).take j)) s) ++ L)) := H2.m3
      obtain ⟨w4, e4, H4, m4⟩ := H3.stV (o := 66 + i) (x := nv 0) (by rw [WM.len]; omega) rfl
      rw [WM.ss (by omega)] at H4
      refine Nd.b2 e1 (Nd.b2 e2 (Nd.b1 lp2 (Nd.s1 (Nd.b1 (by rw [add_mk]; exact x2) (Nd.b1 (by exact e4) (Nd.ret ⟨?_, Mm.t (m2.t m4)⟩))))))
      have ed : dueF M to (accI M s ++ (M.ids s).take (j + 1)) = dueF M to (accI M s ++ (M.ids s).take j) ++ [i] := by
        rw [htk, ← List.append_assoc]; unfold dueF; rw [List.filter_append (l₂ := [i])]; simp [hd]
      have er : resF M to (accI M s ++ (M.ids s).take (j + 1)) = resF M to (accI M s ++ (M.ids s).take j) := by
        rw [htk, ← List.append_assoc]; unfold resF; rw [List.filter_append (l₂ := [i])]; simp [hd]
      rw [ed, er]
      have eM : ({ Mst M (dueF M to (accI M s ++ (M.ids s).take j)) s with sl := upN (Mst M (dueF M to (accI M s ++ (M.ids s).take j)) s).sl i 0 } : WM) = Mst M (dueF M to (accI M s ++ (M.ids s).take j) ++ [i]) s := by
        have e : upN (fun k => if k ∈ dueF M to (accI M s ++ (M.ids s).take j) then 0 else M.sl k) i 0 = fun k => if k ∈ dueF M to (accI M s ++ (M.ids s).take j) ++ [i] then 0 else M.sl k := by
          funext k
          by_cases hk : k = i
          · subst hk; simp
          · rw [upN_ne hk]; simp only [List.mem_append, List.mem_singleton, hk, or_false]
        exact congrArg (fun f => ({ Mst M (dueF M to (accI M s ++ (M.ids s).take j)) s with sl := f } : WM)) e
      have H5 := H4.b3
      rw [eM] at H5
      exact H5
    · refine Nd.f (by simpa using hd) ?_
      obtain ⟨z1, w1, z2, w2, e1, e2, H2, m2⟩ := push_ok H.sw (by have := List.length_filter_le (fun i => !decide (M.a i ≤ to)) (accI M s ++ (M.ids s).take j); unfold resF; rw [List.length_append] at this; omega) i
      refine Nd.b2 e1 (Nd.b2 e2 (Nd.ret ⟨?_, Mm.t m2⟩))
      have ed : dueF M to (accI M s ++ (M.ids s).take (j + 1)) = dueF M to (accI M s ++ (M.ids s).take j) := by
        rw [htk, ← List.append_assoc]; unfold dueF; rw [List.filter_append (l₂ := [i])]; simp [hd]
      have er : resF M to (accI M s ++ (M.ids s).take (j + 1)) = resF M to (accI M s ++ (M.ids s).take j) ++ [i] := by
        rw [htk, ← List.append_assoc]; unfold resF; rw [List.filter_append (l₂ := [i])]; simp [hd]
      rw [ed, er]
      exact H2.sw
  · refine Nd.f (by simp; omega) (Nd.ret (h x y w' ?_ Mm))
    rw [List.take_of_length_le (by omega), ← accI_succ] at H
    exact H
/-- All slots. -/
theorem adv_slots (wf : M.Wf) {x y : Sl} (H : AvH F0 g0 w0 g w x y [] [] pb b M L)
    {Φ : Sl × Sl × World → Prop} (h : ∀ x y w', AvH F0 g0 w0 g w' x y (dueF M to (accI M 43)) (resF M to (accI M 43)) pb b (Mst M (dueF M to (accI M 43)) 43) L → Mo g w g w' → Φ (x, y, w')) :
    (nloop (fun t : Sl × Sl × Int × World => wheel_Wheel_Advance_l1 ⟨pb, 0, none⟩ to t.1 t.2.1 t.2.2.1 t.2.2.2) (x, y, 0, w)).t Φ := by
  have e0 : Mst M (dueF M to (accI M 0)) 0 = M := by simp [Mst, dueF, accI]
  refine Nd.loop (fun m t => ∃ (s : Nat) (x y : Sl) (w' : World), t = (x, y, (s : Int), w') ∧ m + s = 43 ∧
    AvH F0 g0 w0 g w' x y (dueF M to (accI M s)) (resF M to (accI M s)) pb b (Mst M (dueF M to (accI M s)) s) L ∧ Mo g w g w') ?_ 43 _ ⟨0, x, y, w, rfl, by omega, by rw [e0]; exact H, Mo.r⟩
  rintro m _ ⟨s, x, y, w', rfl, hm, H, Mm⟩
  show (wheel_Wheel_Advance_l1 ⟨pb, 0, none⟩ to x y (s : Int) w').t _
  unfold wheel_Wheel_Advance_l1
  by_cases hs : s < 43
  · have lp : ldP w' ⟨pb, 0, none⟩ = some (some ⟨b, 0, none⟩) := H.tl.tl.ldP rfl
    have x1 : ixA ⟨b, 131, none⟩ (s : Int) 43 1 = some ⟨b, 131 + s, none⟩ := ixA_n (by omega)
    have lS : ldL w' ⟨b, 131 + s, none⟩ = some (M.S s) := by
      have := ldL_B H.tl.tl.tl.wB (WM.gS (M := Mst M (dueF M to (accI M s)) s) hs)
      simpa [Mst] using this
    have hw : IntKind.i64.wrap ((s : Int) + 1) = ((s + 1 : Nat) : Int) := by rw [wr64 (by omega) (by omega)]; rfl
    refine Nd.t (by simp; omega) (Nd.b1 lp (Nd.s1 (Nd.b1 (by rw [add_mk]; exact x1) (Nd.b1 lS ?_))))
    refine Nd.j3 (Ψ := fun r => AvH F0 g0 w0 g r.2.2 r.1 r.2.1 (dueF M to (accI M (s + 1))) (resF M to (accI M (s + 1))) pb b (Mst M (dueF M to (accI M (s + 1))) s) L ∧ Mo g w' g r.2.2)
      (adv_slot wf hs H fun x y w2 h1 h2 => ⟨h1, h2⟩) fun x y w2 ⟨H2, m2⟩ => ?_
    have lp2 : ldP w2 ⟨pb, 0, none⟩ = some (some ⟨b, 0, none⟩) := H2.tl.tl.ldP rfl
    have H3 : Hp F0 g0 w0 g w2 (bxR b (Mst M (dueF M to (accI M (s + 1))) s).cs 95 :: owR 3 1 x ((dueF M to (accI M (s + 1))).map nv) :: owR 3 1 y ((resF M to (accI M (s + 1))).map nv) :: bxR pb [.pointer (some ⟨b, 0, none⟩)] 24 :: (slsL (Mst M (dueF M to (accI M (s + 1))) s) ++ L)) := H2.m3
    obtain ⟨w4, e4, H4, m4⟩ := H3.stV (o := 131 + s) (x := Sl.nil.v) (by rw [WM.len]; omega) rfl
    rw [WM.sS hs] at H4
    refine Nd.b1 lp2 (Nd.s1 (Nd.b1 (by rw [add_mk]; exact x1) (Nd.b1 e4 (Nd.ret ⟨m - 1, by omega, s + 1, x, y, w4, by rw [hw], by omega, ?_, Mm.t (m2.t m4)⟩))))
    -- the slot's old memory is left
    have H5 := H4.b3.perm (L' := (bxR b ({ Mst M (dueF M to (accI M (s + 1))) s with S := upN (Mst M (dueF M to (accI M (s + 1))) s).S s Sl.nil } : WM).cs 95 :: (slsL (Mst M (dueF M to (accI M (s + 1))) s) ++ (owR 3 1 x ((dueF M to (accI M (s + 1))).map nv) :: owR 3 1 y ((resF M to (accI M (s + 1))).map nv) :: bxR pb [.pointer (some ⟨b, 0, none⟩)] 24 :: L)))) (by
      refine (List.Perm.cons _ (List.Perm.cons _ (List.Perm.swap _ _ _))).trans ?_
      refine (List.Perm.cons _ (List.Perm.swap _ _ _)).trans ?_
      refine (List.Perm.swap _ _ _).trans (List.Perm.cons _ ?_)
      have p := List.perm_append_comm (l₁ := [owR 3 1 x ((dueF M to (accI M (s + 1))).map nv), owR 3 1 y ((resF M to (accI M (s + 1))).map nv), bxR pb [.pointer (some ⟨b, 0, none⟩)] 24]) (l₂ := slsL (Mst M (dueF M to (accI M (s + 1))) s))
      have p2 := p.append_right L
      simpa using p2)
    have H6 := (Hp.at_ hs H5.cons_app).tl.onil (T := 3) (sz := 1)
    have H7 := Hp.ta (f' := slR (Mst M (dueF M to (accI M (s + 1))) (s + 1))) (i := s) hs (fun k hk => by
      simp only [slR, Mst]
      by_cases hks : k < s
      · simp [hks, show k < s + 1 by omega]
      · simp [hks, show ¬ k < s + 1 by omega]) (f := slR (Mst M (dueF M to (accI M (s + 1))) s)) (by
        rw [show slR (Mst M (dueF M to (accI M (s + 1))) (s + 1)) s = owR 3 1 Sl.nil [] by simp [slR, Mst]]
        exact H6)
    have eM : ({ Mst M (dueF M to (accI M (s + 1))) s with S := upN (Mst M (dueF M to (accI M (s + 1))) s).S s Sl.nil } : WM).cs = (Mst M (dueF M to (accI M (s + 1))) (s + 1)).cs := by
      simp only [WM.cs, Mst]
      congr 3
      refine rg_congr fun k hk => ?_
      by_cases hks : k = s
      · subst hks; simp
      · rw [upN_ne hks]
        by_cases h2 : k < s
        · simp [h2, show k < s + 1 by omega]
        · simp [h2, show ¬ k < s + 1 by omega]
    rw [eM] at H7
    refine H7.app_cons.perm ?_
    have p := List.perm_append_comm (l₂ := [owR 3 1 x ((dueF M to (accI M (s + 1))).map nv), owR 3 1 y ((resF M to (accI M (s + 1))).map nv), bxR pb [.pointer (some ⟨b, 0, none⟩)] 24]) (l₁ := bxR b (Mst M (dueF M to (accI M (s + 1))) (s + 1)).cs 95 :: slsL (Mst M (dueF M to (accI M (s + 1))) (s + 1)))
    have p2 := p.append_right L
    simpa [whL, slsL] using p2
  · have : s = 43 := by omega
    subst this
    exact Nd.f (by simp) (Nd.ret (h x y w' H Mm))
end
end Go.Proofs.Ytejkaciimmfgcaa.D
