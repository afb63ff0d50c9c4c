/- Advance of a wheel: what stays is laid anew, what is due is sorted. -/
import Derived.Test.YtejkaciimmfgcaaWhA
import Derived.Test.YtejkaciimmfgcaaSort
namespace Go.Proofs.Ytejkaciimmfgcaa.D
open Go Go.Shelf Go.RowKit Go.Lib Go.Sort
set_option linter.unusedVariables false
set_option linter.unusedSimpArgs false
/-- The wheel where some of what stays is laid anew. -/
noncomputable def Mly (M : WM) (to : Int) (dl rl : List Nat) (S : Nat → Sl) : WM := { now := to, a := M.a, sl := fun i => if i ∈ rl then lev to (M.a i) else if i ∈ dl then 0 else M.sl i, S := S, ids := fun s => rl.filter fun i => decide (lev to (M.a i) = s) }
section
variable {F0 : Nat → Prop} {g g0 : Gh} {w w0 : World} {L : List Rs} {b pb i : Nat} {now to : Int} {T : Nat → Option Int} {M : WM} {S : Nat → Sl} {dl rl : List Nat}
theorem Hp.nD {z : Sl} {l : List Nat} (H : Hp F0 g0 w0 g w (owR 3 1 z (l.map nv) :: L)) : z.n = l.length := by have := H.ow.len; simp at this; omega
theorem adv_lay (hto : 0 ≤ to ∧ to ≤ 1099511627776) (ha : ∀ i, 0 ≤ M.a i ∧ M.a i ≤ 1099511627776) (hr : ∀ i ∈ rl, i < 65) (hnd : rl.Nodup) {x y : Sl} (H : AvH F0 g0 w0 g w x y dl rl pb b (Mly M to dl [] S) L)
    {Φ : World → Prop} (h : ∀ S w', AvH F0 g0 w0 g w' x y dl rl pb b (Mly M to dl rl S) L → Mo g w g w' → Φ w') :
    (nloop (fun t : Int × World => wheel_Wheel_Advance_l3 y ⟨pb, 0, none⟩ t.1 t.2) (0, w)).t Φ := by
  refine Nd.loop (fun m t => ∃ (j : Nat) (S : Nat → Sl) (w' : World), t = ((j : Int), w') ∧ m + j = rl.length ∧ AvH F0 g0 w0 g w' x y dl rl pb b (Mly M to dl (rl.take j) S) L ∧ Mo g w g w') ?_ rl.length _ ⟨0, S, w, rfl, by omega, by simpa using H, Mo.r⟩
  rintro m _ ⟨j, S, w', rfl, hm, H, Mm⟩
  have hn : y.n = rl.length := H.tl.nD
  have hrl : rl.length ≤ 65 := nodup_len hnd hr
  show (wheel_Wheel_Advance_l3 y ⟨pb, 0, none⟩ (j : Int) w').t _
  unfold wheel_Wheel_Advance_l3
  by_cases hj : j < rl.length
  · obtain ⟨i, hi⟩ : ∃ i, rl[j]? = some i := ⟨_, List.getElem?_eq_getElem hj⟩
    have hmem : i ∈ rl := List.mem_of_getElem? hi
    have hi65 := hr i hmem
    have htk : rl.take (j + 1) = rl.take j ++ [i] := by rw [List.take_add_one, hi]; rfl
    obtain ⟨a, a1, a2⟩ := H.tl.ow.ixI (nvs_get hi)
    have hw : IntKind.i64.wrap ((j : Int) + 1) = ((j + 1 : Nat) : Int) := by rw [wr64 (by omega) (by omega)]; rfl
    have lp : ldP w' ⟨pb, 0, none⟩ = some (some ⟨b, 0, none⟩) := H.tl.tl.ldP rfl
    have p := List.perm_append_comm (l₁ := [owR 3 1 x (dl.map nv), owR 3 1 y (rl.map nv), bxR pb [.pointer (some ⟨b, 0, none⟩)] 24]) (l₂ := whL b (Mly M to dl (rl.take j) S))
    have H1 : WH F0 g0 w0 g w' b (Mly M to dl (rl.take j) S) (owR 3 1 x (dl.map nv) :: owR 3 1 y (rl.map nv) :: bxR pb [.pointer (some ⟨b, 0, none⟩)] 24 :: L) := H.perm (by simpa using p.append_right L)
    obtain ⟨w2, z, e2, H2, -, m2⟩ := lay_ok (i := i) H1 hto (ha i) (fun s hs => by
      have h1 := (H1.slot hs).nD
      have h2 : ((Mly M to dl (rl.take j) S).ids s).length ≤ (rl.take j).length := List.length_filter_le _ _
      rw [List.length_take] at h2
      omega) hi65
    refine Nd.t (by simp; omega) (Nd.b1 a1 (Nd.b1 a2 (Nd.b1 lp (Nd.b1 e2 (Nd.ret ⟨m - 1, by omega, j + 1, upN S (lev to (M.a i)) z, w2, by rw [hw], by omega, ?_, Mm.t m2⟩)))))
    have eM : ({ Mly M to dl (rl.take j) S with sl := upN (Mly M to dl (rl.take j) S).sl i (lev (Mly M to dl (rl.take j) S).now ((Mly M to dl (rl.take j) S).a i)), S := upN (Mly M to dl (rl.take j) S).S (lev (Mly M to dl (rl.take j) S).now ((Mly M to dl (rl.take j) S).a i)) z, ids := upN (Mly M to dl (rl.take j) S).ids (lev (Mly M to dl (rl.take j) S).now ((Mly M to dl (rl.take j) S).a i)) ((Mly M to dl (rl.take j) S).ids (lev (Mly M to dl (rl.take j) S).now ((Mly M to dl (rl.take j) S).a i)) ++ [i]) } : WM) = Mly M to dl (rl.take (j + 1)) (upN S (lev to (M.a i)) z) := by
      have e1 : upN (fun k => if k ∈ rl.take j then lev to (M.a k) else if k ∈ dl then 0 else M.sl k) i (lev to (M.a i)) = fun k => if k ∈ rl.take (j + 1) then lev to (M.a k) else if k ∈ dl then 0 else M.sl k := by
        funext k
        by_cases hk : k = i
        · subst hk; simp [htk]
        · rw [upN_ne hk]; simp only [htk, List.mem_append, List.mem_singleton, hk, or_false]
      have e2 : upN (fun s => (rl.take j).filter fun i => decide (lev to (M.a i) = s)) (lev to (M.a i)) ((rl.take j).filter (fun k => decide (lev to (M.a k) = lev to (M.a i))) ++ [i]) = fun s => (rl.take (j + 1)).filter fun i => decide (lev to (M.a i) = s) := by
        funext s
        rw [htk, List.filter_append]
        by_cases hs : s = lev to (M.a i)
        · subst hs; simp
        · rw [upN_ne hs]
          have : ¬ lev to (M.a i) = s := fun e => hs e.symm
          simp [this]
      have e3 : (WM.mk to M.a (upN (fun k => if k ∈ rl.take j then lev to (M.a k) else if k ∈ dl then 0 else M.sl k) i (lev to (M.a i))) (upN S (lev to (M.a i)) z) (upN (fun s => (rl.take j).filter fun i => decide (lev to (M.a i) = s)) (lev to (M.a i)) ((rl.take j).filter (fun k => decide (lev to (M.a k) = lev to (M.a i))) ++ [i]))) = Mly M to dl (rl.take (j + 1)) (upN S (lev to (M.a i)) z) := by
        rw [e1, e2]
        rfl
      exact e3
    rw [eM] at H2
    have p' := List.perm_append_comm (l₂ := [owR 3 1 x (dl.map nv), owR 3 1 y (rl.map nv), bxR pb [.pointer (some ⟨b, 0, none⟩)] 24]) (l₁ := whL b (Mly M to dl (rl.take (j + 1)) (upN S (lev to (M.a i)) z)))
    exact H2.perm (by simpa using p'.append_right L)
  · refine Nd.f (by simp; omega) (Nd.ret (h S w' ?_ Mm))
    rw [List.take_of_length_le (by omega)] at H
    exact H
theorem Mly_wf (wf : M.Wf) (hto : 0 ≤ to ∧ to ≤ 1099511627776) (hd : dl = dueF M to (accI M 43)) (hr : rl = resF M to (accI M 43)) : (Mly M to dl rl S).Wf ∧ (Mly M to dl rl S).T = aft M.T to := by
  have mr : ∀ i, i ∈ rl ↔ 0 < M.sl i ∧ to < M.a i := fun i => by rw [hr]; unfold resF; rw [List.mem_filter, mem_acc wf]; simp
  have md : ∀ i, i ∈ dl ↔ 0 < M.sl i ∧ M.a i ≤ to := fun i => by rw [hd]; unfold dueF; rw [List.mem_filter, mem_acc wf]; simp
  have nd : rl.Nodup := by rw [hr]; exact (acc_nd wf 43).filter _
  have z : ∀ i, i ∉ rl → (if i ∈ dl then 0 else M.sl i) = 0 := fun i h => by
    split
    · rfl
    · rename_i h2
      rw [mr] at h; rw [md] at h2
      omega
  refine ⟨⟨hto, wf.a, fun i => ?_, fun i hi => ?_, fun s i hi => ?_, fun s => nd.filter _⟩, ?_⟩
  · simp only [Mly]
    split
    · exact lev_le.1
    · rename_i h; rw [z i h]; omega
  · simp only [Mly] at hi ⊢
    split at hi
    · rename_i h
      have h2 := (mr i).1 h
      have h3 := wf.there i h2.1
      rw [if_pos h]
      exact ⟨h3.1, h3.2.1, List.mem_filter.2 ⟨h, by simp⟩, rfl⟩
    · rename_i h; rw [z i h] at hi; omega
  · simp only [Mly] at hi ⊢
    obtain ⟨h1, h2⟩ := List.mem_filter.1 hi
    have h2 : lev to (M.a i) = s := by simpa using h2
    rw [if_pos h1, h2]
    exact ⟨rfl, by have := @lev_le to (M.a i); omega⟩
  · funext i
    by_cases h : i ∈ rl
    · have h2 := (mr i).1 h
      have h3 := @lev_le to (M.a i)
      have e : (Mly M to dl rl S).sl i = lev to (M.a i) := if_pos h
      have t : M.T i = some (M.a i) := if_pos h2.1
      have t' : (Mly M to dl rl S).T i = some (M.a i) := if_pos (by rw [e]; omega)
      unfold aft
      rw [t, t']
      simp only
      rw [if_neg (by omega)]
    · have e : (Mly M to dl rl S).sl i = 0 := (if_neg h).trans (z i h)
      have t' : (Mly M to dl rl S).T i = none := if_neg (by rw [e]; omega)
      unfold aft
      rw [t']
      by_cases h0 : 0 < M.sl i
      · have t : M.T i = some (M.a i) := if_pos h0
        rw [t]
        simp only
        rw [if_pos (by have : ¬ (0 < M.sl i ∧ to < M.a i) := fun k => h ((mr i).2 k); omega)]
      · have t : M.T i = none := if_neg h0
        rw [t]
def f65 (i : Nat) : Fin 65 := ⟨i % 65, Nat.mod_lt _ (by omega)⟩
/-- What is told, in order. -/
theorem told_sort (wf : M.Wf) (hd : dl = dueF M to (accI M 43)) : Told M.T to ((sortD (fun i => M.a i.val) (dl.map f65)).map (·.val)) ∧ dl.map nv = (dl.map f65).map encF ∧ (∀ l : List (Fin 65), l.map encF = (l.map (·.val)).map nv) := by
  have md : ∀ i, i ∈ dl ↔ 0 < M.sl i ∧ M.a i ≤ to := fun i => by rw [hd]; unfold dueF; rw [List.mem_filter, mem_acc wf]; simp
  have nd : dl.Nodup := by rw [hd]; exact (acc_nd wf 43).filter _
  have v65 : ∀ i ∈ dl, (f65 i).val = i := fun i hi => by
    have := (md i).1 hi
    have := wf.there i this.1
    exact Nat.mod_eq_of_lt (by omega)
  have hp : (sortD (fun i => M.a i.val) (dl.map f65)).Perm (dl.map f65) := List.mergeSort_perm _ _
  have hvm : (dl.map f65).map (·.val) = dl := by
    rw [List.map_map]
    conv => rhs; rw [← List.map_id dl]
    exact List.map_congr_left fun i hi => v65 i hi
  have hpv : ((sortD (fun i => M.a i.val) (dl.map f65)).map (·.val)).Perm dl := by
    have := hp.map (·.val)
    rwa [hvm] at this
  have hso : (sortD (fun i => M.a i.val) (dl.map f65)).Pairwise fun x y => (!(ltOf (cfD fun i => M.a i.val)) y x) = true := by
    refine List.pairwise_mergeSort (fun x y z h1 h2 => ?_) (fun x y => ?_) _
    · simp only [Bool.not_eq_true'] at *
      exact (swoD _).ntrans _ _ _ h2 h1
    · simp only [Bool.or_eq_true, Bool.not_eq_true']
      by_cases h : ltOf (cfD fun i => M.a i.val) y x = false
      · exact .inl h
      · right
        rw [ltD']
        rw [Bool.not_eq_false, ltD] at h
        omega
  refine ⟨⟨?_, fun i => ?_⟩, ?_, fun l => by rw [List.map_map]; rfl⟩
  · rw [List.pairwise_map]
    have hn2 : (sortD (fun i => M.a i.val) (dl.map f65)).Pairwise fun x y => x.val ≠ y.val := by
      have := hpv.nodup_iff.2 nd
      rw [List.Nodup, List.pairwise_map] at this
      exact this
    refine (hso.and hn2).imp_of_mem fun {x y} hx hy h => ?_
    have hx' : x.val ∈ dl := hpv.mem_iff.1 (List.mem_map_of_mem hx)
    have hy' : y.val ∈ dl := hpv.mem_iff.1 (List.mem_map_of_mem hy)
    refine ⟨M.a x.val, M.a y.val, T_some.2 ⟨((md _).1 hx').1, rfl⟩, T_some.2 ⟨((md _).1 hy').1, rfl⟩, ?_⟩
    have h1 := h.1
    simp only [Bool.not_eq_true'] at h1
    rw [ltD'] at h1
    have := h.2
    omega
  · rw [hpv.mem_iff, md]
    constructor
    · intro h; exact ⟨_, T_some.2 ⟨h.1, rfl⟩, h.2⟩
    · rintro ⟨a, h, h2⟩
      obtain ⟨h1, rfl⟩ := T_some.1 h
      exact ⟨h1, h2⟩
  · rw [List.map_map]
    refine List.map_congr_left fun i hi => ?_
    simp only [Function.comp, encF, v65 i hi, nv]
/-- ADVANCE. -/
theorem wAdv_ok (H : Hp F0 g0 w0 g w (wheelR b now T :: L)) (to : Int) {Φ : Sl × Int × World → Prop}
    (h1 : (to < now ∨ 1099511627776 < to) → ∀ w', Hp F0 g0 w0 g w' (wheelR b now T :: L) → Mo g w g w' → Φ (Sl.nil, 2, w'))
    (h2 : ¬ (to < now ∨ 1099511627776 < to) → ∀ l z w', Told T to l → Hp F0 g0 w0 g w' (owR 3 1 z (l.map nv) :: wheelR b to (aft T to) :: L) → Mo g w g w' → Φ (z, 0, w')) :
    (wheel_Wheel_Advance (some ⟨b, 0, none⟩) to w).t Φ := by
  obtain ⟨M, ⟨wf, rfl, rfl⟩, H0⟩ := H.unpack
  obtain ⟨pb, w2, e1, H2, m2⟩ := H.box (cs := [.pointer (some ⟨b, 0, none⟩)]) (T := 24)
  obtain ⟨M2, ⟨wf2, n2, t2⟩, H2'⟩ := (H2.sw).unpack
  have lp : ldP w2 ⟨pb, 0, none⟩ = some (some ⟨b, 0, none⟩) := H2.ldP rfl
  have l0 : ldI .i64 w2 ⟨b, 0, none⟩ = some M.now := by rw [← n2]; exact ldI_B H2'.wB WM.g0
  unfold wheel_Wheel_Advance
  refine Nd.b2 e1 (Nd.b1 lp (Nd.f (by simp) ?_))
  refine Nd.j2 (Ψ := fun r => r = (decide (to < M.now ∨ 1099511627776 < to), w2)) ?_ fun v w3 hv => ?_
  · refine Nd.b1 lp (Nd.s1 (Nd.b1 (by rw [add_mk]; exact l0) ?_))
    by_cases h : to < M.now
    · exact Nd.t (by simpa using h) (Nd.ret (by simp [h]))
    · exact Nd.f (by simpa using h) (Nd.ret (by simp [h]))
  · cases hv
    by_cases hc : to < M.now ∨ 1099511627776 < to
    · exact Nd.t (by simpa using hc) (Nd.ret (h1 hc _ H2.tl m2))
    · refine Nd.f (by simpa using hc) ?_
      have hto : 0 ≤ to ∧ to ≤ 1099511627776 := by have := wf.now; omega
      have H3 : AvH F0 g0 w0 g w2 Sl.nil Sl.nil [] [] pb b M2 L := (H2'.app_cons.onil (T := 3) (sz := 1)).onil (T := 3) (sz := 1)
      refine Nd.j3 (Ψ := fun r => AvH F0 g0 w0 g r.2.2 r.1 r.2.1 (dueF M2 to (accI M2 43)) (resF M2 to (accI M2 43)) pb b (Mst M2 (dueF M2 to (accI M2 43)) 43) L ∧ Mo g w2 g r.2.2) (adv_slots wf2 H3 fun x y w' a m => ⟨a, m⟩) fun x y w4 ⟨H4, m4⟩ => ?_
      obtain ⟨dl, hdl⟩ : ∃ dl, dl = dueF M2 to (accI M2 43) := ⟨_, rfl⟩
      obtain ⟨rl, hrl⟩ : ∃ rl, rl = resF M2 to (accI M2 43) := ⟨_, rfl⟩
      rw [← hdl, ← hrl] at H4
      have lp4 : ldP w4 ⟨pb, 0, none⟩ = some (some ⟨b, 0, none⟩) := H4.tl.tl.ldP rfl
      have H5 : Hp F0 g0 w0 g w4 (bxR b (Mst M2 dl 43).cs 95 :: owR 3 1 x (dl.map nv) :: owR 3 1 y (rl.map nv) :: bxR pb [.pointer (some ⟨b, 0, none⟩)] 24 :: (slsL (Mst M2 dl 43) ++ L)) := H4.m3
      obtain ⟨w5, e5, H6, m5⟩ := H5.stV (o := 0) (x := .int .i64 to) (by rw [WM.len]; omega) rfl
      rw [WM.s0] at H6
      have eL : slsL (Mst M2 dl 43) = slsL (Mly M2 to dl [] (fun k => if k < 43 then Sl.nil else M2.S k)) := by
        refine List.map_congr_left fun k hk => ?_
        have := List.mem_range.1 hk
        simp [slR, Mst, Mly, this]
      have eC : ({ Mst M2 dl 43 with now := to } : WM).cs = (Mly M2 to dl [] (fun k => if k < 43 then Sl.nil else M2.S k)).cs := by
        simp only [WM.cs, Mst, Mly, List.not_mem_nil, if_false]
      rw [eL, eC] at H6
      have H7 : AvH F0 g0 w0 g w5 x y dl rl pb b (Mly M2 to dl [] (fun k => if k < 43 then Sl.nil else M2.S k)) L := H6.b3
      have nd : rl.Nodup := by rw [hrl]; exact (acc_nd wf2 43).filter _
      have hr65 : ∀ i ∈ rl, i < 65 := fun i hi => by
        rw [hrl] at hi
        have h1 := (List.mem_filter.1 hi).1
        rw [mem_acc wf2] at h1
        have := wf2.there i h1
        omega
      refine Nd.b1 lp4 (Nd.s1 (Nd.b1 (by rw [add_mk]; exact e5) ?_))
      refine Nd.j1 (Ψ := fun w' => ∃ S, AvH F0 g0 w0 g w' x y dl rl pb b (Mly M2 to dl rl S) L ∧ Mo g w5 g w') (adv_lay hto wf2.a hr65 nd H7 fun S w' a m => ⟨S, a, m⟩) fun w6 ⟨S, H8, m6⟩ => ?_
      obtain ⟨wf9, t9⟩ := Mly_wf (S := S) wf2 hto hdl hrl
      obtain ⟨s1, s2, s3⟩ := told_sort (to := to) wf2 hdl
      have ho := H8.ow
      have nb : ¬ x.blk pb := (H8.perm (List.Perm.cons _ (List.Perm.swap _ _ _))).ne_ow
      have nq : ¬ x.blk b := Hp.ne_ow (cs' := (Mly M2 to dl rl S).cs) (T2 := 95) (L := owR 3 1 y (rl.map nv) :: bxR pb [.pointer (some ⟨b, 0, none⟩)] 24 :: (slsL (Mly M2 to dl rl S) ++ L)) (H8.perm (List.Perm.cons _ ((List.Perm.cons _ (List.Perm.swap _ _ _)).trans (List.Perm.swap _ _ _))))
      have hxn := H8.nD
      have hdl65 : dl.length ≤ 65 := by rw [hdl]; exact Nat.le_trans (List.length_filter_le _ _) (acc_len wf2 43)
      refine Nd.j1 (Ψ := fun w' => Hp F0 g0 w0 g w' (owR 3 1 x (((sortD (fun i => M2.a i.val) (dl.map f65)).map (·.val)).map nv) :: owR 3 1 y (rl.map nv) :: bxR pb [.pointer (some ⟨b, 0, none⟩)] 24 :: (whL b (Mly M2 to dl rl S) ++ L)) ∧ Mo g w6 g w') ?_ fun w7 ⟨H9, m7⟩ => Nd.ret ?_
      · refine ⟨dl.map f65, fun i => M2.a i.val, ⟨by rw [← s2]; exact ho, ⟨pb, _, b, _, _, rfl, nb, nq, H8.tl.tl.bx, H8.tl.tl.tl.wB, fun i => WM.ga i.isLt⟩, fun i => wf2.a _, by omega⟩, fun w' o' f' => ?_⟩
        obtain ⟨g', w'', ⟨rfl, rfl⟩, h3, m⟩ := H8.up (r' := owR 3 1 x (((sortD (fun i => M2.a i.val) (dl.map f65)).map (·.val)).map nv)) (Ψ := fun g' w'' => g' = g ∧ w'' = w') fun F h hF =>
          ⟨g, w', x.blk, ⟨rfl, rfl⟩, ⟨by rw [← s3]; exact o', fun _ => Iff.rfl⟩, sp_own ho h.2 hF H8.lt f', fun k hk => ⟨hF k ((h.2 k).2 hk), .inl ((h.2 k).2 hk)⟩⟩
        exact ⟨h3, m⟩
      · refine h2 hc _ x w7 (by rw [← t2]; exact s1) ?_ (m2.t (m4.t (m5.t (m6.t m7))))
        have H10 := (H9.sw.tl.sw.tl).cons_app
        exact (H10.wpack wf9 rfl (by rw [t9, t2])).sw
end
end Go.Proofs.Ytejkaciimmfgcaa.D
