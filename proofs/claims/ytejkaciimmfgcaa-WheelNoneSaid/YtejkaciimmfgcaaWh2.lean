/- The wheel as one part, by its timers. -/
import Derived.Test.YtejkaciimmfgcaaWhl
namespace Go.Proofs.Ytejkaciimmfgcaa.D
open Go
set_option linter.unusedVariables false
set_option linter.unusedSimpArgs false
theorem nodup_len : ∀ {n : Nat} {l : List Nat}, l.Nodup → (∀ x ∈ l, x < n) → l.length ≤ n
  | 0, [], _, _ => Nat.le_refl _
  | 0, x :: l, _, h => absurd (h x (List.mem_cons_self ..)) (by omega)
  | n + 1, l, h, hx => by
    have h1 := nodup_len (n := n) (h.erase n) (fun x hm => by
      have := (h.mem_erase_iff).1 hm
      have := hx x this.2
      omega)
    rw [List.length_erase] at h1
    split at h1 <;> omega
/-- Which timers there are. -/
def WM.T (M : WM) (i : Nat) : Option Int := if 0 < M.sl i then some (M.a i) else none
section
variable {M : WM} {i s : Nat} {x : Int} {z : Sl}
theorem T_some {a : Int} : M.T i = some a ↔ 0 < M.sl i ∧ M.a i = a := by
  unfold WM.T
  split <;> simp_all
theorem WM.Wf.len (wf : M.Wf) (s : Nat) : (M.ids s).length ≤ 65 := nodup_len (wf.nd s) fun x hx => by
  obtain ⟨h1, h2⟩ := wf.ids s x hx
  have := wf.there x (by omega)
  omega
theorem WM.Wf.take (wf : M.Wf) (hi : 0 < M.sl i) : ({ M with sl := upN M.sl i 0, S := upN M.S (M.sl i) z, ids := upN M.ids (M.sl i) ((M.ids (M.sl i)).filter fun x => decide (x ≠ i)) } : WM).Wf where
  now := wf.now
  a := wf.a
  sl k := by
    by_cases h : k = i
    · subst h; simp
    · simp only [upN_ne h]; exact wf.sl k
  there k hk := by
    by_cases h : k = i
    · subst h; simp at hk
    · simp only [upN_ne h] at hk ⊢
      obtain ⟨h1, h2, h3, h4⟩ := wf.there k hk
      refine ⟨h1, h2, ?_, h4⟩
      by_cases he : M.sl k = M.sl i
      · rw [he, upN_same]
        rw [he] at h3
        exact List.mem_filter.2 ⟨h3, by simpa using h⟩
      · rwa [upN_ne he]
  ids s k hk := by
    dsimp only at hk ⊢
    by_cases he : s = M.sl i
    · subst he
      rw [upN_same] at hk
      obtain ⟨h1, h2⟩ := List.mem_filter.1 hk
      have h2 : k ≠ i := by simpa using h2
      simp only [upN_ne h2]
      exact wf.ids _ _ h1
    · rw [upN_ne he] at hk
      have hki : k ≠ i := fun e => he (e ▸ (wf.ids s k hk).1.symm)
      simp only [upN_ne hki]
      exact wf.ids _ _ hk
  nd s := by
    by_cases he : s = M.sl i
    · subst he
      simp only [upN_same]
      exact (wf.nd _).filter _
    · simp only [upN_ne he]
      exact wf.nd s
theorem WM.T_take : ({ M with sl := upN M.sl i 0, S := upN M.S (M.sl i) z, ids := upN M.ids (M.sl i) ((M.ids (M.sl i)).filter fun x => decide (x ≠ i)) } : WM).T = upN M.T i none := by
  funext k
  by_cases h : k = i
  · subst h; simp [WM.T]
  · simp [WM.T, upN_ne h]
theorem WM.Wf.seta (wf : M.Wf) (hi : M.sl i = 0) (hx : 0 ≤ x ∧ x ≤ 1099511627776) : ({ M with a := upN M.a i x } : WM).Wf where
  now := wf.now
  a k := by
    by_cases h : k = i
    · subst h; simpa using hx
    · simp only [upN_ne h]; exact wf.a k
  sl := wf.sl
  there k hk := by
    have h : k ≠ i := fun e => by subst e; simp only at hk; omega
    simp only [upN_ne h]
    exact wf.there k hk
  ids := wf.ids
  nd := wf.nd
theorem WM.T_seta (hi : M.sl i = 0) : ({ M with a := upN M.a i x } : WM).T = M.T := by
  funext k
  by_cases h : k = i
  · subst h; simp [WM.T, hi]
  · simp [WM.T, upN_ne h]
theorem WM.Wf.lay (wf : M.Wf) (hi : M.sl i = 0) (h1 : 1 ≤ i) (h2 : i ≤ 64) : ({ M with sl := upN M.sl i (lev M.now (M.a i)), S := upN M.S (lev M.now (M.a i)) z, ids := upN M.ids (lev M.now (M.a i)) (M.ids (lev M.now (M.a i)) ++ [i]) } : WM).Wf where
  now := wf.now
  a := wf.a
  sl k := by
    by_cases h : k = i
    · subst h; simpa using lev_le.1
    · simp only [upN_ne h]; exact wf.sl k
  there k hk := by
    by_cases h : k = i
    · subst h
      simp only [upN_same]
      exact ⟨h1, h2, by simp, trivial⟩
    · simp only [upN_ne h] at hk ⊢
      obtain ⟨h3, h4, h5, h6⟩ := wf.there k hk
      refine ⟨h3, h4, ?_, h6⟩
      by_cases he : M.sl k = lev M.now (M.a i)
      · rw [he, upN_same]
        rw [he] at h5
        exact List.mem_append_left _ h5
      · rwa [upN_ne he]
  ids s k hk := by
    dsimp only at hk ⊢
    by_cases he : s = lev M.now (M.a i)
    · subst he
      rw [upN_same] at hk
      rcases List.mem_append.1 hk with hk | hk
      · have h := wf.ids _ _ hk
        have hki : k ≠ i := fun e => by subst e; omega
        simp only [upN_ne hki]
        exact h
      · obtain rfl := List.mem_singleton.1 hk
        simp only [upN_same, true_and]
        exact lev_le.2
    · rw [upN_ne he] at hk
      have h := wf.ids _ _ hk
      have hki : k ≠ i := fun e => by subst e; omega
      simp only [upN_ne hki]
      exact h
  nd s := by
    by_cases he : s = lev M.now (M.a i)
    · subst he
      simp only [upN_same]
      refine List.nodup_append.2 ⟨wf.nd _, by simp, fun a ha b hb => ?_⟩
      obtain rfl := List.mem_singleton.1 hb
      intro e
      subst e
      have h := wf.ids _ _ ha
      omega
    · simp only [upN_ne he]
      exact wf.nd s
theorem WM.T_lay : ({ M with sl := upN M.sl i (lev M.now (M.a i)), S := upN M.S (lev M.now (M.a i)) z, ids := upN M.ids (lev M.now (M.a i)) (M.ids (lev M.now (M.a i)) ++ [i]) } : WM).T = upN M.T i (some (M.a i)) := by
  funext k
  by_cases h : k = i
  · subst h
    have := @lev_le M.now (M.a k)
    simp [WM.T]
    omega
  · simp [WM.T, upN_ne h]
end
/-- A wheel: its tick and its timers. -/
def wheelR (b : Nat) (now : Int) (T : Nat → Option Int) : Rs := packR (whL b) fun M => M.Wf ∧ M.now = now ∧ M.T = T
section
variable {F0 : Nat → Prop} {g g0 : Gh} {w w0 : World} {L : List Rs} {b i : Nat} {now : Int} {T : Nat → Option Int} {M : WM}
theorem Hp.wlen (H : WH F0 g0 w0 g w b M L) (wf : M.Wf) : ∀ s, s < 43 → (M.S s).n < 2 ^ 40 := fun s hs => by
  have h1 := (H.slot hs).ow.len
  have h2 := wf.len s
  simp at h1
  omega
theorem T_rng (wf : M.Wf) {x : Int} (h : M.T i = some x) : 1 ≤ i ∧ i ≤ 64 ∧ 0 ≤ x ∧ x ≤ 1099511627776 := by
  obtain ⟨h1, rfl⟩ := T_some.1 h
  have h2 := wf.there i h1
  have h3 := wf.a i
  omega
theorem Hp.wpack (H : WH F0 g0 w0 g w b M L) (wf : M.Wf) (hn : M.now = now) (ht : M.T = T) : Hp F0 g0 w0 g w (wheelR b now T :: L) := Hp.pack (Ls := whL b) (ok := fun M => M.Wf ∧ M.now = now ∧ M.T = T) ⟨wf, hn, ht⟩ H
theorem Hp.wrng (H : Hp F0 g0 w0 g w (wheelR b now T :: L)) : (0 ≤ now ∧ now ≤ 1099511627776) ∧ ∀ i x, T i = some x → 1 ≤ i ∧ i ≤ 64 ∧ 0 ≤ x ∧ x ≤ 1099511627776 := by
  obtain ⟨M, ⟨wf, rfl, rfl⟩, -⟩ := H.unpack
  exact ⟨wf.now, fun i x h => T_rng wf h⟩
/-- Whether a number is a timer's. -/
def tI (T : Nat → Option Int) (x : Int) : Option Int := if 0 ≤ x then T x.toNat else none
theorem has_T (wf : M.Wf) (x : Int) : (1 ≤ x ∧ x ≤ 64 ∧ 0 < M.sl x.toNat) ↔ (tI M.T x).isSome = true := by
  unfold tI WM.T
  constructor
  · rintro ⟨h1, h2, h3⟩
    simp [show 0 ≤ x by omega, h3]
  · intro h
    split at h
    · split at h
      · rename_i h0 h1
        have := wf.there _ h1
        omega
      · simp at h
    · simp at h
theorem wHas_ok (H : Hp F0 g0 w0 g w (wheelR b now T :: L)) (x : Int) : wheel_Wheel_has (some ⟨b, 0, none⟩) x w = some ((tI T x).isSome, w) := by
  obtain ⟨M, ⟨wf, rfl, rfl⟩, H0⟩ := H.unpack
  rw [has_ok H0.wB x]
  simp only [Option.some.injEq, Prod.mk.injEq, and_true]
  rw [Bool.eq_iff_iff, decide_eq_true_iff, has_T wf]
theorem wAt_T (H : Hp F0 g0 w0 g w (wheelR b now T :: L)) (x : Int) : wheel_Wheel_At (some ⟨b, 0, none⟩) x w = some ((tI T x).getD 0, (tI T x).isSome, w) := by
  obtain ⟨M, ⟨wf, rfl, rfl⟩, H0⟩ := H.unpack
  rw [wAt_ok H0.wB x]
  by_cases h : 1 ≤ x ∧ x ≤ 64 ∧ 0 < M.sl x.toNat
  · rw [if_pos h]
    simp [tI, WM.T, h.2.2, show 0 ≤ x by omega]
  · rw [if_neg h]
    have h' : ¬ (tI M.T x).isSome = true := fun e => h ((has_T wf x).2 e)
    have : tI M.T x = none := by simpa using h'
    rw [this]
    rfl
theorem wNow_T (H : Hp F0 g0 w0 g w (wheelR b now T :: L)) : wheel_Wheel_Now (some ⟨b, 0, none⟩) w = some (now, w) := by
  obtain ⟨M, ⟨wf, rfl, rfl⟩, H0⟩ := H.unpack
  exact wNow_ok H0.wB
theorem wDrop_ok (H : Hp F0 g0 w0 g w (wheelR b now T :: L)) (x : Int) : ∃ w', wheel_Wheel_Drop (some ⟨b, 0, none⟩) x w = some (if (tI T x).isSome then 0 else 8, w') ∧ Hp F0 g0 w0 g w' (wheelR b now (if (tI T x).isSome then upN T x.toNat none else T) :: L) ∧ Mo g w g w' := by
  unfold wheel_Wheel_Drop
  rw [if_neg (by simp), wHas_ok H x, bind2_some]
  by_cases h : (tI T x).isSome = true
  · rw [if_neg (by simp [h]), if_pos h, if_pos h]
    obtain ⟨M, ⟨wf, rfl, rfl⟩, H0⟩ := H.unpack
    obtain ⟨h1, h2, h3⟩ := (has_T wf x).2 h
    obtain ⟨w', z, e, H2, -, m⟩ := take_ok H0 wf (H0.wlen wf) h3
    rw [show ((x.toNat : Nat) : Int) = x by omega] at e
    exact ⟨w', by rw [e]; rfl, H2.wpack (wf.take h3) rfl WM.T_take, m⟩
  · rw [if_pos (by simpa using h), if_neg h, if_neg h]
    exact ⟨w, rfl, H, Mo.r⟩
theorem wSet_ok (H : Hp F0 g0 w0 g w (wheelR b now T :: L)) (x y : Int) :
    ∃ w', wheel_Wheel_Set (some ⟨b, 0, none⟩) x y w = some (if x < 1 ∨ 64 < x ∨ y < 0 ∨ 1099511627776 < y then 2 else 0, w') ∧ Hp F0 g0 w0 g w' (wheelR b now (if x < 1 ∨ 64 < x ∨ y < 0 ∨ 1099511627776 < y then T else upN T x.toNat (some y)) :: L) ∧ Mo g w g w' := by
  by_cases hc : x < 1 ∨ 64 < x ∨ y < 0 ∨ 1099511627776 < y
  · rw [if_pos hc, if_pos hc]
    refine ⟨w, ?_, H, Mo.r⟩
    unfold wheel_Wheel_Set
    rcases Int.lt_or_le x 1 with h1 | h1
    · simp [h1, bindX]
    · rcases Int.lt_or_le 64 x with h2 | h2
      · simp [h2, bindX, Int.not_lt.2 h1]
      · rcases Int.lt_or_le y 0 with h3 | h3
        · simp [h3, bindX, Int.not_lt.2 h1, Int.not_lt.2 h2]
        · have h4 : 1099511627776 < y := by omega
          simp [h4, bindX, Int.not_lt.2 h1, Int.not_lt.2 h2, Int.not_lt.2 h3]
  · rw [if_neg hc, if_neg hc]
    obtain ⟨M, ⟨wf, rfl, rfl⟩, H0⟩ := H.unpack
    have hmid : ∃ w1 M1, (if (true && decide (1 ≤ x ∧ x ≤ 64 ∧ 0 < M.sl x.toNat)) = true then (wheel_Wheel_take (some ⟨b, 0, none⟩) x w).bind fun w22 => some (Sum.inr w22 : (Int × World) ⊕ World) else some (.inr w)) = some (.inr w1) ∧ WH F0 g0 w0 g w1 b M1 L ∧ M1.Wf ∧ M1.now = M.now ∧ M1.sl x.toNat = 0 ∧ upN M1.T x.toNat (some y) = upN M.T x.toNat (some y) ∧ Mo g w g w1 := by
      by_cases h : 0 < M.sl x.toNat
      · obtain ⟨w', z, e, H2, -, m⟩ := take_ok H0 wf (H0.wlen wf) h
        rw [show ((x.toNat : Nat) : Int) = x by omega] at e
        refine ⟨w', _, ?_, H2, wf.take h, rfl, by simp, ?_, m⟩
        · rw [if_pos (by simp; omega), e]; rfl
        · rw [WM.T_take]
          funext k
          by_cases hk : k = x.toNat
          · subst hk; simp
          · simp [upN_ne hk]
      · exact ⟨w, M, by rw [if_neg (by simp; omega)], H0, wf, rfl, by omega, rfl, Mo.r⟩
    obtain ⟨w1, M1, e1, H1, wf1, n1, s1, t1, m1⟩ := hmid
    obtain ⟨k, rfl⟩ : ∃ k : Nat, x = k := ⟨x.toNat, by omega⟩
    simp only [Int.toNat_natCast] at *
    have a1 : ixA ⟨b, 1, none⟩ (k : Int) 65 1 = some ⟨b, 1 + k, none⟩ := ixA_n (by omega)
    have H1' : Hp F0 g0 w0 g w1 (bxR b M1.cs 95 :: (slsL M1 ++ L)) := H1
    obtain ⟨w2, e2, H2, m2⟩ := H1'.stV (o := 1 + k) (x := .int .i64 y) (by rw [WM.len]; omega) rfl
    rw [WM.sa (by omega)] at H2
    have H3 : WH F0 g0 w0 g w2 b { M1 with a := upN M1.a k y } L := Hp.wh (M := M1) (fun k hk => rfl) H2
    have wf3 := wf1.seta (x := y) s1 (by omega)
    obtain ⟨w4, z, e4, H4, -, m4⟩ := lay_ok (i := k) H3 wf3.now (wf3.a k) (H3.wlen wf3) (by omega)
    have ex : upN M1.a k y k = y := upN_same
    refine ⟨w4, ?_, H4.wpack (wf3.lay (i := k) s1 (by omega) (by omega)) n1 ?_, m1.t (m2.t m4)⟩
    · unfold wheel_Wheel_Set
      rw [if_neg (by simp), if_neg (by simp; omega), if_neg (by simp; omega), if_neg (by simp; omega), bind2_some, if_neg (by simp; omega), has_ok H0.wB, bind2_some]
      simp only [Bool.true_and] at e1
      simp only [Int.toNat_natCast]
      rw [e1]
      simp only [bindX, u1, Option.bind_some, add_mk, Nat.zero_add, a1, e2, e4]
    · rw [WM.T_lay, WM.T_seta s1]
      dsimp only
      rw [ex]
      exact t1
/-! ### Ids -/
theorem ids_snoc {T : Nat → Option Int} {k : Nat} : ((List.range' 1 (k + 1)).filter fun i => (T i).isSome) = ((List.range' 1 k).filter fun i => (T i).isSome) ++ (if (T (k + 1)).isSome = true then [k + 1] else []) := by
  rw [List.range'_concat, List.filter_append]
  congr 1
  rw [Nat.one_mul, Nat.add_comm 1 k]
  by_cases h : (T (k + 1)).isSome = true <;> simp [h]
theorem wIds_ok (H : Hp F0 g0 w0 g w (wheelR b now T :: L)) : ∃ z w', wheel_Wheel_Ids (some ⟨b, 0, none⟩) w = some (z, w') ∧ Hp F0 g0 w0 g w' (owR 3 1 z ((idsL T).map nv) :: wheelR b now T :: L) ∧ Mo g w g w' := by
  have lp := Ex.loop (step := fun s : Sl × Int × World => wheel_Wheel_Ids_l1 (some ⟨b, 0, none⟩) s.1 s.2.1 s.2.2)
    (Φ := fun o => match o with | (z, w') => Hp F0 g0 w0 g w' (owR 3 1 z ((idsL T).map nv) :: wheelR b now T :: L) ∧ Mo g w g w')
    (fun m s => ∃ (k : Nat) (z : Sl) (w' : World), s = (z, ((k + 1 : Nat) : Int), w') ∧ m + k = 64 ∧ z.n ≤ k ∧ Hp F0 g0 w0 g w' (owR 3 1 z (((List.range' 1 k).filter fun i => (T i).isSome).map nv) :: wheelR b now T :: L) ∧ Mo g w g w')
    (fun m s ⟨k, z, w', e, hm, hz, H, M⟩ => by
      subst e
      unfold wheel_Wheel_Ids_l1
      by_cases hk : k < 64
      · refine Ex.t (by simp; omega) ?_
        have e1 := wHas_ok H.tl ((k + 1 : Nat) : Int)
        have e2 : tI T ((k + 1 : Nat) : Int) = T (k + 1) := by simp [tI]; omega
        rw [e2] at e1
        have hw : IntKind.i64.wrap (((k + 1 : Nat) : Int) + 1) = ((k + 1 + 1 : Nat) : Int) := by rw [wr64 (by omega) (by omega)]; rfl
        by_cases ht : (T (k + 1)).isSome = true
        · obtain ⟨z2, w2, e3, n3, -, H3, m3⟩ := H.bsl (T := 3) (sz := 1) (ps := [[nv (k + 1)]]) (by simp) (by simp)
          obtain ⟨z4, w4, e4, n4, H4, m4⟩ := Hp.apS stI H3.sw H3.rd (by simp [nv, Value.oneCell']) (by rw [n3]; simp only [List.length_cons, List.length_nil]; omega)
          have e3' : bsl w' 3 1 [[.int .i64 ((k + 1 : Nat) : Int)]] = some (z2, w2) := e3
          refine Ex.b2 (a := z4) (b := w4) ?_ (Ex.ret ⟨m - 1, by omega, k + 1, z4, w4, by rw [hw], by omega, by rw [n4, n3]; simp; omega, ?_, M.t (m3.t m4)⟩)
          · rw [e1, bind2_some, if_pos ht, e3', bind2_some, e4, bind2_some]
          · rw [ids_snoc, if_pos ht, List.map_append]
            exact H4.sw.tl
        · refine Ex.b2 (a := z) (b := w') ?_ (Ex.ret ⟨m - 1, by omega, k + 1, z, w', by rw [hw], by omega, by omega, ?_, M⟩)
          · rw [e1, bind2_some, if_neg ht]
          · rw [ids_snoc, if_neg ht, List.append_nil]
            exact H
      · have : k = 64 := by omega
        subst this
        exact Ex.f (by simp) (Ex.ret ⟨H, M⟩)) 64 (Sl.nil, (1 : Int), w) ⟨0, Sl.nil, w, rfl, by omega, Nat.le_refl _, H.onil, Mo.r⟩
  obtain ⟨⟨z, w'⟩, e, H2, M⟩ := lp
  refine ⟨z, w', ?_, H2, M⟩
  unfold wheel_Wheel_Ids
  rw [e, bind2_some]
end
end Go.Proofs.Ytejkaciimmfgcaa.D
