/- The document's wheel. -/
import Derived.Test.YtejkaciimmfgcaaWhC
import Derived.Test.YtejkaciimmfgcaaFnU
namespace Go.Proofs.Ytejkaciimmfgcaa.D
open Go
set_option linter.unusedVariables false
set_option linter.unusedSimpArgs false
structure RM where
  now : Int
  th : Nat → Bool
  a : Nat → Int
def RM.cs (M : RM) : List Value := .int .i64 M.now :: (rg 65 (fun i => .bool (M.th i)) ++ rg 65 (fun i => .int .i64 (M.a i)))
def RM.T (M : RM) (i : Nat) : Option Int := if M.th i = true then some (M.a i) else none
structure RM.Wf (M : RM) : Prop where
  now : 0 ≤ M.now ∧ M.now ≤ 1099511627776
  th : ∀ i, M.th i = true → 1 ≤ i ∧ i ≤ 64 ∧ 0 ≤ M.a i ∧ M.a i ≤ 1099511627776
section
variable {M : RM} {i : Nat} {x : Int}
theorem RM.len : M.cs.length = 131 := by simp [RM.cs]
theorem RM.g0 : M.cs[0]? = some (.int .i64 M.now) := rfl
theorem RM.gt (h : i < 65) : M.cs[1 + i]? = some (.bool (M.th i)) := by
  rw [RM.cs, Nat.add_comm, List.getElem?_cons_succ, List.getElem?_append_left (by simpa using h), rg_get h]
theorem RM.ga (h : i < 65) : M.cs[66 + i]? = some (.int .i64 (M.a i)) := by
  rw [RM.cs, show 66 + i = (65 + i) + 1 by omega, List.getElem?_cons_succ, List.getElem?_append_right (by simp), rg_len, Nat.add_sub_cancel_left, rg_get h]
theorem RM.s0 : M.cs.set 0 (.int .i64 x) = ({M with now := x} : RM).cs := rfl
theorem RM.st {x : Bool} (h : i < 65) : M.cs.set (1 + i) (.bool x) = ({M with th := upN M.th i x} : RM).cs := by
  rw [RM.cs, Nat.add_comm, List.set_cons_succ, List.set_append_left _ _ (by simpa using h), rg_set (f' := fun k => .bool (upN M.th i x k)) (by simp) (fun k hk => by simp [upN_ne hk])]
  rfl
theorem RM.sa (h : i < 65) : M.cs.set (66 + i) (.int .i64 x) = ({M with a := upN M.a i x} : RM).cs := by
  rw [RM.cs, show 66 + i = (65 + i) + 1 by omega, List.set_cons_succ, List.set_append_right _ _ (by simp), rg_len, Nat.add_sub_cancel_left, rg_set (f' := fun k => .int .i64 (upN M.a i x k)) (by simp) (fun k hk => by simp [upN_ne hk])]
  rfl
theorem RM.T_some {a : Int} : M.T i = some a ↔ M.th i = true ∧ M.a i = a := by
  unfold RM.T
  split <;> simp_all
end
def rwL (b : Nat) (M : RM) : List Rs := [bxR b M.cs 107]
def refW (b : Nat) (now : Int) (T : Nat → Option Int) : Rs := packR (rwL b) fun M => M.Wf ∧ M.now = now ∧ M.T = T
section
variable {F0 : Nat → Prop} {g g0 : Gh} {w w0 : World} {L : List Rs} {b i : Nat} {now to : Int} {T : Nat → Option Int} {M : RM}
theorem Hp.rpack (H : Hp F0 g0 w0 g w (bxR b M.cs 107 :: L)) (wf : M.Wf) (hn : M.now = now) (ht : M.T = T) : Hp F0 g0 w0 g w (refW b now T :: L) := Hp.pack (Ls := rwL b) (ok := fun M => M.Wf ∧ M.now = now ∧ M.T = T) ⟨wf, hn, ht⟩ H
theorem Hp.runp (H : Hp F0 g0 w0 g w (refW b now T :: L)) : ∃ M : RM, M.Wf ∧ M.now = now ∧ M.T = T ∧ Hp F0 g0 w0 g w (bxR b M.cs 107 :: L) := by
  obtain ⟨M, ⟨h1, h2, h3⟩, H⟩ := H.unpack
  exact ⟨M, h1, h2, h3, H⟩
theorem rNow (H : Hp F0 g0 w0 g w (refW b now T :: L)) : ldI .i64 w ⟨b, 0, none⟩ = some now := by
  obtain ⟨M, wf, hn, ht, H1⟩ := H.runp; clear H; subst hn; subst ht; have H := H1; clear H1
  exact H.ldI RM.g0
theorem rNew_ok (H : Hp F0 g0 w0 g w L) (x : Int) : (x < 0 ∨ 1099511627776 < x) ∧ grapevineref12_New x w = some (none, 2, w) ∨ ¬ (x < 0 ∨ 1099511627776 < x) ∧ ∃ b w', grapevineref12_New x w = some (some ⟨b, 0, none⟩, 0, w') ∧ Hp F0 g0 w0 g w' (refW b x (fun _ => none) :: L) ∧ Mo g w g w' := by
  have e0 : (if (decide (x < 0)) = true then some (true, w) else some ((decide (1099511627776 < x)), w)) = some (decide (x < 0 ∨ 1099511627776 < x), w) := by
    by_cases h : x < 0 <;> simp [h]
  by_cases hc : x < 0 ∨ 1099511627776 < x
  · refine .inl ⟨hc, ?_⟩
    unfold grapevineref12_New
    rw [e0, bind2_some, if_pos (decide_eq_true hc)]
  · refine .inr ⟨hc, ?_⟩
    have ec : [.int .i64 x] ++ List.replicate 65 (.bool false) ++ List.replicate 65 (.int .i64 0) = (RM.mk x (fun _ => false) (fun _ => 0)).cs := by
      have e1 := rg_rep (n := 65) (v := Value.bool false)
      have e2 := rg_rep (n := 65) (v := Value.int .i64 0)
      rw [e1, e2, List.append_assoc]
      rfl
    obtain ⟨b, w', e1, H1, m1⟩ := H.box (cs := (RM.mk x (fun _ => false) (fun _ => 0)).cs) (T := 107)
    refine ⟨b, w', ?_, H1.rpack ⟨by simp only; omega, fun i h => by simp at h⟩ rfl (by funext i; simp [RM.T]), m1⟩
    unfold grapevineref12_New
    rw [e0, bind2_some, if_neg (by simpa using hc), ec, e1]
    rfl
theorem rAt_ok (H : Hp F0 g0 w0 g w (refW b now T :: L)) (x : Int) : grapevineref12_Wheel_At (some ⟨b, 0, none⟩) x w = some ((tI T x).getD 0, (tI T x).isSome, w) := by
  obtain ⟨M, wf, hn, ht, H1⟩ := H.runp; clear H; subst hn; subst ht; have H := H1; clear H1
  unfold grapevineref12_Wheel_At
  by_cases h1 : x < 1
  · have : tI M.T x = none := by
      unfold tI
      split
      · refine if_neg fun h => ?_
        have := wf.th _ h
        omega
      · rfl
    rw [this]
    simp [h1]
  · by_cases h2 : 64 < x
    · have : tI M.T x = none := by
        unfold tI
        split
        · refine if_neg fun h => ?_
          have := wf.th _ h
          omega
        · rfl
      rw [this]
      simp [h1, h2]
    · obtain ⟨k, rfl⟩ : ∃ k : Nat, x = k := ⟨x.toNat, by omega⟩
      have x1 : ixA ⟨b, 1, none⟩ (k : Int) 65 1 = some ⟨b, 1 + k, none⟩ := ixA_n (by omega)
      have x2 : ixA ⟨b, 66, none⟩ (k : Int) 65 1 = some ⟨b, 66 + k, none⟩ := ixA_n (by omega)
      have l1 : ldB w ⟨b, 1 + k, none⟩ = some (M.th k) := H.ldB (RM.gt (by omega))
      have l2 : ldI .i64 w ⟨b, 66 + k, none⟩ = some (M.a k) := H.ldI (RM.ga (by omega))
      have ht : tI M.T (k : Int) = M.T k := by simp [tI]
      rw [ht, if_neg (by simp), if_neg (by simpa using h1), if_neg (by simpa using h2)]
      simp only [Option.bind_some, add_mk, Nat.zero_add, x1, l1, bind2_some, x2, l2]
      unfold RM.T
      cases M.th k <;> simp
theorem rSet_ok (H : Hp F0 g0 w0 g w (refW b now T :: L)) (x y : Int) :
    ∃ w', grapevineref12_Wheel_Set (some ⟨b, 0, none⟩) x y w = some (if x < 1 ∨ 64 < x ∨ y < 0 ∨ 1099511627776 < y then 2 else 0, w') ∧ Hp F0 g0 w0 g w' (refW b now (if x < 1 ∨ 64 < x ∨ y < 0 ∨ 1099511627776 < y then T else upN T x.toNat (some y)) :: L) ∧ Mo g w g w' := by
  have e0 : (if (decide (x < 1)) = true then some (true, w) else (if (decide (64 < x)) = true then some (true, w) else (if (decide (y < 0)) = true then some (true, w) else some ((decide (1099511627776 < y)), w)))) = some (decide (x < 1 ∨ 64 < x ∨ y < 0 ∨ 1099511627776 < y), w) := by
    by_cases h1 : x < 1 <;> by_cases h2 : 64 < x <;> by_cases h3 : y < 0 <;> simp [h1, h2, h3]
  unfold grapevineref12_Wheel_Set
  rw [if_neg (by simp), e0, bind2_some]
  by_cases hc : x < 1 ∨ 64 < x ∨ y < 0 ∨ 1099511627776 < y
  · rw [if_pos (decide_eq_true hc), if_pos hc, if_pos hc]
    exact ⟨w, rfl, H, Mo.r⟩
  · rw [if_neg (by simpa using hc), if_neg hc, if_neg hc]
    obtain ⟨M, wf, hn, ht, H1⟩ := H.runp; clear H; subst hn; subst ht; have H := H1; clear H1
    obtain ⟨k, rfl⟩ : ∃ k : Nat, x = k := ⟨x.toNat, by omega⟩
    simp only [Int.toNat_natCast]
    have x1 : ixA ⟨b, 1, none⟩ (k : Int) 65 1 = some ⟨b, 1 + k, none⟩ := ixA_n (by omega)
    have x2 : ixA ⟨b, 66, none⟩ (k : Int) 65 1 = some ⟨b, 66 + k, none⟩ := ixA_n (by omega)
    obtain ⟨w1, e1, H1, m1⟩ := H.stV (o := 1 + k) (x := .bool true) (by rw [RM.len]; omega) rfl
    rw [RM.st (by omega)] at H1
    obtain ⟨w2, e2, H2, m2⟩ := H1.stV (o := 66 + k) (x := .int .i64 y) (by rw [RM.len]; omega) rfl
    rw [RM.sa (by omega)] at H2
    refine ⟨w2, ?_, H2.rpack ⟨wf.now, fun i hi => ?_⟩ rfl ?_, m1.t m2⟩
    · simp only [Option.bind_some, add_mk, Nat.zero_add, x1, e1, x2, e2]
    · by_cases h : i = k
      · subst h; simp only [upN_same]; omega
      · simp only [upN_ne h] at hi ⊢
        exact wf.th i hi
    · funext i
      by_cases h : i = k
      · subst h; simp [RM.T]
      · simp [RM.T, upN_ne h]
theorem rDrop_ok (H : Hp F0 g0 w0 g w (refW b now T :: L)) (x : Int) : ∃ w', grapevineref12_Wheel_Drop (some ⟨b, 0, none⟩) x w = some (if (tI T x).isSome then 0 else 8, w') ∧ Hp F0 g0 w0 g w' (refW b now (if (tI T x).isSome then upN T x.toNat none else T) :: L) ∧ Mo g w g w' := by
  unfold grapevineref12_Wheel_Drop
  rw [if_neg (by simp), rAt_ok H x, bind3_some]
  by_cases h : (tI T x).isSome = true
  · rw [if_neg (by simp [h]), if_pos h, if_pos h]
    obtain ⟨M, wf, hn, ht, H1⟩ := H.runp; clear H; subst hn; subst ht; have H := H1; clear H1
    have hx : 0 ≤ x ∧ M.th x.toNat = true := by
      unfold tI at h
      split at h
      · unfold RM.T at h
        split at h
        · exact ⟨by assumption, by assumption⟩
        · simp at h
      · simp at h
    have hr := wf.th _ hx.2
    obtain ⟨k, rfl⟩ : ∃ k : Nat, x = k := ⟨x.toNat, by omega⟩
    simp only [Int.toNat_natCast] at *
    have x1 : ixA ⟨b, 1, none⟩ (k : Int) 65 1 = some ⟨b, 1 + k, none⟩ := ixA_n (by omega)
    obtain ⟨w1, e1, H1, m1⟩ := H.stV (o := 1 + k) (x := .bool false) (by rw [RM.len]; omega) rfl
    rw [RM.st (by omega)] at H1
    refine ⟨w1, ?_, H1.rpack ⟨wf.now, fun i hi => ?_⟩ rfl ?_, m1⟩
    · simp only [Option.bind_some, add_mk, Nat.zero_add, x1, e1]
    · by_cases h : i = k
      · subst h; simp at hi
      · simp only [upN_ne h] at hi
        exact wf.th i hi
    · funext i
      by_cases h : i = k
      · subst h; simp [RM.T]
      · simp [RM.T, upN_ne h]
  · rw [if_pos (by simpa using h), if_neg h, if_neg h]
    exact ⟨w, rfl, H, Mo.r⟩
/-! ### Next -/
theorem rNext_ok (H : Hp F0 g0 w0 g w (refW b now T :: L)) : ∃ n f, grapevineref12_Wheel_Next (some ⟨b, 0, none⟩) w = some (n, f, w) ∧ Nxt T n f := by
  obtain ⟨M, wf, hn, ht, H1⟩ := H.runp; clear H; subst hn; subst ht; have H := H1; clear H1
  have lp := Ex.loop (step := fun s : Int × Bool × Int × World => grapevineref12_Wheel_Next_l1 (some ⟨b, 0, none⟩) s.1 s.2.1 s.2.2.1 s.2.2.2)
    (Φ := fun o => match o with | (n, f, w') => w' = w ∧ Nxt M.T n f)
    (fun m t => ∃ (n : Int) (f : Bool) (k : Nat), t = (n, f, ((k + 1 : Nat) : Int), w) ∧ m + k = 64 ∧ ((f = false ∧ n = 0 ∧ ∀ i, i < k + 1 → M.T i = none) ∨ (f = true ∧ (∃ i, M.T i = some n) ∧ ∀ i a, i < k + 1 → M.T i = some a → n ≤ a)))
    (fun m t ⟨n, f, k, e, hm, hI⟩ => by
      subst e
      unfold grapevineref12_Wheel_Next_l1
      by_cases hk : k < 64
      · refine Ex.b2 (a := true) (b := w) (by simp; omega) (Ex.t rfl ?_)
        have hw : IntKind.i64.wrap (((k + 1 : Nat) : Int) + 1) = ((k + 1 + 1 : Nat) : Int) := by rw [wr64 (by omega) (by omega)]; rfl
        have x1 : ixA ⟨b, 1, none⟩ ((k + 1 : Nat) : Int) 65 1 = some ⟨b, 1 + (k + 1), none⟩ := ixA_n (by omega)
        have x2 : ixA ⟨b, 66, none⟩ ((k + 1 : Nat) : Int) 65 1 = some ⟨b, 66 + (k + 1), none⟩ := ixA_n (by omega)
        have l1 : ldB w ⟨b, 1 + (k + 1), none⟩ = some (M.th (k + 1)) := H.ldB (RM.gt (by omega))
        have l2 : ldI .i64 w ⟨b, 66 + (k + 1), none⟩ = some (M.a (k + 1)) := H.ldI (RM.ga (by omega))
        by_cases ht : M.th (k + 1) = true
        · have hT : M.T (k + 1) = some (M.a (k + 1)) := if_pos ht
          have hc : bind2 ((some (⟨b, 0, none⟩ : Addr)).bind fun p27 => (ixA (p27.add 1) ((k + 1 : Nat) : Int) 65 1).bind fun p29 => (ldB w p29).bind fun v31 =>
              if v31 = true then (if (!f) = true then some (true, w) else ((ixA (p27.add 66) ((k + 1 : Nat) : Int) 65 1).bind fun p35 => (ldI .i64 w p35).bind fun v37 => some ((decide (v37 < n)), w))) else some (false, w)) (fun v23 w24 =>
              if v23 = true then ((some (⟨b, 0, none⟩ : Addr)).bind fun p40 => (ixA (p40.add 66) ((k + 1 : Nat) : Int) 65 1).bind fun p42 => (ldI .i64 w24 p42).bind fun v44 => some (v44, true, w24)) else some (n, f, w24)) = some (if f = false ∨ M.a (k + 1) < n then (M.a (k + 1), true, w) else (n, f, w)) := by
            simp only [Option.bind_some, add_mk, Nat.zero_add, x1, l1, ht, if_true, x2, l2]
            cases f
            · simp [l2, x2]
            · by_cases hlt : M.a (k + 1) < n <;> simp [hlt, l2, x2]
          by_cases hlt : f = false ∨ M.a (k + 1) < n
          · rw [if_pos hlt] at hc
            refine Ex.b3 hc (Ex.ret ⟨m - 1, by omega, M.a (k + 1), true, k + 1, by rw [hw], by omega, .inr ⟨rfl, ⟨_, hT⟩, fun i a hi ha => ?_⟩⟩)
            by_cases hik : i = k + 1
            · subst hik; rw [hT] at ha; cases ha; exact Int.le_refl _
            · rcases hI with ⟨rfl, h2, h3⟩ | ⟨rfl, h2, h3⟩
              · rw [h3 i (by omega)] at ha; cases ha
              · have := h3 i a (by omega) ha
                have h4 : M.a (k + 1) < n := by simpa using hlt
                omega
          · rw [if_neg hlt] at hc
            refine Ex.b3 hc (Ex.ret ⟨m - 1, by omega, n, f, k + 1, by rw [hw], by omega, ?_⟩)
            rcases hI with ⟨rfl, h2, h3⟩ | ⟨rfl, h2, h3⟩
            · simp at hlt
            · refine .inr ⟨rfl, h2, fun i a hi ha => ?_⟩
              by_cases hik : i = k + 1
              · subst hik; rw [hT] at ha; cases ha; simp at hlt; exact hlt
              · exact h3 i a (by omega) ha
        · have hT : M.T (k + 1) = none := if_neg ht
          refine Ex.b3 (a := n) (b := f) (c := w) ?_ (Ex.ret ⟨m - 1, by omega, n, f, k + 1, by rw [hw], by omega, ?_⟩)
          · simp only [Option.bind_some, add_mk, Nat.zero_add, x1, l1, ht]
            simp
          · rcases hI with ⟨rfl, h2, h3⟩ | ⟨rfl, h2, h3⟩
            · refine .inl ⟨rfl, h2, fun i hi => ?_⟩
              by_cases hik : i = k + 1
              · subst hik; exact hT
              · exact h3 i (by omega)
            · refine .inr ⟨rfl, h2, fun i a hi ha => ?_⟩
              by_cases hik : i = k + 1
              · subst hik; rw [hT] at ha; cases ha
              · exact h3 i a (by omega) ha
      · have : k = 64 := by omega
        subst this
        refine Ex.b2 (a := false) (b := w) (by simp) (Ex.f (by simp) (Ex.ret ⟨rfl, ?_⟩))
        rcases hI with ⟨rfl, h2, h3⟩ | ⟨rfl, h2, h3⟩
        · refine .inl ⟨rfl, h2, fun i => ?_⟩
          by_cases hi : i < 65
          · exact h3 i hi
          · refine if_neg fun h => ?_
            have := wf.th i h
            omega
        · refine .inr ⟨rfl, h2, fun i a ha => h3 i a ?_ ha⟩
          have := wf.th i (RM.T_some.1 ha).1
          omega) 64 ((0 : Int), false, (1 : Int), w) ⟨0, false, 0, rfl, rfl, .inl ⟨rfl, rfl, fun i hi => by
            have : i = 0 := by omega
            subst this
            refine if_neg fun h => ?_
            have := wf.th 0 h
            omega⟩⟩
  obtain ⟨⟨n, f, w'⟩, e, rfl, h⟩ := lp
  refine ⟨n, f, ?_, h⟩
  unfold grapevineref12_Wheel_Next
  rw [e, bind3_some]
/-! ### Ids -/
theorem rIds_ok (H : Hp F0 g0 w0 g w (refW b now T :: L)) : ∃ z w', grapevineref12_Wheel_Ids (some ⟨b, 0, none⟩) w = some (z, w') ∧ Hp F0 g0 w0 g w' (owR 3 1 z ((idsL T).map nv) :: refW b now T :: L) ∧ Mo g w g w' := by
  obtain ⟨z0, w1, e1, n1, -, H1, m1⟩ := H.bsl (T := 3) (sz := 1) (ps := []) (by simp) (by simp)
  have lp := Ex.loop (step := fun s : Sl × Int × World => grapevineref12_Wheel_Ids_l1 (some ⟨b, 0, none⟩) s.1 s.2.1 s.2.2)
    (Φ := fun o => match o with | (z, w') => Hp F0 g0 w0 g w' (owR 3 1 z ((idsL T).map nv) :: refW b now T :: L) ∧ Mo g w1 g w')
    (fun m s => ∃ (k : Nat) (z : Sl) (w' : World), s = (z, ((k + 1 : Nat) : Int), w') ∧ m + k = 64 ∧ Hp F0 g0 w0 g w' (owR 3 1 z (((List.range' 1 k).filter fun i => (T i).isSome).map nv) :: refW b now T :: L) ∧ Mo g w1 g w')
    (fun m s ⟨k, z, w', e, hm, H, Mm⟩ => by
      subst e
      unfold grapevineref12_Wheel_Ids_l1
      by_cases hk : k < 64
      · refine Ex.b2 (a := true) (b := w') (by simp; omega) (Ex.t rfl ?_)
        have hw : IntKind.i64.wrap (((k + 1 : Nat) : Int) + 1) = ((k + 1 + 1 : Nat) : Int) := by rw [wr64 (by omega) (by omega)]; rfl
        have x1 : ixA ⟨b, 1, none⟩ ((k + 1 : Nat) : Int) 65 1 = some ⟨b, 1 + (k + 1), none⟩ := ixA_n (by omega)
        obtain ⟨M, wf, hno, hT, H'⟩ := H.sw.runp
        have l1 : ldB w' ⟨b, 1 + (k + 1), none⟩ = some (M.th (k + 1)) := H'.ldB (RM.gt (by omega))
        have hTk : (T (k + 1)).isSome = M.th (k + 1) := by rw [← hT]; unfold RM.T; cases M.th (k + 1) <;> simp
        by_cases ht : M.th (k + 1) = true
        · obtain ⟨z1, w1, z2, w2, e1, e2, H2, m2⟩ := push_ok H (by have := List.length_filter_le (fun i => (T i).isSome) (List.range' 1 k); rw [List.length_range'] at this; omega) (k + 1)
          refine Ex.b2 (a := z2) (b := w2) ?_ (Ex.ret ⟨m - 1, by omega, k + 1, z2, w2, by rw [hw], by omega, ?_, Mm.t m2⟩)
          · simp only [Option.bind_some, add_mk, Nat.zero_add, x1, l1, ht, if_true]
            rw [e1, bind2_some, e2, bind2_some]
          · rw [ids_snoc, if_pos (hTk.trans ht)]
            exact H2
        · refine Ex.b2 (a := z) (b := w') ?_ (Ex.ret ⟨m - 1, by omega, k + 1, z, w', by rw [hw], by omega, ?_, Mm⟩)
          · simp only [Option.bind_some, add_mk, Nat.zero_add, x1, l1, ht]
            simp
          · rw [ids_snoc, if_neg (by rw [hTk]; exact ht), List.append_nil]
            exact H
      · have : k = 64 := by omega
        subst this
        exact Ex.b2 (a := false) (b := w') (by simp) (Ex.f (by simp) (Ex.ret ⟨H, Mm⟩))) 64 (z0, (1 : Int), w1) ⟨0, z0, w1, rfl, by omega, by simpa using H1, Mo.r⟩
  obtain ⟨⟨z, w'⟩, e, H2, m2⟩ := lp
  refine ⟨z, w', ?_, H2, m1.t m2⟩
  unfold grapevineref12_Wheel_Ids
  rw [e1, bind2_some, e, bind2_some]
/-! ### Fork -/
theorem rFork_ok (H : Hp F0 g0 w0 g w (refW b now T :: L)) : ∃ b' w', grapevineref12_Wheel_Fork (some ⟨b, 0, none⟩) w = some (some ⟨b', 0, none⟩, w') ∧ Hp F0 g0 w0 g w' (refW b' now T :: refW b now T :: L) ∧ Mo g w g w' := by
  obtain ⟨M, wf, rfl, rfl, H0⟩ := H.runp
  have hc : ldA 131 w ⟨b, 0, none⟩ 0 = some M.cs := by
    have := ldA_B (n := 131) (o := 0) H0.bx (by rw [RM.len]; omega)
    rw [this, List.drop_zero, List.take_of_length_le (by rw [RM.len]; omega)]
  obtain ⟨b', w1, e1, H1, m1⟩ := H.box (cs := [.int .i64 0] ++ List.replicate 65 (.bool false) ++ List.replicate 65 (.int .i64 0)) (T := 107)
  have hl : ([Value.int .i64 0] ++ List.replicate 65 (Value.bool false) ++ List.replicate 65 (Value.int .i64 0)).length = 131 := by
    rw [List.length_append, List.length_append, List.length_replicate, List.length_replicate]; rfl
  obtain ⟨w2, e2, H2, m2⟩ := H1.stA (o := 0) (vs := M.cs) (by rw [RM.len, hl]; omega) (fun v hv => by
    simp only [RM.cs, List.mem_cons, List.mem_append, rg, List.mem_map] at hv
    rcases hv with rfl | ⟨_, _, rfl⟩ | ⟨_, _, rfl⟩ <;> rfl)
  have hp : putL ([.int .i64 0] ++ List.replicate 65 (.bool false) ++ List.replicate 65 (.int .i64 0)) 0 M.cs = M.cs := by
    unfold putL
    rw [List.take_zero, List.nil_append, List.drop_of_length_le (by rw [RM.len, hl]; omega), List.append_nil]
  rw [hp] at H2
  refine ⟨b', w2, ?_, H2.rpack wf rfl rfl, m1.t m2⟩
  unfold grapevineref12_Wheel_Fork
  rw [if_neg (by simp), Option.bind_some, hc, Option.bind_some, e1, bind2_some, e2]
  rfl
/-! ### Same -/
theorem same_ok {x y : Sl} {l l' : List Nat} (H : Hp F0 g0 w0 g w (owR 3 1 x (l.map nv) :: owR 3 1 y (l'.map nv) :: L)) (hl : l.length ≤ 1000) :
    ∃ w', grapevineref12_Same x y w = some (decide (l = l'), w') ∧ Hp F0 g0 w0 g w' (owR 3 1 x (l.map nv) :: owR 3 1 y (l'.map nv) :: L) ∧ Mo g w g w' := by
  have hx := H.nD
  have hy := H.tl.nD
  unfold grapevineref12_Same
  by_cases hn : l.length = l'.length
  · rw [if_neg (by simp; omega)]
    have lp := Ex.loop (step := fun s : Int × World => grapevineref12_Same_l1 x y s.1 s.2)
      (Φ := fun o => match o with
        | .inl w' => l = l' ∧ Hp F0 g0 w0 g w' (owR 3 1 x (l.map nv) :: owR 3 1 y (l'.map nv) :: L) ∧ Mo g w g w'
        | .inr (v, w') => v = false ∧ l ≠ l' ∧ Hp F0 g0 w0 g w' (owR 3 1 x (l.map nv) :: owR 3 1 y (l'.map nv) :: L) ∧ Mo g w g w')
      (fun m s => ∃ (j : Nat) (w' : World), s = ((j : Int), w') ∧ m + j = l.length ∧ l.take j = l'.take j ∧ Hp F0 g0 w0 g w' (owR 3 1 x (l.map nv) :: owR 3 1 y (l'.map nv) :: L) ∧ Mo g w g w')
      (fun m s ⟨j, w', e, hm, ht, H, Mm⟩ => by
        subst e
        unfold grapevineref12_Same_l1
        by_cases hj : j < l.length
        · have H2 := H.nw (nw_drew H.lt)
          have m2 := Mm.t (nw_drew H.lt).mo
          obtain ⟨u, hu⟩ : ∃ u, l[j]? = some u := ⟨_, List.getElem?_eq_getElem hj⟩
          obtain ⟨v, hv⟩ : ∃ v, l'[j]? = some v := ⟨_, List.getElem?_eq_getElem (by omega)⟩
          obtain ⟨a, a1, a2⟩ := H2.ow.ixI (nvs_get hu)
          obtain ⟨c, c1, c2⟩ := H2.tl.ow.ixI (nvs_get hv)
          have hw : IntKind.i64.wrap ((j : Int) + 1) = ((j + 1 : Nat) : Int) := by rw [wr64 (by omega) (by omega)]; rfl
          refine Ex.t (by simp; omega) (Ex.b1 (a := w'.drew) rfl (Ex.b1 a1 (Ex.b1 a2 (Ex.b1 c1 (Ex.b1 c2 ?_)))))
          by_cases huv : u = v
          · subst huv
            refine Ex.f (by simp) (Ex.ret ⟨m - 1, by omega, j + 1, w'.drew, by rw [hw], by omega, ?_, H2, m2⟩)
            rw [List.take_add_one, List.take_add_one, hu, hv, ht]
          · refine Ex.t (by simp; omega) (Ex.ret ⟨rfl, fun e => huv ?_, H2, m2⟩)
            subst e
            rw [hu] at hv; cases hv; rfl
        · refine Ex.f (by simp; omega) (Ex.ret ⟨?_, H, Mm⟩)
          rwa [List.take_of_length_le (by omega), List.take_of_length_le (by omega)] at ht) l.length ((0 : Int), w) ⟨0, w, rfl, by omega, by simp, H, Mo.r⟩
    obtain ⟨o, e, h⟩ := lp
    rw [e]
    cases o with
    | inl w' => obtain ⟨h1, h2, h3⟩ := h; exact ⟨w', by rw [decide_eq_true h1]; rfl, h2, h3⟩
    | inr r => obtain ⟨v, w'⟩ := r; obtain ⟨rfl, h1, h2, h3⟩ := h; exact ⟨w', by rw [decide_eq_false h1]; rfl, h2, h3⟩
  · rw [if_pos (by simp; omega), decide_eq_false (fun e => hn (by rw [e]))]
    exact ⟨w, rfl, H, Mo.r⟩
end
end Go.Proofs.Ytejkaciimmfgcaa.D
