/- The wheel: what lies in its block and in its slots. -/
import Derived.Test.YtejkaciimmfgcaaDel
import Derived.Test.YtejkaciimmfgcaaLev
namespace Go.Proofs.Ytejkaciimmfgcaa.D
open Go
set_option linter.unusedVariables false
set_option linter.unusedSimpArgs false
structure WM where
  now : Int
  a : Nat → Int
  sl : Nat → Nat
  S : Nat → Sl
  ids : Nat → List Nat
def WM.cs (M : WM) : List Value := .int .i64 M.now :: (rg 65 (fun i => .int .i64 (M.a i)) ++ (rg 65 (fun i => nv (M.sl i)) ++ rg 43 fun s => (M.S s).v))
structure WM.Wf (M : WM) : Prop where
  now : 0 ≤ M.now ∧ M.now ≤ 1099511627776
  a : ∀ i, 0 ≤ M.a i ∧ M.a i ≤ 1099511627776
  sl : ∀ i, M.sl i ≤ 42
  there : ∀ i, 0 < M.sl i → 1 ≤ i ∧ i ≤ 64 ∧ i ∈ M.ids (M.sl i) ∧ M.sl i = lev M.now (M.a i)
  ids : ∀ s i, i ∈ M.ids s → M.sl i = s ∧ 0 < s
  nd : ∀ s, (M.ids s).Nodup
def slR (M : WM) (s : Nat) : Rs := owR 3 1 (M.S s) ((M.ids s).map nv)
def slsL (M : WM) : List Rs := (List.range 43).map (slR M)
def whL (b : Nat) (M : WM) : List Rs := bxR b M.cs 95 :: slsL M
section
variable {M : WM} {i s : Nat} {v : Value}
theorem WM.len : M.cs.length = 174 := by simp [WM.cs]
theorem WM.g0 : M.cs[0]? = some (.int .i64 M.now) := rfl
theorem WM.ga (h : i < 65) : M.cs[1 + i]? = some (.int .i64 (M.a i)) := by
  rw [WM.cs, Nat.add_comm, List.getElem?_cons_succ, List.getElem?_append_left (by simpa using h), rg_get h]
theorem WM.gs (h : i < 65) : M.cs[66 + i]? = some (nv (M.sl i)) := by
  rw [WM.cs, show 66 + i = (65 + i) + 1 by omega, List.getElem?_cons_succ, List.getElem?_append_right (by simp), rg_len, Nat.add_sub_cancel_left, List.getElem?_append_left (by simpa using h), rg_get h]
theorem WM.gS (h : s < 43) : M.cs[131 + s]? = some (M.S s).v := by
  rw [WM.cs, show 131 + s = (65 + (65 + s)) + 1 by omega, List.getElem?_cons_succ, List.getElem?_append_right (by simp), rg_len, Nat.add_sub_cancel_left, List.getElem?_append_right (by simp), rg_len, Nat.add_sub_cancel_left, rg_get h]
def upN {α : Type} (f : Nat → α) (i : Nat) (x : α) : Nat → α := fun k => if k = i then x else f k
@[simp] theorem upN_same {α : Type} {f : Nat → α} {x : α} : upN f i x i = x := by simp [upN]
theorem upN_ne {α : Type} {f : Nat → α} {x : α} {k : Nat} (h : k ≠ i) : upN f i x k = f k := by simp [upN, h]
theorem WM.s0 {x : Int} : M.cs.set 0 (.int .i64 x) = ({M with now := x} : WM).cs := rfl
theorem WM.sa {x : Int} (h : i < 65) : M.cs.set (1 + i) (.int .i64 x) = ({M with a := upN M.a i x} : WM).cs := by
  rw [WM.cs, Nat.add_comm, List.set_cons_succ, List.set_append_left _ _ (by simpa using h), rg_set (f' := fun k => .int .i64 (upN M.a i x k)) (by simp) (fun k hk => by simp [upN_ne hk])]
  rfl
theorem WM.ss {x : Nat} (h : i < 65) : M.cs.set (66 + i) (nv x) = ({M with sl := upN M.sl i x} : WM).cs := by
  rw [WM.cs, show 66 + i = (65 + i) + 1 by omega, List.set_cons_succ, List.set_append_right _ _ (by simp), rg_len, Nat.add_sub_cancel_left, List.set_append_left _ _ (by simpa using h), rg_set (f' := fun k => nv (upN M.sl i x k)) (by simp) (fun k hk => by simp [upN_ne hk])]
  rfl
theorem WM.sS {x : Sl} (h : s < 43) : M.cs.set (131 + s) x.v = ({M with S := upN M.S s x} : WM).cs := by
  rw [WM.cs, show 131 + s = (65 + (65 + s)) + 1 by omega, List.set_cons_succ, List.set_append_right _ _ (by simp), rg_len, Nat.add_sub_cancel_left, List.set_append_right _ _ (by simp), rg_len, Nat.add_sub_cancel_left, rg_set (f' := fun k => (upN M.S s x k).v) (by simp) (fun k hk => by simp [upN_ne hk])]
  rfl
end
section
variable {F0 : Nat → Prop} {g g0 : Gh} {w w0 : World} {L : List Rs} {M : WM} {b i s : Nat}
abbrev WH (F0 : Nat → Prop) (g0 : Gh) (w0 : World) (g : Gh) (w : World) (b : Nat) (M : WM) (L : List Rs) : Prop := Hp F0 g0 w0 g w (whL b M ++ L)
/-- Its block comes first, then one of its slots. -/
theorem Hp.slot (H : WH F0 g0 w0 g w b M L) (hs : s < 43) : Hp F0 g0 w0 g w (slR M s :: bxR b M.cs 95 :: (((List.range 43).erase s).map (slR M) ++ L)) :=
  (Hp.at_ hs (L := bxR b M.cs 95 :: L) H.cons_app).perm (by
    rw [← List.cons_append]
    exact (List.perm_middle (l₁ := slR M s :: ((List.range 43).erase s).map (slR M))).trans (List.Perm.swap _ _ _))
theorem Hp.slot' {M' : WM} (hs : s < 43) (h : ∀ k, k ≠ s → slR M' k = slR M k) (H : Hp F0 g0 w0 g w (slR M' s :: bxR b M'.cs 95 :: (((List.range 43).erase s).map (slR M) ++ L))) : WH F0 g0 w0 g w b M' L := by
  have H2 : Hp F0 g0 w0 g w (slR M' s :: (((List.range 43).erase s).map (slR M) ++ (bxR b M'.cs 95 :: L))) :=
    H.perm ((List.Perm.swap _ _ _).trans (by
      rw [← List.cons_append]
      exact (List.perm_middle (l₁ := slR M' s :: ((List.range 43).erase s).map (slR M))).symm))
  exact (Hp.ta hs h H2).app_cons
/-- Its block alone turns. -/
theorem Hp.wh {M' : WM} (h : ∀ k, k < 43 → slR M' k = slR M k) (H : Hp F0 g0 w0 g w (bxR b M'.cs 95 :: (slsL M ++ L))) : WH F0 g0 w0 g w b M' L := by
  have e : slsL M = slsL M' := List.map_congr_left fun k hk => (h k (List.mem_range.1 hk)).symm
  rw [e] at H
  exact H
theorem Hp.wB (H : WH F0 g0 w0 g w b M L) : B w b = some (M.cs, 95) := Hp.bx (L := slsL M ++ L) H
/-! ### has, At, Now -/
theorem has_ok (hb : B w b = some (M.cs, 95)) (x : Int) : wheel_Wheel_has (some ⟨b, 0, none⟩) x w = some (decide (1 ≤ x ∧ x ≤ 64 ∧ 0 < M.sl x.toNat), w) := by
  unfold wheel_Wheel_has
  by_cases h1 : 1 ≤ x
  · by_cases h2 : x ≤ 64
    · obtain ⟨k, rfl⟩ : ∃ k : Nat, x = k := ⟨x.toNat, by omega⟩
      have e1 : ixA ⟨b, 66, none⟩ (k : Int) 65 1 = some ⟨b, 66 + k, none⟩ := ixA_n (by omega)
      have e2 : ldI .i64 w ⟨b, 66 + k, none⟩ = some (M.sl k : Int) := ldI_B hb (WM.gs (by omega))
      simp only [Option.isNone_some, Bool.not_false, if_true, h1, h2, decide_true, Option.bind_some, add_mk, Nat.zero_add, e1, e2, bind2_some, Int.toNat_natCast, true_and, Option.some.injEq, Prod.mk.injEq, and_true]
      by_cases hk : 0 < M.sl k
      · simp [hk]
      · simp [hk]
    · simp [h1, h2]
  · simp [h1]
theorem has_nil (x : Int) : wheel_Wheel_has none x w = some (false, w) := rfl
theorem wAt_ok (hb : B w b = some (M.cs, 95)) (x : Int) : wheel_Wheel_At (some ⟨b, 0, none⟩) x w = some (if 1 ≤ x ∧ x ≤ 64 ∧ 0 < M.sl x.toNat then (M.a x.toNat, true, w) else (0, false, w)) := by
  unfold wheel_Wheel_At
  rw [has_ok hb, bind2_some]
  by_cases h : 1 ≤ x ∧ x ≤ 64 ∧ 0 < M.sl x.toNat
  · obtain ⟨k, rfl⟩ : ∃ k : Nat, x = k := ⟨x.toNat, by omega⟩
    have e1 : ixA ⟨b, 1, none⟩ (k : Int) 65 1 = some ⟨b, 1 + k, none⟩ := ixA_n (by omega)
    have e2 : ldI .i64 w ⟨b, 1 + k, none⟩ = some (M.a k) := ldI_B hb (WM.ga (by omega))
    rw [decide_eq_true h, if_neg (by simp), if_pos h]
    simp only [Option.bind_some, add_mk, Nat.zero_add, e1, e2, Int.toNat_natCast]
  · rw [decide_eq_false h, if_pos (by simp), if_neg h]
theorem wNow_ok (hb : B w b = some (M.cs, 95)) : wheel_Wheel_Now (some ⟨b, 0, none⟩) w = some (M.now, w) := by
  have e2 : ldI .i64 w ⟨b, 0, none⟩ = some M.now := ldI_B hb WM.g0
  unfold wheel_Wheel_Now
  simp only [Option.isNone_some, Bool.false_eq_true, if_false, Option.bind_some, add_mk, Nat.zero_add, e2]
/-! ### take -/
theorem take_ok (H : WH F0 g0 w0 g w b M L) (wf : M.Wf) (hn : ∀ s, s < 43 → (M.S s).n < 2 ^ 40) (hi : 0 < M.sl i) :
    ∃ w' z, wheel_Wheel_take (some ⟨b, 0, none⟩) (i : Int) w = some w' ∧ WH F0 g0 w0 g w' b { M with sl := upN M.sl i 0, S := upN M.S (M.sl i) z, ids := upN M.ids (M.sl i) ((M.ids (M.sl i)).filter fun x => decide (x ≠ i)) } L ∧ z.n ≤ (M.S (M.sl i)).n ∧ Mo g w g w' := by
  obtain ⟨h1, h64, -, -⟩ := wf.there i hi
  have hsl := wf.sl i
  obtain ⟨pb, w2, e1, H2, m2⟩ := H.box (cs := [nv i]) (T := 3)
  have H4 := (H2.nw (nw_drew H2.lt)).sw
  have m4 := m2.t (nw_drew H2.lt).mo
  have a1 : ixA ⟨b, 66, none⟩ (i : Int) 65 1 = some ⟨b, 66 + i, none⟩ := ixA_n (by omega)
  have l1 : ldI .i64 w2.drew ⟨b, 66 + i, none⟩ = some (M.sl i : Int) := H4.ldI (WM.gs (by omega))
  have l0 : ldI .i64 w2.drew ⟨pb, 0, none⟩ = some (i : Int) := H4.sw.ldI rfl
  have H5 := H4.nw (nw_drew H4.lt)
  have m5 := m4.t (nw_drew H4.lt).mo
  have a2 : ixA ⟨b, 131, none⟩ (M.sl i : Int) 43 1 = some ⟨b, 131 + M.sl i, none⟩ := ixA_n (by omega)
  have l2 : ldL w2.drew.drew ⟨b, 131 + M.sl i, none⟩ = some (M.S (M.sl i)) := H5.ldL (WM.gS (by omega))
  have H6 : WH F0 g0 w0 g w2.drew.drew b M (bxR pb [nv i] 3 :: L) := H5.sw.perm List.perm_middle.symm
  have H7 := (H6.slot (s := M.sl i) (by omega)).perm (List.Perm.cons _ ((List.Perm.cons _ List.perm_middle).trans (List.Perm.swap _ _ _)))
  obtain ⟨z, w7, e7, H8, hz, m7⟩ := del_ok H7 (by have := hn (M.sl i) (by omega); omega)
  have H9 := H8.m2
  obtain ⟨w9, e9, H10, m9⟩ := H9.stV (o := 131 + M.sl i) (x := z.v) (by rw [WM.len]; omega) rfl
  rw [WM.sS (by omega)] at H10
  have H11 := H10.nw (nw_drew H10.lt)
  have m11 := (nw_drew H10.lt).mo
  have l3 : ldI .i64 w9.drew ⟨pb, 0, none⟩ = some (i : Int) := (H11.m2).ldI rfl
  obtain ⟨w12, e12, H12, m12⟩ := H11.stV (o := 66 + i) (x := nv 0) (by rw [WM.len]; omega) rfl
  rw [WM.ss (by omega)] at H12
  refine ⟨w12, z, ?_, ?_, hz, m5.t (m7.t (m9.t (m11.t m12)))⟩
  · have e1' : mk w 3 [Value.int .i64 (i : Int)] = some (⟨pb, 0, none⟩, w2) := e1
    have e12' : stV w9.drew ⟨b, 66 + i, none⟩ (.int .i64 0) = some w12 := e12
    unfold wheel_Wheel_take
    simp only [e1', bind2_some, D.dr, Option.bind_some, l0, add_mk, Nat.zero_add, a1, l1, a2, l2, e7, e9, l3, e12']
  · refine Hp.slot' (M := M) (s := M.sl i) (by omega) (fun k hk => by simp [slR, upN_ne hk]) ?_
    have H13 := H12.m2.tl.sw
    rw [show slR { M with sl := upN M.sl i 0, S := upN M.S (M.sl i) z, ids := upN M.ids (M.sl i) ((M.ids (M.sl i)).filter fun x => decide (x ≠ i)) } (M.sl i) = owR 3 1 z (((M.ids (M.sl i)).filter fun x => decide (x ≠ i)).map nv) by simp only [slR, upN_same]]
    exact H13
/-! ### lay -/
theorem lay_ok (H : WH F0 g0 w0 g w b M L) (wf : 0 ≤ M.now ∧ M.now ≤ 1099511627776) (ha : 0 ≤ M.a i ∧ M.a i ≤ 1099511627776) (hn : ∀ s, s < 43 → (M.S s).n < 2 ^ 40) (hi : i < 65) :
    ∃ w' z, wheel_Wheel_lay (some ⟨b, 0, none⟩) (i : Int) w = some w' ∧ WH F0 g0 w0 g w' b { M with sl := upN M.sl i (lev M.now (M.a i)), S := upN M.S (lev M.now (M.a i)) z, ids := upN M.ids (lev M.now (M.a i)) (M.ids (lev M.now (M.a i)) ++ [i]) } L ∧ z.n = (M.S (lev M.now (M.a i))).n + 1 ∧ Mo g w g w' := by
  obtain ⟨s, hs⟩ : ∃ s, s = lev M.now (M.a i) := ⟨_, rfl⟩
  rw [← hs]
  have hs42 : s ≤ 42 := by rw [hs]; unfold lev; split <;> omega
  have H1 := H.nw (nw_drew H.lt)
  have m1 := (nw_drew H.lt).mo
  have a1 : ixA ⟨b, 1, none⟩ (i : Int) 65 1 = some ⟨b, 1 + i, none⟩ := ixA_n (by omega)
  have l1 : ldI .i64 w.drew ⟨b, 1 + i, none⟩ = some (M.a i) := ldI_B H1.wB (WM.ga (by omega))
  have l0 : ldI .i64 w.drew ⟨b, 0, none⟩ = some M.now := ldI_B H1.wB WM.g0
  obtain ⟨w2, e2, H2, m2⟩ : ∃ w2, ((dr w).bind fun w5 => (some (⟨b, 0, none⟩ : Addr)).bind fun p7 => (ixA (p7.add 1) (i : Int) 65 1).bind fun p9 => (ldI .i64 w5 p9).bind fun v11 => (ldI .i64 w5 (p7.add 0)).bind fun v13 =>
      if (decide (v13 < v11)) = true then
      ((dr w5).bind fun w16 => (ixA (p7.add 1) (i : Int) 65 1).bind fun p18 => (ldI .i64 w16 p18).bind fun v20 => (ldI .i64 w16 (p7.add 0)).bind fun v22 =>
        bind2 (bits_Len (IntKind.wrap .u64 (bxor .i64 v20 v22)) w16) fun v24 w25 => some ((mnI (IntKind.wrap .i64 (1 + v24)) 42), w25))
      else some (1, w5)) = some ((s : Int), w2) ∧ WH F0 g0 w0 g w2 b M L ∧ Mo g w g w2 := by
    simp only [D.dr, Option.bind_some, add_mk, Nat.zero_add, a1, l1, l0]
    by_cases hlt : M.now < M.a i
    · have H3 := H1.nw (nw_drew H1.lt)
      have l1' : ldI .i64 w.drew.drew ⟨b, 1 + i, none⟩ = some (M.a i) := ldI_B H3.wB (WM.ga (by omega))
      have l0' : ldI .i64 w.drew.drew ⟨b, 0, none⟩ = some M.now := ldI_B H3.wB WM.g0
      obtain ⟨x0, x1⟩ := len_of ha.1 ha.2 wf.1 wf.2
      have hw : IntKind.wrap .u64 (bxor .i64 (M.a i) M.now) = bxor .i64 (M.a i) M.now := by
        simp [IntKind.wrap, IntKind.bits, IntKind.signed]; omega
      have hb : Lib.bitLen (bxor .i64 (M.a i) M.now).toNat ≤ 41 := Lib.bitLen_le _ 41 (by omega) (by omega)
      refine ⟨w.drew.drew, ?_, H3, m1.t (nw_drew H1.lt).mo⟩
      rw [if_pos (by simpa using hlt), l1', Option.bind_some, l0', Option.bind_some, hw]
      unfold bits_Len
      rw [if_pos ⟨x0, by omega⟩, bind2_some, wr64 (by omega) (by omega), hs]
      unfold lev mnI
      rw [if_pos hlt]
      split <;> simp <;> omega
    · refine ⟨w.drew, ?_, H1, m1⟩
      rw [if_neg (by simpa using hlt), hs]
      unfold lev
      rw [if_neg hlt]
      rfl
  have a2 : ixA ⟨b, 66, none⟩ (i : Int) 65 1 = some ⟨b, 66 + i, none⟩ := ixA_n (by omega)
  have H2' : Hp F0 g0 w0 g w2 (bxR b M.cs 95 :: (slsL M ++ L)) := H2
  obtain ⟨w3, e3, H3, m3⟩ := H2'.stV (o := 66 + i) (x := nv s) (by rw [WM.len]; omega) rfl
  rw [WM.ss hi] at H3
  have H4 : WH F0 g0 w0 g w3 b { M with sl := upN M.sl i s } L := Hp.wh (M := M) (fun k hk => rfl) H3
  have H5 := H4.nw (nw_drew H4.lt)
  have m5 := (nw_drew H4.lt).mo
  have a3 : ixA ⟨b, 131, none⟩ (s : Int) 43 1 = some ⟨b, 131 + s, none⟩ := ixA_n (by omega)
  have l3 : ldL w3.drew ⟨b, 131 + s, none⟩ = some (M.S s) := ldL_B H5.wB (WM.gS (by omega))
  obtain ⟨z6, w6, e6, n6, -, H6, m6⟩ := H5.bsl (T := 3) (sz := 1) (ps := [[nv i]]) (by simp) (by simp)
  have rd6 := H6.rd
  have l6 : ldL w6 ⟨b, 131 + s, none⟩ = some (M.S s) := ldL_B H6.tl.wB (WM.gS (by omega))
  have H7 := H6.tl.slot (s := s) (by omega)
  obtain ⟨z8, w8, e8, n8, H8, m8⟩ := Hp.apS stI (by exact H7) rd6 (by simp [nv, Value.oneCell']) (by have := hn s (by omega); rw [n6]; simp only [slR, List.length_cons, List.length_nil]; omega)
  have H9 := H8.sw
  obtain ⟨w10, e10, H10, m10⟩ := H9.stV (o := 131 + s) (x := z8.v) (by rw [WM.len]; omega) rfl
  rw [WM.sS (by omega)] at H10
  refine ⟨w10, z8, ?_, ?_, by rw [n8, n6]; rfl, m2.t (m3.t (m5.t (m6.t (m8.t m10))))⟩
  · have e3' : stV w2 ⟨b, 66 + i, none⟩ (.int .i64 (s : Int)) = some w3 := e3
    have e6' : bsl w3.drew 3 1 [[.int .i64 (i : Int)]] = some (z6, w6) := e6
    unfold wheel_Wheel_lay
    rw [e2, bind2_some]
    simp only [Option.bind_some, add_mk, Nat.zero_add, a2, e3', D.dr, a3, l3, e6', bind2_some, e8, e10]
    rw [chk_pos l6]
  · refine Hp.slot' (M := { M with sl := upN M.sl i s }) (s := s) (by omega) (fun k hk => by simp [slR, upN_ne hk]) ?_
    rw [show slR { M with sl := upN M.sl i s, S := upN M.S s z8, ids := upN M.ids s (M.ids s ++ [i]) } s = owR 3 1 z8 ((M.ids s ++ [i]).map nv) by simp only [slR, upN_same]]
    have H11 := H10.sw
    rw [List.map_append]
    exact H11
end
end Go.Proofs.Ytejkaciimmfgcaa.D
