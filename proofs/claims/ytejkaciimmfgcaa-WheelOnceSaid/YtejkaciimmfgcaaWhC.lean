/- Next, Fork and New of a wheel. -/
import Derived.Test.YtejkaciimmfgcaaWhB
namespace Go.Proofs.Ytejkaciimmfgcaa.D
open Go
set_option linter.unusedVariables false
set_option linter.unusedSimpArgs false
section
variable {F0 : Nat → Prop} {g g0 : Gh} {w w0 : World} {L : List Rs} {b i : Nat} {now to : Int} {T : Nat → Option Int} {M : WM} {z : Sl} {l : List Int}
def iv (x : Int) : Value := .int .i64 x
theorem ivs_get {l : List Int} {i : Nat} {x : Int} (h : l[i]? = some x) : (l.map iv)[i]? = some (.int .i64 x) := by rw [List.getElem?_map, h]; rfl
theorem pushI_ok {z : Sl} {l : List Int} (H : Hp F0 g0 w0 g w (owR 3 1 z (l.map iv) :: L)) (hl : l.length ≤ 1000) (i : Int) :
    ∃ z1 w1 z2 w2, bsl w 3 1 [[.int .i64 i]] = some (z1, w1) ∧ apS Try.prog 34 z z1 w1 = some (z2, w2) ∧ Hp F0 g0 w0 g w2 (owR 3 1 z2 ((l ++ [i]).map iv) :: L) ∧ Mo g w g w2 := by
  have hz : z.n = l.length := by have := H.ow.len; simp at this; omega
  obtain ⟨z2, w2, e3, n3, -, H3, m3⟩ := H.bsl (T := 3) (sz := 1) (ps := [[iv i]]) (by simp) (by simp)
  obtain ⟨z4, w4, e4, n4, H4, m4⟩ := Hp.apS stI H3.sw H3.rd (by simp [iv, Value.oneCell']) (by rw [n3]; simp only [List.length_cons, List.length_nil]; omega)
  refine ⟨z2, w2, z4, w4, e3, e4, ?_, m3.t m4⟩
  rw [List.map_append]
  exact H4.sw.tl
/-- slices.Min. -/
theorem min_ok (ho : Own w 3 z 1 (l.map iv)) (hl : l ≠ []) (hz : z.n < 2 ^ 62) : ∃ m, slices_Min_int_int z w = some (m, w) ∧ m ∈ l ∧ ∀ x ∈ l, m ≤ x := by
  have hn : z.n = l.length := by have := ho.len; simp at this; omega
  have hpos : 0 < l.length := List.length_pos_iff.2 hl
  obtain ⟨x0, hx0⟩ : ∃ x, l[0]? = some x := ⟨_, List.getElem?_eq_getElem hpos⟩
  obtain ⟨a, a1, a2⟩ := ho.ixI (ivs_get hx0)
  have lp := Ex.loop (step := fun s : Int × Int × World => slices_Min_int_int_l1 z s.1 s.2.1 s.2.2)
    (Φ := fun o => match o with | (m, w') => w' = w ∧ m ∈ l ∧ ∀ x ∈ l, m ≤ x)
    (fun k s => ∃ (m : Int) (j : Nat), s = (m, (j : Int), w) ∧ k + j = l.length ∧ m ∈ l ∧ ∀ x ∈ l.take j, m ≤ x) (fun k s ⟨m, j, e, hk, hm, hle⟩ => by
      subst e
      unfold slices_Min_int_int_l1
      by_cases hj : j < l.length
      · obtain ⟨x, hx⟩ : ∃ x, l[j]? = some x := ⟨_, List.getElem?_eq_getElem hj⟩
        obtain ⟨a, a1, a2⟩ := ho.ixI (ivs_get hx)
        have hw : IntKind.i64.wrap ((j : Int) + 1) = ((j + 1 : Nat) : Int) := by rw [wr64 (by omega) (by omega)]; rfl
        refine Ex.t (by simp; omega) (Ex.b1 a1 (Ex.b1 a2 (Ex.ret ⟨k - 1, by omega, mnI m x, j + 1, by rw [hw], by omega, ?_, fun y hy => ?_⟩)))
        · unfold mnI
          split
          · exact List.mem_of_getElem? hx
          · exact hm
        · rw [List.take_add_one, hx, List.mem_append] at hy
          have h1 : mnI m x ≤ m ∧ mnI m x ≤ x := by unfold mnI; split <;> omega
          rcases hy with hy | hy
          · exact Int.le_trans h1.1 (hle y hy)
          · have : y = x := by simpa using hy
            subst this
            exact h1.2
      · refine Ex.f (by simp; omega) (Ex.ret ⟨rfl, hm, ?_⟩)
        rwa [List.take_of_length_le (by omega)] at hle) (l.length - 1) (x0, (1 : Int), w) ⟨x0, 1, rfl, by omega, List.mem_of_getElem? hx0, fun y hy => by
          rw [show 1 = 0 + 1 from rfl, List.take_add_one, hx0] at hy
          have : y = x0 := by simpa using hy
          omega⟩
  obtain ⟨⟨m, w'⟩, e, rfl, h1, h2⟩ := lp
  refine ⟨m, ?_, h1, h2⟩
  unfold slices_Min_int_int
  rw [if_neg (by simp; omega), Option.bind_some, show (0 : Int) = ((0 : Nat) : Int) from rfl, a1, Option.bind_some, a2, Option.bind_some]
  erw [e]
  rfl
/-- Ticks of the timers of a slot. -/
theorem next_slot {s : Nat} (hs : s < 43) (H : Hp F0 g0 w0 g w (owR 3 1 z [] :: (whL b M ++ L))) (wf : M.Wf) :
    ∃ z' w', loopF (fun t : Sl × Int × World => wheel_Wheel_Next_l2 (M.S s) (some ⟨b, 0, none⟩) t.1 t.2.1 t.2.2) (z, 0, w) = some (z', w') ∧ Hp F0 g0 w0 g w' (owR 3 1 z' (((M.ids s).map M.a).map iv) :: (whL b M ++ L)) ∧ Mo g w g w' := by
  have lp := Ex.loop (step := fun t : Sl × Int × World => wheel_Wheel_Next_l2 (M.S s) (some ⟨b, 0, none⟩) t.1 t.2.1 t.2.2)
    (Φ := fun o => match o with | (z', w') => Hp F0 g0 w0 g w' (owR 3 1 z' (((M.ids s).map M.a).map iv) :: (whL b M ++ L)) ∧ Mo g w g w')
    (fun k t => ∃ (z : Sl) (j : Nat) (w' : World), t = (z, (j : Int), w') ∧ k + j = (M.ids s).length ∧ Hp F0 g0 w0 g w' (owR 3 1 z ((((M.ids s).take j).map M.a).map iv) :: (whL b M ++ L)) ∧ Mo g w g w') (fun k t ⟨z, j, w', e, hk, H, Mm⟩ => by
      subst e
      have hlen := wf.len s
      have ho := (H.tl.slot hs).ow
      have hn : (M.S s).n = (M.ids s).length := by have := ho.len; simp at this; omega
      unfold wheel_Wheel_Next_l2
      by_cases hj : j < (M.ids s).length
      · obtain ⟨i, hi⟩ : ∃ i, (M.ids s)[j]? = some i := ⟨_, List.getElem?_eq_getElem hj⟩
        have hmem := wf.ids s i (List.mem_of_getElem? hi)
        have hth := wf.there i (by omega)
        obtain ⟨a, a1, a2⟩ := ho.ixI (nvs_get hi)
        have hw : IntKind.i64.wrap ((j : Int) + 1) = ((j + 1 : Nat) : Int) := by rw [wr64 (by omega) (by omega)]; rfl
        have x1 : ixA ⟨b, 1, none⟩ (i : Int) 65 1 = some ⟨b, 1 + i, none⟩ := ixA_n (by omega)
        have la : ldI .i64 w' ⟨b, 1 + i, none⟩ = some (M.a i) := ldI_B H.tl.wB (WM.ga (by omega))
        obtain ⟨z1, w1, z2, w2, e1, e2, H2, m2⟩ := pushI_ok H (by simp; omega) (M.a i)
        refine Ex.t (by simp; omega) (Ex.b1 a1 (Ex.b1 a2 (Ex.s1 (Ex.b1 (by rw [add_mk]; exact x1) (Ex.b1 la (Ex.b2 e1 (Ex.b2 e2 (Ex.ret ⟨k - 1, by omega, z2, j + 1, w2, by rw [hw], by omega, ?_, Mm.t m2⟩))))))))
        rw [List.take_add_one, hi]
        simpa using H2
      · refine Ex.f (by simp; omega) (Ex.ret ⟨?_, Mm⟩)
        rwa [List.take_of_length_le (by omega)] at H) (M.ids s).length (z, (0 : Int), w) ⟨z, 0, w, rfl, by omega, by simpa using H, Mo.r⟩
  obtain ⟨⟨z', w'⟩, e, h1, h2⟩ := lp
  exact ⟨z', w', e, h1, h2⟩
theorem wNext_ok (H : Hp F0 g0 w0 g w (wheelR b now T :: L)) : ∃ n f w', wheel_Wheel_Next (some ⟨b, 0, none⟩) w = some (n, f, w') ∧ Nxt T n f ∧ Hp F0 g0 w0 g w' (wheelR b now T :: L) ∧ Mo g w g w' := by
  obtain ⟨M, ⟨wf, rfl, rfl⟩, H0⟩ := H.unpack
  have hc : ldA 43 w ⟨b, 131, none⟩ 0 = some (rg 43 fun s => (M.S s).v) := by
    have := ldA_B (n := 43) (o := 131) H0.wB (by rw [WM.len]; omega)
    rw [this]
    congr 1
  have lp := Ex.loop (step := fun s : Int × World => wheel_Wheel_Next_l1 (rg 43 fun s => (M.S s).v) (some ⟨b, 0, none⟩) s.1 s.2)
    (Φ := fun o => match o with | .inl w' => w' = w ∧ Nxt M.T 0 false | .inr (n, f, w') => f = true ∧ Nxt M.T n true ∧ WH F0 g0 w0 g w' b M L ∧ Mo g w g w')
    (fun m t => ∃ s : Nat, t = ((s : Int), w) ∧ m + s = 43 ∧ ∀ k, k < s → M.ids k = []) (fun m t ⟨s, e, hm, hk⟩ => by
      subst e
      unfold wheel_Wheel_Next_l1
      by_cases hs : s < 43
      · have hv : (ixV (rg 43 fun s => (M.S s).v) (s : Int) 43).bind vL = some (M.S s) := by
          unfold ixV
          rw [if_pos ⟨by omega, by omega⟩, Int.toNat_natCast, rg_get hs]
          rfl
        have hn : (M.S s).n = (M.ids s).length := by have := (H0.slot hs).ow.len; simp at this; omega
        refine Ex.t (by simp; omega) (Ex.b1 hv ?_)
        by_cases h0 : 0 < (M.ids s).length
        · have hl := wf.len s
          obtain ⟨z, w1, e1, -, H1, m1⟩ := Hp.mk0 stI H0 (m := (M.S s).n) (by omega)
          obtain ⟨z2, w2, e2, H2, m2⟩ := next_slot hs H1 wf
          have hne : (M.ids s).map M.a ≠ [] := fun e => by
            have := congrArg List.length e
            simp at this
            rw [this] at h0
            simp at h0
          obtain ⟨n, e3, hn1, hn2⟩ := min_ok H2.ow hne (by have := H2.ow.len; simp at this; omega)
          refine Ex.t (by simp; omega) (Ex.b2 e1 (Ex.b2 e2 (Ex.b2 e3 (Ex.ret ⟨rfl, .inr ⟨rfl, ?_, fun i a hi => ?_⟩, H2.tl, m1.t m2⟩))))
          · obtain ⟨i, hi, rfl⟩ := List.mem_map.1 hn1
            have := wf.ids s i hi
            exact ⟨i, T_some.2 ⟨by omega, rfl⟩⟩
          · obtain ⟨h1, rfl⟩ := T_some.1 hi
            obtain ⟨h2, h3, h4, h5⟩ := wf.there i h1
            by_cases he : M.sl i = s
            · rw [he] at h4
              exact hn2 _ (List.mem_map_of_mem h4)
            · obtain ⟨j, hj, rfl⟩ := List.mem_map.1 hn1
              have hjs := wf.ids s j hj
              have hjt := wf.there j (by omega)
              have hlt : s < M.sl i := by
                rcases Nat.lt_or_ge (M.sl i) s with h | h
                · rw [hk _ h] at h4; cases h4
                · omega
              exact Int.le_of_lt (lev_lt wf.now (wf.a j) (wf.a i) (by rw [← h5, ← hjt.2.2.2, hjs.1]; exact hlt))
        · have hw : IntKind.i64.wrap ((s : Int) + 1) = ((s + 1 : Nat) : Int) := by rw [wr64 (by omega) (by omega)]; rfl
          refine Ex.f (by simp; omega) (Ex.ret ⟨m - 1, by omega, s + 1, by rw [hw], by omega, fun k hks => ?_⟩)
          by_cases h : k = s
          · subst h; exact List.length_eq_zero_iff.1 (by omega)
          · exact hk k (by omega)
      · refine Ex.f (by simp; omega) (Ex.ret ⟨rfl, .inl ⟨rfl, rfl, fun i => ?_⟩⟩)
        refine if_neg fun h1 => ?_
        obtain ⟨h2, h3, h4, h5⟩ := wf.there i h1
        have := wf.sl i
        rw [hk _ (by omega)] at h4
        cases h4) 43 ((0 : Int), w) ⟨0, rfl, rfl, fun k hk => by omega⟩
  obtain ⟨o, e, h⟩ := lp
  unfold wheel_Wheel_Next
  rw [if_neg (by simp), Option.bind_some, add_mk, Nat.zero_add, hc, Option.bind_some, e]
  cases o with
  | inl w' => obtain ⟨rfl, h⟩ := h; exact ⟨0, false, w', rfl, h, H, Mo.r⟩
  | inr r =>
    obtain ⟨n, f, w'⟩ := r
    obtain ⟨rfl, h1, h2, h3⟩ := h
    exact ⟨n, true, w', rfl, h1, h2.wpack wf rfl rfl, h3⟩
/-! ### New -/
def WM0 (now : Int) : WM := { now := now, a := fun _ => 0, sl := fun _ => 0, S := fun _ => Sl.nil, ids := fun _ => [] }
theorem WM0_cs {now : Int} : [.int .i64 now] ++ List.replicate 130 (.int .i64 0) ++ List.replicate 43 (.slice none 0 0) = (WM0 now).cs := by
  have e1 := rg_rep (n := 65) (v := Value.int .i64 0)
  have e2 := rg_rep (n := 43) (v := Value.slice none 0 0)
  rw [show 130 = 65 + 65 from rfl, ← List.replicate_append_replicate, e1, e2, List.append_assoc, List.append_assoc]
  rfl
theorem onils {n : Nat} (H : Hp F0 g0 w0 g w L) {T : TypeId} : Hp F0 g0 w0 g w ((List.range n).map (fun _ => owR T 1 Sl.nil []) ++ L) := by
  induction n with
  | zero => exact H
  | succ n ih =>
    rw [List.range_succ, List.map_append, List.append_assoc]
    exact (ih.onil (T := T) (sz := 1)).cons_app
theorem wNew_ok (H : Hp F0 g0 w0 g w L) (x : Int) : (x < 0 ∨ 1099511627776 < x) ∧ wheel_New x w = some (none, 2, w) ∨ ¬ (x < 0 ∨ 1099511627776 < x) ∧ ∃ b w', wheel_New x w = some (some ⟨b, 0, none⟩, 0, w') ∧ Hp F0 g0 w0 g w' (wheelR b x (fun _ => none) :: L) ∧ Mo g w g w' := by
  have e0 : (if (decide (x < 0)) = true then some (true, w) else some ((decide (1099511627776 < x)), w)) = some (decide (x < 0 ∨ 1099511627776 < x), w) := by
    by_cases h : x < 0 <;> simp [h]
  by_cases hc : x < 0 ∨ 1099511627776 < x
  · refine .inl ⟨hc, ?_⟩
    unfold wheel_New
    rw [e0, bind2_some, if_pos (decide_eq_true hc)]
  · refine .inr ⟨hc, ?_⟩
    obtain ⟨b, w', e1, H1, m1⟩ := H.box (cs := (WM0 x).cs) (T := 95)
    have H2 := onils (n := 43) (T := 3) H1
    refine ⟨b, w', ?_, Hp.wpack (M := WM0 x) ?_ ⟨by simp only [WM0]; omega, fun i => by simp [WM0], fun i => by simp [WM0], fun i h => by simp [WM0] at h, fun s i h => by simp [WM0] at h, fun s => by simp [WM0]⟩ rfl (by funext i; simp [WM.T, WM0]), m1⟩
    · unfold wheel_New
      rw [e0, bind2_some, if_neg (by simpa using hc), WM0_cs, e1]
      rfl
    · exact H2.app_cons
/-! ### Fork -/
theorem clone_o {cs : List Value} {y : Sl} (H : Hp F0 g0 w0 g w (owR 3 1 y cs :: L)) (h1 : ∀ v ∈ cs, v.oneCell' = true) (hn : y.n ≤ 1000) :
    ∃ z' w', slices_Clone_int_int y w = some (z', w') ∧ Hp F0 g0 w0 g w' (owR 3 1 z' cs :: owR 3 1 y cs :: L) ∧ Mo g w g w' := by
  unfold slices_Clone_int_int
  cases hp : y.p with
  | none =>
    rw [if_pos (by simp)]
    have h0 : y.n = 0 := by
      rcases H.ow.h with ⟨_, h, _⟩ | ⟨_, _, h, _⟩
      · exact h
      · rw [hp] at h; cases h
    have : cs = [] := List.eq_nil_of_length_eq_zero (by rw [H.ow.len, h0])
    subst this
    exact ⟨Sl.nil, w, rfl, H.onil, Mo.r⟩
  | some a =>
    rw [if_neg (by simp)]
    obtain ⟨z2, w2, e2, n2, -, H2, m2⟩ := H.bsl (T := 3) (sz := 1) (ps := []) (by simp) (by simp)
    obtain ⟨z3, w3, e3, n3, H3, m3⟩ := Hp.apS stI H2 H2.tl.rd h1 (by rw [n2]; simp only [List.length_nil]; omega)
    refine ⟨z3, w3, ?_, by simpa using H3, m2.t m3⟩
    rw [e2, bind2_some, e3, bind2_some]
theorem wFork_ok (H : Hp F0 g0 w0 g w (wheelR b now T :: L)) : ∃ b' w', wheel_Wheel_Fork (some ⟨b, 0, none⟩) w = some (some ⟨b', 0, none⟩, w') ∧ Hp F0 g0 w0 g w' (wheelR b' now T :: wheelR b now T :: L) ∧ Mo g w g w' := by
  obtain ⟨M, ⟨wf, rfl, rfl⟩, H0⟩ := H.unpack
  have hc : ldA 174 w ⟨b, 0, none⟩ 0 = some M.cs := by
    have := ldA_B (n := 174) (o := 0) H0.wB (by rw [WM.len]; omega)
    rw [this, List.drop_zero, List.take_of_length_le (by rw [WM.len]; omega)]
  obtain ⟨b', w1, e1, H1, m1⟩ := H0.box (cs := List.replicate 131 (.int .i64 0) ++ List.replicate 43 (.slice none 0 0)) (T := 95)
  obtain ⟨w2, e2, H2, m2⟩ := H1.stA (o := 0) (vs := M.cs) (by rw [WM.len, List.length_append, List.length_replicate, List.length_replicate]; omega) (fun v hv => by
    simp only [WM.cs, List.mem_cons, List.mem_append, rg, List.mem_map] at hv
    rcases hv with rfl | ⟨_, _, rfl⟩ | ⟨_, _, rfl⟩ | ⟨_, _, rfl⟩ <;> rfl)
  have hp : putL (List.replicate 131 (.int .i64 0) ++ List.replicate 43 (.slice none 0 0)) 0 M.cs = M.cs := by
    unfold putL
    rw [List.take_zero, List.nil_append, List.drop_of_length_le (by rw [WM.len, List.length_append, List.length_replicate, List.length_replicate]; omega), List.append_nil]
  rw [hp] at H2
  have lp := Ex.loop (step := fun t : Int × World => wheel_Wheel_Fork_l1 (some ⟨b, 0, none⟩) ⟨b', 0, none⟩ t.1 t.2)
    (Φ := fun w' => ∃ Z : Nat → Sl, Hp F0 g0 w0 g w' (bxR b' ({ M with S := fun k => if k < 43 then Z k else M.S k } : WM).cs 95 :: ((List.range 43).map (fun k => owR 3 1 (Z k) ((M.ids k).map nv)) ++ (whL b M ++ L))) ∧ Mo g w2 g w')
    (fun m t => ∃ (s : Nat) (Z : Nat → Sl) (w' : World), t = ((s : Int), w') ∧ m + s = 43 ∧ Hp F0 g0 w0 g w' (bxR b' ({ M with S := fun k => if k < s then Z k else M.S k } : WM).cs 95 :: ((List.range s).map (fun k => owR 3 1 (Z k) ((M.ids k).map nv)) ++ (whL b M ++ L))) ∧ Mo g w2 g w')
    (fun m t ⟨s, Z, w', e, hm, H, Mm⟩ => by
      subst e
      unfold wheel_Wheel_Fork_l1
      by_cases hs : s < 43
      · have hw : IntKind.i64.wrap ((s : Int) + 1) = ((s + 1 : Nat) : Int) := by rw [wr64 (by omega) (by omega)]; rfl
        have x1 : ixA ⟨b, 131, none⟩ (s : Int) 43 1 = some ⟨b, 131 + s, none⟩ := ixA_n (by omega)
        have x2 : ixA ⟨b', 131, none⟩ (s : Int) 43 1 = some ⟨b', 131 + s, none⟩ := ixA_n (by omega)
        have p1 := List.perm_append_comm (l₁ := bxR b' ({ M with S := fun k => if k < s then Z k else M.S k } : WM).cs 95 :: (List.range s).map (fun k => owR 3 1 (Z k) ((M.ids k).map nv))) (l₂ := whL b M)
        have H3 : WH F0 g0 w0 g w' b M (bxR b' ({ M with S := fun k => if k < s then Z k else M.S k } : WM).cs 95 :: ((List.range s).map (fun k => owR 3 1 (Z k) ((M.ids k).map nv)) ++ L)) := H.perm (by simpa using p1.append_right L)
        have lS : ldL w' ⟨b, 131 + s, none⟩ = some (M.S s) := ldL_B H3.wB (WM.gS hs)
        have hl := wf.len s
        have H4 := H3.slot hs
        have hn : (M.S s).n = (M.ids s).length := by have := H4.ow.len; simp at this; omega
        obtain ⟨z, w4, e4, H5, m4⟩ := clone_o H4 (by simp [nv, Value.oneCell']) (by omega)
        have H6 := Hp.slot' (M := M) (M' := M) (b := b) (s := s) (L := owR 3 1 z ((M.ids s).map nv) :: (bxR b' ({ M with S := fun k => if k < s then Z k else M.S k } : WM).cs 95 :: ((List.range s).map (fun k => owR 3 1 (Z k) ((M.ids k).map nv)) ++ L))) hs (fun _ _ => rfl) (H5.perm ((List.Perm.swap _ _ _).trans (List.Perm.cons _ ((List.Perm.swap _ _ _).trans (List.Perm.cons _ List.perm_middle.symm)))))
        have H7 := (H6.app_cons.perm (List.Perm.cons _ List.perm_middle)).sw
        obtain ⟨w8, e8, H8, m8⟩ := H7.stV (o := 131 + s) (x := z.v) (by rw [WM.len]; omega) rfl
        rw [WM.sS hs] at H8
        refine Ex.t (by simp; omega) (Ex.s1 (Ex.b1 (by rw [add_mk]; exact x1) (Ex.b1 lS (Ex.b2 e4 (Ex.b1 (by rw [add_mk]; exact x2) (Ex.b1 e8 (Ex.ret ⟨m - 1, by omega, s + 1, upN Z s z, w8, by rw [hw], by omega, ?_, Mm.t (m4.t m8)⟩)))))))
        have eM : ({ ({ M with S := fun k => if k < s then Z k else M.S k } : WM) with S := upN ({ M with S := fun k => if k < s then Z k else M.S k } : WM).S s z } : WM).cs = ({ M with S := fun k => if k < s + 1 then upN Z s z k else M.S k } : WM).cs := by
          simp only [WM.cs]
          congr 3
          refine rg_congr fun k hk => ?_
          by_cases hks : k = s
          · subst hks; simp
          · rw [upN_ne hks, upN_ne hks]
            by_cases h2 : k < s
            · simp [h2, show k < s + 1 by omega]
            · simp [h2, show ¬ k < s + 1 by omega]
        rw [eM] at H8
        have eR : (List.range (s + 1)).map (fun k => owR 3 1 (upN Z s z k) ((M.ids k).map nv)) = (List.range s).map (fun k => owR 3 1 (Z k) ((M.ids k).map nv)) ++ [owR 3 1 z ((M.ids s).map nv)] := by
          rw [List.range_succ, List.map_append, List.map_singleton, upN_same]
          congr 1
          exact List.map_congr_left fun k hk => by rw [upN_ne (Nat.ne_of_lt (List.mem_range.1 hk))]
        rw [eR]
        refine H8.perm (List.Perm.cons _ ?_)
        have p2 := List.perm_append_comm (l₁ := owR 3 1 z ((M.ids s).map nv) :: whL b M) (l₂ := (List.range s).map (fun k => owR 3 1 (Z k) ((M.ids k).map nv)))
        simpa using p2.append_right L
      · have : s = 43 := by omega
        subst this
        exact Ex.f (by simp) (Ex.ret ⟨Z, H, Mm⟩)) 43 ((0 : Int), w2) ⟨0, fun _ => Sl.nil, w2, rfl, rfl, by simpa using H2, Mo.r⟩
  obtain ⟨w5, e5, Z, H5, m5⟩ := lp
  have H6 : WH F0 g0 w0 g w5 b' { M with S := fun k => if k < 43 then Z k else M.S k } (whL b M ++ L) := by
    have e : (List.range 43).map (fun k => owR 3 1 (Z k) ((M.ids k).map nv)) = slsL { M with S := fun k => if k < 43 then Z k else M.S k } := List.map_congr_left fun k hk => by
      have := List.mem_range.1 hk
      simp [slR, this]
    rw [e] at H5
    exact H5
  have H7 : Hp F0 g0 w0 g w5 (wheelR b' M.now M.T :: (whL b M ++ L)) := H6.wpack ⟨wf.now, wf.a, wf.sl, wf.there, wf.ids, wf.nd⟩ rfl rfl
  have H8 := (Hp.wpack (M := M) (now := M.now) (T := M.T) (H7.cons_app) wf rfl rfl).sw
  refine ⟨b', w5, ?_, H8, m1.t (m2.t m5)⟩
  unfold wheel_Wheel_Fork
  rw [if_neg (by simp), Option.bind_some, hc, Option.bind_some, e1, bind2_some, e2, Option.bind_some, e5]
  rfl
end
end Go.Proofs.Ytejkaciimmfgcaa.D
