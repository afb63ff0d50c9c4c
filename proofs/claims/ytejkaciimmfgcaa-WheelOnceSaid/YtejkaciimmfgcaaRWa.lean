/- Advance of the document's wheel. -/
import Derived.Test.YtejkaciimmfgcaaRWh
namespace Go.Proofs.Ytejkaciimmfgcaa.D
open Go
set_option linter.unusedVariables false
set_option linter.unusedSimpArgs false
/-- Those that are told are there no more. -/
def outT (T : Nat → Option Int) (out : List Nat) (i : Nat) : Option Int := if i ∈ out then none else T i
def isDue (T : Nat → Option Int) (to : Int) (i : Nat) : Prop := ∃ a, T i = some a ∧ a ≤ to
/-- The first one of those above k. -/
def Fst (T : Nat → Option Int) (to : Int) (k f : Nat) : Prop := (f = 0 ∧ ∀ i, k < i → ¬ isDue T to i) ∨ (k < f ∧ isDue T to f ∧ ∀ i, k < i → isDue T to i → i = f ∨ TLt T f i)
section
variable {F0 : Nat → Prop} {g g0 : Gh} {w w0 : World} {L : List Rs} {b i : Nat} {now to : Int} {T : Nat → Option Int} {M : RM}
theorem rFirst (wf : M.Wf) (H : Hp F0 g0 w0 g w (bxR b M.cs 107 :: L)) :
    ∃ (f : Nat) (w' : World), loopF (fun s : Int × Int × World => grapevineref12_Wheel_Advance_l2 (some ⟨b, 0, none⟩) to s.1 s.2.1 s.2.2) (0, 64, w) = some ((f : Int), w') ∧ Fst M.T to 0 f ∧ f ≤ 64 ∧ Hp F0 g0 w0 g w' (bxR b M.cs 107 :: L) ∧ Mo g w g w' := by
  have lp := Ex.loop (step := fun s : Int × Int × World => grapevineref12_Wheel_Advance_l2 (some ⟨b, 0, none⟩) to s.1 s.2.1 s.2.2)
    (Φ := fun o => match o with | (f, w') => ∃ k : Nat, f = k ∧ Fst M.T to 0 k ∧ k ≤ 64 ∧ Hp F0 g0 w0 g w' (bxR b M.cs 107 :: L) ∧ Mo g w g w')
    (fun m s => ∃ (f : Nat) (w' : World), s = ((f : Int), (m : Int), w') ∧ m ≤ 64 ∧ f ≤ 64 ∧ Fst M.T to m f ∧ Hp F0 g0 w0 g w' (bxR b M.cs 107 :: L) ∧ Mo g w g w')
    (fun m s ⟨f, w', e, hm, hf, hF, H, Mm⟩ => by
      subst e
      unfold grapevineref12_Wheel_Advance_l2
      by_cases hm0 : 1 ≤ m
      · refine Ex.t (by simp; omega) ?_
        have H2 := H.nw (nw_drew H.lt)
        have m2 := Mm.t (nw_drew H.lt).mo
        have hw : IntKind.i64.wrap ((m : Int) - 1) = ((m - 1 : Nat) : Int) := by rw [wr64 (by omega) (by omega)]; omega
        have x1 : ixA ⟨b, 1, none⟩ (m : Int) 65 1 = some ⟨b, 1 + m, none⟩ := ixA_n (by omega)
        have x2 : ixA ⟨b, 66, none⟩ (m : Int) 65 1 = some ⟨b, 66 + m, none⟩ := ixA_n (by omega)
        have x3 : ixA ⟨b, 66, none⟩ (f : Int) 65 1 = some ⟨b, 66 + f, none⟩ := ixA_n (by omega)
        have l1 : ldB w'.drew ⟨b, 1 + m, none⟩ = some (M.th m) := H2.ldB (RM.gt (by omega))
        have l2 : ldI .i64 w'.drew ⟨b, 66 + m, none⟩ = some (M.a m) := H2.ldI (RM.ga (by omega))
        have l3 : ldI .i64 w'.drew ⟨b, 66 + f, none⟩ = some (M.a f) := H2.ldI (RM.ga (by omega))
        obtain ⟨c, hc, hcv⟩ : ∃ c : Bool, (c = true ↔ isDue M.T to m ∧ (f = 0 ∨ M.a m ≤ M.a f)) ∧ ((dr w').bind fun w46 => (some (⟨b, 0, none⟩ : Addr)).bind fun p48 => (ixA (p48.add 1) (m : Int) 65 1).bind fun p50 => (ldB w46 p50).bind fun v52 =>
            if v52 = true then ((ixA (p48.add 66) (m : Int) 65 1).bind fun p55 => (ldI .i64 w46 p55).bind fun v57 => if (decide (v57 ≤ to)) = true then (if ((f : Int) == 0) = true then (some (true, w46)) else ((ixA (p48.add 66) (m : Int) 65 1).bind fun p61 => (ldI .i64 w46 p61).bind fun v63 => (ixA (p48.add 66) (f : Int) 65 1).bind fun p65 => (ldI .i64 w46 p65).bind fun v67 => some ((decide (v63 ≤ v67)), w46))) else (some (false, w46))) else (some (false, w46))) = some (c, w'.drew) := by
          by_cases ht : M.th m = true
          · have hT : M.T m = some (M.a m) := if_pos ht
            by_cases hle : M.a m ≤ to
            · have hd : isDue M.T to m := ⟨_, hT, hle⟩
              by_cases hf0 : f = 0
              · refine ⟨true, by simp [hd, hf0], ?_⟩
                simp only [D.dr, Option.bind_some, add_mk, Nat.zero_add, x1, l1, ht, if_true, x2, l2, decide_eq_true hle]
                rw [if_pos (by simp [hf0])]
              · refine ⟨decide (M.a m ≤ M.a f), by simp [hd, hf0], ?_⟩
                simp only [D.dr, Option.bind_some, add_mk, Nat.zero_add, x1, l1, ht, if_true, x2, l2, x3, l3, decide_eq_true hle]
                rw [if_neg (by simp; omega)]
            · refine ⟨false, ⟨(fun h => by cases h), fun ⟨⟨a, h1, h2⟩, _⟩ => by rw [hT] at h1; cases h1; omega⟩, ?_⟩
              simp only [D.dr, Option.bind_some, add_mk, Nat.zero_add, x1, l1, ht, if_true, x2, l2, decide_eq_false hle]
              rfl
          · refine ⟨false, ⟨(fun h => by cases h), fun ⟨⟨a, h1, h2⟩, _⟩ => by rw [show M.T m = none from if_neg ht] at h1; cases h1⟩, ?_⟩
            simp only [D.dr, Option.bind_some, add_mk, Nat.zero_add, x1, l1]
            rw [if_neg ht]
        have hFm : ∀ h : ¬ c = true, Fst M.T to (m - 1) f := fun h => by
          rcases hF with ⟨h1, h2⟩ | ⟨h1, h2, h3⟩
          · refine .inl ⟨h1, fun i hi => ?_⟩
            by_cases him : i = m
            · subst him; exact fun hd => h (hc.2 ⟨hd, .inl h1⟩)
            · exact h2 i (by omega)
          · refine .inr ⟨by omega, h2, fun i hi hd => ?_⟩
            by_cases him : i = m
            · subst him
              right
              have hd' := hd
              obtain ⟨a1, e1, -⟩ := h2
              obtain ⟨a2, e2, -⟩ := hd'
              obtain ⟨-, rfl⟩ := RM.T_some.1 e1
              obtain ⟨-, rfl⟩ := RM.T_some.1 e2
              refine ⟨_, _, e1, e2, .inl ?_⟩
              have : ¬ (M.a i ≤ M.a f) := fun hle => h (hc.2 ⟨hd, .inr hle⟩)
              omega
            · exact h3 i (by omega) hd
        have hFt : ∀ h : c = true, Fst M.T to (m - 1) m := fun h => by
          obtain ⟨hd, hor⟩ := hc.1 h
          refine .inr ⟨by omega, hd, fun i hi hdi => ?_⟩
          by_cases him : i = m
          · exact .inl him
          · right
            rcases hF with ⟨h1, h2⟩ | ⟨h1, h2, h3⟩
            · exact (h2 i (by omega) hdi).elim
            · have hle : M.a m ≤ M.a f := hor.elim (fun e => by omega) id
              obtain ⟨a1, e1, h5⟩ := h2
              obtain ⟨a2, e2, h6⟩ := hd
              obtain ⟨-, rfl⟩ := RM.T_some.1 e1
              obtain ⟨-, rfl⟩ := RM.T_some.1 e2
              rcases h3 i (by omega) hdi with rfl | ⟨a, c', e3, e4, h4⟩
              · exact ⟨_, _, e2, e1, by omega⟩
              · rw [e1] at e3; cases e3
                exact ⟨_, _, e2, e4, by omega⟩
        by_cases hct : c = true
        · refine Ex.b2 (a := (m : Int)) (b := w'.drew) ?_ (Ex.ret ⟨m - 1, by omega, m, w'.drew, by rw [hw], by omega, by omega, hFt hct, H2, m2⟩)
          rw [hcv, bind2_some, if_pos hct]
        · refine Ex.b2 (a := (f : Int)) (b := w'.drew) ?_ (Ex.ret ⟨m - 1, by omega, f, w'.drew, by rw [hw], by omega, hf, hFm hct, H2, m2⟩)
          rw [hcv, bind2_some, if_neg hct]
      · have : m = 0 := by omega
        subst this
        exact Ex.f (by simp) (Ex.ret ⟨f, rfl, hF, hf, H, Mm⟩)) 64 ((0 : Int), (64 : Int), w) ⟨0, w, rfl, Nat.le_refl _, by omega, .inl ⟨rfl, fun i hi ⟨a, h, _⟩ => by
        have := wf.th i (RM.T_some.1 h).1
        omega⟩, H, Mo.r⟩
  obtain ⟨⟨f, w'⟩, e, k, rfl, h1, h2, h3, h4⟩ := lp
  exact ⟨k, w', e, h1, h2, h3, h4⟩
theorem rAdv_ok (H : Hp F0 g0 w0 g w (refW b now T :: L)) (to : Int) :
    (to < now ∨ 1099511627776 < to) ∧ grapevineref12_Wheel_Advance (some ⟨b, 0, none⟩) to w = some (Sl.nil, 2, w) ∨
    ¬ (to < now ∨ 1099511627776 < to) ∧ ∃ l z w', grapevineref12_Wheel_Advance (some ⟨b, 0, none⟩) to w = some (z, 0, w') ∧ Told T to l ∧ Hp F0 g0 w0 g w' (owR 3 1 z (l.map nv) :: refW b to (aft T to) :: L) ∧ Mo g w g w' := by
  have e0 : ((some (⟨b, 0, none⟩ : Addr)).bind fun p6 => (ldI .i64 w (p6.add 0)).bind fun v8 => if (decide (to < v8)) = true then (some (true, w)) else (some ((decide (1099511627776 < to)), w))) = some (decide (to < now ∨ 1099511627776 < to), w) := by
    simp only [Option.bind_some, add_mk, Nat.zero_add, rNow H]
    by_cases h : to < now <;> simp [h]
  by_cases hc : to < now ∨ 1099511627776 < to
  · refine .inl ⟨hc, ?_⟩
    unfold grapevineref12_Wheel_Advance
    rw [if_neg (by simp), e0, bind2_some, if_pos (decide_eq_true hc)]
  · refine .inr ⟨hc, ?_⟩
    obtain ⟨M, wf, hn, ht, H1⟩ := H.runp
    subst hn; subst ht
    have hto : 0 ≤ to ∧ to ≤ 1099511627776 := by have := wf.now; omega
    obtain ⟨w1, e1, H2, m1⟩ := H1.stV (o := 0) (x := .int .i64 to) (by rw [RM.len]; omega) rfl
    rw [RM.s0] at H2
    have H3 := H2.rpack (now := to) (T := M.T) ⟨hto, wf.th⟩ rfl rfl
    obtain ⟨z0, w2, e2, n2, -, H4, m2⟩ := H3.bsl (T := 3) (sz := 1) (ps := []) (by simp) (by simp)
    have eo : outT M.T [] = M.T := by funext i; simp [outT]
    have lp := Ex.loop (step := fun s : Sl × World => grapevineref12_Wheel_Advance_l1 (some ⟨b, 0, none⟩) to s.1 s.2)
      (Φ := fun o => match o with | (z, e, w') => ∃ l, e = 0 ∧ Told M.T to l ∧ Hp F0 g0 w0 g w' (owR 3 1 z (l.map nv) :: refW b to (aft M.T to) :: L) ∧ Mo g w2 g w')
      (fun m s => ∃ (out : List Nat) (z : Sl) (w' : World), s = (z, w') ∧ m + out.length = 65 ∧ out.Nodup ∧ (∀ i ∈ out, isDue M.T to i) ∧ out.Pairwise (TLt M.T) ∧ (∀ x ∈ out, ∀ i, i ∉ out → isDue M.T to i → TLt M.T x i) ∧
        Hp F0 g0 w0 g w' (owR 3 1 z (out.map nv) :: refW b to (outT M.T out) :: L) ∧ Mo g w2 g w')
      (fun m s ⟨out, z, w', e, hm, hnd, hdu, hpw, hlt, H, Mm⟩ => by
        subst e
        have hrng : ∀ i, isDue M.T to i → 1 ≤ i ∧ i ≤ 64 := fun i ⟨a, h, _⟩ => by
          have := wf.th i (RM.T_some.1 h).1
          omega
        have hol : out.length ≤ 64 := by
          have h1 := nodup_len (n := 65) (l := 0 :: out) (List.nodup_cons.2 ⟨fun h => by have := hrng 0 (hdu 0 h); omega, hnd⟩) (fun x hx => by
            rcases List.mem_cons.1 hx with rfl | hx
            · omega
            · have := hrng x (hdu x hx); omega)
          simp at h1
          omega
        obtain ⟨M2, wf2, hn2, ht2, H5⟩ := H.sw.runp
        unfold grapevineref12_Wheel_Advance_l1
        obtain ⟨f, w3, e3, hF, hf, H6, m6⟩ := rFirst (to := to) wf2 H5
        refine Ex.b2 e3 ?_
        have due2 : ∀ i, isDue M2.T to i ↔ i ∉ out ∧ isDue M.T to i := fun i => by
          rw [ht2]
          unfold isDue outT
          by_cases hi : i ∈ out <;> simp [hi]
        by_cases hf0 : f = 0
        · subst hf0
          refine Ex.t (by simp) (Ex.ret ⟨out, rfl, ⟨hpw, fun i => ⟨hdu i, fun hd => ?_⟩⟩, ?_, Mm.t m6⟩)
          · rcases hF with ⟨-, h2⟩ | ⟨h1, -⟩
            · have h3 := h2 i (by have := hrng i hd; omega)
              rw [due2] at h3
              exact Classical.byContradiction fun h => h3 ⟨h, hd⟩
            · omega
          · have hall : outT M.T out = aft M.T to := by
              funext i
              unfold outT aft
              rcases hF with ⟨-, h2⟩ | ⟨h1, -⟩
              · by_cases hi : i ∈ out
                · obtain ⟨a, h3, h4⟩ := hdu i hi
                  rw [if_pos hi, h3]
                  simp [h4]
                · rw [if_neg hi]
                  cases hT : M.T i with
                  | none => rfl
                  | some a =>
                    by_cases ha : a ≤ to
                    · exact (h2 i (by have := hrng i ⟨a, hT, ha⟩; omega) ((due2 i).2 ⟨hi, a, hT, ha⟩)).elim
                    · simp [ha]
              · omega
            rw [← hall]
            exact (H6.rpack wf2 hn2 ht2).sw
        · rcases hF with ⟨h1, -⟩ | ⟨h1, h2, h3⟩
          · exact (hf0 h1).elim
          · obtain ⟨hfo, hfd⟩ := (due2 f).1 h2
            have hfr := hrng f hfd
            have x1 : ixA ⟨b, 1, none⟩ (f : Int) 65 1 = some ⟨b, 1 + f, none⟩ := ixA_n (by omega)
            obtain ⟨w4, e4, H7, m7⟩ := H6.stV (o := 1 + f) (x := .bool false) (by rw [RM.len]; omega) rfl
            rw [RM.st (by omega)] at H7
            have H8 := H7.rpack (now := to) (T := outT M.T (out ++ [f])) ⟨wf2.now, fun i hi => by
              by_cases h : i = f
              · subst h; simp at hi
              · simp only [upN_ne h] at hi
                exact wf2.th i hi⟩ hn2 (by
              funext i
              by_cases h : i = f
              · subst h; simp [RM.T, outT]
              · have : M2.T i = outT M.T out i := by rw [ht2]
                simp only [RM.T, outT] at this ⊢
                simp only [upN_ne h, List.mem_append, List.mem_singleton, h, or_false]
                exact this)
            obtain ⟨z5, w5, z6, w6, e5, e6, H9, m9⟩ := push_ok H8.sw (by omega) f
            have hTL : ∀ x ∈ out, ∀ i, i ∉ out → isDue M.T to i → TLt M.T x i := hlt
            refine Ex.f (by simp; omega) (Ex.s1 (Ex.b1 (by rw [add_mk]; exact x1) (Ex.b1 e4 (Ex.b2 e5 (Ex.b2 e6 (Ex.ret ⟨m - 1, by omega, out ++ [f], z6, w6, rfl, by simp; omega, ?_, ?_, ?_, ?_, H9, Mm.t (m6.t (m7.t m9))⟩))))))
            · exact List.nodup_append.2 ⟨hnd, by simp, fun a ha c hc e => by obtain rfl := List.mem_singleton.1 hc; subst e; exact hfo ha⟩
            · intro i hi
              rcases List.mem_append.1 hi with hi | hi
              · exact hdu i hi
              · obtain rfl := List.mem_singleton.1 hi; exact hfd
            · refine List.pairwise_append.2 ⟨hpw, by simp, fun a ha c hc => ?_⟩
              obtain rfl := List.mem_singleton.1 hc
              exact hlt a ha _ hfo hfd
            · intro x hx i hi hd
              have hi2 : i ∉ out := fun h => hi (List.mem_append_left _ h)
              rcases List.mem_append.1 hx with hx | hx
              · exact hlt x hx i hi2 hd
              · obtain rfl := List.mem_singleton.1 hx
                rcases h3 i (by have := hrng i hd; omega) ((due2 i).2 ⟨hi2, hd⟩) with rfl | ⟨a, c, e1, e2, h4⟩
                · exact (hi (by simp)).elim
                · rw [ht2] at e1 e2
                  refine ⟨a, c, ?_, ?_, h4⟩
                  · unfold outT at e1; rwa [if_neg hfo] at e1
                  · unfold outT at e2; rwa [if_neg hi2] at e2) 65 (z0, w2) ⟨[], z0, w2, rfl, rfl, by simp, by simp, by simp, by simp, by rw [eo]; simpa using H4, Mo.r⟩
    obtain ⟨⟨z, e, w'⟩, e5, l, rfl, h1, h2, h3⟩ := lp
    refine ⟨l, z, w', ?_, h1, h2, m1.t (m2.t h3)⟩
    unfold grapevineref12_Wheel_Advance
    rw [if_neg (by simp), e0, bind2_some, if_neg (by simpa using hc), Option.bind_some, add_mk, Nat.zero_add, e1, Option.bind_some, e2, bind2_some, e5, bind3_some]
end
end Go.Proofs.Ytejkaciimmfgcaa.D
