/- slices.DeleteFunc of one number. -/
import Derived.Test.YtejkaciimmfgcaaHpx
import Derived.Test.YtejkaciimmfgcaaFnW
namespace Go.Proofs.Ytejkaciimmfgcaa.D
open Go
set_option linter.unusedVariables false
set_option linter.unusedSimpArgs false
def nv (k : Nat) : Value := .int .i64 (k : Int)
theorem stI : ST Try.prog 34 3 1 8 [.int .i64 0] := ⟨Try.underlying34, ⟨Try.t3, .int .i64 0, by kernel_rfl, by kernel_rfl, rfl, rfl, rfl⟩, rfl, by decide, by decide⟩
section
variable {F0 : Nat → Prop} {g g0 : Gh} {w w0 : World} {L : List Rs} {z : Sl} {l : List Nat} {k pb : Nat} {T : TypeId}
theorem nvs_get {l : List Nat} {i x : Nat} (h : l[i]? = some x) : (l.map nv)[i]? = some (.int .i64 (x : Int)) := by rw [List.getElem?_map, h]; rfl
theorem take1_ok {x : Nat} (hB : B w pb = some ([nv k], T)) : wheel_Wheel_take_1 (x : Int) ⟨pb, 0, none⟩ w = some (decide (x = k), w) := by
  unfold wheel_Wheel_take_1
  rw [ldI_B hB (k := .i64) (x := (k : Int)) rfl]
  simp only [Option.bind_some, Option.some.injEq, Prod.mk.injEq, and_true]
  by_cases h : x = k
  · subst h; simp
  · rw [decide_eq_false h]; simp; omega
/-- The place of k's first one. -/
theorem idx_ok (ho : Own w T z 1 (l.map nv)) {T' : TypeId} (hB : B w pb = some ([nv k], T')) (hmax : z.n < 2 ^ 62) :
    ∃ r : Int, slices_IndexFunc_int_int_102 z ⟨pb, 0, none⟩ w = some (r, w) ∧ ((r = -1 ∧ k ∉ l) ∨ ∃ i : Nat, r = i ∧ i < l.length ∧ l[i]? = some k ∧ k ∉ l.take i) := by
  have hl : l.length = z.n := by have := ho.len; simpa using this
  have lp := Ex.loop (step := fun s : Int × World => slices_IndexFunc_int_int_102_l1 z ⟨pb, 0, none⟩ s.1 s.2)
    (Φ := fun o => match o with | .inl w' => w' = w ∧ k ∉ l | .inr (v, w') => w' = w ∧ ∃ i : Nat, v = i ∧ i < l.length ∧ l[i]? = some k ∧ k ∉ l.take i)
    (fun m s => ∃ i : Nat, s = ((i : Int), w) ∧ m + i = l.length ∧ k ∉ l.take i) (fun m s ⟨i, e, hm, hn⟩ => by
      subst e
      unfold slices_IndexFunc_int_int_102_l1
      by_cases hi : i < l.length
      · obtain ⟨x, hx⟩ : ∃ x, l[i]? = some x := ⟨_, List.getElem?_eq_getElem hi⟩
        obtain ⟨a, h1, h2⟩ := ho.ixI (nvs_get hx)
        refine Ex.t (by simp; omega) (Ex.b1 h1 (Ex.b1 h2 (Ex.b2 (take1_ok hB) ?_)))
        by_cases hk : x = k
        · subst hk
          exact Ex.t (by simp) (Ex.ret ⟨rfl, i, rfl, hi, hx, hn⟩)
        · refine Ex.f (by simpa using hk) (Ex.ret ⟨m - 1, by omega, i + 1, ?_, by omega, ?_⟩)
          · rw [wr64 (by omega) (by omega)]; rfl
          · rw [List.take_add_one, hx]
            simp only [Option.toList_some, List.mem_append, List.mem_singleton, not_or]
            exact ⟨hn, fun e => hk e.symm⟩
      · refine Ex.f (by simp; omega) (Ex.ret ⟨rfl, ?_⟩)
        rwa [List.take_of_length_le (by omega)] at hn) l.length ((0 : Int), w) ⟨0, rfl, by omega, by simp⟩
  obtain ⟨o, e, h⟩ := lp
  unfold slices_IndexFunc_int_int_102
  rw [e]
  cases o with
  | inl w' => obtain ⟨rfl, h⟩ := h; exact ⟨-1, rfl, .inl ⟨rfl, h⟩⟩
  | inr i => obtain ⟨v, w'⟩ := i; obtain ⟨rfl, h⟩ := h; exact ⟨v, rfl, .inr h⟩
theorem del_ok (H : Hp F0 g0 w0 g w (owR 3 1 z (l.map nv) :: bxR pb [nv k] T :: L)) (hmax : z.n < 2 ^ 62) :
    ∃ z' w', slices_DeleteFunc_int_int_102 z ⟨pb, 0, none⟩ w = some (z', w') ∧ Hp F0 g0 w0 g w' (owR 3 1 z' ((l.filter fun x => decide (x ≠ k)).map nv) :: bxR pb [nv k] T :: L) ∧ z'.n ≤ z.n ∧ Mo g w g w' := by
  have ho := H.ow
  have hl : l.length = z.n := by have := ho.len; simpa using this
  have hB := H.tl.bx
  obtain ⟨r, e, h⟩ := idx_ok ho hB hmax
  unfold slices_DeleteFunc_int_int_102
  rw [e, bind2_some]
  rcases h with ⟨rfl, hn⟩ | ⟨i, rfl, hi, hx, hn⟩
  · rw [if_pos (by decide)]
    refine ⟨z, w, rfl, ?_, Nat.le_refl _, Mo.r⟩
    rwa [List.filter_eq_self.2 (fun x hx => by simpa using fun e : x = k => hn (e ▸ hx))]
  · rw [if_neg (by simp)]
    obtain ⟨pz, rest, hp, -⟩ : ∃ b rest, z.p = some ⟨b, 0, none⟩ ∧ B w b = some (l.map nv ++ rest, 3) ∧ rest.length = (z.c - z.n) * 1 := ho.at_ (by omega)
    have lp := Ex.loop (step := fun s : Int × Int × World => slices_DeleteFunc_int_int_102_l1 z ⟨pb, 0, none⟩ s.1 s.2.1 s.2.2)
      (Φ := fun o => match o with | (v, w') => ∃ (i : Nat) (c : List Nat), v = i ∧ i < l.length ∧ c.length = l.length ∧ c.take i = l.filter (fun x => decide (x ≠ k)) ∧ Hp F0 g0 w0 g w' (owR 3 1 z (c.map nv) :: bxR pb [nv k] T :: L) ∧ Mo g w g w')
      (fun m s => ∃ (i j : Nat) (c : List Nat) (w' : World), s = ((i : Int), (j : Int), w') ∧ m + j = l.length ∧ i < j ∧ c.length = l.length ∧ c.take i = (l.take j).filter (fun x => decide (x ≠ k)) ∧ c.drop j = l.drop j ∧ Hp F0 g0 w0 g w' (owR 3 1 z (c.map nv) :: bxR pb [nv k] T :: L) ∧ Mo g w g w')
      (fun m s ⟨i, j, c, w', e, hm, hij, hc, h1, h2, H, M⟩ => by
        subst e
        unfold slices_DeleteFunc_int_int_102_l1
        by_cases hj : j < l.length
        · obtain ⟨x, hxj⟩ : ∃ x, l[j]? = some x := ⟨_, List.getElem?_eq_getElem hj⟩
          have hx' : c[j]? = some x := by
            have := congrArg (·[0]?) h2
            simpa [hxj] using this
          have hd : c.drop (j + 1) = l.drop (j + 1) := by rw [← List.drop_drop, h2, List.drop_drop]
          obtain ⟨a, a1, a2⟩ := H.ow.ixI (nvs_get hx')
          refine Ex.t (by simp; omega) ?_
          have hwj : IntKind.i64.wrap ((j : Int) + 1) = ((j + 1 : Nat) : Int) := by rw [wr64 (by omega) (by omega)]; rfl
          by_cases hk : x = k
          · subst hk
            refine Ex.b2 (a := (i : Int)) (b := w') ?_ (Ex.ret ⟨m - 1, by omega, i, j + 1, c, w', by rw [hwj], by omega, by omega, hc, ?_, hd, H, M⟩)
            · rw [a1, Option.bind_some, a2, Option.bind_some, take1_ok H.tl.bx, bind2_some, if_neg (by simp)]
            · rw [h1, List.take_add_one (l := l) (i := j), hxj]
              simp
          · have hwi : IntKind.i64.wrap ((i : Int) + 1) = ((i + 1 : Nat) : Int) := by rw [wr64 (by omega) (by omega)]; rfl
            have hiz : D.ix z (i : Int) 1 = some ⟨pz, i, none⟩ := by unfold D.ix; rw [hp]; simp; omega
            obtain ⟨w2, e2, H2, M2⟩ := H.oset (o := i) hp (by omega) (x := nv x) (by simp; omega) rfl
            refine Ex.b2 (a := ((i + 1 : Nat) : Int)) (b := w2) ?_ (Ex.ret ⟨m - 1, by omega, i + 1, j + 1, c.set i x, w2, by rw [hwj], by omega, by omega, by simpa using hc, ?_, ?_, by rw [List.map_set]; exact H2, M.t M2⟩)
            · rw [a1, Option.bind_some, a2, Option.bind_some, take1_ok H.tl.bx, bind2_some, if_pos (by simpa using hk), hiz, Option.bind_some]
              erw [e2]
              rw [Option.bind_some, hwi]
            · rw [List.take_add_one (l := l), hxj, List.filter_append, ← h1, List.take_add_one, List.take_set_of_le (Nat.le_refl _), List.getElem?_set_self (by omega)]
              simp [hk]
            · rw [List.drop_set_of_lt (by omega), hd]
        · refine Ex.f (by simp; omega) (Ex.ret ⟨i, c, rfl, by omega, hc, ?_, H, M⟩)
          rw [h1, List.take_of_length_le (by omega)]) (l.length - (i + 1)) (((i : Nat) : Int), IntKind.i64.wrap ((i : Int) + 1), w)
      ⟨i, i + 1, l, w, by rw [wr64 (by omega) (by omega)]; rfl, by omega, by omega, rfl, by
        rw [List.take_add_one, hx, List.filter_append, List.filter_eq_self.2 (fun x hx => by simpa using fun e : x = k => hn (e ▸ hx))]; simp, rfl, H, Mo.r⟩
    obtain ⟨⟨v, w1⟩, e1, i', c, rfl, hi', hc, hf, H1, M1⟩ := lp
    have hcap := ho.cap
    have hs1 : slS z (i' : Int) (z.n : Int) (z.c : Int) 1 = some ⟨some ⟨pz, i', none⟩, z.n - i', z.c - i'⟩ := by
      unfold slS
      rw [if_pos (by omega), hp]
      have : ¬ ((z.c : Int) = (i' : Int)) := by omega
      simp [this]
    obtain ⟨w2, e2, H2, M2⟩ := H1.clr stI (by simp [Value.oneCell']) hp (o := i') (n := z.n - i') (c := z.c - i') (by omega) (by simp; omega)
    have hs2 : slS z 0 (i' : Int) (z.c : Int) 1 = some ⟨z.p, i', z.c⟩ := by
      unfold slS
      rw [if_pos (by omega), hp]
      have : ¬ ((z.c : Int) = 0) := by omega
      simp [this]
    have H3 := H2.ocut (m := i') (by omega)
    refine ⟨⟨z.p, i', z.c⟩, w2, ?_, ?_, by simp only; omega, M1.t M2⟩
    · rw [e1, bind2_some, hs1, Option.bind_some, e2, Option.bind_some, hs2, Option.bind_some]
    · have e3 : (putL (c.map nv) i' (List.replicate (z.n - i') [Value.int .i64 0]).flatten).take (i' * 1) = (l.filter fun x => decide (x ≠ k)).map nv := by
        rw [← hf, Nat.mul_one]
        simp only [putL]
        rw [List.append_assoc, List.take_append_of_le_length (by simp; omega), List.take_take, Nat.min_self, List.map_take]
      rwa [e3] at H3
end
end Go.Proofs.Ytejkaciimmfgcaa.D
