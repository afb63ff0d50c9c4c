/- Scripts as arguments: what their reading tells of them. -/
import Derived.Test.YtoanmomopcaikaaPlay
import Derived.ChangeArms
import GoSem.ClaimJoined
namespace Go.Proofs.Ytoanmomopcaikaa.D
open Go
set_option linter.unusedVariables false
set_option linter.unusedSimpArgs false
section
variable {H : Type} {enc : TypeId × Value → H} {P : Program} {w : World} {base fuel : Nat} {spare : Nat → Bool} {held : Bool} {t e : TypeId} {cs : List Value} {x : DataW H × List MemPlace} {Bd : Nat}
theorem wts_all {el : List (DataW H)} {y : DataW H} (hy : y ∈ el) : ∀ v ∈ y.weights P e, v ∈ DataW.weightsAll P e el := by
  induction el with
  | nil => cases hy
  | cons d el ih =>
    intro v hv
    simp only [DataW.weightsAll, List.mem_append]
    rcases List.mem_cons.1 hy with rfl | hy
    · exact .inl hv
    · exact .inr (ih hy v hv)
theorem wts_slice {el sp : List (DataW H)} (ht : P.underlying t = some (.slice e)) (h : ∀ v ∈ (DataW.slice el sp).weights P t, v ≤ Bd) : (el.length + sp.length) * P.bytesOf e ≤ Bd ∧ ∀ y ∈ el, ∀ v ∈ y.weights P e, v ≤ Bd := by
  simp only [DataW.weights, ht] at h
  exact ⟨h _ (List.mem_cons_self ..), fun y hy v hv => h v (List.mem_cons_of_mem _ (List.mem_append.2 (.inl (wts_all hy v hv))))⟩
theorem wts_each : ∀ (ts : List TypeId) (l : List (DataW H)) (i : Nat) (t : TypeId) (d : DataW H), ts[i]? = some t → l[i]? = some d → ∀ v ∈ d.weights P t, v ∈ DataW.weightsEach P ts l
  | [], _, _, _, _, h, _ => by simp at h
  | _ :: _, [], _, _, _, _, h => by simp at h
  | t' :: ts, d' :: l, 0, t, d, h, k => by
    simp at h k; subst h; subst k
    intro v hv
    simp only [DataW.weightsEach, List.mem_append]
    exact .inl hv
  | t' :: ts, d' :: l, i + 1, t, d, h, k => by
    intro v hv
    simp only [DataW.weightsEach, List.mem_append]
    exact .inr (wts_each ts l i t d (by simpa using h) (by simpa using k) v hv)
theorem wts_struct {parts : List (DataW H)} {fs : Array Field} (ht : P.underlying t = some (.struct fs)) (h : ∀ v ∈ (DataW.agg parts).weights P t, v ≤ Bd) (i : Nat) (f : Field) (p : DataW H) (hf : fs[i]? = some f) (hp : parts[i]? = some p) : ∀ v ∈ p.weights P f.type, v ≤ Bd := by
  simp only [DataW.weights, ht] at h
  exact fun v hv => h v (wts_each _ _ i f.type p (by rw [List.getElem?_map, Array.getElem?_toList, hf]; rfl) hp v hv)
theorem sized_arg {ts : List TypeId} {l : List (DataW H)} (h : (DataW.weightsEach P ts l).all (· ≤ reachBytes) = true) {i : Nat} {t : TypeId} {d : DataW H} (ht : ts[i]? = some t) (hd : l[i]? = some d) : ∀ v ∈ d.weights P t, v ≤ 140737488351232 := by
  intro v hv
  have := List.all_eq_true.1 h v (wts_each ts l i t d ht hd v hv)
  exact of_decide_eq_true this
/-- A slice of integers, and how long it is. -/
theorem open_nums2 {k : IntKind} (ht : P.underlying t = some (.slice e)) (he : P.underlying e = some (.int k)) (hc : P.cellsOf e = 1) (hb : 0 < P.bytesOf e) (h : DataW.trod enc P w base spare held fuel t cs = some x) (hx : ∀ v ∈ x.1.weights P t, v ≤ Bd) :
    ∃ s xs, cs = [Sl.v s] ∧ Rd w s 1 (nums k xs) ∧ s.n ≤ Bd := by
  rcases ChangeShapes.open_ints ht he hc h with ⟨rfl, _⟩ | ⟨a, len, cap, zs, rfl, _, hl, hm, hz, hx1, hcell, hw⟩
  · exact ⟨Sl.nil, [], rfl, Rd.nil rfl, Nat.zero_le _⟩
  · have hle : len ≤ zs.length := by rw [hz]; split <;> omega
    rw [hx1] at hx
    have hsz := (wts_slice ht hx).1
    have h1 : len ≤ Bd := by
      refine Nat.le_trans ?_ hsz
      refine Nat.le_trans ?_ (Nat.le_mul_of_pos_right _ hb)
      simp [ChangeShapes.lits]; omega
    refine ⟨⟨some a, len, cap⟩, zs.take len, rfl, ⟨by simp; omega, fun _ => ⟨a, rfl, fun j v hv => ?_⟩⟩, h1⟩
    rw [nums_get, List.getElem?_take] at hv
    split at hv
    · rename_i hj
      have := hcell j (by omega)
      rw [List.getElem?_eq_getElem (by omega)] at hv
      simp only [Option.map_some, Option.some.injEq] at hv
      rw [this, ← hv, List.getD_eq_getElem?_getD, List.getElem?_eq_getElem (by omega)]; rfl
    · cases hv
theorem i64_le {n : Int} (h : (Lit.int .i64 n).wf = true) : n ≤ 9223372036854775807 := by
  simp [Lit.wf, IntKind.min, IntKind.max, IntKind.signed, IntKind.bits] at h; omega
theorem len4 {α : Type} {l : List α} (h : l.length = 4) : ∃ a b c d, l = [a, b, c, d] := by
  match l, h with
  | [a, b, c, d], _ => exact ⟨a, b, c, d, rfl⟩
theorem open_deed {m : Nat} {c : List Value} {y : DataW H × List MemPlace} (h : DataW.trod enc Try.prog w base spare held m 40 c = some y) (hx : ∀ v ∈ y.1.weights Try.prog 40, v ≤ 140737488351232) :
    c.length = 4 ∧ ∃ d, DeedAt w.heap.size w c d := by
  obtain ⟨xs, m', _, hy, hl, hlen, hf⟩ := DataW.trod_struct Try.underlying40 h
  have hl4 : c.length = 4 := hl.trans (by kernel_rfl)
  refine ⟨hl4, ?_⟩
  have c1 : Try.prog.cellsOf 3 = 1 := by kernel_rfl
  have c2 : Try.prog.cellsOf 29 = 1 := by kernel_rfl
  have c3 : Try.prog.cellsOf 35 = 1 := by kernel_rfl
  have hlen4 : xs.length = 4 := hlen
  clear hlen hl
  obtain ⟨v0, v1, v2, v3, rfl⟩ : ∃ v0 v1 v2 v3, c = [v0, v1, v2, v3] := len4 hl4
  obtain ⟨y0, y1, y2, y3, rfl⟩ : ∃ v0 v1 v2 v3, xs = [v0, v1, v2, v3] := len4 hlen4
  · skip
    have h0 : DataW.trod enc Try.prog w base spare held m' 3 (([v0, v1, v2, v3].drop 0).take (Try.prog.cellsOf 3)) = some y0 := hf 0 _ rfl
    have h1 : DataW.trod enc Try.prog w base spare held m' 3 (([v0, v1, v2, v3].drop 1).take (Try.prog.cellsOf 3)) = some y1 := hf 1 _ rfl
    have h2 : DataW.trod enc Try.prog w base spare held m' 29 (([v0, v1, v2, v3].drop 2).take (Try.prog.cellsOf 29)) = some y2 := hf 2 _ rfl
    have h3 : DataW.trod enc Try.prog w base spare held m' 35 (([v0, v1, v2, v3].drop 3).take (Try.prog.cellsOf 35)) = some y3 := hf 3 _ rfl
    simp only [c1, c2, c3, List.drop_zero, List.take_succ_cons, List.take_zero, List.drop_succ_cons, List.getElem?_cons_zero, List.getElem?_cons_succ] at h0 h1 h2 h3
    obtain ⟨k, e0, _, _⟩ := DataW.trod_int Try.underlying3 h0
    obtain ⟨i, e1, _, wi⟩ := DataW.trod_int Try.underlying3 h1
    rw [hy] at hx
    have w2 : ∀ v ∈ y2.1.weights Try.prog 29, v ≤ 140737488351232 := wts_struct Try.underlying40 hx 2 _ y2.1 rfl rfl
    have w3 : ∀ v ∈ y3.1.weights Try.prog 35, v ≤ 140737488351232 := wts_struct Try.underlying40 hx 3 _ y3.1 rfl rfl
    obtain ⟨b, bs, e2, r2, n2⟩ := open_nums2 Try.underlying29 Try.underlying5 (by kernel_rfl) (of_decide_eq_true (by kernel_rfl)) h2 w2
    obtain ⟨f, fs, e3, r3, n3⟩ := open_nums2 Try.underlying35 Try.underlying3 (by kernel_rfl) (of_decide_eq_true (by kernel_rfl)) h3 w3
    obtain rfl := (List.cons.inj e0).1
    obtain rfl := (List.cons.inj e1).1
    obtain rfl := (List.cons.inj e2).1
    obtain rfl := (List.cons.inj e3).1
    exact ⟨⟨k, i, bs, fs⟩, b, f, rfl, arg_of r2 (by decide), arg_of r3 (by decide), n2, i64_le wi⟩
theorem open_script (h : DataW.trod enc Try.prog w base spare held fuel 37 cs = some x) (hx : ∀ v ∈ x.1.weights Try.prog 37, v ≤ 140737488351232) :
    ∃ s L ds, cs = [Sl.v s] ∧ Script w.heap.size w s L ds := by
  have c4 : Try.prog.cellsOf 40 = 4 := by kernel_rfl
  rcases DataW.trod_slice Try.underlying37 h with ⟨rfl, _⟩ | ⟨a, len, cap, elems, rest, m, hfu, rfl, hx1, hb, hl, hm, hlen, hel, _, _⟩
  · exact ⟨Sl.nil, [], [], rfl, rfl, rfl, by simp, arg_of (Rd.nil rfl) (by decide), by simp⟩
  · rw [hx1] at hx
    obtain ⟨_, hxs⟩ := wts_slice Try.underlying37 hx
    rw [c4] at hel
    have each : ∀ i, i < len → ∃ c, c.length = 4 ∧ (∃ d, DeedAt w.heap.size w c d) ∧ ∀ j v, c[j]? = some v → w.cell? (a.add (i * 4 + j)) = some v := by
      intro i hi
      have := hel i hi
      rw [List.getElem?_eq_getElem (by omega)] at this
      obtain ⟨c, hc, hy⟩ := Option.bind_eq_some_iff.1 this
      have hk := World.cells?_some hc
      have hd := open_deed hy (hxs _ (List.mem_map_of_mem (List.getElem_mem _)))
      refine ⟨c, hd.1, hd.2, fun j v hv => ?_⟩
      have hj : j < 4 := by have := (List.getElem?_eq_some_iff.1 hv).1; rw [hd.1] at this; exact this
      rw [← add_add' a (i * 4) j, hk.2.2 j hj]; exact hv
    have main : ∀ m', m' ≤ len → ∃ (L : List (List Value)) (ds : List Dd), L.length = m' ∧ ds.length = m' ∧ (∀ c ∈ L, c.length = 4) ∧ (∀ (i : Nat) (c : List Value) (d : Dd), L[i]? = some c → ds[i]? = some d → DeedAt w.heap.size w c d) ∧ ∀ j v, L.flatten[j]? = some v → w.cell? (a.add j) = some v := by
      intro m'
      induction m' with
      | zero => intro _; exact ⟨[], [], rfl, rfl, by simp, by simp, by simp⟩
      | succ m' ih =>
        intro hm'
        obtain ⟨L, ds, l1, l1', l2, l3, l4⟩ := ih (by omega)
        obtain ⟨c, k2, ⟨d, k3⟩, k4⟩ := each m' (by omega)
        have hfl : L.flatten.length = m' * 4 := by
          have := flatLen (f := fun c : List Value => c) L l2
          rw [List.flatMap_id', l1] at this
          exact this
        refine ⟨L ++ [c], ds ++ [d], by simp [l1], by simp [l1'], ?_, ?_, ?_⟩
        · intro q hq
          simp only [List.mem_append, List.mem_singleton] at hq
          rcases hq with hq | rfl
          · exact l2 q hq
          · exact k2
        · intro i q r hq hr
          rcases Nat.lt_or_ge i m' with hi | hi
          · rw [List.getElem?_append_left (by omega)] at hq hr
            exact l3 i q r hq hr
          · rw [List.getElem?_append_right (by omega)] at hq hr
            have h0 : i - L.length = 0 := by have := (List.getElem?_eq_some_iff.1 hq).1; simpa using this
            rw [h0] at hq
            rw [l1', ← l1, h0] at hr
            simp at hq hr
            subst hq; subst hr
            exact k3
        · intro j v hv
          rw [List.flatten_append, List.flatten_singleton] at hv
          rcases Nat.lt_or_ge j L.flatten.length with hj | hj
          · rw [List.getElem?_append_left hj] at hv; exact l4 j v hv
          · rw [List.getElem?_append_right hj] at hv
            have := k4 _ v hv
            rwa [← hfl, Nat.add_sub_cancel' hj] at this
    obtain ⟨L, ds, l1, l1', l2, l3, l4⟩ := main len (Nat.le_refl _)
    have hfl : L.flatten.length = len * 4 := by
      have := flatLen (f := fun c : List Value => c) L l2
      rw [List.flatMap_id', l1] at this
      exact this
    exact ⟨⟨some a, len, cap⟩, L, ds, rfl, l1, by rw [l1', l1], l2, arg_of ⟨hfl, fun _ => ⟨a, rfl, l4⟩⟩ (by decide), l3⟩
end
end Go.Proofs.Ytoanmomopcaikaa.D
