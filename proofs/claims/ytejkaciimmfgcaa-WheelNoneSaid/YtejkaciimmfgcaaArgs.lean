/- Arguments: lists of structs and of numbers, as parts of the memory that last. -/
import Derived.Test.YtejkaciimmfgcaaHp
import Derived.ChangeArms
import GoSem.ClaimJoined
namespace Go.Proofs.Ytejkaciimmfgcaa.D
open Go
set_option linter.unusedVariables false
set_option linter.unusedSimpArgs false
/-- A slice of structs of sz cells: each one's cells, and what they tell. -/
structure PL {α : Type} (R : Gh → World → List Value → α → Prop) (sz : Nat) (g : Gh) (w : World) (s : Sl) (xs : List α) : Prop where
  len : s.n = xs.length
  at_ : ∀ (i : Nat) (x : α), xs[i]? = some x → ∃ a cs, ix s (i : Int) sz = some a ∧ g a.block ∧ cs.length = sz ∧ R g w cs x ∧ ∀ j v, cs[j]? = some v → w.cell? (a.add j) = some v
theorem PL.mo {α : Type} {R : Gh → World → List Value → α → Prop} (hR : ∀ {g w g' w' cs x}, R g w cs x → Mo g w g' w' → R g' w' cs x) {sz : Nat} {g g' : Gh} {w w' : World} {s : Sl} {xs : List α} (h : PL R sz g w s xs) (m : Mo g w g' w') : PL R sz g' w' s xs :=
  ⟨h.len, fun i x hx => by
    obtain ⟨a, cs, e, hg, hl, hr, hc⟩ := h.at_ i x hx
    have hb : ∀ j, (a.add j).block = a.block := fun j => by unfold Addr.add; split <;> rfl
    exact ⟨a, cs, e, (m.keep _ hg).1, hl, hR hr m, fun j v hv => m.cell (by rw [hb]; exact hg) (hc j v hv)⟩⟩
theorem PL.nil {α : Type} {R : Gh → World → List Value → α → Prop} {sz : Nat} {g : Gh} {w : World} {s : Sl} (h : s.n = 0) : PL R sz g w s [] := ⟨by simp [h], fun i x hx => by simp at hx⟩
/-- What was there at the beginning lasts. -/
def old (w : World) : Gh := fun k => k < w.heap.size
theorem old_lt (w : World) : ∀ k, old w k → k < w.heap.size := fun _ h => h
theorem PR.of_arg {w : World} {s : Sl} {sz : Nat} {cs : List Value} (h : Arg w.heap.size w s sz cs) : PR (old w) w s sz cs := ⟨h.rd, fun a ha h0 => h.lo a ha h0⟩
theorem Hp.fin {g g0 : Gh} {w w0 : World} {L : List Rs} (H : Hp (fun _ => False) g0 w0 g w L) {S : Nat → Prop} : Fr S w0 w := H.sp.fr.mono fun _ h => h.elim
/-- A block that lasts. -/
structure Bp (g : Gh) (w : World) (b : Nat) (cs : List Value) (T : TypeId) : Prop where
  per : g b
  at_ : B w b = some (cs, T)
theorem Bp.mo {g g' : Gh} {w w' : World} {b : Nat} {cs : List Value} {T : TypeId} (h : Bp g w b cs T) (m : Mo g w g' w') : Bp g' w' b cs T :=
  ⟨(m.keep _ h.per).1, by have := (m.keep _ h.per).2; have h2 := h.at_; unfold B at h2 ⊢; rw [this]; exact h2⟩
theorem Hp.boxK {F0 : Nat → Prop} {g g0 : Gh} {w w0 : World} {L : List Rs} (H : Hp F0 g0 w0 g w L) (T : TypeId) (cs : List Value) : ∃ b g' w', D.mk w T cs = some (⟨b, 0, none⟩, w') ∧ Hp F0 g0 w0 g' w' L ∧ Mo g w g' w' ∧ Bp g' w' b cs T := by
  obtain ⟨b, w', e, H1, m1⟩ := H.box (T := T) (cs := cs)
  have hb := H1.bx
  obtain ⟨g', F, h1, h2, H2, m2⟩ := H1.keep
  exact ⟨b, g', w', e, H2, m1.t m2, h2 _ ((h1.2 _).2 rfl), hb⟩
section
variable {H : Type} {enc : TypeId × Value → H} {P : Program} {w : World} {base fuel : Nat} {spare : Nat → Bool} {held : Bool} {t e : TypeId} {cs : List Value} {x : DataW H × List MemPlace} {Bd : Nat}
theorem wts_all {el : List (DataW H)} {y : DataW H} (hy : y ∈ el) : ∀ v ∈ y.weights P e, v ∈ DataW.weightsAll P e el := by
  induction el with
  | nil => cases hy
  | cons d el ih =>
    intro v hv
    simp only [DataW.weightsAll, List.mem_append]
    rcases List.mem_cons.1 hy with rfl | hy
    · exact .inl hv
    · exact .inr (ih hy v hv)
theorem wts_slice {el sp : List (DataW H)} (ht : P.underlying t = some (.slice e)) (h : ∀ v ∈ (DataW.slice el sp).weights P t, v ≤ Bd) : (el.length + sp.length) * P.bytesOf e ≤ Bd ∧ ∀ y ∈ el, ∀ v ∈ y.weights P e, v ≤ Bd := by
  simp only [DataW.weights, ht] at h
  exact ⟨h _ (List.mem_cons_self ..), fun y hy v hv => h v (List.mem_cons_of_mem _ (List.mem_append.2 (.inl (wts_all hy v hv))))⟩
theorem wts_each : ∀ (ts : List TypeId) (l : List (DataW H)) (i : Nat) (t : TypeId) (d : DataW H), ts[i]? = some t → l[i]? = some d → ∀ v ∈ d.weights P t, v ∈ DataW.weightsEach P ts l
  | [], _, _, _, _, h, _ => by simp at h
  | _ :: _, [], _, _, _, _, h => by simp at h
  | t' :: ts, d' :: l, 0, t, d, h, k => by
    simp at h k; subst h; subst k
    intro v hv
    simp only [DataW.weightsEach, List.mem_append]
    exact .inl hv
  | t' :: ts, d' :: l, i + 1, t, d, h, k => by
    intro v hv
    simp only [DataW.weightsEach, List.mem_append]
    exact .inr (wts_each ts l i t d (by simpa using h) (by simpa using k) v hv)
theorem wts_struct {parts : List (DataW H)} {fs : Array Field} (ht : P.underlying t = some (.struct fs)) (h : ∀ v ∈ (DataW.agg parts).weights P t, v ≤ Bd) (i : Nat) (f : Field) (p : DataW H) (hf : fs[i]? = some f) (hp : parts[i]? = some p) : ∀ v ∈ p.weights P f.type, v ≤ Bd := by
  simp only [DataW.weights, ht] at h
  exact fun v hv => h v (wts_each _ _ i f.type p (by rw [List.getElem?_map, Array.getElem?_toList, hf]; rfl) hp v hv)
theorem sized_arg {ts : List TypeId} {l : List (DataW H)} (h : (DataW.weightsEach P ts l).all (· ≤ reachBytes) = true) {i : Nat} {t : TypeId} {d : DataW H} (ht : ts[i]? = some t) (hd : l[i]? = some d) : ∀ v ∈ d.weights P t, v ≤ 140737488351232 := by
  intro v hv
  have := List.all_eq_true.1 h v (wts_each ts l i t d ht hd v hv)
  exact of_decide_eq_true this
/-- A slice of integers, and how long it is. -/
theorem open_nums2 {k : IntKind} (ht : P.underlying t = some (.slice e)) (he : P.underlying e = some (.int k)) (hc : P.cellsOf e = 1) (hb : 0 < P.bytesOf e) (h : DataW.trod enc P w base spare held fuel t cs = some x) (hx : ∀ v ∈ x.1.weights P t, v ≤ Bd) :
    ∃ s xs, cs = [Sl.v s] ∧ Rd w s 1 (nums k xs) ∧ s.n ≤ Bd := by
  rcases ChangeShapes.open_ints ht he hc h with ⟨rfl, _⟩ | ⟨a, len, cap, zs, rfl, _, hl, hm, hz, hx1, hcell, hw⟩
  · exact ⟨Sl.nil, [], rfl, Rd.nil rfl, Nat.zero_le _⟩
  · have hle : len ≤ zs.length := by rw [hz]; split <;> omega
    rw [hx1] at hx
    have hsz := (wts_slice ht hx).1
    have h1 : len ≤ Bd := by
      refine Nat.le_trans ?_ hsz
      refine Nat.le_trans ?_ (Nat.le_mul_of_pos_right _ hb)
      simp [ChangeShapes.lits]; omega
    refine ⟨⟨some a, len, cap⟩, zs.take len, rfl, ⟨by simp; omega, fun _ => ⟨a, rfl, fun j v hv => ?_⟩⟩, h1⟩
    rw [nums_get, List.getElem?_take] at hv
    split at hv
    · rename_i hj
      have := hcell j (by omega)
      rw [List.getElem?_eq_getElem (by omega)] at hv
      simp only [Option.map_some, Option.some.injEq] at hv
      rw [this, ← hv, List.getD_eq_getElem?_getD, List.getElem?_eq_getElem (by omega)]; rfl
    · cases hv
theorem i64_le {n : Int} (h : (Lit.int .i64 n).wf = true) : n ≤ 9223372036854775807 := by
  simp [Lit.wf, IntKind.min, IntKind.max, IntKind.signed, IntKind.bits] at h; omega

theorem open_list {α : Type} {R : Gh → World → List Value → α → Prop} {sz : Nat} (ht : P.underlying t = some (.slice e)) (hc : P.cellsOf e = sz) (hsz : 0 < sz)
    (hel : ∀ (m : Nat) (c : List Value) (y : DataW H × List MemPlace), DataW.trod enc P w base spare held m e c = some y → (∀ v ∈ y.1.weights P e, v ≤ Bd) → ∃ d : α, R (old w) w c d)
    (h : DataW.trod enc P w base spare held fuel t cs = some x) (hx : ∀ v ∈ x.1.weights P t, v ≤ Bd) : ∃ (s : Sl) (ds : List α), cs = [Sl.v s] ∧ PL R sz (old w) w s ds := by
  subst hc
  rcases DataW.trod_slice ht h with ⟨rfl, _⟩ | ⟨a, len, cap, elems, rest, m, hfu, rfl, hx1, hb, hl, hm, hlen, hee, _, _⟩
  · exact ⟨Sl.nil, [], rfl, PL.nil rfl⟩
  · rw [hx1] at hx
    obtain ⟨_, hxs⟩ := wts_slice ht hx
    have each : ∀ i, i < len → ∃ c d, c.length = P.cellsOf e ∧ R (old w) w c d ∧ ∀ j v, c[j]? = some v → w.cell? (a.add (i * P.cellsOf e + j)) = some v := by
      intro i hi
      have := hee i hi
      rw [List.getElem?_eq_getElem (by omega)] at this
      obtain ⟨c, hc, hy⟩ := Option.bind_eq_some_iff.1 this
      have hk := World.cells?_some hc
      obtain ⟨d, hd⟩ := hel _ c _ hy (hxs _ (List.mem_map_of_mem (List.getElem_mem _)))
      refine ⟨c, d, hk.2.1, hd, fun j v hv => ?_⟩
      have hj : j < P.cellsOf e := by have := (List.getElem?_eq_some_iff.1 hv).1; rw [hk.2.1] at this; exact this
      rw [← add_add' a (i * P.cellsOf e) j, hk.2.2 j hj]; exact hv
    have main : ∀ m', m' ≤ len → ∃ ds : List α, ds.length = m' ∧ ∀ (i : Nat) (d : α), ds[i]? = some d → ∃ c, c.length = P.cellsOf e ∧ R (old w) w c d ∧ ∀ j v, c[j]? = some v → w.cell? (a.add (i * P.cellsOf e + j)) = some v := by
      intro m'
      induction m' with
      | zero => intro _; exact ⟨[], rfl, fun i d h => by simp at h⟩
      | succ m' ih =>
        intro hm'
        obtain ⟨ds, l1, l2⟩ := ih (by omega)
        obtain ⟨c, d, k1, k2, k3⟩ := each m' (by omega)
        refine ⟨ds ++ [d], by simp [l1], fun i d' hd' => ?_⟩
        rcases Nat.lt_or_ge i m' with hi | hi
        · rw [List.getElem?_append_left (by omega)] at hd'
          exact l2 i d' hd'
        · rw [List.getElem?_append_right (by omega)] at hd'
          have h0 : i - ds.length = 0 := by have := (List.getElem?_eq_some_iff.1 hd').1; simpa using this
          rw [h0] at hd'
          simp at hd'
          subst hd'
          have : i = m' := by omega
          subst this
          exact ⟨c, k1, k2, k3⟩
    obtain ⟨ds, l1, l2⟩ := main len (Nat.le_refl _)
    refine ⟨⟨some a, len, cap⟩, ds, rfl, l1.symm, fun i d hd => ?_⟩
    obtain ⟨c, k1, k2, k3⟩ := l2 i d hd
    have hi : i < len := by have := (List.getElem?_eq_some_iff.1 hd).1; omega
    have hb' : (a.add (i * P.cellsOf e)).block = a.block := by unfold Addr.add; split <;> rfl
    refine ⟨a.add (i * P.cellsOf e), c, ?_, ?_, k1, k2, fun j v hv => by rw [add_add']; exact k3 j v hv⟩
    · unfold ix
      simp only [Option.bind_some]
      rw [if_pos ⟨by omega, by omega⟩]; simp
    · show (a.add _).block < w.heap.size
      cases c with
      | nil => simp at k1; omega
      | cons v c => exact cell_lt (k3 0 v rfl)
theorem u8_range {n : Int} (h : (Lit.int .u8 n).wf = true) : 0 ≤ n ∧ n < 256 := by
  simp [Lit.wf, IntKind.min, IntKind.max, IntKind.signed, IntKind.bits] at h; omega
theorem i64_range {n : Int} (h : (Lit.int .i64 n).wf = true) : -9223372036854775808 ≤ n ∧ n ≤ 9223372036854775807 := by
  simp [Lit.wf, IntKind.min, IntKind.max, IntKind.signed, IntKind.bits] at h; omega
/-- A slice of integers, how long it is, and their range. -/
theorem open_nums3 {k : IntKind} (ht : P.underlying t = some (.slice e)) (he : P.underlying e = some (.int k)) (hc : P.cellsOf e = 1) (hb : 0 < P.bytesOf e) (h : DataW.trod enc P w base spare held fuel t cs = some x) (hx : ∀ v ∈ x.1.weights P t, v ≤ Bd) :
    ∃ s xs, cs = [Sl.v s] ∧ PR (old w) w s 1 (nums k xs) ∧ s.n ≤ Bd ∧ s.n ≤ s.c ∧ ∀ n ∈ xs, (Lit.int k n).wf = true := by
  obtain ⟨s, xs, e1, r1, hw, hl, _⟩ := open_nums ht he hc h
  obtain ⟨s2, xs2, e2, _, n2⟩ := open_nums2 ht he hc hb h hx
  rw [e1] at e2
  have : s.n = s2.n := by simpa [Sl.v] using congrArg (fun l : List Value => match l with | [.slice _ n _] => n | _ => 0) e2
  exact ⟨s, xs, e1, PR.of_arg (arg_of r1 (by decide)), by omega, hl, hw⟩
end
end Go.Proofs.Ytejkaciimmfgcaa.D
