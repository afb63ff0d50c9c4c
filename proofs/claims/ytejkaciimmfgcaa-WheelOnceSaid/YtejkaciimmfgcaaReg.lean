/- A region that draws its order: one run in the order of the text tells every order, where what is read stays. -/
import Derived.Test.YtejkaciimmfgcaaOps
import Derived.Orders
namespace Go.Proofs.Ytejkaciimmfgcaa.D
open Go
set_option linter.unusedVariables false
set_option linter.unusedSimpArgs false

/-- An operation of such a region: what it yields, whether it acts on the memory, how many of the acts may lie behind it, what must lie ahead of it, the slots that it reads. -/
structure OpD where
  o : Oper
  v : Value
  e : Bool
  lo : Nat
  hi : Nat
  cl : List Nat
  li : List (Nat × Value)

def envF : List OpD → Nat → (Nat → Bool) → List (Nat × Value) → List (Nat × Value)
  | [], _, _, L => L
  | d :: ds, i, S, L => envF ds (i + 1) S (if S i = true then upd d.o.dst d.v L else L)
def lastW : List OpD → Nat → (Nat → Bool) → Nat → Option Value
  | [], _, _, _ => none
  | d :: ds, i, S, t => match lastW ds (i + 1) S t with
    | some v => some v
    | none => if S i = true ∧ d.o.dst = some t then some d.v else none
theorem lookup_upd {dst : Option Nat} {v : Value} {L : List (Nat × Value)} {t : Nat} : (upd dst v L).lookup t = if dst = some t then some v else L.lookup t := by
  cases dst with
  | none => simp [upd]
  | some d =>
    simp only [upd, List.lookup_cons]
    by_cases h : t = d
    · subst h; simp
    · have e : (t == d) = false := by simpa using h
      rw [e]
      simp [Ne.symm h]
theorem lookup_envF {t : Nat} : ∀ (ds : List OpD) (i : Nat) (S : Nat → Bool) (L : List (Nat × Value)), (envF ds i S L).lookup t = (lastW ds i S t).or (L.lookup t)
  | [], _, _, _ => by simp [envF, lastW]
  | d :: ds, i, S, L => by
    rw [envF, lookup_envF ds (i + 1) S, lastW]
    cases h : lastW ds (i + 1) S t with
    | some v => simp
    | none =>
      simp only [Option.none_or]
      by_cases hs : S i = true
      · rw [if_pos hs, lookup_upd]
        by_cases hd : d.o.dst = some t <;> simp [hs, hd]
      · rw [if_neg hs]; simp [hs]
theorem lastW_same {t : Nat} {S S' : Nat → Bool} : ∀ (ds : List OpD) (i : Nat), (∀ k d, ds[k]? = some d → d.o.dst = some t → S (i + k) = S' (i + k)) → lastW ds i S t = lastW ds i S' t
  | [], _, _ => rfl
  | d :: ds, i, h => by
    have h1 : lastW ds (i + 1) S t = lastW ds (i + 1) S' t := lastW_same ds (i + 1) (fun k d' hk hd => by have := h (k + 1) d' (by simpa using hk) hd; rwa [show i + (k + 1) = i + 1 + k by omega] at this)
    simp only [lastW, h1]
    by_cases hd : d.o.dst = some t
    · have := h 0 d rfl hd
      simp only [Nat.add_zero] at this
      rw [this]
    · simp [hd]
theorem lastW_is {t : Nat} {S : Nat → Bool} : ∀ (ds : List OpD) (i k : Nat) (d : OpD), ds[k]? = some d → d.o.dst = some t → S (i + k) = true → (∀ k' d', k < k' → ds[k']? = some d' → d'.o.dst = some t → S (i + k') = false) → lastW ds i S t = some d.v
  | [], _, _, _, h, _, _, _ => by simp at h
  | d0 :: ds, i, 0, d, hk, hd, hs, hn => by
    simp at hk
    subst hk
    have h1 : lastW ds (i + 1) S t = none := by
      have : lastW ds (i + 1) S t = lastW ds (i + 1) (fun _ => false) t := lastW_same ds (i + 1) fun k' d' h1 h2 => by
        have := hn (k' + 1) d' (by omega) (by simpa using h1) h2
        rwa [show i + (k' + 1) = i + 1 + k' by omega] at this
      rw [this]
      clear this hn hd hs
      generalize i + 1 = m
      induction ds generalizing m with
      | nil => rfl
      | cons x xs ih => simp [lastW, ih]
    simp only [Nat.add_zero] at hs
    simp [lastW, h1, hd, hs]
  | d0 :: ds, i, k + 1, d, hk, hd, hs, hn => by
    have h1 := lastW_is (t := t) (S := S) ds (i + 1) k d (by simpa using hk) hd (by rwa [show i + (k + 1) = i + 1 + k by omega] at hs) (fun k' d' h1 h2 h3 => by
      have := hn (k' + 1) d' (by omega) (by simpa using h2) h3
      rwa [show i + (k' + 1) = i + 1 + k' by omega] at this)
    simp [lastW, h1]

/-- How many acts are listed. -/
def cnt : List OpD → Nat → (Nat → Bool) → Nat
  | [], _, _ => 0
  | d :: ds, i, S => (if S i = true ∧ d.e = true then 1 else 0) + cnt ds (i + 1) S
theorem cnt_le {S S' : Nat → Bool} : ∀ (ds : List OpD) (i : Nat), (∀ k d, ds[k]? = some d → d.e = true → S (i + k) = true → S' (i + k) = true) → cnt ds i S ≤ cnt ds i S'
  | [], _, _ => Nat.le_refl _
  | d :: ds, i, h => by
    have h1 := cnt_le ds (i + 1) (fun k d' hk hd hs => by have := h (k + 1) d' (by simpa using hk) hd (by rwa [show i + (k + 1) = i + 1 + k by omega]); rwa [show i + (k + 1) = i + 1 + k by omega] at this)
    simp only [cnt]
    have h0 := h 0 d rfl
    simp only [Nat.add_zero] at h0
    by_cases hs : S i = true ∧ d.e = true
    · rw [if_pos hs, if_pos ⟨h0 hs.2 hs.1, hs.2⟩]; omega
    · rw [if_neg hs]; omega
def addS (S : Nat → Bool) (i : Nat) : Nat → Bool := fun k => if k = i then true else S k
theorem cnt_add {S : Nat → Bool} {j : Nat} : ∀ (ds : List OpD) (i k : Nat) (d : OpD), ds[k]? = some d → j = i + k → S j = false → cnt ds i (addS S j) = cnt ds i S + (if d.e = true then 1 else 0)
  | [], _, _, _, h, _, _ => by simp at h
  | d0 :: ds, i, 0, d, hk, hj, hs => by
    simp at hk; subst hk
    simp only [Nat.add_zero] at hj
    subst hj
    have : cnt ds (j + 1) (addS S j) = cnt ds (j + 1) S := by
      apply Nat.le_antisymm
      · exact cnt_le ds (j + 1) fun k d h1 h2 h3 => by simp only [addS] at h3; rwa [if_neg (by omega)] at h3
      · exact cnt_le ds (j + 1) fun k d h1 h2 h3 => by simp only [addS]; rwa [if_neg (by omega)]
    simp only [cnt, this]
    simp [addS, hs]
    omega
  | d0 :: ds, i, k + 1, d, hk, hj, hs => by
    have := cnt_add (S := S) ds (i + 1) k d (by simpa using hk) (by omega) hs
    have e : addS S j i = S i := by simp only [addS]; rw [if_neg (by omega)]
    simp only [cnt, this, e]
    omega
theorem cnt_eq {S S' : Nat → Bool} (ds : List OpD) (i : Nat) (h : ∀ k, k < ds.length → S (i + k) = S' (i + k)) : cnt ds i S = cnt ds i S' := by
  have hk : ∀ (k : Nat) (d : OpD), ds[k]? = some d → k < ds.length := fun k d h => (List.getElem?_eq_some_iff.1 h).1
  apply Nat.le_antisymm
  · exact cnt_le ds i fun k d h1 _ h3 => (h k (hk k d h1)) ▸ h3
  · exact cnt_le ds i fun k d h1 _ h3 => (h k (hk k d h1)).symm ▸ h3

/-! ### What is asked of the edges -/
def clOK (ds : List OpD) : Bool := ds.zipIdx.all fun (d, i) => d.cl.all fun k => d.o.after.toList.any fun e => Region.binds .any e && decide (e.on < i) && (k == e.on || ((ds[e.on]?).any fun d' => d'.cl.contains k))
def dstOK (ds : List OpD) : Bool := ds.zipIdx.all fun (d, i) => d.o.dst.all fun t => ds.zipIdx.all fun (d', k) => !(decide (i < k)) || d'.o.dst != some t || d'.cl.contains i
def liOK (ds : List OpD) : Bool := ds.zipIdx.all fun (d, i) => d.li.all fun (t, _) => ds.zipIdx.all fun (d', k) => k == i || d'.o.dst != some t || (decide (k < i) && d.cl.contains k) || (decide (i < k) && d'.cl.contains i)
def rngOK (ds : List OpD) : Bool := ds.zipIdx.all fun (d, i) =>
  decide (d.lo ≤ cnt ds 0 fun k => d.cl.contains k) && decide ((cnt ds 0 fun k => k != i && !((ds[k]?).any fun d' => d'.cl.contains i)) ≤ d.hi)
def edgeOK (ds : List OpD) : Bool := ds.zipIdx.all fun (d, i) => d.o.after.toList.all fun e => !Region.binds .any e || decide (e.on < i)
def allOK (ds : List OpD) : Bool := clOK ds && dstOK ds && liOK ds && rngOK ds && edgeOK ds

section
variable {P : Program} {n : Nat} {L0 : List (Nat × Value)} {Q : Exit → Act → World → Prop}
/-- What an operation does in a region, wanted or not. -/
def OpOK (P : Program) (n : Nat) (ops : Array Oper) (o : Oper) (li : List (Nat × Value)) (v : Value) (w w' : World) : Prop :=
  ∀ a, Has n li a → ∀ (K : Act → World → Prop) (Q : Exit → Act → World → Prop), K (a.put o.dst v) w' → if Region.wanted o (yielded ops a.tmps) then o.wp P a w K Q else K (a.put o.dst undef) w
theorem ok_do {ops : Array Oper} {o : Oper} {li : List (Nat × Value)} {v : Value} {w w' : World} (hg : o.guard = none) (h : ∀ a, Has n li a → Does P o a w v w') : OpOK P n ops o li v w w' := fun a ha K Q hk => by
  rw [if_pos (by simp [Region.wanted, hg])]
  exact h a ha K Q hk
theorem ok_do_g {ops : Array Oper} {o : Oper} {li : List (Nat × Value)} {v : Value} {w w' : World} {j t : Nat} {b c : Bool} (hg : o.guard = some (j, c)) (hj : (ops[j]?).bind (·.dst) = some t) (ht : li.lookup t = some (.bool b)) (hbc : b = c)
    (h : ∀ a, Has n li a → Does P o a w v w') : OpOK P n ops o li v w w' := fun a ha K Q hk => by
  rw [if_pos (by simp [Region.wanted, hg, yields_of hj ha ht, hbc])]
  exact h a ha K Q hk
theorem ok_no_g {ops : Array Oper} {o : Oper} {li : List (Nat × Value)} {w : World} {j t : Nat} {b c : Bool} (hg : o.guard = some (j, c)) (hj : (ops[j]?).bind (·.dst) = some t) (ht : li.lookup t = some (.bool b)) (hbc : b ≠ c) :
    OpOK P n ops o li undef w w := fun a ha K Q hk => by
  rw [if_neg (by simp [Region.wanted, hg, yields_of hj ha ht, hbc])]
  exact hk

/-- What is asked of each operation at each of the worlds at which it may come up. -/
def Obl (P : Program) (n : Nat) (ops : Array Oper) (W : Nat → World) : List OpD → Prop
  | [] => True
  | d :: ds => (∀ j, d.lo ≤ j → j ≤ d.hi → OpOK P n ops d.o d.li d.v (W j) (W (j + if d.e = true then 1 else 0))) ∧ Obl P n ops W ds
theorem Obl.get {ops : Array Oper} {W : Nat → World} : ∀ {ds : List OpD}, Obl P n ops W ds → ∀ {i : Nat} {d : OpD}, ds[i]? = some d → ∀ j, d.lo ≤ j → j ≤ d.hi → OpOK P n ops d.o d.li d.v (W j) (W (j + if d.e = true then 1 else 0))
  | [], _, _, _, h => by simp at h
  | _ :: _, h, 0, _, hd => by simp at hd; subst hd; exact h.1
  | _ :: _, h, i + 1, _, hd => h.2.get (by simpa using hd)
/-- The slots that each reads hold what the run in the text's order had there. -/
def Reads : List OpD → List (Nat × Value) → Prop
  | [], _ => True
  | d :: ds, L => SubL L d.li ∧ Reads ds (upd d.o.dst d.v L)
theorem SubL.look {L M : List (Nat × Value)} (h : SubL L M) {t : Nat} {v : Value} (hv : M.lookup t = some v) : L.lookup t = some v := by
  induction M with
  | nil => cases hv
  | cons p M ih =>
    obtain ⟨j, u⟩ := p
    rw [List.lookup_cons] at hv
    by_cases e : t = j
    · subst e; simp at hv; subst hv; exact h.1
    · have e1 : (t == j) = false := by simpa using e
      rw [e1] at hv
      exact ih h.2 hv
theorem lookup_mem {M : List (Nat × Value)} {t : Nat} {v : Value} (hv : M.lookup t = some v) : ∃ u, (t, u) ∈ M := by
  induction M with
  | nil => cases hv
  | cons p M ih =>
    obtain ⟨j, u⟩ := p
    rw [List.lookup_cons] at hv
    by_cases e : t = j
    · subst e; exact ⟨u, by simp⟩
    · have e1 : (t == j) = false := by simpa using e
      rw [e1] at hv
      obtain ⟨u', hu⟩ := ih hv
      exact ⟨u', by simp [hu]⟩
theorem Reads.get : ∀ {ds : List OpD} {L : List (Nat × Value)} (b : Nat), Reads ds L → ∀ {i : Nat} {d : OpD}, ds[i]? = some d → SubL (envF ds b (fun k => decide (k < b + i)) L) d.li
  | [], _, _, _, _, _, h => by simp at h
  | d0 :: ds, L, b, h, 0, d, hd => by
    simp at hd; subst hd
    have : envF (d0 :: ds) b (fun k => decide (k < b + 0)) L = L := by
      have key : ∀ (ds : List OpD) (m : Nat), b ≤ m → envF ds m (fun k => decide (k < b + 0)) L = L := by
        intro ds
        induction ds with
        | nil => intro m _; rfl
        | cons x xs ih => intro m hm; simp only [envF]; rw [if_neg (by simp; omega)]; exact ih _ (by omega)
      exact key _ _ (Nat.le_refl _)
    rw [this]
    exact h.1
  | d0 :: ds, L, b, h, i + 1, d, hd => by
    have := Reads.get (b + 1) h.2 (i := i) (d := d) (by simpa using hd)
    rw [envF, if_pos (by simp)]
    rwa [show b + 1 + i = b + (i + 1) by omega] at this

theorem region_any {ds : List OpD} {W : Nat → World} (hok : allOK ds = true) (hO : Obl P n (ds.map (·.o)).toArray W ds) (hR : Reads ds L0) (hd : ∀ (i : Nat) (d : OpD) (t : Nat), ds[i]? = some d → d.o.dst = some t → t < n)
    (hQ : ∀ a, Has n (envF ds 0 (fun _ => true) L0) a → Q .normal a (W (cnt ds 0 fun _ => true))) :
    ∀ (fuel : Nat) (listed : Array Bool) (a : Act), listed.size = ds.length →
      (∀ (i : Nat) (d : OpD), ds[i]? = some d → listed.getD i false = true → ∀ e ∈ d.o.after.toList, Region.binds .any e = true → listed.getD e.on false = true) →
      Has n (envF ds 0 (fun k => listed.getD k false) L0) a → fuel = ((List.range ds.length).filter fun i => !listed.getD i false).length →
      wpAny P .any (ds.map (·.o)).toArray Q fuel listed a (W (cnt ds 0 fun k => listed.getD k false)) := by
  simp only [allOK, Bool.and_eq_true] at hok
  obtain ⟨⟨⟨⟨hcl, hds⟩, hli⟩, hrg⟩, hed⟩ := hok
  have zi : ∀ (i : Nat) (d : OpD), ds[i]? = some d → (d, i) ∈ ds.zipIdx := fun i d h => List.mem_zipIdx_iff_getElem?.2 h
  have hed' : ∀ (i : Nat) (d : OpD), ds[i]? = some d → ∀ e ∈ d.o.after.toList, Region.binds .any e = true → e.on < i := fun i d h e he hb => by
    have := List.all_eq_true.1 (List.all_eq_true.1 hed _ (zi i d h)) e he
    simpa [hb] using this
  have hcl' : ∀ (i : Nat) (d : OpD), ds[i]? = some d → ∀ k ∈ d.cl, ∃ e ∈ d.o.after.toList, Region.binds .any e = true ∧ e.on < i ∧ (k = e.on ∨ ∃ d', ds[e.on]? = some d' ∧ k ∈ d'.cl) := fun i d h k hk => by
    have := List.all_eq_true.1 (List.all_eq_true.1 hcl _ (zi i d h)) k hk
    obtain ⟨e, he, hx⟩ := List.any_eq_true.1 this
    simp only [Bool.and_eq_true, decide_eq_true_eq, Bool.or_eq_true, beq_iff_eq, Option.any_eq_true, List.contains_iff_mem] at hx
    exact ⟨e, he, hx.1.1, hx.1.2, hx.2⟩
  have hds' : ∀ (i k : Nat) (d d' : OpD) (t : Nat), ds[i]? = some d → ds[k]? = some d' → i < k → d.o.dst = some t → d'.o.dst = some t → i ∈ d'.cl := fun i k d d' t h h' hik ht ht' => by
    have := List.all_eq_true.1 hds _ (zi i d h)
    simp only [ht, Option.all_some] at this
    have := List.all_eq_true.1 this _ (zi k d' h')
    simpa [hik, ht'] using this
  have hli' : ∀ (i k : Nat) (d d' : OpD) (t : Nat) (u : Value), ds[i]? = some d → ds[k]? = some d' → (t, u) ∈ d.li → d'.o.dst = some t → k = i ∨ (k < i ∧ k ∈ d.cl) ∨ (i < k ∧ i ∈ d'.cl) := fun i k d d' t u h h' ht ht' => by
    have := List.all_eq_true.1 (List.all_eq_true.1 (List.all_eq_true.1 hli _ (zi i d h)) _ ht) _ (zi k d' h')
    simp only [ht', bne_self_eq_false, Bool.or_false, Bool.or_eq_true, beq_iff_eq, Bool.and_eq_true, decide_eq_true_eq, List.contains_iff_mem] at this
    rcases this with (h1 | h1) | h1
    · exact .inl h1
    · exact .inr (.inl h1)
    · exact .inr (.inr h1)
  have hrg' : ∀ (i : Nat) (d : OpD), ds[i]? = some d → d.lo ≤ (cnt ds 0 fun k => d.cl.contains k) ∧ (cnt ds 0 fun k => k != i && !((ds[k]?).any fun d' => d'.cl.contains i)) ≤ d.hi := fun i d h => by
    have := List.all_eq_true.1 hrg _ (zi i d h)
    simpa using this
  -- what lies ahead of a listed one is listed
  have closed : ∀ (listed : Array Bool), (∀ (i : Nat) (d : OpD), ds[i]? = some d → listed.getD i false = true → ∀ e ∈ d.o.after.toList, Region.binds .any e = true → listed.getD e.on false = true) →
      ∀ (i : Nat) (d : OpD), ds[i]? = some d → (∀ e ∈ d.o.after.toList, Region.binds .any e = true → listed.getD e.on false = true) → ∀ k ∈ d.cl, listed.getD k false = true := by
    intro listed hc i
    induction i using Nat.strongRecOn with
    | _ i ih =>
      intro d hd0 he k hk
      obtain ⟨e, he1, he2, he3, he4⟩ := hcl' i d hd0 k hk
      rcases he4 with rfl | ⟨d', hd', hk'⟩
      · exact he e he1 he2
      · exact ih e.on he3 d' hd' (hc e.on d' hd' (he e he1 he2)) k hk'
  have opsAt : ∀ (i : Nat), (ds.map fun d => d.o).toArray[i]? = (ds[i]?).map (fun d : OpD => d.o) := fun i => by simp
  intro fuel
  induction fuel with
  | zero =>
    intro listed a hsz hc ha hf
    have hall : ∀ k, k < ds.length → listed.getD k false = true := fun k hk => by
      cases h : listed.getD k false with
      | true => rfl
      | false =>
        have : k ∈ (List.range ds.length).filter fun i => !listed.getD i false := by simp [hk]; simpa using h
        rw [List.eq_nil_of_length_eq_zero hf.symm] at this
        cases this
    have e1 : envF ds 0 (fun k => listed.getD k false) L0 = envF ds 0 (fun _ => true) L0 := by
      have key : ∀ (l : List OpD) (m : Nat) (L : List (Nat × Value)), m + l.length ≤ ds.length → envF l m (fun k => listed.getD k false) L = envF l m (fun _ => true) L := by
        intro l
        induction l with
        | nil => intro m L _; rfl
        | cons x xs ih => intro m L hm; simp only [envF]; simp only [List.length_cons] at hm; rw [if_pos (hall m (by omega)), if_pos trivial]; exact ih _ _ (by omega)
      exact key ds 0 L0 (by omega)
    have e2 : (cnt ds 0 fun k => listed.getD k false) = cnt ds 0 fun _ => true := cnt_eq ds 0 fun k hk => by simpa using hall k hk
    rw [e2]
    refine ⟨?_, hQ a (e1 ▸ ha)⟩
    unfold Region.ready
    rw [List.filter_eq_nil_iff]
    intro i hi
    simp at hi
    have := hall i hi
    simp only [Array.getD_eq_getD_getElem?] at this ⊢
    have h3 : listed[i]? = some true := by
      cases h4 : listed[i]? with
      | none => simp [h4] at this
      | some b => simpa [h4] using this
    simp [h3]
  | succ fuel ih =>
    intro listed a hsz hc ha hf
    have some_ready : Region.ready .any (ds.map (·.o)).toArray listed ≠ [] := by
      have hne : ((List.range ds.length).filter fun i => !listed.getD i false) ≠ [] := fun h => by rw [h] at hf; cases hf
      obtain ⟨x, hx⟩ := List.exists_mem_of_ne_nil _ hne
      have hx' : x < ds.length ∧ listed.getD x false = false := by simpa using hx
      have hmin : ∃ m, (m < ds.length ∧ listed.getD m false = false) ∧ ∀ k, k < m → ¬ (k < ds.length ∧ listed.getD k false = false) := by
        clear hx hf hne
        induction x using Nat.strongRecOn with
        | _ x ihx =>
          by_cases h : ∃ k, k < x ∧ (k < ds.length ∧ listed.getD k false = false)
          · obtain ⟨k, hk, hk'⟩ := h
            exact ihx k hk hk'
          · exact ⟨x, hx', fun k hk hk' => h ⟨k, hk, hk'⟩⟩
      obtain ⟨m, ⟨hm1, hm2⟩, hm3⟩ := hmin
      intro hr
      have : m ∈ Region.ready .any (ds.map (·.o)).toArray listed := by
        unfold Region.ready
        simp only [List.mem_filter, List.mem_range, Bool.and_eq_true, Bool.not_eq_true']
        have hl : listed[m]? = some false := by
          have h4 : m < listed.size := by omega
          simp only [Array.getD_eq_getD_getElem?] at hm2
          simpa [h4] using hm2
        refine ⟨by simpa using hm1, by simp [hl], ?_⟩
        rw [opsAt]
        obtain ⟨d, hd0⟩ : ∃ d, ds[m]? = some d := ⟨_, List.getElem?_eq_getElem hm1⟩
        rw [hd0]
        simp only [Option.map_some, Option.getD_some]
        rw [← Array.all_toList, List.all_eq_true]
        intro e he
        by_cases hb : Region.binds .any e = true
        · have h5 := hed' m d hd0 e he hb
          have h6 : listed.getD e.on false = true := by
            cases h7 : listed.getD e.on false with
            | true => rfl
            | false => exact (hm3 e.on h5 ⟨by omega, h7⟩).elim
          simp [h6]
        · simp at hb; simp [hb]
      rw [hr] at this
      cases this
    refine ⟨fun h => (some_ready h).elim, fun i hi => ?_⟩
    unfold Region.ready at hi
    simp only [List.mem_filter, List.mem_range, Bool.and_eq_true, Bool.not_eq_true'] at hi
    obtain ⟨hi1, hi2, hi3⟩ := hi
    have hi1' : i < ds.length := by simpa using hi1
    obtain ⟨d, hd0⟩ : ∃ d, ds[i]? = some d := ⟨_, List.getElem?_eq_getElem hi1'⟩
    have hun : listed.getD i false = false := by
      have h4 : i < listed.size := by omega
      simp only [Array.getD_eq_getD_getElem?] at hi2 ⊢
      simpa [h4] using hi2
    rw [opsAt, hd0] at hi3
    simp only [Option.map_some, Option.getD_some] at hi3
    rw [← Array.all_toList, List.all_eq_true] at hi3
    have hed2 : ∀ e ∈ d.o.after.toList, Region.binds .any e = true → listed.getD e.on false = true := fun e he hb => by
      have := hi3 e he
      simpa [hb] using this
    have hcl2 := closed listed hc i d hd0 hed2
    have notl : ∀ k (d' : OpD), ds[k]? = some d' → i ∈ d'.cl → listed.getD k false = false := fun k d' hk hik => by
      cases h : listed.getD k false with
      | false => rfl
      | true =>
        have := closed listed hc k d' hk (hc k d' hk h) i hik
        rw [hun] at this; cases this
    have hj1 : d.lo ≤ cnt ds 0 fun k => listed.getD k false := Nat.le_trans (hrg' i d hd0).1 (cnt_le ds 0 fun k d' h1 h2 h3 => by
      simp only [Nat.zero_add] at h3 ⊢
      exact hcl2 k (by simpa using h3))
    have hj2 : (cnt ds 0 fun k => listed.getD k false) ≤ d.hi := Nat.le_trans (cnt_le ds 0 fun k d' h1 h2 h3 => by
      simp only [Nat.zero_add] at h3 ⊢
      simp only [Bool.and_eq_true, bne_iff_ne, Bool.not_eq_true', Option.any_eq_false]
      refine ⟨fun e => ?_, fun d'' h4 => ?_⟩
      · subst e; rw [hun] at h3; cases h3
      · rw [h1] at h4; cases h4
        simp only [List.contains_eq_mem, decide_eq_false_iff_not]
        intro h5
        rw [notl k d' h1 h5] at h3; cases h3) (hrg' i d hd0).2
    have hop := hO.get hd0 _ hj1 hj2
    have hLi : Has n d.li a := by
      have hs := Reads.get 0 hR hd0
      refine ⟨ha.d, ha.z, fun t v hv => ha.l t v ?_⟩
      have h1 := hs.look hv
      obtain ⟨u, hu⟩ := lookup_mem hv
      rw [lookup_envF] at h1 ⊢
      rw [← h1]
      congr 1
      refine lastW_same ds 0 fun k d' hk hkd => ?_
      simp only [Nat.zero_add]
      rcases hli' i k d d' t u hd0 hk hu hkd with rfl | ⟨h2, h3⟩ | ⟨h2, h3⟩
      · rw [hun]; simp
      · rw [hcl2 k h3]; simp [h2]
      · rw [notl k d' hk h3]; simp; omega
    have goal := fun K hk => hop a hLi K Q hk
    unfold wpOp
    rw [opsAt, hd0]
    simp only [Option.map_some]
    have hK := goal (wpAny P .any (ds.map (·.o)).toArray Q fuel (listed.setIfInBounds i true)) ?_
    · split
      · rename_i hw; rw [if_pos hw] at hK; exact .inl hK
      · rename_i hw; rw [if_neg hw] at hK; exact hK
    have hset : ∀ k, (listed.setIfInBounds i true).getD k false = addS (fun k => listed.getD k false) i k := fun k => by
      simp only [addS, Array.getD_eq_getD_getElem?]
      by_cases h : k = i
      · subst h
        have : k < listed.size := by omega
        simp [this]
      · rw [Array.getElem?_setIfInBounds_ne (Ne.symm h), if_neg h]
    have hset' : (fun k => (listed.setIfInBounds i true).getD k false) = addS (fun k => listed.getD k false) i := funext hset
    have hcnt := cnt_add (S := fun k => listed.getD k false) (j := i) ds 0 i d hd0 (by omega) hun
    have hfin := ih (listed.setIfInBounds i true) (a.put d.o.dst d.v) (by simpa using hsz) ?_ ?_ ?_
    · rw [hset', hcnt] at hfin
      exact hfin
    · intro k d' hk hl e he hb
      rw [hset] at hl ⊢
      simp only [addS] at hl ⊢
      split
      · rfl
      · split at hl
        · rename_i h1 h2; subst h2; rw [hd0] at hk; cases hk; exact hed2 e he hb
        · exact hc k d' hk hl e he hb
    · have hput := ha.put d.o.dst (fun t ht => hd i d t hd0 ht) d.v
      refine ⟨hput.d, hput.z, fun t v hv => hput.l t v ?_⟩
      rw [hset'] at hv
      rw [lookup_upd]
      rw [lookup_envF] at hv ⊢
      by_cases ht : d.o.dst = some t
      · rw [if_pos ht]
        rw [lastW_is ds 0 i d hd0 ht (by simp [addS]) (fun k' d' h1 h2 h3 => by
          simp only [Nat.zero_add, addS]
          rw [if_neg (by omega)]
          exact notl k' d' h2 (hds' i k' d d' t hd0 h2 h1 ht h3))] at hv
        simpa using hv
      · rw [if_neg ht]
        rw [← hv]
        congr 1
        refine lastW_same ds 0 fun k d' hk hkd => ?_
        simp only [Nat.zero_add, addS]
        split
        · rename_i h1; subst h1; rw [hd0] at hk; cases hk; exact (ht hkd).elim
        · rfl
    · have h1 : (List.range ds.length).filter (fun k => !(listed.setIfInBounds i true).getD k false) = ((List.range ds.length).filter fun k => !listed.getD k false).filter (fun k => k != i) := by
        rw [List.filter_filter]
        apply List.filter_congr
        intro k _
        rw [hset]
        simp only [addS]
        by_cases h : k = i <;> simp [h]
      rw [h1]
      have hmem : i ∈ (List.range ds.length).filter fun k => !listed.getD k false := by
        simp only [List.mem_filter, List.mem_range]; exact ⟨hi1', by rw [hun]; rfl⟩
      have hnd : ((List.range ds.length).filter fun k => !listed.getD k false).Nodup := List.nodup_range.filter _
      have := hnd.erase_eq_filter i
      rw [← this, List.length_erase_of_mem hmem, ← hf]
      rfl

theorem region_draw {ds : List OpD} {W : Nat → World} {id : Nat} {w : World} {a : Act} (hm : P.follows .mixedOrders = true) (ha : Has n L0 a) (h0 : W 0 = w.drew) (hok : allOK ds = true) (hO : Obl P n (ds.map (·.o)).toArray W ds) (hR : Reads ds L0)
    (hd : (ds.all fun d => d.o.dst.all fun t => decide (t < n)) = true) {m : Nat} (hcm : cnt ds 0 (fun _ => true) = m)
    (hQ : ∀ a, Has n (envF ds 0 (fun _ => true) L0) a → Q .normal a (W m)) : (Code.region id (ds.map (·.o)).toArray true).wp P Q a w := by
  subst hcm
  refine wp_region_any hm ?_
  have hz : ∀ k, (Array.replicate ds.length false).getD k false = false := fun k => by
    simp only [Array.getD_eq_getD_getElem?, Array.getElem?_replicate]; split <;> rfl
  have hS : (fun k => (Array.replicate ds.length false).getD k false) = fun _ => false := funext hz
  have key : ∀ (l : List OpD) (i : Nat) (L : List (Nat × Value)), envF l i (fun _ => false) L = L := by
    intro l; induction l with
    | nil => intro i L; rfl
    | cons x xs ih => intro i L; simp only [envF]; rw [if_neg (by simp)]; exact ih _ _
  have key2 : ∀ (l : List OpD) (i : Nat), cnt l i (fun _ => false) = 0 := by
    intro l; induction l with
    | nil => intro i; rfl
    | cons x xs ih => intro i; simp [cnt, ih]
  have h := region_any (P := P) (n := n) (L0 := L0) (Q := Q) hok hO hR (fun i d t hi ht => by
    have h1 := List.all_eq_true.1 hd d (List.mem_of_getElem? hi)
    simpa [ht] using h1) hQ ds.length (Array.replicate ds.length false) a (by simp) (fun i d _ hl => by rw [hz] at hl; cases hl) (by rw [hS, key]; exact ha) (by
      have : ((List.range ds.length).filter fun i => !(Array.replicate ds.length false).getD i false) = List.range ds.length := by
        rw [List.filter_eq_self]; intro k _; rw [hz]; rfl
      rw [this, List.length_range])
  rw [hS, key2, h0] at h
  have e : (ds.map (·.o)).toArray.size = ds.length := by simp
  rw [e]
  exact h
end
end Go.Proofs.Ytejkaciimmfgcaa.D
