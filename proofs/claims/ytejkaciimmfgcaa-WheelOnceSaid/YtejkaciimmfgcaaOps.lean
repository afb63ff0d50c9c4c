/- Each operation's law: what it yields, and what becomes of the memory. -/
import Derived.Test.YtejkaciimmfgcaaBase
import Derived.Laws.OwnMore
import Derived.Laws.IdiomCopy
namespace Go.Proofs.Ytejkaciimmfgcaa.D
open Go
set_option linter.unusedVariables false
set_option linter.unusedSimpArgs false

/-! ### What is read -/
def ldI (k : IntKind) (w : World) (a : Addr) : Option Int := match w.cell? a with | some (.int k' x) => if k' = k then some x else none | _ => none
def ldB (w : World) (a : Addr) : Option Bool := match w.cell? a with | some (.bool b) => some b | _ => none
def ldS (w : World) (a : Addr) : Option ByteArray := match w.cell? a with | some (.string s) => some s | _ => none
def ldP (w : World) (a : Addr) : Option (Option Addr) := match w.cell? a with | some (.pointer p) => some p | _ => none
def ldL (w : World) (a : Addr) : Option Sl := match w.cell? a with | some (.slice p n c) => some ⟨p, n, c⟩ | _ => none
def ldM (w : World) (a : Addr) : Option (Option Nat) := match w.cell? a with | some (.map r) => some r | _ => none
def ldV (w : World) (a : Addr) : Option Value := w.cell? a
def ldA : Nat → World → Addr → Nat → Option (List Value)
  | 0, _, _, _ => some []
  | n + 1, w, a, i => (w.cell? (a.add i)).bind fun v => (ldA n w a (i + 1)).bind fun l => some (v :: l)
theorem ldI_c {k : IntKind} {w : World} {a : Addr} {x : Int} (h : ldI k w a = some x) : w.cell? a = some (.int k x) := by
  unfold ldI at h
  split at h
  · rename_i k' y e
    split at h
    · rename_i hk; subst hk; cases h; exact e
    · cases h
  · cases h
theorem ldB_c {w : World} {a : Addr} {x : Bool} (h : ldB w a = some x) : w.cell? a = some (.bool x) := by
  unfold ldB at h; split at h <;> cases h; assumption
theorem ldS_c {w : World} {a : Addr} {x : ByteArray} (h : ldS w a = some x) : w.cell? a = some (.string x) := by
  unfold ldS at h; split at h <;> cases h; assumption
theorem ldP_c {w : World} {a : Addr} {x : Option Addr} (h : ldP w a = some x) : w.cell? a = some (.pointer x) := by
  unfold ldP at h; split at h <;> cases h; assumption
theorem ldL_c {w : World} {a : Addr} {x : Sl} (h : ldL w a = some x) : w.cell? a = some (x.v) := by
  unfold ldL at h; split at h <;> cases h; assumption
theorem ldM_c {w : World} {a : Addr} {x : Option Nat} (h : ldM w a = some x) : w.cell? a = some (.map x) := by
  unfold ldM at h; split at h <;> cases h; assumption
theorem ldV_c {w : World} {a : Addr} {x : Value} (h : ldV w a = some x) : w.cell? a = some x := h
theorem ldA_c : ∀ {n : Nat} {w : World} {a : Addr} {i : Nat} {l : List Value}, ldA n w a i = some l → l.length = n ∧ ∀ j v, l[j]? = some v → w.cell? (a.add (i + j)) = some v
  | 0, _, _, _, _, h => by cases h; simp
  | n + 1, w, a, i, l, h => by
    unfold ldA at h
    obtain ⟨v, e1, h⟩ := bs1 h
    obtain ⟨m, e2, h⟩ := bs1 h
    cases h
    obtain ⟨h1, h2⟩ := ldA_c e2
    refine ⟨by simp [h1], fun j u hu => ?_⟩
    cases j with
    | zero => simp at hu; subst hu; exact e1
    | succ j =>
      have := h2 j u (by simpa using hu)
      rwa [show i + (j + 1) = i + 1 + j by omega]
/-! ### What is written -/
def stV (w : World) (a : Addr) (v : Value) : Option World := if v.oneCell' = true ∧ (w.cell? a).isSome = true ∧ w.frozen? a = false then some (w.setCell a v) else none
def stA : World → Addr → Nat → List Value → Option World
  | w, _, _, [] => some w
  | w, a, i, v :: l => (stV w (a.add i) v).bind fun w' => stA w' a (i + 1) l
def mk (w : World) (t : TypeId) (cs : List Value) : Option (Addr × World) := some (⟨w.heap.size, 0, none⟩, w.alloc (.cells cs.toArray t))
section
variable {P : Program} {n : Nat} {L : List (Nat × Value)} {a : Act} {w w' : World}
theorem stV_run {ad : Addr} {v : Value} (h : stV w ad v = some w') : v.oneCell' = true ∧ (store ad v).run P w = .ok () w' := by
  unfold stV at h
  split at h
  · rename_i hc
    obtain ⟨h1, h2, h3⟩ := hc
    cases h
    refine ⟨h1, ?_⟩
    rw [run_store _ _ _ _ _ h1]
    obtain ⟨u, hu⟩ := Option.isSome_iff_exists.1 h2
    simp [hu, h3]
  · cases h
theorem stA_run : ∀ {l : List Value} {ad : Addr} {i : Nat} {w w' : World}, stA w ad i l = some w' → (storeCells ad l i).run P w = .ok () w'
  | [], _, _, _, _, h => by cases h; rfl
  | v :: l, ad, i, w, w', h => by
    unfold stA at h
    obtain ⟨w1, e1, h⟩ := bs1 h
    have := (stV_run (P := P) e1).2
    simp only [storeCells, Sem.run_bind, this, Result.andThen_ok, stA_run h]
theorem cells_one {v : Value} (h : v.oneCell' = true) : v.cells = #[v] := by
  cases v <;> simp_all [Value.oneCell', Value.cells]
/-! ### Moves -/
theorem d_move {d ty pos af g x v} (ha : Has n L a) (hx : evO L x = some v) : Does P ⟨d, .move x, ty, pos, af, g⟩ a w v w :=
  does_v (by simp [execOp, ha.ev hx])
theorem d_assign {d ty pos af g x v} (ha : Has n L a) (hx : evO L x = some v) : Does P ⟨d, .assign x, ty, pos, af, g⟩ a w v w :=
  does_v (by simp [execOp, ha.ev hx])
theorem d_pick {d ty pos af g c x y u v} {b : Bool} (ha : Has n L a) (hc : evO L c = some (.bool b)) (hx : b = true → evO L x = some u) (hy : b = false → evO L y = some v) :
    Does P ⟨d, .pick c x y, ty, pos, af, g⟩ a w (if b = true then u else v) w := by
  refine does_v ?_
  cases b with
  | true => simp [execOp, ha.ev hc, ha.ev (hx rfl), asBool]
  | false => simp [execOp, ha.ev hc, ha.ev (hy rfl), asBool]
theorem d_pick_t {d ty pos af g c x y u} {b : Bool} (ha : Has n L a) (hc : evO L c = some (.bool b)) (hb : b = true) (hx : evO L x = some u) :
    Does P ⟨d, .pick c x y, ty, pos, af, g⟩ a w u w := by
  subst hb
  exact does_v (by simp [execOp, ha.ev hc, ha.ev hx, asBool])
theorem d_pick_f {d ty pos af g c x y v} {b : Bool} (ha : Has n L a) (hc : evO L c = some (.bool b)) (hb : b ≠ true) (hy : evO L y = some v) :
    Does P ⟨d, .pick c x y, ty, pos, af, g⟩ a w v w := by
  have : b = false := by simpa using hb
  subst this
  exact does_v (by simp [execOp, ha.ev hc, ha.ev hy, asBool])
theorem d_pick_b {d ty pos af g c x y} {b u v : Bool} (ha : Has n L a) (hc : evO L c = some (.bool b)) (hx : evO L x = some (.bool u)) (hy : evO L y = some (.bool v)) :
    Does P ⟨d, .pick c x y, ty, pos, af, g⟩ a w (.bool (if b = true then u else v)) w := by
  refine does_v ?_
  cases b <;> simp [execOp, ha.ev hc, ha.ev hx, ha.ev hy, asBool]
/-! ### Memory -/
theorem d_ld {d ty pos af g t x} {ad : Addr} {v : Value} (ha : Has n L a) (hx : evO L x = some (.pointer (some ad))) (ht : ∀ w, (isAgg t).run P w = .ok false w) (h : w.cell? ad = some v) :
    Does P ⟨d, .load t x, ty, pos, af, g⟩ a w v w :=
  does_v (by simp [execOp, ha.ev hx, Instr.loadAt, Instr.sureAddr, loadVar, ht, run_load, h])
theorem d_ldA {d ty pos af g t x sz} {ad : Addr} {cs : List Value} (ha : Has n L a) (hx : evO L x = some (.pointer (some ad))) (ht : ∀ w, (isAgg t).run P w = .ok true w) (hz : ∀ w, (sizeOf t).run P w = .ok sz w)
    (h : ldA sz w ad 0 = some cs) : Does P ⟨d, .load t x, ty, pos, af, g⟩ a w (.agg cs.toArray) w := by
  obtain ⟨h1, h2⟩ := ldA_c h
  have hl := run_loadCells_list (P := P) w ad cs (fun j v hv => by simpa using h2 j v hv)
  rw [h1] at hl
  exact does_v (by simp [execOp, ha.ev hx, Instr.loadAt, Instr.sureAddr, loadVar, ht, hz, hl])
theorem d_st {d ty pos af g t x y} {ad : Addr} {v : Value} (ha : Has n L a) (hx : evO L x = some (.pointer (some ad))) (hy : evO L y = some v) (hz : ∀ w, (sizeOf t).run P w = .ok 1 w) (h : stV w ad v = some w') :
    Does P ⟨d, .store t x y, ty, pos, af, g⟩ a w undef w' := by
  obtain ⟨h1, h2⟩ := stV_run (P := P) h
  refine does_u ?_
  have hadd : ad.add 0 = ad := by simp [Addr.add]
  simp [execOp, ha.ev hx, ha.ev hy, Instr.storeAt, Instr.sureAddr, storeVar, cells_one h1, hz, storeCells, hadd, h2]
theorem d_stA {d ty pos af g t x y sz} {ad : Addr} {cs : List Value} (ha : Has n L a) (hx : evO L x = some (.pointer (some ad))) (hy : evO L y = some (.agg cs.toArray)) (hz : ∀ w, (sizeOf t).run P w = .ok sz w) (hl : cs.length = sz)
    (h : stA w ad 0 cs = some w') : Does P ⟨d, .store t x y, ty, pos, af, g⟩ a w undef w' := by
  refine does_u ?_
  simp [execOp, ha.ev hx, ha.ev hy, Instr.storeAt, Instr.sureAddr, storeVar, Value.cells, hz, hl, stA_run (P := P) h]
theorem d_alloc {d ty pos af g t} {z : Value} {cs : List Value} {ad : Addr} (hz : ∀ w, (zeroValue t).run P w = .ok z w) (hc : z.cells = cs.toArray) (h : mk w t cs = some (ad, w')) :
    Does P ⟨d, .alloc t, ty, pos, af, g⟩ a w (.pointer (some ad)) w' := by
  cases h
  exact does_v (by simp [execOp, Instr.alloc, hz, newVar, newRow, hc])
theorem d_box {d ty pos af g t x} {v : Value} {cs : List Value} {ad : Addr} (ha : Has n L a) (hx : evO L x = some v) (hc : v.cells = cs.toArray) (h : mk w t cs = some (ad, w')) :
    Does P ⟨d, .box t x, ty, pos, af, g⟩ a w (.pointer (some ad)) w' := by
  cases h
  exact does_v (by simp [execOp, ha.ev hx, Instr.box, newVar, newRow, hc])
theorem d_nil {d ty pos af g x} {ad : Addr} (ha : Has n L a) (hx : evO L x = some (.pointer (some ad))) : Does P ⟨d, .nilCheck x, ty, pos, af, g⟩ a w (.pointer (some ad)) w :=
  does_v (by simp [execOp, ha.ev hx])
theorem d_nilp {d ty pos af g x} {p : Option Addr} {ad : Addr} (ha : Has n L a) (hx : evO L x = some (.pointer p)) (hp : p = some ad) : Does P ⟨d, .nilCheck x, ty, pos, af, g⟩ a w (.pointer (some ad)) w := by
  subst hp; exact d_nil ha hx
theorem d_fa {d ty pos af g t x k} {ad : Addr} {fs : Array Field} {f : Field} {off sz : Nat} (ha : Has n L a) (hx : evO L x = some (.pointer (some ad))) (ht : ∀ w, (underlying t).run P w = .ok (.struct fs) w)
    (hf : fs[k]? = some f) (ho : f.offset = off) (hz : ∀ w, (sizeOf f.type).run P w = .ok sz w) (h0 : sz ≠ 0) : Does P ⟨d, .fieldAddr t x k, ty, pos, af, g⟩ a w (.pointer (some (ad.add off))) w := by
  subst ho
  exact does_v (by simp [execOp, ha.ev hx, Instr.fieldAt, ht, hf, Instr.sureAddr, fieldPlace, hz, h0])
def ix (s : Sl) (i : Int) (sz : Nat) : Option Addr := s.p.bind fun ad => if 0 ≤ i ∧ i < s.n then some (ad.add (i.toNat * sz)) else none
def ixA (ad : Addr) (i : Int) (len sz : Nat) : Option Addr := if 0 ≤ i ∧ i < len then some (ad.add (i.toNat * sz)) else none
theorem d_ix {d ty pos af g t x y k e sz} {s : Sl} {i : Int} {ad : Addr} (ha : Has n L a) (hx : evO L x = some s.v) (hy : evO L y = some (.int k i)) (ht : ∀ w, (underlying t).run P w = .ok (.slice e) w)
    (hz : ∀ w, (sizeOf e).run P w = .ok sz w) (h : ix s i sz = some ad) : Does P ⟨d, .indexAddr t x y, ty, pos, af, g⟩ a w (.pointer (some ad)) w := by
  obtain ⟨b, hb, h⟩ := bs1 h
  split at h
  · rename_i hi
    cases h
    obtain ⟨p, n', c⟩ := s
    simp only at hb hi
    subst hb
    exact does_v (by simp [execOp, ha.ev hx, ha.ev hy, Sl.v, Instr.indexAt, asIntOf, ht, hi, hz])
  · cases h
theorem d_ixA {d ty pos af g t x y k e sz len} {b : Addr} {i : Int} {ad : Addr} (ha : Has n L a) (hx : evO L x = some (.pointer (some b))) (hy : evO L y = some (.int k i)) (ht : ∀ w, (underlying t).run P w = .ok (.array len e) w)
    (hz : ∀ w, (sizeOf e).run P w = .ok sz w) (h : ixA b i len sz = some ad) : Does P ⟨d, .indexAddr t x y, ty, pos, af, g⟩ a w (.pointer (some ad)) w := by
  unfold ixA at h
  split at h
  · rename_i hi
    cases h
    exact does_v (by simp [execOp, ha.ev hx, ha.ev hy, Instr.indexAt, Instr.sureAddr, asIntOf, ht, hi, hz])
  · cases h
def ixS (s : ByteArray) (i : Int) : Option Int := if 0 ≤ i then (s[i.toNat]?).map fun b => (b.toNat : Int) else none
theorem d_ixS {d ty pos af g t x y k} {s : ByteArray} {i v : Int} (ha : Has n L a) (hx : evO L x = some (.string s)) (hy : evO L y = some (.int k i)) (ht : ∀ w, (underlying t).run P w = .ok .string w) (h : ixS s i = some v) :
    Does P ⟨d, .index t x y, ty, pos, af, g⟩ a w (.int .u8 v) w := by
  unfold ixS at h
  split at h
  · rename_i hi
    cases e : s[i.toNat]? with
    | none => rw [e] at h; cases h
    | some b =>
      rw [e] at h
      cases h
      exact does_v (by simp [execOp, ha.ev hx, ha.ev hy, Instr.index, asIntOf, ht, hi, e])
  · cases h
/-! ### Slices -/
def slS (s : Sl) (lo hi m : Int) (sz : Nat) : Option Sl :=
  if 0 ≤ lo ∧ lo ≤ hi ∧ hi ≤ m ∧ m ≤ s.c then some ⟨if m = lo then s.p else s.p.map (·.add (lo.toNat * sz)), (hi - lo).toNat, (m - lo).toNat⟩ else none
def slA (ad : Addr) (len : Nat) (lo hi m : Int) (sz : Nat) : Option Sl :=
  if 0 ≤ lo ∧ lo ≤ hi ∧ hi ≤ m ∧ m ≤ len then some ⟨some (if m = lo then ad else ad.add (lo.toNat * sz)), (hi - lo).toNat, (m - lo).toNat⟩ else none
def slT (s : ByteArray) (lo hi : Int) : Option ByteArray := if 0 ≤ lo ∧ lo ≤ hi ∧ hi ≤ s.size then some (s.extract lo.toNat hi.toNat) else none
/-- A bound of a slice expression, given or not. -/
def BdO (L : List (Nat × Value)) (o : Option Operand) (dflt x : Int) : Prop := match o with | none => x = dflt | some y => ∃ k, evO L y = some (.int k x)
theorem run_bd {k : IntKind} {i : Int} {y : Nat} {code : BoundsCode} (h0 : 0 ≤ i) (h1 : i ≤ y) : (Instr.sliceBound (.int k i) y code).run P w = .ok i.toNat w := by
  simp [Instr.sliceBound, asIntOf, h0, h1]
theorem run_sliceBounds {b : Bool} {len cap : Nat} {lo hi mx : Option Operand} {l h m : Int} (ha : Has n L a) (hl : BdO L lo 0 l) (hh : BdO L hi len h) (hm : BdO L mx cap m) (hn : mx.isSome = true → hi.isSome = true)
    (h0 : 0 ≤ l) (h1 : l ≤ h) (h2 : h ≤ m) (h3 : m ≤ cap) :
    (Instr.sliceBounds b len cap (lo.map a.eval) (hi.map a.eval) (mx.map a.eval)).run P w = .ok (l.toNat, h.toNat, m.toNat) w := by
  have hmn : (m.toNat : Int) = m := Int.toNat_of_nonneg (by omega)
  have hhn : (h.toNat : Int) = h := Int.toNat_of_nonneg (by omega)
  cases mx with
  | none =>
    have hm : m = cap := hm
    subst hm
    cases hi with
    | none =>
      have hh : h = len := hh
      subst hh
      cases lo with
      | none => have hl : l = 0 := hl; subst hl; simp [Instr.sliceBounds]
      | some y => obtain ⟨k, hk⟩ := hl; simp [Instr.sliceBounds, ha.ev hk, run_bd h0 h1]
    | some z =>
      obtain ⟨k', hk'⟩ := hh
      have e1 := fun c => run_bd (P := P) (w := w) (k := k') (i := h) (y := cap) (code := c) (by omega) (by omega)
      cases lo with
      | none => have hl : l = 0 := hl; subst hl; simp [Instr.sliceBounds, ha.ev hk', e1]
      | some y =>
        obtain ⟨k, hk⟩ := hl
        have e2 := fun c => run_bd (P := P) (w := w) (k := k) (i := l) (y := h.toNat) (code := c) (by omega) (by omega)
        simp [Instr.sliceBounds, ha.ev hk, ha.ev hk', e1, e2]
  | some q =>
    obtain ⟨k'', hk''⟩ := hm
    have e0 := fun c => run_bd (P := P) (w := w) (k := k'') (i := m) (y := cap) (code := c) (by omega) (by omega)
    cases hi with
    | none => simp at hn
    | some z =>
      obtain ⟨k', hk'⟩ := hh
      have e1 := fun c => run_bd (P := P) (w := w) (k := k') (i := h) (y := m.toNat) (code := c) (by omega) (by omega)
      cases lo with
      | none => have hl : l = 0 := hl; subst hl; simp [Instr.sliceBounds, ha.ev hk', ha.ev hk'', e0, e1]
      | some y =>
        obtain ⟨k, hk⟩ := hl
        have e2 := fun c => run_bd (P := P) (w := w) (k := k) (i := l) (y := h.toNat) (code := c) (by omega) (by omega)
        simp [Instr.sliceBounds, ha.ev hk, ha.ev hk', ha.ev hk'', e0, e1, e2]
theorem d_slS {d ty pos af g t x e sz} {lo hi mx : Option Operand} {s s' : Sl} {l h m : Int} (ha : Has n L a) (hx : evO L x = some s.v) (ht : ∀ w, (underlying t).run P w = .ok (.slice e) w) (hz : ∀ w, (sizeOf e).run P w = .ok sz w)
    (hl : BdO L lo 0 l) (hh : BdO L hi s.n h) (hm : BdO L mx s.c m) (hn : mx.isSome = true → hi.isSome = true) (hr : slS s l h m sz = some s') : Does P ⟨d, .slice t x lo hi mx, ty, pos, af, g⟩ a w s'.v w := by
  unfold slS at hr
  split at hr
  · rename_i hc
    obtain ⟨h0, h1, h2, h3⟩ := hc
    cases hr
    obtain ⟨p, n', c⟩ := s
    have hb := fun b => run_sliceBounds (P := P) (w := w) (b := b) ha hl hh hm hn h0 h1 h2 h3
    have e1 : (h - l).toNat = h.toNat - l.toNat := by omega
    have e2 : (m - l).toNat = m.toNat - l.toNat := by omega
    have e3 : (m.toNat = l.toNat) = (m = l) := by apply propext; omega
    refine does_v ?_
    simp only [execOp, ha.ev hx, Sl.v, Instr.sliceAt, Instr.slice, Sem.run_bind, ht, Result.andThen_ok, hb, hz, Sem.run_pure, e1, e2, e3]
  · cases hr
theorem d_slA {d ty pos af g t x e sz len} {lo hi mx : Option Operand} {ad : Addr} {s' : Sl} {l h m : Int} (ha : Has n L a) (hx : evO L x = some (.pointer (some ad))) (ht : ∀ w, (underlying t).run P w = .ok (.array len e) w) (hz : ∀ w, (sizeOf e).run P w = .ok sz w)
    (hl : BdO L lo 0 l) (hh : BdO L hi len h) (hm : BdO L mx len m) (hn : mx.isSome = true → hi.isSome = true) (hr : slA ad len l h m sz = some s') : Does P ⟨d, .slice t x lo hi mx, ty, pos, af, g⟩ a w s'.v w := by
  unfold slA at hr
  split at hr
  · rename_i hc
    obtain ⟨h0, h1, h2, h3⟩ := hc
    cases hr
    have hb := fun b => run_sliceBounds (P := P) (w := w) (b := b) ha hl hh hm hn h0 h1 h2 h3
    have e1 : (h - l).toNat = h.toNat - l.toNat := by omega
    have e2 : (m - l).toNat = m.toNat - l.toNat := by omega
    have e3 : (m.toNat = l.toNat) = (m = l) := by apply propext; omega
    refine does_v ?_
    simp only [execOp, ha.ev hx, Sl.v, Instr.sliceAt, Instr.sureAddr, Sem.run_bind, ht, Result.andThen_ok, hb, hz, Sem.run_pure, e1, e2, e3]
  · cases hr
theorem d_slT {d ty pos af g t x} {lo hi : Option Operand} {s s' : ByteArray} {l h : Int} (ha : Has n L a) (hx : evO L x = some (.string s)) (ht : ∀ w, (underlying t).run P w = .ok .string w)
    (hl : BdO L lo 0 l) (hh : BdO L hi s.size h) (hr : slT s l h = some s') : Does P ⟨d, .slice t x lo hi none, ty, pos, af, g⟩ a w (.string s') w := by
  unfold slT at hr
  split at hr
  · rename_i hc
    obtain ⟨h0, h1, h2⟩ := hc
    cases hr
    have hb := run_sliceBounds (P := P) (w := w) (b := false) (len := s.size) (cap := s.size) (mx := none) (m := s.size) ha hl hh rfl (by simp) h0 h1 h2 (Int.le_refl _)
    refine does_v ?_
    simp only [Option.map_none] at hb
    simp [execOp, ha.ev hx, Instr.sliceAt, Instr.slice, ht, hb]
  · cases hr
def mkS (P : Program) (t : TypeId) (x y : Int) (w : World) : Option (Sl × World) := match (Instr.makeSlice t (.int .i64 x) (.int .i64 y)).run P w with | .ok (.slice p n c) w' => some (⟨p, n, c⟩, w') | _ => none
theorem d_mkS {d ty pos af g t x y} {i j : Int} {s : Sl} (ha : Has n L a) (hx : evO L x = some (.int .i64 i)) (hy : evO L y = some (.int .i64 j)) (h : mkS P t i j w = some (s, w')) :
    Does P ⟨d, .makeSlice t x y, ty, pos, af, g⟩ a w s.v w' := by
  unfold mkS at h
  split at h
  · rename_i p m c w1 e
    cases h
    exact does_v (by simp [execOp, ha.ev hx, ha.ev hy, e, Sl.v])
  · cases h
def apS (P : Program) (t : TypeId) (x y : Sl) (w : World) : Option (Sl × World) := match (Builtin.append_ #[t, t] t #[x.v, y.v]).run P w with | .ok (.slice p n c) w' => some (⟨p, n, c⟩, w') | _ => none
theorem d_apS {d ty pos af g t x y} {p q s : Sl} (ha : Has n L a) (hx : evO L x = some p.v) (hy : evO L y = some q.v) (h : apS P t p q w = some (s, w')) :
    Does P ⟨d, .call { callee := .builtin .append, args := #[x, y], argTypes := #[t, t] }, ty, pos, af, g⟩ a w s.v w' := by
  unfold apS at h
  split at h
  · rename_i r m c w1 e
    cases h
    have e' : (Builtin.append_ #[t, t] ty #[p.v, q.v]).run P w = .ok (.slice r m c) w' := e
    exact does_v (by simp [execOp, resolve, invoke, builtin, ha.ev hx, ha.ev hy, e']; rfl)
  · cases h
def apT (P : Program) (t u : TypeId) (x : Sl) (y : ByteArray) (w : World) : Option (Sl × World) := match (Builtin.append_ #[t, u] t #[x.v, .string y]).run P w with | .ok (.slice p n c) w' => some (⟨p, n, c⟩, w') | _ => none
theorem d_apT {d ty pos af g t u x y} {p s : Sl} {q : ByteArray} (ha : Has n L a) (hx : evO L x = some p.v) (hy : evO L y = some (.string q)) (h : apT P t u p q w = some (s, w')) :
    Does P ⟨d, .call { callee := .builtin .append, args := #[x, y], argTypes := #[t, u] }, ty, pos, af, g⟩ a w s.v w' := by
  unfold apT at h
  split at h
  · rename_i r m c w1 e
    cases h
    have e' : (Builtin.append_ #[t, u] ty #[p.v, .string q]).run P w = .ok (.slice r m c) w' := e
    exact does_v (by simp [execOp, resolve, invoke, builtin, ha.ev hx, ha.ev hy, e']; rfl)
  · cases h
def apZ (P : Program) (t u : TypeId) (x : Sl) (y : Int) (w : World) : Option (Sl × World) := match (Builtin.append_ #[t, u] t #[x.v, .int .i64 y]).run P w with | .ok (.slice p n c) w' => some (⟨p, n, c⟩, w') | _ => none
theorem d_apZ {d ty pos af g t u x y} {p s : Sl} {q : Int} (ha : Has n L a) (hx : evO L x = some p.v) (hy : evO L y = some (.int .i64 q)) (h : apZ P t u p q w = some (s, w')) :
    Does P ⟨d, .call { callee := .builtin .append, args := #[x, y], argTypes := #[t, u] }, ty, pos, af, g⟩ a w s.v w' := by
  unfold apZ at h
  split at h
  · rename_i r m c w1 e
    cases h
    have e' : (Builtin.append_ #[t, u] ty #[p.v, .int .i64 q]).run P w = .ok (.slice r m c) w' := e
    exact does_v (by simp [execOp, resolve, invoke, builtin, ha.ev hx, ha.ev hy, e']; rfl)
  · cases h
def cvS (P : Program) (t : TypeId) (x : Sl) (w : World) : Option (Sl × World) := match (convert t t x.v).run P w with | .ok (.slice p n c) w' => some (⟨p, n, c⟩, w') | _ => none
theorem d_cvS {d ty pos af g t x} {p s : Sl} (ha : Has n L a) (hx : evO L x = some p.v) (h : cvS P t p w = some (s, w')) : Does P ⟨d, .convert t t x, ty, pos, af, g⟩ a w s.v w' := by
  unfold cvS at h
  split at h
  · rename_i r m c w1 e
    cases h
    exact does_v (by simp [execOp, ha.ev hx, e]; rfl)
  · cases h
def cpS (P : Program) (t u : TypeId) (x y : Sl) (w : World) : Option (Int × World) := match (Builtin.copy_ #[t, u] 3 #[x.v, y.v]).run P w with | .ok (.int _ m) w' => some (m, w') | _ => none
theorem run_copy_int {t u ty : TypeId} {x y v : Value} (h : (Builtin.copy_ #[t, u] ty #[x, y]).run P w = .ok v w') : ∃ m, v = .int .i64 m := by
  unfold Builtin.copy_ at h
  simp only [List.getElem?_toArray, List.getElem?_cons_zero, List.getElem?_cons_succ] at h
  rw [Sem.run_bind] at h
  cases e : (underlying t).run P w with
  | halt z w1 => rw [e] at h; cases h
  | ok z w1 =>
    rw [e] at h
    simp only [Result.andThen_ok] at h
    split at h
    · rename_i elem
      cases x <;> simp only [run_stuck] at h <;> try cases h
      rename_i base dl dc
      rw [Sem.run_bind] at h
      cases e2 : (Builtin.lenOf y).run P w1 with
      | halt z w2 => rw [e2] at h; cases h
      | ok z w2 =>
        rw [e2] at h
        simp only [Result.andThen_ok] at h
        rw [Sem.run_bind] at h
        cases e3 : (sizeOf elem).run P w2 with
        | halt z w2 => rw [e3] at h; cases h
        | ok q w3 =>
          rw [e3] at h
          simp only [Result.andThen_ok] at h
          rw [Sem.run_bind] at h
          cases e4 : (Builtin.firstCells q (Nat.min z dl) y).run P w3 with
          | halt z w2 => rw [e4] at h; cases h
          | ok cs w4 =>
            rw [e4] at h
            simp only [Result.andThen_ok] at h
            cases base with
            | none => simp [goInt] at h; exact ⟨_, h.1.symm⟩
            | some b =>
              simp only [Sem.run_bind] at h
              cases e5 : (storeCells b cs.toList).run P w4 with
              | halt z w2 => rw [e5] at h; cases h
              | ok cs w4 => rw [e5] at h; simp [goInt] at h; exact ⟨_, h.1.symm⟩
    · cases h
theorem d_cpS {d ty pos af g t u x y} {p q : Sl} {m : Int} (ha : Has n L a) (hx : evO L x = some p.v) (hy : evO L y = some q.v) (h : cpS P t u p q w = some (m, w')) :
    Does P ⟨d, .call { callee := .builtin .copy, args := #[x, y], argTypes := #[t, u] }, ty, pos, af, g⟩ a w (.int .i64 m) w' := by
  unfold cpS at h
  split at h
  · rename_i r k w1 e
    cases h
    obtain ⟨m', hm⟩ := run_copy_int e
    cases hm
    have e' : (Builtin.copy_ #[t, u] ty #[p.v, q.v]).run P w = .ok (.int .i64 m) w' := e
    exact does_v (by simp [execOp, resolve, invoke, builtin, ha.ev hx, ha.ev hy, e'])
  · cases h
def ldN (k : IntKind) : Nat → World → Addr → Nat → Option (List Int)
  | 0, _, _, _ => some []
  | n + 1, w, a, i => (ldI k w (a.add i)).bind fun v => (ldN k n w a (i + 1)).bind fun l => some (v :: l)
theorem ldN_c {k : IntKind} : ∀ {n : Nat} {w : World} {a : Addr} {i : Nat} {l : List Int}, ldN k n w a i = some l → l.length = n ∧ ∀ j v, l[j]? = some v → w.cell? (a.add (i + j)) = some (.int k v)
  | 0, _, _, _, _, h => by cases h; simp
  | n + 1, w, a, i, l, h => by
    unfold ldN at h
    obtain ⟨v, e1, h⟩ := bs1 h
    obtain ⟨m, e2, h⟩ := bs1 h
    cases h
    obtain ⟨h1, h2⟩ := ldN_c e2
    refine ⟨by simp [h1], fun j u hu => ?_⟩
    cases j with
    | zero => simp at hu; subst hu; exact ldI_c e1
    | succ j =>
      have := h2 j u (by simpa using hu)
      rwa [show i + (j + 1) = i + 1 + j by omega]
def b2s (x : Sl) (w : World) : Option ByteArray := match x.p with | none => some ByteArray.empty | some ad => (ldN .u8 x.n w ad 0).map strOfNums
theorem d_b2s {d ty pos af g t u x e} {s : Sl} {r : ByteArray} (ha : Has n L a) (hx : evO L x = some s.v) (ht : ∀ w, (underlying t).run P w = .ok (.slice e) w) (hu : ∀ w, (underlying u).run P w = .ok .string w)
    (he : ∀ w, (underlying e).run P w = .ok (.int .u8) w) (h : b2s s w = some r) : Does P ⟨d, .convert t u x, ty, pos, af, g⟩ a w (.string r) w := by
  obtain ⟨p, m, c⟩ := s
  refine does_v ?_
  cases p with
  | none => cases h; simp [execOp, ha.ev hx, Sl.v, convert, ht, hu, he, Conv.bytesToString]
  | some ad =>
    simp only [b2s] at h
    cases e1 : ldN .u8 m w ad 0 with
    | none => rw [e1] at h; cases h
    | some l =>
      rw [e1] at h
      cases h
      obtain ⟨h1, h2⟩ := ldN_c e1
      have hl := run_loadCells_list (P := P) w ad (l.map (Value.int .u8)) (fun j v hv => by
        rw [List.getElem?_map] at hv
        cases e3 : l[j]? with
        | none => rw [e3] at hv; cases hv
        | some q => rw [e3] at hv; cases hv; have := h2 j q e3; simpa using this)
      rw [List.length_map, h1] at hl
      have hb := run_bytesToString (P := P) w ad m c l hl
      rw [foldl_push_bytes] at hb
      have e4 : (⟨(l.map fun n => UInt8.ofNat n.toNat).toArray⟩ : ByteArray) = strOfNums l := rfl
      simp only [execOp, ha.ev hx, Sl.v, convert, Sem.run_bind, ht, hu, he, Result.andThen_ok, hb, Sem.run_pure]
      simp [strOfNums, ByteArray.empty, ByteArray.emptyWithCapacity]
      rfl
def s2b (P : Program) (e : TypeId) (s : ByteArray) (w : World) : Option (Sl × World) := match (Conv.stringToBytes e s).run P w with | .ok (.slice p n c) w' => some (⟨p, n, c⟩, w') | _ => none
theorem d_s2b {d ty pos af g t u x e} {s : ByteArray} {r : Sl} (ha : Has n L a) (hx : evO L x = some (.string s)) {dt : TypeDesc} (ht : ∀ w, (underlying t).run P w = .ok dt w) (hdt : dt = .string) (hu : ∀ w, (underlying u).run P w = .ok (.slice e) w)
    (he : ∀ w, (underlying e).run P w = .ok (.int .u8) w) (h : s2b P e s w = some (r, w')) : Does P ⟨d, .convert t u x, ty, pos, af, g⟩ a w r.v w' := by
  subst hdt
  unfold s2b at h
  split at h
  · rename_i p m c w1 e1
    cases h
    exact does_v (by simp [execOp, ha.ev hx, convert, ht, hu, he, e1, Sl.v])
  · cases h
theorem d_conv {d ty pos af g t u x k k'} {i : Int} {dt : TypeDesc} (ha : Has n L a) (hx : evO L x = some (.int k i)) (ht : ∀ w, (underlying t).run P w = .ok dt w) (hu : ∀ w, (underlying u).run P w = .ok (.int k') w) :
    Does P ⟨d, .convert t u x, ty, pos, af, g⟩ a w (.int k' (k'.wrap i)) w := by
  refine does_v ?_
  simp only [execOp, ha.ev hx, convert, Sem.run_bind, ht, hu, Result.andThen_ok, Conv.intToInt, Sem.run_pure]
theorem d_convS {d ty pos af g t u x} {s : ByteArray} {dt : TypeDesc} (ha : Has n L a) (hx : evO L x = some (.string s)) (ht : ∀ w, (underlying t).run P w = .ok dt w) (hu : ∀ w, (underlying u).run P w = .ok .string w) :
    Does P ⟨d, .convert t u x, ty, pos, af, g⟩ a w (.string s) w := by
  refine does_v ?_
  simp only [execOp, ha.ev hx, convert, Sem.run_bind, ht, hu, Result.andThen_ok, Sem.run_pure]
/-! ### Lengths -/
theorem d_lenS {d ty pos af g t x e} {s : Sl} (ha : Has n L a) (hx : evO L x = some s.v) (ht : ∀ w, (underlying t).run P w = .ok (.slice e) w) :
    Does P ⟨d, .call { callee := .builtin .len, args := #[x], argTypes := #[t] }, ty, pos, af, g⟩ a w (.int .i64 s.n) w :=
  does_v (by simp [execOp, resolve, invoke, builtin, ha.ev hx, Builtin.len_, ht, Sl.v, goInt])
theorem d_lenT {d ty pos af g t x} {s : ByteArray} (ha : Has n L a) (hx : evO L x = some (.string s)) (ht : ∀ w, (underlying t).run P w = .ok .string w) :
    Does P ⟨d, .call { callee := .builtin .len, args := #[x], argTypes := #[t] }, ty, pos, af, g⟩ a w (.int .i64 s.size) w :=
  does_v (by simp [execOp, resolve, invoke, builtin, ha.ev hx, Builtin.len_, ht, goInt])
theorem d_capS {d ty pos af g t x e} {s : Sl} (ha : Has n L a) (hx : evO L x = some s.v) (ht : ∀ w, (underlying t).run P w = .ok (.slice e) w) :
    Does P ⟨d, .call { callee := .builtin .cap, args := #[x], argTypes := #[t] }, ty, pos, af, g⟩ a w (.int .i64 s.c) w :=
  does_v (by simp [execOp, resolve, invoke, builtin, ha.ev hx, Builtin.cap_, ht, Sl.v, goInt])
/-! ### Numbers and truths -/
def band (k : IntKind) (x y : Int) : Int := k.wrap (BitVec.ofInt k.bits x &&& BitVec.ofInt k.bits y).toNat
def bor (k : IntKind) (x y : Int) : Int := k.wrap (BitVec.ofInt k.bits x ||| BitVec.ofInt k.bits y).toNat
def bxor (k : IntKind) (x y : Int) : Int := k.wrap (BitVec.ofInt k.bits x ^^^ BitVec.ofInt k.bits y).toNat
def bandn (k : IntKind) (x y : Int) : Int := k.wrap (BitVec.ofInt k.bits x &&& ~~~BitVec.ofInt k.bits y).toNat
def dvI (k : IntKind) (x y : Int) : Option Int := if y = 0 then none else some (k.wrap (x.tdiv y))
def rmI (x y : Int) : Option Int := if y = 0 then none else some (x.tmod y)
def shlI (k : IntKind) (x y : Int) : Option Int := if y < 0 then none else some (k.wrap (x * 2 ^ min y.toNat k.bits))
def shrI (k : IntKind) (x y : Int) : Option Int := if y < 0 then none else some (x.fdiv (2 ^ min y.toNat k.bits))
section
variable {d : Option Nat} {ty t t2 : TypeId} {pos : String} {af : Array Edge} {g : Option (Nat × Bool)} {x y : Operand} {k k2 : IntKind} {i j r : Int}
theorem d_add (ha : Has n L a) (hx : evO L x = some (.int k i)) (hy : evO L y = some (.int k j)) : Does P ⟨d, .binOp .add t x y t2, ty, pos, af, g⟩ a w (.int k (k.wrap (i + j))) w :=
  does_v (by simp [execOp, ha.ev hx, ha.ev hy, eqGuard, binOp, Op.intArith])
theorem d_sub (ha : Has n L a) (hx : evO L x = some (.int k i)) (hy : evO L y = some (.int k j)) : Does P ⟨d, .binOp .sub t x y t2, ty, pos, af, g⟩ a w (.int k (k.wrap (i - j))) w :=
  does_v (by simp [execOp, ha.ev hx, ha.ev hy, eqGuard, binOp, Op.intArith])
theorem d_mul (ha : Has n L a) (hx : evO L x = some (.int k i)) (hy : evO L y = some (.int k j)) : Does P ⟨d, .binOp .mul t x y t2, ty, pos, af, g⟩ a w (.int k (k.wrap (i * j))) w :=
  does_v (by simp [execOp, ha.ev hx, ha.ev hy, eqGuard, binOp, Op.intArith])
theorem d_and (ha : Has n L a) (hx : evO L x = some (.int k i)) (hy : evO L y = some (.int k j)) : Does P ⟨d, .binOp .and t x y t2, ty, pos, af, g⟩ a w (.int k (band k i j)) w :=
  does_v (by simp [execOp, ha.ev hx, ha.ev hy, eqGuard, binOp, Op.intBits, band])
theorem d_or (ha : Has n L a) (hx : evO L x = some (.int k i)) (hy : evO L y = some (.int k j)) : Does P ⟨d, .binOp .or t x y t2, ty, pos, af, g⟩ a w (.int k (bor k i j)) w :=
  does_v (by simp [execOp, ha.ev hx, ha.ev hy, eqGuard, binOp, Op.intBits, bor])
theorem d_xor (ha : Has n L a) (hx : evO L x = some (.int k i)) (hy : evO L y = some (.int k j)) : Does P ⟨d, .binOp .xor t x y t2, ty, pos, af, g⟩ a w (.int k (bxor k i j)) w :=
  does_v (by simp [execOp, ha.ev hx, ha.ev hy, eqGuard, binOp, Op.intBits, bxor])
theorem d_andNot (ha : Has n L a) (hx : evO L x = some (.int k i)) (hy : evO L y = some (.int k j)) : Does P ⟨d, .binOp .andNot t x y t2, ty, pos, af, g⟩ a w (.int k (bandn k i j)) w :=
  does_v (by simp [execOp, ha.ev hx, ha.ev hy, eqGuard, binOp, Op.intBits, bandn])
theorem d_quo (ha : Has n L a) (hx : evO L x = some (.int k i)) (hy : evO L y = some (.int k j)) (h : dvI k i j = some r) : Does P ⟨d, .binOp .quo t x y t2, ty, pos, af, g⟩ a w (.int k r) w := by
  unfold dvI at h
  split at h
  · cases h
  · cases h; exact does_v (by simp [execOp, ha.ev hx, ha.ev hy, eqGuard, binOp, Op.intDiv, *])
theorem d_rem (ha : Has n L a) (hx : evO L x = some (.int k i)) (hy : evO L y = some (.int k j)) (h : rmI i j = some r) : Does P ⟨d, .binOp .rem t x y t2, ty, pos, af, g⟩ a w (.int k r) w := by
  unfold rmI at h
  split at h
  · cases h
  · cases h; exact does_v (by simp [execOp, ha.ev hx, ha.ev hy, eqGuard, binOp, Op.intDiv, *])
theorem d_shl (ha : Has n L a) (hx : evO L x = some (.int k i)) (hy : evO L y = some (.int k2 j)) (h : shlI k i j = some r) : Does P ⟨d, .binOp .shl t x y t2, ty, pos, af, g⟩ a w (.int k r) w := by
  unfold shlI at h
  split at h
  · cases h
  · cases h; exact does_v (by simp [execOp, ha.ev hx, ha.ev hy, eqGuard, binOp, Op.shift, *])
theorem d_shr (ha : Has n L a) (hx : evO L x = some (.int k i)) (hy : evO L y = some (.int k2 j)) (h : shrI k i j = some r) : Does P ⟨d, .binOp .shr t x y t2, ty, pos, af, g⟩ a w (.int k r) w := by
  unfold shrI at h
  split at h
  · cases h
  · cases h; exact does_v (by simp [execOp, ha.ev hx, ha.ev hy, eqGuard, binOp, Op.shift, *])
theorem d_eq (ha : Has n L a) (hx : evO L x = some (.int k i)) (hy : evO L y = some (.int k j)) : Does P ⟨d, .binOp .eql t x y t2, ty, pos, af, g⟩ a w (.bool (i == j)) w :=
  does_v (by simp [execOp, ha.ev hx, ha.ev hy, eqGuard, binOp, Op.intCmp])
theorem d_ne (ha : Has n L a) (hx : evO L x = some (.int k i)) (hy : evO L y = some (.int k j)) : Does P ⟨d, .binOp .neq t x y t2, ty, pos, af, g⟩ a w (.bool (i != j)) w :=
  does_v (by simp [execOp, ha.ev hx, ha.ev hy, eqGuard, binOp, Op.intCmp])
theorem d_lt (ha : Has n L a) (hx : evO L x = some (.int k i)) (hy : evO L y = some (.int k j)) : Does P ⟨d, .binOp .lss t x y t2, ty, pos, af, g⟩ a w (.bool (decide (i < j))) w :=
  does_v (by simp [execOp, ha.ev hx, ha.ev hy, eqGuard, binOp, Op.intCmp])
theorem d_le (ha : Has n L a) (hx : evO L x = some (.int k i)) (hy : evO L y = some (.int k j)) : Does P ⟨d, .binOp .leq t x y t2, ty, pos, af, g⟩ a w (.bool (decide (i ≤ j))) w :=
  does_v (by simp [execOp, ha.ev hx, ha.ev hy, eqGuard, binOp, Op.intCmp])
theorem d_gt (ha : Has n L a) (hx : evO L x = some (.int k i)) (hy : evO L y = some (.int k j)) : Does P ⟨d, .binOp .gtr t x y t2, ty, pos, af, g⟩ a w (.bool (decide (j < i))) w :=
  does_v (by simp [execOp, ha.ev hx, ha.ev hy, eqGuard, binOp, Op.intCmp])
theorem d_ge (ha : Has n L a) (hx : evO L x = some (.int k i)) (hy : evO L y = some (.int k j)) : Does P ⟨d, .binOp .geq t x y t2, ty, pos, af, g⟩ a w (.bool (decide (j ≤ i))) w :=
  does_v (by simp [execOp, ha.ev hx, ha.ev hy, eqGuard, binOp, Op.intCmp])
theorem eqIn_ptr {m : Nat} {p : Option Addr} {e : TypeId} (ht : ∀ w, (underlying t).run P w = .ok (.pointer e) w) : (Op.equalIn (m + 1) t (.pointer p) (.pointer none)).run P w = .ok p.isNone w := by
  cases p <;> simp [Op.equalIn, ht]
theorem eqIn_sl {m : Nat} {s : Sl} {e : TypeId} (ht : ∀ w, (underlying t).run P w = .ok (.slice e) w) : (Op.equalIn (m + 1) t s.v (.slice none 0 0)).run P w = .ok s.p.isNone w := by
  obtain ⟨p, q, c⟩ := s
  cases p <;> simp [Op.equalIn, ht, Sl.v]
theorem eqIn_bool {m : Nat} {b c : Bool} (ht : ∀ w, (underlying t).run P w = .ok .bool w) : (Op.equalIn (m + 1) t (.bool b) (.bool c)).run P w = .ok (b == c) w := by
  simp [Op.equalIn, ht]
theorem eq_ptr {p : Option Addr} {e : TypeId} (ht : ∀ w, (underlying t).run P w = .ok (.pointer e) w) : (Op.equal t (.pointer p) (.pointer none)).run P w = .ok p.isNone w := eqIn_ptr (m := 9999) ht
theorem eq_sl {s : Sl} {e : TypeId} (ht : ∀ w, (underlying t).run P w = .ok (.slice e) w) : (Op.equal t s.v (.slice none 0 0)).run P w = .ok s.p.isNone w := eqIn_sl (m := 9999) ht
theorem eq_bool {b c : Bool} (ht : ∀ w, (underlying t).run P w = .ok .bool w) : (Op.equal t (.bool b) (.bool c)).run P w = .ok (b == c) w := eqIn_bool (m := 9999) ht
theorem d_eqB {b c : Bool} (ha : Has n L a) (hx : evO L x = some (.bool b)) (hy : evO L y = some (.bool c)) (ht : ∀ w, (underlying t).run P w = .ok .bool w) : Does P ⟨d, .binOp .eql t x y t2, ty, pos, af, g⟩ a w (.bool (b == c)) w := by
  refine does_v ?_
  simp only [execOp, ha.ev hx, ha.ev hy, eqGuard, binOp, Sem.run_bind, eq_bool ht]
  rfl
theorem d_neB {b c : Bool} (ha : Has n L a) (hx : evO L x = some (.bool b)) (hy : evO L y = some (.bool c)) (ht : ∀ w, (underlying t).run P w = .ok .bool w) : Does P ⟨d, .binOp .neq t x y t2, ty, pos, af, g⟩ a w (.bool (b != c)) w := by
  refine does_v ?_
  simp only [execOp, ha.ev hx, ha.ev hy, eqGuard, binOp, Sem.run_bind, eq_bool ht]
  rfl
/-- A pointer against nil. -/
theorem d_eqN {p : Option Addr} {e : TypeId} (ha : Has n L a) (hx : evO L x = some (.pointer p)) (hy : evO L y = some (.pointer none)) (ht : ∀ w, (underlying t).run P w = .ok (.pointer e) w) : Does P ⟨d, .binOp .eql t x y t2, ty, pos, af, g⟩ a w (.bool p.isNone) w := by
  refine does_v ?_
  simp only [execOp, ha.ev hx, ha.ev hy, eqGuard, binOp, Sem.run_bind, eq_ptr ht]
  rfl
theorem d_neN {p : Option Addr} {e : TypeId} (ha : Has n L a) (hx : evO L x = some (.pointer p)) (hy : evO L y = some (.pointer none)) (ht : ∀ w, (underlying t).run P w = .ok (.pointer e) w) : Does P ⟨d, .binOp .neq t x y t2, ty, pos, af, g⟩ a w (.bool (!p.isNone)) w := by
  refine does_v ?_
  simp only [execOp, ha.ev hx, ha.ev hy, eqGuard, binOp, Sem.run_bind, eq_ptr ht]
  rfl
theorem d_eqL {s : Sl} {e : TypeId} (ha : Has n L a) (hx : evO L x = some s.v) (hy : evO L y = some (.slice none 0 0)) (ht : ∀ w, (underlying t).run P w = .ok (.slice e) w) : Does P ⟨d, .binOp .eql t x y t2, ty, pos, af, g⟩ a w (.bool s.p.isNone) w := by
  refine does_v ?_
  have h := eq_sl (P := P) (w := w) (s := s) ht
  simp only [Sl.v] at h
  simp only [execOp, ha.ev hx, ha.ev hy, Sl.v, eqGuard, binOp]
  simp [h]
theorem d_neL {s : Sl} {e : TypeId} (ha : Has n L a) (hx : evO L x = some s.v) (hy : evO L y = some (.slice none 0 0)) (ht : ∀ w, (underlying t).run P w = .ok (.slice e) w) : Does P ⟨d, .binOp .neq t x y t2, ty, pos, af, g⟩ a w (.bool (!s.p.isNone)) w := by
  refine does_v ?_
  have h := eq_sl (P := P) (w := w) (s := s) ht
  simp only [Sl.v] at h
  simp only [execOp, ha.ev hx, ha.ev hy, Sl.v, eqGuard, binOp]
  simp [h]
def sEq (s u : ByteArray) : Bool := s.toList == u.toList
def sLt (s u : ByteArray) : Bool := Op.bytesLess s.toList u.toList
theorem d_eqT {s u : ByteArray} (ha : Has n L a) (hx : evO L x = some (.string s)) (hy : evO L y = some (.string u)) : Does P ⟨d, .binOp .eql t x y t2, ty, pos, af, g⟩ a w (.bool (sEq s u)) w :=
  does_v (by simp [execOp, ha.ev hx, ha.ev hy, eqGuard, binOp, Op.stringOp, sEq])
theorem d_neT {s u : ByteArray} (ha : Has n L a) (hx : evO L x = some (.string s)) (hy : evO L y = some (.string u)) : Does P ⟨d, .binOp .neq t x y t2, ty, pos, af, g⟩ a w (.bool (!sEq s u)) w :=
  does_v (by simp [execOp, ha.ev hx, ha.ev hy, eqGuard, binOp, Op.stringOp, sEq])
theorem d_ltT {s u : ByteArray} (ha : Has n L a) (hx : evO L x = some (.string s)) (hy : evO L y = some (.string u)) : Does P ⟨d, .binOp .lss t x y t2, ty, pos, af, g⟩ a w (.bool (sLt s u)) w :=
  does_v (by simp [execOp, ha.ev hx, ha.ev hy, eqGuard, binOp, Op.stringOp, sLt])
theorem d_leT {s u : ByteArray} (ha : Has n L a) (hx : evO L x = some (.string s)) (hy : evO L y = some (.string u)) : Does P ⟨d, .binOp .leq t x y t2, ty, pos, af, g⟩ a w (.bool (sLt s u || sEq s u)) w :=
  does_v (by simp [execOp, ha.ev hx, ha.ev hy, eqGuard, binOp, Op.stringOp, sLt, sEq])
theorem d_gtT {s u : ByteArray} (ha : Has n L a) (hx : evO L x = some (.string s)) (hy : evO L y = some (.string u)) : Does P ⟨d, .binOp .gtr t x y t2, ty, pos, af, g⟩ a w (.bool (!(sLt s u || sEq s u))) w :=
  does_v (by simp [execOp, ha.ev hx, ha.ev hy, eqGuard, binOp, Op.stringOp, sLt, sEq])
theorem d_geT {s u : ByteArray} (ha : Has n L a) (hx : evO L x = some (.string s)) (hy : evO L y = some (.string u)) : Does P ⟨d, .binOp .geq t x y t2, ty, pos, af, g⟩ a w (.bool (!sLt s u)) w :=
  does_v (by simp [execOp, ha.ev hx, ha.ev hy, eqGuard, binOp, Op.stringOp, sLt])
def addT (s u : ByteArray) : Option ByteArray := if ((s.size + u.size : Nat) : Int) > IntKind.i64.max then none else some (s ++ u)
theorem d_addT {s u v : ByteArray} (ha : Has n L a) (hx : evO L x = some (.string s)) (hy : evO L y = some (.string u)) (h : addT s u = some v) : Does P ⟨d, .binOp .add t x y t2, ty, pos, af, g⟩ a w (.string v) w := by
  unfold addT at h
  split at h
  · cases h
  · rename_i hn
    cases h
    refine does_v ?_
    simp only [execOp, ha.ev hx, ha.ev hy, eqGuard, binOp, Op.stringOp, Sem.run_bind]
    rw [if_neg hn]
    simp
theorem d_not {b : Bool} (ha : Has n L a) (hx : evO L x = some (.bool b)) : Does P ⟨d, .unOp .not t x, ty, pos, af, g⟩ a w (.bool (!b)) w :=
  does_v (by simp [execOp, ha.ev hx, Op.unary])
theorem d_neg (ha : Has n L a) (hx : evO L x = some (.int k i)) : Does P ⟨d, .unOp .neg t x, ty, pos, af, g⟩ a w (.int k (k.wrap (0 - i))) w :=
  does_v (by simp [execOp, ha.ev hx, Op.unary, Op.intArith])
theorem d_cpl (ha : Has n L a) (hx : evO L x = some (.int k i)) : Does P ⟨d, .unOp .xor t x, ty, pos, af, g⟩ a w (.int k (bxor k (if k.signed then -1 else k.max) i)) w :=
  does_v (by simp [execOp, ha.ev hx, Op.unary, Op.intBits, bxor])
theorem d_ext {vs : Array Value} {v : Value} {q : Nat} (ha : Has n L a) (hx : evO L x = some (.tuple vs)) (hv : vs[q]? = some v) : Does P ⟨d, .extract x q, ty, pos, af, g⟩ a w v w :=
  does_v (by simp [execOp, ha.ev hx, Instr.extract, hv])
def mxI (x y : Int) : Int := if y > x then y else x
def mnI (x y : Int) : Int := if y < x then y else x
theorem d_max {ts : Array TypeId} (ha : Has n L a) (hx : evO L x = some (.int k i)) (hy : evO L y = some (.int k j)) : Does P ⟨d, .call { callee := .builtin .max, args := #[x, y], argTypes := ts }, ty, pos, af, g⟩ a w (.int k (mxI i j)) w :=
  does_v (by simp [execOp, resolve, invoke, builtin, ha.ev hx, ha.ev hy, run_max_int2, mxI])
theorem d_min {ts : Array TypeId} (ha : Has n L a) (hx : evO L x = some (.int k i)) (hy : evO L y = some (.int k j)) : Does P ⟨d, .call { callee := .builtin .min, args := #[x, y], argTypes := ts }, ty, pos, af, g⟩ a w (.int k (mnI i j)) w :=
  does_v (by simp [execOp, resolve, invoke, builtin, ha.ev hx, ha.ev hy, run_min_int2, mnI])
end
/-! ### Calls -/
def evs (L : List (Nat × Value)) : List Operand → List Value → Prop
  | [], [] => True
  | x :: xs, v :: vs => evO L x = some v ∧ evs L xs vs
  | _, _ => False
theorem evs_map (ha : Has n L a) : ∀ {xs : List Operand} {vs : List Value}, evs L xs vs → xs.map a.eval = vs
  | [], [], _ => rfl
  | x :: xs, v :: vs, h => by simp [ha.ev h.1, evs_map ha h.2]
theorem d_call {d ty pos af g f} {xs : List Operand} {ts : Array TypeId} {vs : List Value} {v : Value} (ha : Has n L a) (hx : evs L xs vs) (hf : ∀ (args : Array Value) (w : World), (callFunc f args).run P w = .ok (.enter f args) w)
    (h : Calls P f vs.toArray w fun e w'' => e = .returned v ∧ w'' = w') : Does P ⟨d, .call { callee := .value (.func f), args := xs.toArray, argTypes := ts }, ty, pos, af, g⟩ a w v w' := by
  refine does_c (w1 := w) (f := f) (args := vs.toArray) ?_ h
  simp [execOp, resolve, Deferred.ofValue, invoke, Act.eval, hf]
  have := evs_map ha hx
  exact this
/-! ### Returns -/
section
variable {fn : Func} {R : Ending → World → Prop} {e : Exit}
theorem ret0 (hr : fn.results = #[]) (ha : Has n L a) (hR : R (.returned (.tuple #[])) w) : bodyPost P fn R .ret a w :=
  ⟨ha.d, _, by simp [results, hr], hR⟩
theorem end0 (hr : fn.results = #[]) (ha : Has n L a) (hR : R (.returned (.tuple #[])) w) : bodyPost P fn R .normal a w :=
  ⟨ha.d, _, by simp [results, hr], hR⟩
theorem ret1 {t : Nat} {v : Value} (hr : fn.results = #[.tmp t]) (ha : Has n L a) (hv : L.lookup t = some v) (hR : R (.returned v) w) : bodyPost P fn R .ret a w :=
  ⟨ha.d, _, by simp [results, hr, ha.l t v hv], hR⟩
theorem ret2 {t u : Nat} {v v2 : Value} (hr : fn.results = #[.tmp t, .tmp u]) (ha : Has n L a) (hv : L.lookup t = some v) (hv2 : L.lookup u = some v2) (hR : R (.returned (.tuple #[v, v2])) w) : bodyPost P fn R .ret a w :=
  ⟨ha.d, _, by simp [results, hr, ha.l t v hv, ha.l u v2 hv2], hR⟩
theorem ret3 {t u t3 : Nat} {v v2 v3 : Value} (hr : fn.results = #[.tmp t, .tmp u, .tmp t3]) (ha : Has n L a) (hv : L.lookup t = some v) (hv2 : L.lookup u = some v2) (hv3 : L.lookup t3 = some v3) (hR : R (.returned (.tuple #[v, v2, v3])) w) : bodyPost P fn R .ret a w :=
  ⟨ha.d, _, by simp [results, hr, ha.l t v hv, ha.l u v2 hv2, ha.l t3 v3 hv3], hR⟩
theorem ret4 {t u t3 t4 : Nat} {v v2 v3 v4 : Value} (hr : fn.results = #[.tmp t, .tmp u, .tmp t3, .tmp t4]) (ha : Has n L a) (hv : L.lookup t = some v) (hv2 : L.lookup u = some v2) (hv3 : L.lookup t3 = some v3) (hv4 : L.lookup t4 = some v4) (hR : R (.returned (.tuple #[v, v2, v3, v4])) w) : bodyPost P fn R .ret a w :=
  ⟨ha.d, _, by simp [results, hr, ha.l t v hv, ha.l u v2 hv2, ha.l t3 v3 hv3, ha.l t4 v4 hv4], hR⟩
end
end

/-! ### Composite values -/
section
variable {P : Program} {n : Nat} {L : List (Nat × Value)} {a : Act} {w w' : World}
/-- The parts of a composite value, as they stand in the slots. -/
def evp (L : List (Nat × Value)) : List (Nat × Operand) → List (Nat × Value) → Prop
  | [], [] => True
  | (i, x) :: xs, (j, v) :: vs => i = j ∧ evO L x = some v ∧ evp L xs vs
  | _, _ => False
theorem evp_map (ha : Has n L a) : ∀ {xs : List (Nat × Operand)} {vs : List (Nat × Value)}, evp L xs vs → (xs.map fun (i, x) => (i, a.eval x)) = vs
  | [], [], _ => rfl
  | (i, x) :: xs, (j, v) :: vs, h => by
    obtain ⟨rfl, h1, h2⟩ := h
    simp [ha.ev h1, evp_map ha h2]
theorem d_build {d ty pos af g t} {xs : List (Nat × Operand)} {vs : List (Nat × Value)} {z : Value} {fs : Array Field} {pl : Array (Nat × Nat)} {cs : List Value} (ha : Has n L a) (hx : evp L xs vs) (hz : ∀ w, (zeroValue t).run P w = .ok z w) (ht : ∀ w, (underlying t).run P w = .ok (.struct fs) w)
    (hp : ∀ w, ((fs.mapM fun f => do pure (f.offset, ← sizeOf f.type)) : Sem (Array (Nat × Nat))).run P w = .ok pl w) (hf : Instr.fill (pl[·]?) z.cells vs = some cs.toArray) :
    Does P ⟨d, .build t xs.toArray, ty, pos, af, g⟩ a w (.agg cs.toArray) w := by
  refine does_v ?_
  have e : (xs.toArray.map fun (i, x) => (i, a.eval x)) = vs.toArray := by rw [← evp_map ha hx]; simp
  simp only [execOp, e, Instr.build, Sem.run_bind, hz, Result.andThen_ok, ht, hp, hf, Sem.run_pure]
def bsl (w : World) (e : TypeId) (sz : Nat) (ps : List (List Value)) : Option (Sl × World) :=
  if (ps.all fun p => p.length == sz) = true then some (⟨some ⟨w.heap.size, 0, none⟩, ps.length, ps.length⟩, w.alloc (.cells ps.flatten.toArray e)) else none
def partsL : Nat → List (List Value) → List (Nat × Value) → Prop
  | _, [], [] => True
  | i, p :: ps, (j, v) :: vs => i = j ∧ v.cells = p.toArray ∧ partsL (i + 1) ps vs
  | _, _, _ => False
theorem foldl_set (p : List Value) : ∀ (k : Nat) (c : Array Value) (off : Nat), off + k + p.length ≤ c.size →
    ((p.zipIdx k).foldl (fun cs (x, j) => cs.setIfInBounds (off + j) x) c).toList = c.toList.take (off + k) ++ p ++ c.toList.drop (off + k + p.length) := by
  induction p with
  | nil => intro k c off h; simp
  | cons x p ih =>
    intro k c off h
    simp only [List.length_cons] at h
    simp only [List.zipIdx_cons, List.foldl_cons]
    rw [ih (k + 1) _ off (by simp; omega)]
    simp only [Array.toList_setIfInBounds, List.length_cons]
    have h1 : off + k < c.toList.length := by simp; omega
    rw [show off + (k + 1) = off + k + 1 by omega, List.take_succ_eq_append_getElem (by simpa using h1), List.take_set_of_le (by omega)]
    rw [List.drop_set_of_lt (by omega)]
    simp [List.getElem_set]
    omega
theorem fill_parts (sz : Nat) : ∀ (ps : List (List Value)) (vs : List (Nat × Value)) (i : Nat) (c : Array Value), partsL i ps vs → (∀ p ∈ ps, p.length = sz) → c.size = (i + ps.length) * sz →
    ∃ c', Instr.fill (fun i => some (i * sz, sz)) c vs = some c' ∧ c'.toList = c.toList.take (i * sz) ++ ps.flatten
  | [], [], i, c, _, _, hc => ⟨c, rfl, by simp at hc; simp [List.take_of_length_le (show c.toList.length ≤ i * sz by simp; omega)]⟩
  | p :: ps, (j, v) :: vs, i, c, h, hl, hc => by
    obtain ⟨rfl, h1, h2⟩ := h
    have hp := hl p (by simp)
    have hs : i * sz + sz ≤ c.size := by
      rw [hc, ← Nat.succ_mul]; exact Nat.mul_le_mul_right _ (by simp)
    have hvs : v.cells.size = sz := by rw [h1]; simpa using hp
    simp only [Instr.fill]
    rw [if_neg (by rw [hvs]; simp only [ne_eq, not_true_eq_false, decide_false, Bool.false_or, decide_eq_true_eq, Nat.not_lt, gt_iff_lt]; first | omega | (simp; omega))]
    have hfold := foldl_set p 0 c (i * sz) (by omega)
    have e : v.cells.zipIdx.foldl (fun cs (x, j) => cs.setIfInBounds (i * sz + j) x) c = (p.zipIdx 0).foldl (fun cs (x, j) => cs.setIfInBounds (i * sz + j) x) c := by
      rw [h1]; simp
    rw [e]
    obtain ⟨c', h3, h4⟩ := fill_parts sz ps vs (i + 1) _ h2 (fun q hq => hl q (by simp [hq])) (by
      rw [← Array.length_toList, hfold]
      simp only [List.length_append, List.length_take, List.length_drop, Array.length_toList, hp, Nat.add_zero]
      have h5 : c.size = (i + 1 + ps.length) * sz := by rw [hc, List.length_cons]; congr 1; omega
      omega)
    refine ⟨c', h3, ?_⟩
    rw [h4, hfold, Nat.succ_mul]
    simp only [Nat.add_zero, hp, List.flatten_cons]
    rw [List.take_append_of_le_length (by simp; omega), List.take_of_length_le (by simp; omega)]
    simp
  | [], _ :: _, _, _, h, _, _ => h.elim
  | _ :: _, [], _, _, h, _, _ => h.elim
theorem d_bsl {d ty pos af g t e sz len} {xs : List (Nat × Operand)} {vs : List (Nat × Value)} {ps : List (List Value)} {s : Sl} {z : Value} (ha : Has n L a) (hx : evp L xs vs) (hp : partsL 0 ps vs) (hl : len = ps.length) (ht : ∀ w, (underlying t).run P w = .ok (.slice e) w)
    (hz : ∀ w, (sizeOf e).run P w = .ok sz w) (hzv : ∀ w, (zeroValue e).run P w = .ok z w) (hsm : len * sz ≤ 16777216) (h : bsl w e sz ps = some (s, w')) :
    Does P ⟨d, .buildSlice t len xs.toArray, ty, pos, af, g⟩ a w s.v w' := by
  subst hl
  unfold bsl at h
  split at h
  · rename_i hc
    cases h
    have hps : ∀ p ∈ ps, p.length = sz := fun p hp' => by simpa using List.all_eq_true.1 hc p hp'
    obtain ⟨c', h1, h2⟩ := fill_parts sz ps vs 0 ((Array.range (ps.length * sz)).map ((if ps.length * sz = 0 then #[] else z.cells)[· % (if ps.length * sz = 0 then #[] else z.cells).size]!)) hp hps (by simp)
    have e' : (xs.toArray.map fun (i, x) => (i, a.eval x)).toList = vs := by rw [← evp_map ha hx]; simp
    have hc' : c' = ps.flatten.toArray := by apply Array.ext'; rw [h2]; simp
    refine does_v ?_
    have hb : ¬ ps.length * sz > 2 ^ 24 := by omega
    simp only [execOp, Instr.buildSlice, Sem.run_bind, ht, Result.andThen_ok, hz, e', Sl.v]
    rw [if_neg hb]
    by_cases h0 : ps.length * sz = 0
    · simp only [h0, if_true] at h1 ⊢
      simp only [Sem.run_pure, Result.andThen_ok, h1, Sem.run_bind, newRow, run_newObj, World.alloc_eq, hc']
    · simp only [h0, if_false] at h1 ⊢
      simp only [Sem.run_bind, hzv, Sem.run_pure, Result.andThen_ok, h1, newRow, run_newObj, World.alloc_eq, hc']
  · cases h
end
end Go.Proofs.Ytejkaciimmfgcaa.D
