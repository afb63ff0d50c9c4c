/- Bytes read, parts of slices, and bytes set: for all chapters. -/
import Derived.Test.YtoanmomopcaikaaDisk
import Derived.Test.YtoanmomopcaikaaZero
namespace Go.Proofs.Ytoanmomopcaikaa.D
open Go
set_option linter.unusedVariables false
set_option linter.unusedSimpArgs false
section
variable {w w' : World}
theorem ld_u8 {s : Sl} {xs : List Int} {i : Nat} (h : Rd w s 1 (nums .u8 xs)) (hi : i < xs.length) : ∃ a, ix s (i : Int) 1 = some a ∧ ldI .u8 w a = some (xs.getD i 0) := by
  have hl : xs.length = s.n := by have := h.len; simpa using this
  obtain ⟨a, ea, _, ca, _⟩ := rd_at (i := i) h (by omega)
  have hv := ca 0 (.int .u8 (xs.getD i 0)) (by omega) (by rw [nums_get]; simp [List.getD, hi])
  have e0 : a.add 0 = a := by simp [Addr.add]
  rw [e0] at hv
  exact ⟨a, ea, ldI_cell hv⟩
theorem wrap_u64 (x : Int) : IntKind.wrap .u64 x = x % 18446744073709551616 := by simp [IntKind.wrap, IntKind.bits, IntKind.signed]
theorem slS_rd {s : Sl} {cs : List Value} {lo hi : Nat} (h : Rd w s 1 cs) (h1 : lo ≤ hi) (h2 : hi ≤ s.n) (h3 : s.n ≤ s.c) :
    ∃ s', slS s (lo : Int) (hi : Int) (s.c : Int) 1 = some s' ∧ Rd w s' 1 ((cs.drop lo).take (hi - lo)) ∧ s'.n = hi - lo ∧ s'.n ≤ s'.c := by
  have hl : cs.length = s.n := by have := h.len; simpa using this
  refine ⟨⟨if (s.c : Int) = (lo : Int) then s.p else s.p.map (·.add lo), hi - lo, s.c - lo⟩, ?_, ⟨by simp; omega, fun hn => ?_⟩, rfl, by simp only; omega⟩
  · unfold slS
    rw [if_pos (by omega)]
    simp only [Int.toNat_natCast, Nat.mul_one, Option.some.injEq, Sl.mk.injEq, true_and]
    constructor <;> omega
  · simp only at hn
    obtain ⟨a, ha, hc⟩ := h.at_ (by omega)
    rw [if_neg (by omega), ha]
    refine ⟨a.add lo, rfl, fun j v hv => ?_⟩
    rw [add_add']
    refine hc _ v ?_
    rw [List.getElem?_take] at hv
    split at hv
    · rwa [List.getElem?_drop] at hv
    · cases hv
theorem slS_str {s : Sl} {xs : List Int} {lo hi : Nat} (h : Rd w s 1 (nums .u8 xs)) (h1 : lo ≤ hi) (h2 : hi ≤ s.n) (h3 : s.n ≤ s.c) :
    ∃ s', slS s (lo : Int) (hi : Int) (s.c : Int) 1 = some s' ∧ b2s s' w = some (strOfNums ((xs.drop lo).take (hi - lo))) := by
  obtain ⟨s', e, r, _⟩ := slS_rd h h1 h2 h3
  refine ⟨s', e, b2s_Rd ?_⟩
  have : nums .u8 ((xs.drop lo).take (hi - lo)) = ((nums .u8 xs).drop lo).take (hi - lo) := by simp [nums, List.map_take, List.map_drop]
  rw [this]; exact r
theorem sEq_self (s : ByteArray) : sEq s s = true := by simp [sEq]
theorem own_ix {T : TypeId} {s : Sl} {xs : List Int} {k : Nat} (h : Own w T s 1 (nums .u8 xs)) (hk : k < s.n) : ∃ g rest, s.p = some ⟨g, 0, none⟩ ∧ B w g = some (nums .u8 xs ++ rest, T) ∧ rest.length = (s.c - s.n) * 1 ∧ ix s (k : Int) 1 = some ⟨g, k, none⟩ := by
  rcases h.h with ⟨_, h0, _⟩ | ⟨g, rest, hp, hB, hl⟩
  · omega
  refine ⟨g, rest, hp, hB, hl, ?_⟩
  unfold ix
  rw [hp, Option.bind_some, if_pos (by omega), add_mk]; simp
theorem own_set {T : TypeId} {s : Sl} {xs : List Int} {k : Nat} (v : Int) (h : Own w T s 1 (nums .u8 xs)) (hk : k < s.n) :
    ∃ g w', ix s (k : Int) 1 = some ⟨g, k, none⟩ ∧ s.blk g ∧ ldI .u8 w ⟨g, k, none⟩ = some (xs.getD k 0) ∧ stV w ⟨g, k, none⟩ (.int .u8 v) = some w' ∧ Own w' T s 1 (nums .u8 (xs.set k v)) ∧ Fr s.blk w w' := by
  have hl : xs.length = s.n := by have := h.len; simpa using this
  obtain ⟨g, rest, hp, hB, hr, e⟩ := own_ix h hk
  obtain ⟨w', e', b', o'⟩ := stV_s (o := k) (v := .int .u8 v) hB (by rw [List.length_append, nums_length]; omega) rfl
  refine ⟨g, w', e, ⟨_, hp, rfl⟩, ldI_B hB ?_, e', ⟨by simp [hl], h.cap, h.max, .inr ⟨g, rest, hp, ?_, hr⟩⟩, o'.fr ⟨_, hp, rfl⟩⟩
  · rw [List.getElem?_append_left (by simp; omega), nums_get]
    simp [List.getD, hl, hk]
  · rw [b', List.set_append_left _ _ (by simp; omega)]
    simp [nums, List.map_set]
theorem own_loop {T : TypeId} {s : Sl} {step : Int → World → Option ((Int × World) ⊕ World)} (hmax : s.n < 9223372036854775807)
    (hstep : ∀ (k : Nat) (w : World) (xs : List Int), k < s.n → Own w T s 1 (nums .u8 xs) → ∃ g v w', stV w ⟨g, k, none⟩ (.int .u8 v) = some w' ∧ ix s (k : Int) 1 = some ⟨g, k, none⟩ ∧ step (k : Int) w = some (.inl (IntKind.wrap .i64 ((k : Int) + 1), w')))
    (hend : ∀ w : World, step (s.n : Int) w = some (.inr w)) :
    ∀ (m k : Nat) (w : World) (xs : List Int), k + m = s.n → Own w T s 1 (nums .u8 xs) → ∃ w', loopF (fun r : Int × World => step r.1 r.2) ((k : Int), w) = some w' ∧ Fr s.blk w w' := by
  intro m
  induction m with
  | zero =>
    intro k w xs hk ho
    have : k = s.n := by omega
    subst this
    exact ⟨w, loopF_done (hend w), Fr.refl⟩
  | succ m ih =>
    intro k w xs hk ho
    obtain ⟨g, v, w1, e1, e2, e3⟩ := hstep k w xs (by omega) ho
    obtain ⟨g', w1', e2', _, _, e1', o1, f1⟩ := own_set v ho (show k < s.n by omega)
    rw [e2] at e2'
    simp only [Option.some.injEq, Addr.mk.injEq, and_true] at e2'
    subst e2'
    rw [e1] at e1'
    cases e1'
    obtain ⟨w', e', f'⟩ := ih (k + 1) w1 _ (by omega) o1
    refine ⟨w', ?_, f1.trans f'⟩
    rw [← e', ← wrap_nat (show k < 9223372036854775807 by omega)]
    exact loopF_next e3
theorem write_W (D : Dk) (i : Int) (b : List Int) : (D.write i b).2.W.length ≤ D.W.length + 1 := by
  unfold Dk.write
  split; · simp
  split; · simp
  split; · simp
  split
  · simp [trips_W]
  · simp
end
end Go.Proofs.Ytoanmomopcaikaa.D
