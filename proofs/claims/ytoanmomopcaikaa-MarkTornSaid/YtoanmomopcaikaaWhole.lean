/- Whether a sector is whole: mark's and the document's. -/
import Derived.Test.YtoanmomopcaikaaOct
namespace Go.Proofs.Ytoanmomopcaikaa.D
open Go
set_option linter.unusedVariables false
set_option linter.unusedSimpArgs false
def fits (x y : Int) : Bool := decide (1 ≤ x) && decide (x ≤ 4611686018427387904) && decide (0 ≤ y) && decide (y ≤ 1099511627776)
def whole (b : List Int) : Int × Int × Bool :=
  if b.length = 64 ∧ b.getD 0 0 = b.getD 63 0 then
    if (fits (takeK b 1) (takeK b 9) && ((b.drop 17).take 46).all (· == 0)) = true then (takeK b 1, takeK b 9, true) else (0, 0, false)
  else (0, 0, false)
section
variable {w w' : World}
theorem whole_loop {s : Sl} {zs : List Int} (h : Rd w s 1 (nums .u8 zs)) (hm : s.n < 1000000) : ∀ (suf pre : List Int), zs = pre ++ suf →
    loopF (fun r : Int × World => mark_whole_l1 s r.1 r.2) ((pre.length : Int), w) = some (if (suf.all (· == 0)) = true then .inl w else .inr (0, 0, false, w)) := by
  have hn : zs.length = s.n := by have := h.len; simpa using this
  intro suf
  induction suf with
  | nil =>
    intro pre hp
    refine loopF_done ?_
    have hl : zs.length = pre.length := by rw [hp]; simp
    have : decide ((pre.length : Int) < (s.n : Int)) = false := by simp; omega
    simp only [mark_whole_l1, this, Bool.false_eq_true, if_false, List.all_nil, if_true]
  | cons b suf ih =>
    intro pre hp
    have hk : pre.length < zs.length := by rw [hp]; simp
    obtain ⟨a, e1, e2⟩ := ld_u8 (i := pre.length) h hk
    have hbx : zs.getD pre.length 0 = b := by rw [hp, List.getD_eq_getElem?_getD]; simp
    rw [hbx] at e2
    have hlt : decide ((pre.length : Int) < (s.n : Int)) = true := by simp; omega
    by_cases hb : b = 0
    · have := ih (pre ++ [b]) (by rw [hp]; simp)
      rw [show ((pre ++ [b]).length : Int) = ((pre.length + 1 : Nat) : Int) by simp] at this
      simp only [List.all_cons, hb, beq_self_eq_true, Bool.true_and]
      rw [← this]
      refine loopF_next ?_
      simp only [mark_whole_l1, hlt, if_true, e1, Option.bind_some, e2, hb, bne_self_eq_false, Bool.false_eq_true, if_false]
      rw [wrap_nat (by omega)]
    · have hb' : (b == 0) = false := by simpa using hb
      have hb2 : (b != 0) = true := by simpa using hb
      simp only [List.all_cons, hb', Bool.false_and, Bool.false_eq_true, if_false]
      refine loopF_done ?_
      simp only [mark_whole_l1, hlt, if_true, e1, Option.bind_some, e2, hb2]
theorem rwhole_loop {s : Sl} {xs : List Int} (h : Rd w s 1 (nums .u8 xs)) (hl : xs.length = 64) : ∀ (m k : Nat) (ok : Bool), k + m = 63 →
    loopF (fun r : Bool × Int × World => grapevineref10_Whole_l1 s r.1 r.2.1 r.2.2) (ok, (k : Int), w) = some (ok && ((xs.drop k).take m).all (· == 0), w) := by
  intro m
  induction m with
  | zero =>
    intro k ok hk
    have : k = 63 := by omega
    subst this
    refine loopF_done ?_
    simp [grapevineref10_Whole_l1]
  | succ m ih =>
    intro k ok hk
    obtain ⟨a, e1, e2⟩ := ld_u8 (i := k) h (by omega)
    have hlt : decide ((k : Int) < 63) = true := by simp; omega
    have hd : (xs.drop k).take (m + 1) = xs.getD k 0 :: (xs.drop (k + 1)).take m := by
      rw [List.drop_eq_getElem_cons (by omega), List.take_succ_cons, List.getD_eq_getElem?_getD, List.getElem?_eq_getElem (by omega)]; rfl
    rw [hd, List.all_cons, ← Bool.and_assoc, ← ih (k + 1) (ok && (xs.getD k 0 == 0)) (by omega)]
    refine loopF_next ?_
    cases ok with
    | true =>
      simp only [grapevineref10_Whole_l1, hlt, if_true, e1, Option.bind_some, e2, bind2_some, Bool.true_and]
      rw [wrap_nat (by omega)]
    | false =>
      simp only [grapevineref10_Whole_l1, hlt, if_true, Bool.false_eq_true, if_false, bind2_some, Bool.false_and]
      rw [wrap_nat (by omega)]
theorem fits_mark {x y : Int} : (if decide (x < 1) = true then some (true, w) else if decide (4611686018427387904 < x) = true then some (true, w) else if decide (y < 0) = true then some (true, w) else some (decide (1099511627776 < y), w)) = some (!fits x y, w) := by
  unfold fits
  by_cases h1 : x < 1
  · have : decide (1 ≤ x) = false := by simp; omega
    simp [h1, this]
  by_cases h2 : 4611686018427387904 < x
  · have : decide (x ≤ 4611686018427387904) = false := by simp; omega
    simp [h1, h2, this]
  by_cases h3 : y < 0
  · have : decide (0 ≤ y) = false := by simp; omega
    simp [h1, h2, h3, this]
  have g1 : decide (1 ≤ x) = true := by simp; omega
  have g2 : decide (x ≤ 4611686018427387904) = true := by simp; omega
  have g3 : decide (0 ≤ y) = true := by simp; omega
  by_cases h4 : 1099511627776 < y
  · have : decide (y ≤ 1099511627776) = false := by simp; omega
    simp [h1, h2, h3, h4, this]
  · have : decide (y ≤ 1099511627776) = true := by simp; omega
    simp [h1, h2, h3, h4, this, g1, g2, g3]
theorem fits_ref {x y : Int} : (if decide (1 ≤ x) = true then if decide (x ≤ 4611686018427387904) = true then if decide (0 ≤ y) = true then some (decide (y ≤ 1099511627776), w) else some (false, w) else some (false, w) else some (false, w)) = some (fits x y, w) := by
  unfold fits
  cases decide (1 ≤ x) <;> cases decide (x ≤ 4611686018427387904) <;> cases decide (0 ≤ y) <;> simp
/-- The first test of both. -/
theorem head_test {s : Sl} {xs : List Int} (h : Rd w s 1 (nums .u8 xs)) : (if ((s.n : Int) != 64) = true then some (true, w) else (ix s 0 1).bind fun p8 => (ldI .u8 w p8).bind fun v10 => (ix s 63 1).bind fun p12 => (ldI .u8 w p12).bind fun v14 => some ((v10 != v14), w)) = some (!decide (xs.length = 64 ∧ xs.getD 0 0 = xs.getD 63 0), w) := by
  have hn : xs.length = s.n := by have := h.len; simpa using this
  by_cases hl : xs.length = 64
  · have g : ((s.n : Int) != 64) = false := by simp; omega
    obtain ⟨a, a1, a2⟩ := ld_u8 (i := 0) h (by omega)
    obtain ⟨b, b1, b2⟩ := ld_u8 (i := 63) h (by omega)
    have a1' : ix s 0 1 = some a := a1
    have b1' : ix s 63 1 = some b := b1
    rw [g, if_neg (by simp), a1', Option.bind_some, a2, Option.bind_some, b1', Option.bind_some, b2, Option.bind_some]
    have hpq : ∀ p q : Int, (p != q) = !decide (p = q) := fun p q => by by_cases h : p = q <;> simp [h]
    rw [hpq]
    simp only [hl, true_and]
  · have g : ((s.n : Int) != 64) = true := by simp; omega
    rw [if_pos g]
    simp [hl]
theorem mwhole_ok {s : Sl} {xs : List Int} (h : Rd w s 1 (nums .u8 xs)) (hb : Bytes xs) (hc : s.n ≤ s.c) (hm : s.n < 1000000) : ∃ w', mark_whole s w = some ((whole xs).1, (whole xs).2.1, (whole xs).2.2, w') ∧ ∀ S, Fr S w w' := by
  obtain ⟨w1, e1, _, g1, _, _⟩ := dr_s (w := w)
  have f1 : ∀ S, Fr S w w1 := fun S => (g1 w.heap.size S).fr
  have h1 := h.fr (f1 (fun _ => False)) (fun _ _ _ h => h)
  have hn : xs.length = s.n := by have := h.len; simpa using this
  refine ⟨w1, ?_, f1⟩
  unfold mark_whole
  rw [e1, Option.bind_some, head_test h1, bind2_some]
  by_cases hd : xs.length = 64 ∧ xs.getD 0 0 = xs.getD 63 0
  · have t1 := take_ok (i := 1) h1 hb (by omega) hc hm
    have t2 := take_ok (i := 9) h1 hb (by omega) hc hm
    obtain ⟨s27, e2, r2, n2, _⟩ := slS_rdZ (lo := 17) (hi := 63) h1 (by omega) (by omega) hc
    have hy : ((nums .u8 xs).drop 17).take (63 - 17) = nums .u8 ((xs.drop 17).take 46) := by
      simp [nums, List.map_take, List.map_drop]
    rw [hy] at r2
    have l2 := whole_loop r2 (by omega) ((xs.drop 17).take 46) [] rfl
    have t1' : octet_TakeKey s 1 w1 = some (takeK xs 1, ((1 + 8 : Nat) : Int), 0, w1) := t1
    have t2' : octet_TakeKey s 9 w1 = some (takeK xs 9, ((9 + 8 : Nat) : Int), 0, w1) := t2
    have e2' : slS s 17 63 (s.c : Int) 1 = some s27 := e2
    have l2' : loopF (fun r : Int × World => mark_whole_l1 s27 r.1 r.2) (0, w1) = some (if (((xs.drop 17).take 46).all (· == 0)) = true then .inl w1 else .inr (0, 0, false, w1)) := l2
    rw [decide_eq_true hd, if_neg (by simp), t1', bind4_some, t2', bind4_some, e2', Option.bind_some, l2', Option.bind_some]
    have hw : whole xs = if (fits (takeK xs 1) (takeK xs 9) && ((xs.drop 17).take 46).all (· == 0)) = true then (takeK xs 1, takeK xs 9, true) else (0, 0, false) := by unfold whole; rw [if_pos hd]
    rw [hw]
    by_cases hz : (((xs.drop 17).take 46).all (· == 0)) = true
    · rw [if_pos hz]
      simp only [Sum.elim_inl, u1]
      rw [fits_mark, bind2_some, hz, Bool.and_true]
      cases fits (takeK xs 1) (takeK xs 9) <;> rfl
    · rw [if_neg hz]
      simp only [Sum.elim_inr, u4]
      have : (((xs.drop 17).take 46).all (· == 0)) = false := by simpa using hz
      rw [this, Bool.and_false]; rfl
  · rw [decide_eq_false hd, if_pos (by simp)]
    have hw : whole xs = (0, 0, false) := by unfold whole; rw [if_neg hd]
    rw [hw]
theorem rwhole_ok {s : Sl} {xs : List Int} (h : Rd w s 1 (nums .u8 xs)) (hb : Bytes xs) (hm : s.n < 1000000) : ∃ w', grapevineref10_Whole s w = some ((whole xs).1, (whole xs).2.1, (whole xs).2.2, w') ∧ ∀ S, Fr S w w' := by
  obtain ⟨w1, e1, _, g1, _, _⟩ := dr_s (w := w)
  have f1 : ∀ S, Fr S w w1 := fun S => (g1 w.heap.size S).fr
  have h1 := h.fr (f1 (fun _ => False)) (fun _ _ _ h => h)
  have hn : xs.length = s.n := by have := h.len; simpa using this
  refine ⟨w1, ?_, f1⟩
  unfold grapevineref10_Whole
  rw [e1, Option.bind_some, head_test h1, bind2_some]
  by_cases hd : xs.length = 64 ∧ xs.getD 0 0 = xs.getD 63 0
  · have t1' : grapevineref02_TakeKey s 1 w1 = some (takeK xs 1, ((1 + 8 : Nat) : Int), 0, w1) := rtake_ok (i := 1) h1 hb (by omega) hm
    have t2' : grapevineref02_TakeKey s 9 w1 = some (takeK xs 9, ((9 + 8 : Nat) : Int), 0, w1) := rtake_ok (i := 9) h1 hb (by omega) hm
    have l2' : loopF (fun r : Bool × Int × World => grapevineref10_Whole_l1 s r.1 r.2.1 r.2.2) (fits (takeK xs 1) (takeK xs 9), 17, w1) = some (fits (takeK xs 1) (takeK xs 9) && ((xs.drop 17).take 46).all (· == 0), w1) := rwhole_loop h1 hd.1 46 17 _ rfl
    rw [decide_eq_true hd, if_neg (by simp), t1', bind4_some, t2', bind4_some, fits_ref, bind2_some, l2', bind2_some]
    have hw : whole xs = if (fits (takeK xs 1) (takeK xs 9) && ((xs.drop 17).take 46).all (· == 0)) = true then (takeK xs 1, takeK xs 9, true) else (0, 0, false) := by unfold whole; rw [if_pos hd]
    rw [hw]
    cases (fits (takeK xs 1) (takeK xs 9) && ((xs.drop 17).take 46).all (· == 0)) <;> rfl
  · rw [decide_eq_false hd, if_pos (by simp)]
    have hw : whole xs = (0, 0, false) := by unfold whole; rw [if_neg hd]
    rw [hw]
end
end Go.Proofs.Ytoanmomopcaikaa.D
