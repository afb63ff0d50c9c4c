/- octet.Key and TakeKey, and the document's: eight bytes of a number. -/
import Derived.Test.YtoanmomopcaikaaGen
import Derived.Test.YtoanmomopcaikaaRef
import Derived.Test.YtoanmomopcaikaaFnM
namespace Go.Proofs.Ytoanmomopcaikaa.D
open Go
set_option linter.unusedVariables false
set_option linter.unusedSimpArgs false
/-! ### Numbers -/
theorem xor63_lo {u : Nat} (h : u < 2^63) : u ^^^ 2^63 = u + 2^63 := by
  apply Nat.eq_of_testBit_eq
  intro i
  rw [Nat.testBit_xor, Nat.testBit_two_pow, Nat.add_comm]
  by_cases hi : i = 63
  · subst hi
    rw [Nat.testBit_two_pow_add_eq, Nat.testBit_lt_two_pow h]; rfl
  · by_cases h2 : i < 63
    · rw [Nat.testBit_two_pow_add_gt h2]
      simp [Ne.symm hi]
    · have h3 : u < 2^i := Nat.lt_of_lt_of_le h (Nat.pow_le_pow_right (by decide) (by omega))
      have h4 : 2^63 + u < 2^i := by
        have : 2^64 ≤ 2^i := Nat.pow_le_pow_right (by decide) (by omega)
        omega
      rw [Nat.testBit_lt_two_pow h3, Nat.testBit_lt_two_pow h4]
      simp [Ne.symm hi]
theorem xor63_hi {u : Nat} (h : 2^63 ≤ u) (h2 : u < 2^64) : u ^^^ 2^63 = u - 2^63 := by
  obtain ⟨v, rfl⟩ : ∃ v, u = v + 2^63 := ⟨u - 2^63, by omega⟩
  rw [← xor63_lo (by omega), Nat.xor_assoc, Nat.xor_self, Nat.xor_zero, xor63_lo (by omega)]
  omega
theorem ofInt_nat {x : Nat} (h : x < 18446744073709551616) : (BitVec.ofInt 64 (x : Int)).toNat = x := by
  rw [BitVec.toNat_ofInt]; simp; omega
theorem bxor63 {u : Int} (h0 : 0 ≤ u) (h1 : u < 18446744073709551616) : bxor .u64 u 9223372036854775808 = (u + 9223372036854775808) % 18446744073709551616 := by
  obtain ⟨x, rfl⟩ := Int.eq_ofNat_of_zero_le h0
  show IntKind.wrap .u64 ((BitVec.ofInt 64 (x : Int) ^^^ BitVec.ofInt 64 9223372036854775808 : BitVec 64).toNat : Int) = _
  rw [BitVec.toNat_xor, ofInt_nat (by omega), show (9223372036854775808 : Int) = ((9223372036854775808 : Nat) : Int) from rfl, ofInt_nat (by omega), wrap_u64]
  have e : (9223372036854775808 : Nat) = 2^63 := by decide
  by_cases h : x < 2^63
  · rw [e, xor63_lo h]; omega
  · rw [e, xor63_hi (by omega) (by omega)]; omega
theorem bor8 {x b : Int} (h0 : 0 ≤ x) (h1 : x < 72057594037927936) (b0 : 0 ≤ b) (b1 : b < 256) : bor .u64 (x * 256) b = x * 256 + b := by
  obtain ⟨x, rfl⟩ := Int.eq_ofNat_of_zero_le h0
  obtain ⟨b, rfl⟩ := Int.eq_ofNat_of_zero_le b0
  show IntKind.wrap .u64 ((BitVec.ofInt 64 ((x : Int) * 256) ||| BitVec.ofInt 64 (b : Int) : BitVec 64).toNat : Int) = _
  rw [BitVec.toNat_or, show ((x : Int) * 256) = ((x * 256 : Nat) : Int) by omega, ofInt_nat (by omega), ofInt_nat (by omega), wrap_u64]
  have := Nat.shiftLeft_add_eq_or_of_lt (i := 8) (b := b) (by omega) x
  rw [Nat.shiftLeft_eq] at this
  rw [show x * 256 = x * 2 ^ 8 from rfl, ← this]
  omega
/-! ### The model -/
/-- The number that bytes stand for. -/
def be (xs : List Int) : Int := xs.foldl (fun x b => x * 256 + b) 0
/-- The eight bytes of a number. -/
def keyL (n : Int) : List Int := (List.range 8).map fun j => (n + 9223372036854775808) / 2 ^ (56 - 8 * j) % 256
def takeK (xs : List Int) (i : Nat) : Int := be ((xs.drop i).take 8) - 9223372036854775808
def Bytes (xs : List Int) : Prop := ∀ b ∈ xs, 0 ≤ b ∧ b < 256
theorem be_snoc (xs : List Int) (b : Int) : be (xs ++ [b]) = be xs * 256 + b := by simp [be]
theorem be_range : ∀ (n : Nat) (xs : List Int), xs.length = n → Bytes xs → 0 ≤ be xs ∧ be xs < 256 ^ n := by
  intro n
  induction n with
  | zero =>
    intro xs h _
    have : xs = [] := List.eq_nil_of_length_eq_zero h
    subst this
    simp [be]
  | succ n ih =>
    intro xs h hb
    rcases List.eq_nil_or_concat xs with rfl | ⟨ys, b, rfl⟩
    · simp at h
    · rw [List.concat_eq_append] at h hb ⊢
      simp only [List.length_append, List.length_singleton] at h
      have h1 := ih ys (by omega) (fun y hy => hb y (by simp [hy]))
      have h2 := hb b (by simp)
      rw [be_snoc, Int.pow_succ]
      omega
theorem keyL_len (n : Int) : (keyL n).length = 8 := by simp [keyL]
theorem keyL_bytes (n : Int) : Bytes (keyL n) := by
  intro b hb
  simp only [keyL, List.mem_map] at hb
  obtain ⟨j, _, rfl⟩ := hb
  omega
theorem be_key {n : Int} (h0 : -9223372036854775808 ≤ n) (h1 : n ≤ 9223372036854775807) : be (keyL n) = n + 9223372036854775808 := by
  obtain ⟨u, hu⟩ : ∃ u, u = n + 9223372036854775808 := ⟨_, rfl⟩
  simp only [keyL, ← hu, List.range, List.range.loop, List.map_cons, List.map_nil, be, List.foldl_cons, List.foldl_nil, Nat.reduceMul, Nat.reduceSub, Int.reducePow]
  omega
/-! ### TakeKey -/
section
variable {w w' : World}
theorem pow7 : ∀ p : Nat, p ≤ 7 → (256 : Int) ^ p ≤ 72057594037927936 := by decide
theorem be_lt7 {pre suf : List Int} (hl : (pre ++ suf).length = 8) (hb : Bytes (pre ++ suf)) (hs : suf ≠ []) : 0 ≤ be pre ∧ be pre < 72057594037927936 := by
  have h1 := be_range pre.length pre rfl (fun y hy => hb y (by simp [hy]))
  have hn : pre.length ≤ 7 := by
    have : suf.length ≠ 0 := fun h => hs (List.eq_nil_of_length_eq_zero h)
    simp at hl; omega
  refine ⟨h1.1, Int.lt_of_lt_of_le h1.2 ?_⟩
  exact pow7 _ hn
theorem take_loop {s8 : Sl} {ys : List Int} (h : Rd w s8 1 (nums .u8 ys)) (hl : ys.length = 8) (hb : Bytes ys) : ∀ (suf pre : List Int), ys = pre ++ suf →
    loopF (fun s : Int × Int × World => octet_TakeKey_l1 s8 s.1 s.2.1 s.2.2) (be pre, (pre.length : Int), w) = some (be ys, w) := by
  have hn : ys.length = s8.n := by have := h.len; simpa using this
  intro suf
  induction suf with
  | nil =>
    intro pre hp
    have : pre = ys := by simpa using hp.symm
    subst this
    refine loopF_done ?_
    have : decide ((pre.length : Int) < (s8.n : Int)) = false := by simp; omega
    simp only [octet_TakeKey_l1, this, Bool.false_eq_true, if_false]
  | cons b suf ih =>
    intro pre hp
    have hk : pre.length < ys.length := by rw [hp]; simp
    obtain ⟨a, e1, e2⟩ := ld_u8 (i := pre.length) h hk
    have hbx : ys.getD pre.length 0 = b := by rw [hp, List.getD_eq_getElem?_getD]; simp
    rw [hbx] at e2
    have hr := be_lt7 (pre := pre) (suf := b :: suf) (by rw [← hp]; exact hl) (by rw [← hp]; exact hb) (by simp)
    have hb0 := hb b (by rw [hp]; simp)
    have hlt : decide ((pre.length : Int) < (s8.n : Int)) = true := by simp; omega
    rw [← ih (pre ++ [b]) (by rw [hp]; simp), be_snoc, ← bor8 hr.1 hr.2 hb0.1 hb0.2, show ((pre ++ [b]).length : Int) = ((pre.length + 1 : Nat) : Int) by simp]
    refine loopF_next ?_
    have e3 : shlI .u64 (be pre) 8 = some (be pre * 256) := by
      have : IntKind.wrap .u64 (be pre * 2 ^ min (8 : Int).toNat (IntKind.bits .u64)) = be pre * 256 := by
        rw [show (2 : Int) ^ min (8 : Int).toNat (IntKind.bits .u64) = 256 from rfl, wrap_u64]; omega
      unfold shlI
      rw [if_neg (by decide), this]
    have e4 : IntKind.wrap .u64 b = b := by rw [wrap_u64]; omega
    simp only [octet_TakeKey_l1, hlt, if_true, e1, Option.bind_some, e2, e3, e4]
    rw [wrap_nat (by omega)]
theorem take_end {u : Int} (h0 : 0 ≤ u) (h1 : u < 18446744073709551616) : IntKind.wrap .i64 (bxor .u64 u 9223372036854775808) = u - 9223372036854775808 := by
  rw [bxor63 h0 h1, IntKind.wrap_i64]; omega
theorem be8 {ys : List Int} (hl : ys.length = 8) (hb : Bytes ys) : 0 ≤ be ys ∧ be ys < 18446744073709551616 := by
  have := be_range 8 ys hl hb
  exact ⟨this.1, Int.lt_of_lt_of_le this.2 (by decide)⟩
theorem take_ok {s : Sl} {xs : List Int} {i : Nat} (h : Rd w s 1 (nums .u8 xs)) (hb : Bytes xs) (hi : i + 8 ≤ xs.length) (hc : s.n ≤ s.c) (hm : s.n < 1000000) : octet_TakeKey s (i : Int) w = some (takeK xs i, ((i + 8 : Nat) : Int), 0, w) := by
  have hn : xs.length = s.n := by have := h.len; simpa using this
  obtain ⟨s8, e8, r8, n8, _⟩ := slS_rdZ (lo := i) (hi := i + 8) h (by omega) (by omega) hc
  have hy : ((nums .u8 xs).drop i).take (i + 8 - i) = nums .u8 ((xs.drop i).take 8) := by
    rw [show i + 8 - i = 8 by omega]; simp [nums, List.map_take, List.map_drop]
  rw [hy] at r8
  have hl : ((xs.drop i).take 8).length = 8 := by simp; omega
  have hby : Bytes ((xs.drop i).take 8) := fun b hb' => hb b (List.mem_of_mem_drop (List.mem_of_mem_take hb'))
  have hloop := take_loop r8 hl hby ((xs.drop i).take 8) [] rfl
  have hr := be8 hl hby
  have g1 : decide ((i : Int) < 0) = false := by simp
  have g2 : decide ((s.n : Int) < (i : Int)) = false := by simp; omega
  have g3 : decide (IntKind.wrap .i64 ((s.n : Int) - (i : Int)) < 8) = false := by rw [IntKind.wrap_i64]; simp; omega
  have g4 : IntKind.wrap .i64 ((i : Int) + 8) = ((i + 8 : Nat) : Int) := by rw [IntKind.wrap_i64]; omega
  simp only [List.length_nil, Int.ofNat_zero] at hloop
  unfold octet_TakeKey
  rw [g1, if_neg (by simp), g2, bind2_some, if_neg (by simp), g3, if_neg (by simp), g4, e8, Option.bind_some]
  have hloop' : loopF (fun s : Int × Int × World => octet_TakeKey_l1 s8 s.1 s.2.1 s.2.2) (0, 0, w) = some (be ((xs.drop i).take 8), w) := hloop
  rw [hloop', bind2_some, take_end hr.1 hr.2]
  rfl
theorem rtake_loop {s : Sl} {xs ys : List Int} {i : Nat} (h : Rd w s 1 (nums .u8 xs)) (hy : ys = (xs.drop i).take 8) (hl : ys.length = 8) (hb : Bytes ys) (hm : s.n < 1000000) : ∀ (suf pre : List Int), ys = pre ++ suf →
    loopF (fun s_1 : Int × Int × World => grapevineref02_TakeKey_l1 s (i : Int) s_1.1 s_1.2.1 s_1.2.2) (be pre, (pre.length : Int), w) = some (be ys, w) := by
  have hn : xs.length = s.n := by have := h.len; simpa using this
  intro suf
  induction suf with
  | nil =>
    intro pre hp
    have : pre = ys := by simpa using hp.symm
    subst this
    refine loopF_done ?_
    have : decide ((pre.length : Int) < 8) = false := by simp; omega
    simp only [grapevineref02_TakeKey_l1, this, Bool.false_eq_true, if_false]
  | cons b suf ih =>
    intro pre hp
    have hk : pre.length < ys.length := by rw [hp]; simp
    have hxl : i + 8 ≤ xs.length := by rw [hy] at hl; simp at hl; omega
    obtain ⟨a, e1, e2⟩ := ld_u8 (i := i + pre.length) h (by omega)
    have hbx : xs.getD (i + pre.length) 0 = b := by
      have h1 : ys[pre.length]? = some b := by rw [hp]; simp
      rw [hy, List.getElem?_take, if_pos (by omega), List.getElem?_drop] at h1
      rw [List.getD_eq_getElem?_getD, h1]; rfl
    rw [hbx] at e2
    have hr := be_lt7 (pre := pre) (suf := b :: suf) (by rw [← hp]; exact hl) (by rw [← hp]; exact hb) (by simp)
    have hb0 := hb b (by rw [hp]; simp)
    have hlt : decide ((pre.length : Int) < 8) = true := by simp; omega
    have e0 : IntKind.wrap .i64 ((i : Int) + (pre.length : Int)) = ((i + pre.length : Nat) : Int) := by rw [IntKind.wrap_i64]; omega
    have e5 : IntKind.wrap .u64 (IntKind.wrap .u64 (256 * be pre) + IntKind.wrap .u64 b) = be (pre ++ [b]) := by
      rw [be_snoc, wrap_u64, wrap_u64, wrap_u64]; omega
    rw [← ih (pre ++ [b]) (by rw [hp]; simp), ← e5, show ((pre ++ [b]).length : Int) = ((pre.length + 1 : Nat) : Int) by simp]
    refine loopF_next ?_
    simp only [grapevineref02_TakeKey_l1, hlt, if_true, e0, e1, Option.bind_some, e2]
    rw [wrap_nat (by omega)]
theorem rtake_ok {s : Sl} {xs : List Int} {i : Nat} (h : Rd w s 1 (nums .u8 xs)) (hb : Bytes xs) (hi : i + 8 ≤ xs.length) (hm : s.n < 1000000) : grapevineref02_TakeKey s (i : Int) w = some (takeK xs i, ((i + 8 : Nat) : Int), 0, w) := by
  have hn : xs.length = s.n := by have := h.len; simpa using this
  have hl : ((xs.drop i).take 8).length = 8 := by simp; omega
  have hby : Bytes ((xs.drop i).take 8) := fun b hb' => hb b (List.mem_of_mem_drop (List.mem_of_mem_take hb'))
  have hloop := rtake_loop (i := i) h rfl hl hby hm ((xs.drop i).take 8) [] rfl
  have hr := be8 hl hby
  have g1 : decide ((i : Int) < 0) = false := by simp
  have g2 : decide ((s.n : Int) < (i : Int)) = false := by simp; omega
  have g3 : decide (IntKind.wrap .i64 ((s.n : Int) - (i : Int)) < 8) = false := by rw [IntKind.wrap_i64]; simp; omega
  have g4 : IntKind.wrap .i64 ((i : Int) + 8) = ((i + 8 : Nat) : Int) := by rw [IntKind.wrap_i64]; omega
  unfold grapevineref02_TakeKey
  rw [g1, if_neg (by simp), g2, bind2_some, if_neg (by simp), g3, if_neg (by simp), g4]
  have hloop' : loopF (fun s_1 : Int × Int × World => grapevineref02_TakeKey_l1 s (i : Int) s_1.1 s_1.2.1 s_1.2.2) (0, 0, w) = some (be ((xs.drop i).take 8), w) := hloop
  rw [hloop', bind2_some]
  have : IntKind.wrap .i64 (IntKind.wrap .u64 (be ((xs.drop i).take 8) - 9223372036854775808)) = takeK xs i := by
    rw [wrap_u64, IntKind.wrap_i64, takeK]; omega
  rw [this]
/-! ### Key -/
theorem key_get {n : Int} {j : Nat} (hj : j < 8) : (keyL n).getD j 0 = (n + 9223372036854775808) / 2 ^ (56 - 8 * j) % 256 := by
  rw [List.getD_eq_getElem?_getD, keyL, List.getElem?_map, List.getElem?_range hj]; rfl
theorem key_ext {n : Int} {xs : List Int} (hl : xs.length = 8) (h : ∀ j, j < 8 → xs.getD j 0 = (keyL n).getD j 0) : xs = keyL n := by
  refine List.ext_getElem (by rw [hl, keyL_len]) (fun j h1 h2 => ?_)
  have := h j (by omega)
  rw [List.getD_eq_getElem?_getD, List.getD_eq_getElem?_getD, List.getElem?_eq_getElem h1, List.getElem?_eq_getElem h2] at this
  exact this
theorem getD_set {xs : List Int} {k j : Nat} {v : Int} (hk : k < xs.length) : (xs.set k v).getD j 0 = if k = j then v else xs.getD j 0 := by
  rw [List.getD_eq_getElem?_getD, List.getElem?_set]
  split
  · subst_vars; simp [hk]
  · rw [List.getD_eq_getElem?_getD]
theorem key_loop {n : Int} {T : TypeId} {s1 : Sl} (hn : s1.n = 8) (h0 : -9223372036854775808 ≤ n) (h1 : n ≤ 9223372036854775807) : ∀ (m k : Nat) (xs : List Int) (w : World), k + m = 8 → xs.length = 8 → (∀ j, j < k → xs.getD j 0 = (keyL n).getD j 0) → Own w T s1 1 (nums .u8 xs) →
    ∃ w', loopF (fun s : Int × World => octet_Key_l1 s1 n s.1 s.2) ((k : Int), w) = some w' ∧ Own w' T s1 1 (nums .u8 (keyL n)) ∧ Fr s1.blk w w' := by
  intro m
  induction m with
  | zero =>
    intro k xs w hk hl hx ho
    have : k = 8 := by omega
    subst this
    refine ⟨w, loopF_done ?_, by rw [← key_ext hl hx]; exact ho, Fr.refl⟩
    simp [octet_Key_l1, hn]
  | succ m ih =>
    intro k xs w hk hl hx ho
    have hk8 : k < 8 := by omega
    have hlt : decide ((k : Int) < (s1.n : Int)) = true := by simp; omega
    obtain ⟨g, w1, e1, _, _, e3, o1, f1⟩ := own_set ((keyL n).getD k 0) ho (show k < s1.n by omega)
    obtain ⟨w', e', o', f'⟩ := ih (k + 1) _ w1 (by omega) (by rw [List.length_set]; exact hl) (fun j hj => by
      rw [getD_set (by omega)]
      split
      · subst_vars; rfl
      · exact hx j (by omega)) o1
    refine ⟨w', ?_, o', f1.trans f'⟩
    rw [← e', ← wrap_nat (show k < 9223372036854775807 by omega)]
    refine loopF_next ?_
    have e0 : IntKind.wrap .i64 (56 - IntKind.wrap .i64 (8 * (k : Int))) = ((56 - 8 * k : Nat) : Int) := by rw [IntKind.wrap_i64, IntKind.wrap_i64]; omega
    have hu : bxor .u64 (IntKind.wrap .u64 n) 9223372036854775808 = n + 9223372036854775808 := by
      rw [wrap_u64, bxor63 (by omega) (by omega)]; omega
    have e4 : shrI .u64 (n + 9223372036854775808) ((56 - 8 * k : Nat) : Int) = some ((n + 9223372036854775808) / 2 ^ (56 - 8 * k)) := by
      unfold shrI
      rw [if_neg (by omega), Int.toNat_natCast, show min (56 - 8 * k) (IntKind.bits .u64) = 56 - 8 * k by simp [IntKind.bits]; omega, Int.fdiv_eq_ediv_of_nonneg _ (Int.pow_nonneg (by decide))]
    have e5 : IntKind.wrap .u8 ((n + 9223372036854775808) / 2 ^ (56 - 8 * k)) = (keyL n).getD k 0 := by
      rw [key_get hk8]; simp [IntKind.wrap, IntKind.bits, IntKind.signed]
    simp only [octet_Key_l1, hlt, if_true, hu, e0, e4, Option.bind_some, e1, e5, e3]
theorem key_ok {n : Int} (h0 : -9223372036854775808 ≤ n) (h1 : n ≤ 9223372036854775807) : ∃ o w', octet_Key n w = some (o, w') ∧ RowAt w' o (keyL n) ∧ (∀ k, o.blk k → w.heap.size ≤ k) ∧ (∀ S, Fr S w w') := by
  obtain ⟨w1, e1, n1⟩ := mkS_s (w := w) st29 (m := 8) (by omega) (by omega)
  rw [show (8 : Int).toNat = 8 from rfl] at e1 n1
  rw [zeros_u8] at n1
  have o1 : RowAt w1 ⟨some ⟨w.heap.size, 0, none⟩, 8, 8⟩ (List.replicate 8 0) := Own.of_new n1 (by simp only [nums_length, List.length_replicate]) (by omega)
  obtain ⟨w', e', o', f'⟩ := key_loop (n := n) (s1 := ⟨some ⟨w.heap.size, 0, none⟩, 8, 8⟩) rfl h0 h1 8 0 _ w1 rfl (by simp only [List.length_replicate]) (fun j hj => by omega) o1
  simp only [Int.ofNat_zero] at e'
  refine ⟨_, w', ?_, o', fun k hk => Nat.le_of_eq (blk_eq hk).symm, fun S => (n1.fr _ S (Nat.le_refl _)).fr.trans_new f' (fun k hk => .inr (Nat.le_of_eq (blk_eq hk).symm))⟩
  unfold octet_Key
  rw [e1, bind2_some, e', Option.bind_some]
theorem rkey_loop {n : Int} {T : TypeId} {s1 : Sl} (hn : s1.n = 8) (h0 : -9223372036854775808 ≤ n) (h1 : n ≤ 9223372036854775807) : ∀ (d : Nat) (xs : List Int) (w : World), d ≤ 8 → xs.length = 8 → (∀ j, d ≤ j → j < 8 → xs.getD j 0 = (keyL n).getD j 0) → Own w T s1 1 (nums .u8 xs) →
    ∃ w', loopF (fun s : Int × Int × World => grapevineref02_Key_l1 s1 s.1 s.2.1 s.2.2) ((n + 9223372036854775808) / 2 ^ (64 - 8 * d), (d : Int) - 1, w) = some w' ∧ Own w' T s1 1 (nums .u8 (keyL n)) ∧ Fr s1.blk w w' := by
  intro d
  induction d with
  | zero =>
    intro xs w hk hl hx ho
    refine ⟨w, loopF_done ?_, by rw [← key_ext hl (fun j hj => hx j (Nat.zero_le _) hj)]; exact ho, Fr.refl⟩
    simp [grapevineref02_Key_l1]
  | succ d ih =>
    intro xs w hk hl hx ho
    have hk8 : d < 8 := by omega
    obtain ⟨g, w1, e1, _, _, e3, o1, f1⟩ := own_set ((keyL n).getD d 0) ho (show d < s1.n by omega)
    obtain ⟨w', e', o', f'⟩ := ih _ w1 (by omega) (by rw [List.length_set]; exact hl) (fun j hj hj8 => by
      rw [getD_set (by omega)]
      split
      · subst_vars; rfl
      · exact hx j (by omega) hj8) o1
    refine ⟨w', ?_, o', f1.trans f'⟩
    obtain ⟨u, hu⟩ : ∃ u, u = n + 9223372036854775808 := ⟨_, rfl⟩
    rw [← hu] at e' ⊢
    have hu0 : 0 ≤ u ∧ u < 18446744073709551616 := by omega
    obtain ⟨q, hq⟩ : ∃ q, q = u / 2 ^ (64 - 8 * (d + 1)) := ⟨_, rfl⟩
    have hq0 : 0 ≤ q := by rw [hq]; exact Int.ediv_nonneg hu0.1 (Int.pow_nonneg (by decide))
    have hq1 : q ≤ u := by rw [hq]; exact Int.ediv_le_self _ hu0.1
    have hnext : u / 2 ^ (64 - 8 * d) = q / 256 := by
      rw [hq, Int.ediv_ediv_of_nonneg (Int.pow_nonneg (by decide)), show (256 : Int) = 2 ^ 8 by decide, ← Int.pow_add, show 64 - 8 * (d + 1) + 8 = 64 - 8 * d by omega]
    rw [hnext] at e'
    rw [← hq, show ((d + 1 : Nat) : Int) - 1 = (d : Int) by omega]
    have hwd : IntKind.wrap .i64 ((d : Int) - 1) = (d : Int) - 1 := by rw [IntKind.wrap_i64]; omega
    have e4 : rmI q 256 = some (q % 256) := by
      unfold rmI; rw [if_neg (by decide), Int.tmod_eq_emod_of_nonneg hq0]
    have e5 : dvI .u64 q 256 = some (q / 256) := by
      unfold dvI; rw [if_neg (by decide), Int.tdiv_eq_ediv_of_nonneg hq0, wrap_u64]; congr 1; omega
    have e6 : IntKind.wrap .u8 (q % 256) = (keyL n).getD d 0 := by
      rw [key_get hk8, ← hu, show 56 - 8 * d = 64 - 8 * (d + 1) by omega, ← hq]
      simp [IntKind.wrap, IntKind.bits, IntKind.signed]
    rw [← e', ← hwd]
    refine loopF_next ?_
    have hlt : decide ((0 : Int) ≤ (d : Int)) = true := by simp
    simp only [grapevineref02_Key_l1, hlt, if_true, e4, Option.bind_some, e1, e6, e3, e5]
theorem rkey_ok {n : Int} (h0 : -9223372036854775808 ≤ n) (h1 : n ≤ 9223372036854775807) : ∃ o w', grapevineref02_Key n w = some (o, w') ∧ RowAt w' o (keyL n) ∧ (∀ k, o.blk k → w.heap.size ≤ k) ∧ (∀ S, Fr S w w') := by
  obtain ⟨w1, e1, n1⟩ := mkS_s (w := w) st29 (m := 8) (by omega) (by omega)
  rw [show (8 : Int).toNat = 8 from rfl] at e1 n1
  rw [zeros_u8] at n1
  have o1 : RowAt w1 ⟨some ⟨w.heap.size, 0, none⟩, 8, 8⟩ (List.replicate 8 0) := Own.of_new n1 (by simp only [nums_length, List.length_replicate]) (by omega)
  obtain ⟨w', e', o', f'⟩ := rkey_loop (n := n) (s1 := ⟨some ⟨w.heap.size, 0, none⟩, 8, 8⟩) rfl h0 h1 8 _ w1 (Nat.le_refl _) (by simp only [List.length_replicate]) (fun j hj h8 => by omega) o1
  refine ⟨_, w', ?_, o', fun k hk => Nat.le_of_eq (blk_eq hk).symm, fun S => (n1.fr _ S (Nat.le_refl _)).fr.trans_new f' (fun k hk => .inr (Nat.le_of_eq (blk_eq hk).symm))⟩
  have hu : IntKind.wrap .u64 (IntKind.wrap .u64 n + 9223372036854775808) = n + 9223372036854775808 := by rw [wrap_u64, wrap_u64]; omega
  have e2 : (n + 9223372036854775808) / 2 ^ (64 - 8 * 8) = n + 9223372036854775808 := by simp
  rw [e2] at e'
  unfold grapevineref02_Key
  rw [e1, bind2_some, hu]
  have e3 : loopF (fun s : Int × Int × World => grapevineref02_Key_l1 ⟨some ⟨w.heap.size, 0, none⟩, 8, 8⟩ s.1 s.2.1 s.2.2) (n + 9223372036854775808, 7, w1) = some w' := e'
  rw [e3, Option.bind_some]
end
end Go.Proofs.Ytoanmomopcaikaa.D
