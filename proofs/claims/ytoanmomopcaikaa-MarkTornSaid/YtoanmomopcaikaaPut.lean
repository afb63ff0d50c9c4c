/- mark.Cells: Put, told of the disk's model. -/
import Derived.Test.YtoanmomopcaikaaCell
namespace Go.Proofs.Ytoanmomopcaikaa.D
open Go
set_option linter.unusedVariables false
set_option linter.unusedSimpArgs false
def secOf (was : List Int) (n v : Int) : List Int := ((was.getD 63 0 + 1) % 256) :: (keyL (n + 1) ++ keyL v ++ List.replicate 46 0 ++ [(was.getD 63 0 + 1) % 256])
def Dk.put (D : Dk) (base count i v : Int) : Int × Dk :=
  if D.down = true then (10, D) else if i < 0 ∨ count ≤ i ∨ v < 0 ∨ 1099511627776 < v then (2, D) else
  if (D.found (base + 2 * i)).2.1 = 4611686018427387904 then (6, D) else
  if (D.write (base + 2 * i + ((D.found (base + 2 * i)).1 + 1) % 2) (secOf (D.read (base + 2 * i + ((D.found (base + 2 * i)).1 + 1) % 2)).1 (D.found (base + 2 * i)).2.1 v)).1 ≠ 0 then D.write (base + 2 * i + ((D.found (base + 2 * i)).1 + 1) % 2) (secOf (D.read (base + 2 * i + ((D.found (base + 2 * i)).1 + 1) % 2)).1 (D.found (base + 2 * i)).2.1 v)
  else (D.write (base + 2 * i + ((D.found (base + 2 * i)).1 + 1) % 2) (secOf (D.read (base + 2 * i + ((D.found (base + 2 * i)).1 + 1) % 2)).1 (D.found (base + 2 * i)).2.1 v)).2.sync
theorem len8 {l : List Int} (h : l.length = 8) : ∃ a b c d e f g i, l = [a, b, c, d, e, f, g, i] := by
  match l, h with
  | [a, b, c, d, e, f, g, i], _ => exact ⟨a, b, c, d, e, f, g, i, rfl⟩
theorem sec_cells {x : Int} {k1 k2 : List Int} (h1 : k1.length = 8) (h2 : k2.length = 8) :
    putL (putL (((nums .u8 (List.replicate 64 0)).set 0 (.int .u8 x)).set 63 (.int .u8 x)) 1 (nums .u8 k1)) 9 (nums .u8 k2) = nums .u8 (x :: (k1 ++ k2 ++ List.replicate 46 0 ++ [x])) := by
  obtain ⟨a1, a2, a3, a4, a5, a6, a7, a8, rfl⟩ := len8 h1
  obtain ⟨b1, b2, b3, b4, b5, b6, b7, b8, rfl⟩ := len8 h2
  rfl
section
variable {w w' : World} {x c : Nat} {F : Nat → Prop} {D : Dk} {base count : Int}
theorem fstep_range {k : Int} {s : Int × Int × Int} {b : List Int} (h : 0 ≤ s.2.1 ∧ s.2.1 ≤ 4611686018427387904) : 0 ≤ (fstep k s (whole b)).2.1 ∧ (fstep k s (whole b)).2.1 ≤ 4611686018427387904 := by
  unfold fstep
  split
  · rename_i hh
    have hw : (whole b).1 ≤ 4611686018427387904 := by
      unfold whole
      split
      · split
        · rename_i hf
          simp only [fits, Bool.and_eq_true, decide_eq_true_eq] at hf
          exact hf.1.1.1.2
        · simp
      · simp
    exact ⟨by simp only; omega, hw⟩
  · exact h
theorem found_range (D : Dk) (j : Int) : 0 ≤ (D.found j).2.1 ∧ (D.found j).2.1 ≤ 4611686018427387904 := fstep_range (fstep_range ⟨by decide, by decide⟩)
theorem fstep_at {k : Int} {s : Int × Int × Int} {r : Int × Int × Bool} : (fstep k s r).1 = k ∨ (fstep k s r).1 = s.1 := by
  unfold fstep; split
  · exact .inl rfl
  · exact .inr rfl
theorem found_at (D : Dk) (j : Int) : -1 ≤ (D.found j).1 ∧ (D.found j).1 ≤ 1 := by
  have h1 : (D.found j).1 = 1 ∨ (D.found j).1 = (fstep 0 (-1, 0, 0) (whole (D.read j).1)).1 := fstep_at
  have h2 : (fstep 0 (-1, 0, 0) (whole (D.read j).1)).1 = 0 ∨ (fstep 0 (-1, 0, 0) (whole (D.read j).1)).1 = -1 := fstep_at
  omega
theorem secOf_len (was : List Int) (n v : Int) : (secOf was n v).length = 64 := by simp [secOf, keyL_len]
theorem put_ok (h : Disk w x F D) (hF : ∀ k, F k → k < w.heap.size) (hc : CellsAt w c x base count) (hcF : ¬ F c) (hb : D.Bt) (hbd : D.W.length < 900000) (hsz : base + 2 * count ≤ D.S.length) (i v : Int) :
    ∃ w', mark_Cells_Put (some ⟨c, 0, none⟩) i v w = some ((D.put base count i v).1, w') ∧ Disk w' x (grow F w w') (D.put base count i v).2 ∧ Fr F w w' := by
  have hb0 := hc.b0
  have hb1 := hc.b1
  have hn1 := hc.n1
  have stay : Disk w x (grow F w w) D := h.mono fun k _ hk => .inl hk
  unfold mark_Cells_Put Dk.put
  rw [if_neg (by simp), Option.bind_some, add_mk, Nat.zero_add, cread0 hc, Option.bind_some, h.downs, bind2_some]
  by_cases hd : D.down = true
  · exact ⟨w, by rw [if_pos hd, if_pos hd], by rw [if_pos hd]; exact stay, Fr.refl⟩
  rw [if_neg hd, if_neg hd]
  by_cases hbad : i < 0 ∨ count ≤ i ∨ v < 0 ∨ 1099511627776 < v
  · refine ⟨w, ?_, by rw [if_pos hbad]; exact stay, Fr.refl⟩
    rw [if_pos hbad, add_mk, Nat.zero_add, cread2 hc, Option.bind_some]
    by_cases h0 : i < 0
    · rw [if_pos (by simpa using h0), bind2_some, if_pos rfl]
    by_cases h1 : count ≤ i
    · rw [if_neg (by simpa using h0), if_pos (by simpa using h1), bind2_some, if_pos rfl]
    by_cases h2 : v < 0
    · rw [if_neg (by simpa using h0), if_neg (by simpa using h1), if_pos (by simpa using h2), bind2_some, if_pos rfl]
    rw [if_neg (by simpa using h0), if_neg (by simpa using h1), if_neg (by simpa using h2), decide_eq_true (show 1099511627776 < v by omega), bind2_some, if_pos rfl]
  rw [if_neg hbad]
  have hi : 0 ≤ i ∧ i < count ∧ 0 ≤ v ∧ v ≤ 1099511627776 := by omega
  obtain ⟨w1, e1, f1⟩ := found_ok h hc hb hbd hi.1 hi.2.1
  obtain ⟨fr, hfr⟩ : ∃ fr, D.found (base + 2 * i) = fr := ⟨_, rfl⟩
  have hrg := found_range D (base + 2 * i)
  have hat := found_at D (base + 2 * i)
  rw [hfr] at e1 hrg hat ⊢
  have tests : (if decide (i < 0) = true then some (true, w) else (ldI .i64 w ((⟨c, 0, none⟩ : Addr).add 2)).bind fun v15 => if decide (v15 ≤ i) = true then some (true, w) else if decide (v < 0) = true then some (true, w) else some (decide (1099511627776 < v), w)) = some (false, w) := by
    rw [if_neg (by simp; omega), add_mk, Nat.zero_add, cread2 hc, Option.bind_some, if_neg (by simp; omega), if_neg (by simp; omega), decide_eq_false (by omega)]
  rw [tests, bind2_some, if_neg (by simp), e1, bind4_some]
  have h1 := h.all f1
  have c1 := hc.all f1
  have z1 := (f1 (fun _ => False)).size
  by_cases hm : fr.2.1 = 4611686018427387904
  · exact ⟨w1, by rw [if_pos (by simpa using hm), if_pos hm], by rw [if_pos hm]; exact h1.mono fun k _ hk => .inl hk, f1 _⟩
  rw [if_neg (by simpa using hm), if_neg hm]
  obtain ⟨to, hto⟩ : ∃ to, base + 2 * i + (fr.1 + 1) % 2 = to := ⟨_, rfl⟩
  rw [hto]
  have htb : D.bad to = false := by simp [Dk.bad]; omega
  have hrm : rmI (IntKind.wrap .i64 (fr.1 + 1)) 2 = some ((fr.1 + 1) % 2) := by
    have : IntKind.wrap .i64 (fr.1 + 1) = fr.1 + 1 := by rw [IntKind.wrap_i64]; omega
    rw [this]; unfold rmI; rw [if_neg (by decide), Int.tmod_eq_emod_of_nonneg (by omega)]
  have hwt : IntKind.wrap .i64 (IntKind.wrap .i64 (base + IntKind.wrap .i64 (2 * i)) + (fr.1 + 1) % 2) = to := by
    rw [IntKind.wrap_i64, IntKind.wrap_i64, IntKind.wrap_i64]; omega
  obtain ⟨o, w2, e2, r2⟩ := h1.read (i := to) (by omega)
  have hrd : D.read to = (D.cur to, 0) := by unfold Dk.read; rw [if_neg hd, htb, if_neg (by simp)]
  have hcl : (D.cur to).length = 64 := cur_len h.wf htb _ _ h.wf.w64 (getS_len h.wf htb)
  have hby := read_bytes hb to
  rw [hrd] at e2 r2 hby ⊢
  simp only at e2 r2 hby
  obtain ⟨was, hwas⟩ : ∃ was, D.cur to = was := ⟨_, rfl⟩
  rw [hwas] at r2 hcl hby ⊢
  have h2 := h1.all r2.fr
  have c2 := c1.all r2.fr
  have z2 := (r2.fr (fun _ => False)).size
  obtain ⟨w3, e3, n3⟩ := mkS_s (w := w2) st29 (m := 64) (by omega) (by omega)
  rw [show (64 : Int).toNat = 64 from rfl] at e3 n3
  rw [zeros_u8] at n3
  have z3 := n3.size
  have f3 : ∀ S, Fr S w2 w3 := fun S => (n3.fr _ S (Nat.le_refl _)).fr
  obtain ⟨a63, a1, a2⟩ := ld_u8 (i := 63) (r2.rd.fr (f3 (fun _ => False)) (fun _ _ _ h => h)) (by omega)
  have a1' : ix o 63 1 = some a63 := a1
  obtain ⟨p, hp⟩ : ∃ p, (was.getD 63 0 + 1) % 256 = p := ⟨_, rfl⟩
  have hp8 : IntKind.wrap .u8 (was.getD 63 0 + 1) = p := by rw [← hp]; simp [IntKind.wrap, IntKind.bits, IntKind.signed]
  obtain ⟨w4, e4, b4, o4⟩ := stV_s (o := 0) (v := .int .u8 p) n3.b (by simp only [nums_length, List.length_replicate]; omega) rfl
  have l4 : ldI .u8 w4 ⟨w2.heap.size, 0, none⟩ = some p := ldI_B b4 rfl
  obtain ⟨w5, e5, b5, o5⟩ := stV_s (o := 63) (v := .int .u8 p) b4 (by simp only [List.length_set, nums_length, List.length_replicate]; omega) rfl
  obtain ⟨w6, e6, d6, g6, z6, _⟩ := dr_s (w := w5)
  have b6 := (d6 w2.heap.size).trans b5
  have z45 : w5.heap.size = w3.heap.size := by have := o4.size; have := o5.size; omega
  have f26 : ∀ S, Fz w2.heap.size S w2 w6 := fun S => (n3.fr _ _ (Nat.le_refl _)).trans ((o4.fz (.inr (Nat.le_refl _))).trans ((o5.fz (.inr (Nat.le_refl _))).trans (g6 _ _)))
  obtain ⟨k7, w7, e7, r7, kk7, f7⟩ := key_ok (w := w6) (n := fr.2.1 + 1) (by omega) (by omega)
  have b7 := (f7 (fun _ => False)).B b6 id
  have hk7 : k7.n = 8 := by have := r7.len; rw [nums_length, keyL_len] at this; omega
  obtain ⟨w8, e8, b8, o8⟩ := cpS_s (u := 29) (m := 63) (c := 63) (o := 1) st29 b7 (by simp only [List.length_set, nums_length, List.length_replicate]; omega) r7.rd nums_one
  have ht8 : (nums .u8 (keyL (fr.2.1 + 1))).take (min k7.n 63 * 1) = nums .u8 (keyL (fr.2.1 + 1)) := List.take_of_length_le (by rw [nums_length, keyL_len, hk7]; decide)
  rw [ht8] at b8
  obtain ⟨w9, e9, d9, g9, z9, _⟩ := dr_s (w := w8)
  have b9 := (d9 w2.heap.size).trans b8
  obtain ⟨k10, w10, e10, r10, kk10, f10⟩ := key_ok (w := w9) (n := v) (by omega) (by omega)
  have b10 := (f10 (fun _ => False)).B b9 id
  have hk10 : k10.n = 8 := by have := r10.len; rw [nums_length, keyL_len] at this; omega
  obtain ⟨w11, e11, b11, o11⟩ := cpS_s (u := 29) (m := 55) (c := 55) (o := 9) st29 b10 (by rw [putL_length (by simp only [List.length_set, nums_length, List.length_replicate, keyL_len]; omega)]; simp only [List.length_set, nums_length, List.length_replicate]; omega) r10.rd nums_one
  have ht11 : (nums .u8 (keyL v)).take (min k10.n 55 * 1) = nums .u8 (keyL v) := List.take_of_length_le (by rw [nums_length, keyL_len, hk10]; decide)
  rw [ht11, sec_cells (keyL_len _) (keyL_len _)] at b11
  have f211 : ∀ S, Fz w2.heap.size S w2 w11 := fun S => ((f26 S).trans ((f7 _).fz (S := S) (S' := fun _ => False) (by have := (f26 S).size; omega) (fun _ h => h.elim))).trans ((o8.fz (.inr (Nat.le_refl _))).trans ((g9 _ _).trans (((f10 (fun _ => False)).fz (S := S) (by have := (f26 S).size; have := (f7 S).size; have := o8.size; omega) (fun _ h => h.elim)).trans (o11.fz (.inr (Nat.le_refl _))))))
  have h11 := h2.all (fun S => (f211 S).fr)
  have c11 := c2.all (fun S => (f211 S).fr)
  have z11 := (f211 (fun _ => False)).size
  have hsec : p :: (keyL (fr.2.1 + 1) ++ keyL v ++ List.replicate 46 0 ++ [p]) = secOf was fr.2.1 v := by unfold secOf; rw [hp]
  rw [hsec] at b11
  have rd11 : Rd w11 ⟨some ⟨w2.heap.size, 0, none⟩, 64, 64⟩ 1 (nums .u8 (secOf was fr.2.1 v)) := by
    have := Rd.of_B (o := 0) (n := 64) (c := 64) (sz := 1) b11 (by rw [nums_length, secOf_len]; omega)
    rwa [List.drop_zero, List.take_of_length_le (by rw [nums_length, secOf_len]; omega)] at this
  obtain ⟨w12, e12, x12, f12⟩ := h11.write (i := to) rd11 (by omega)
  have c12 := c11.fr f12 hcF
  have z12 := f12.size
  have fw11 : Fr F w w11 := ((f1 _).trans (r2.fr _)).trans (f211 _).fr
  have i0 : ix ⟨some ⟨w2.heap.size, 0, none⟩, 64, 64⟩ 0 1 = some ⟨w2.heap.size, 0, none⟩ := by simp [ix, Addr.add]
  have i63 : ix ⟨some ⟨w2.heap.size, 0, none⟩, 64, 64⟩ 63 1 = some ⟨w2.heap.size, 63, none⟩ := by simp [ix, Addr.add]
  have s1 : slS ⟨some ⟨w2.heap.size, 0, none⟩, 64, 64⟩ 1 ((64 : Nat) : Int) ((64 : Nat) : Int) 1 = some ⟨some ⟨w2.heap.size, 1, none⟩, 63, 63⟩ := by simp [slS, Addr.add]
  have s9 : slS ⟨some ⟨w2.heap.size, 0, none⟩, 64, 64⟩ 9 ((64 : Nat) : Int) ((64 : Nat) : Int) 1 = some ⟨some ⟨w2.heap.size, 9, none⟩, 55, 55⟩ := by simp [slS, Addr.add]
  have hwn : IntKind.wrap .i64 (fr.2.1 + 1) = fr.2.1 + 1 := by rw [IntKind.wrap_i64]; omega
  obtain ⟨q, hq⟩ : ∃ q, D.write to (secOf was fr.2.1 v) = q := ⟨_, rfl⟩
  rw [hq] at e12 x12 ⊢
  have run : ∀ r, (if (q.1 != 0) = true then some (q.1, w12) else (ldP w12 ⟨c, 0, none⟩).bind fun v81 => bind2 (sector_Disk_Sync v81 w12) fun v83 w84 => some (v83, w84)) = r →
      ((ldI .i64 w1 ((⟨c, 0, none⟩ : Addr).add 1)).bind fun v26 => (rmI (IntKind.wrap .i64 (fr.1 + 1)) 2).bind fun v28 => (ldP w1 ⟨c, 0, none⟩).bind fun v30 =>
        bind3 (sector_Disk_Read v30 (IntKind.wrap .i64 ((IntKind.wrap .i64 (v26 + (IntKind.wrap .i64 (2 * i)))) + v28)) w1) fun v32 v33 w34 =>
        bind2 (mkS Try.prog 29 64 64 w34) fun s36 w37 => (ix v32 63 1).bind fun p39 => (ldI .u8 w37 p39).bind fun v41 => (ix s36 0 1).bind fun p43 =>
        (stV w37 p43 (.int .u8 (IntKind.wrap .u8 (v41 + 1)))).bind fun w45 => (ix s36 0 1).bind fun p47 => (ldI .u8 w45 p47).bind fun v49 => (ix s36 63 1).bind fun p51 =>
        (stV w45 p51 (.int .u8 v49)).bind fun w53 => (dr w53).bind fun w55 => (slS s36 1 (s36.n : Int) (s36.c : Int) 1).bind fun s57 =>
        bind2 (octet_Key (IntKind.wrap .i64 (fr.2.1 + 1)) w55) fun v59 w60 => bind2 (cpS Try.prog 29 29 s57 v59 w60) fun v62 w63 => (dr w63).bind fun w65 =>
        (slS s36 9 (s36.n : Int) (s36.c : Int) 1).bind fun s67 => bind2 (octet_Key v w65) fun v69 w70 => bind2 (cpS Try.prog 29 29 s67 v69 w70) fun v72 w73 =>
        (ldP w73 ⟨c, 0, none⟩).bind fun v75 => bind2 (sector_Disk_Write v75 (IntKind.wrap .i64 ((IntKind.wrap .i64 (v26 + (IntKind.wrap .i64 (2 * i)))) + v28)) s36 w73) fun v77 w78 =>
        if (v77 != 0) = true then (some (v77, w78)) else ((ldP w78 ⟨c, 0, none⟩).bind fun v81 => bind2 (sector_Disk_Sync v81 w78) fun v83 w84 => some (v83, w84))) = r := by
    intro r hr
    rw [add_mk, Nat.zero_add, cread1 c1, Option.bind_some, hrm, Option.bind_some, cread0 c1, Option.bind_some, hwt, e2, bind3_some, e3, bind2_some, a1', Option.bind_some, a2, Option.bind_some, i0, Option.bind_some, hp8, e4, Option.bind_some, Option.bind_some, l4, Option.bind_some, i63, Option.bind_some, e5, Option.bind_some, e6, Option.bind_some, s1, Option.bind_some, hwn, e7, bind2_some, e8, bind2_some, e9, Option.bind_some, s9, Option.bind_some, e10, bind2_some, e11, bind2_some, cread0 c11, Option.bind_some, e12, bind2_some]
    exact hr
  by_cases he : q.1 = 0
  · obtain ⟨w13, e13, x13, f13⟩ := x12.sync (by have := write_W D to (secOf was fr.2.1 v); rw [hq] at this; omega)
    refine ⟨w13, run _ ?_, ?_, ?_⟩
    · rw [if_neg (by simp [he]), if_neg (by simp [he]), cread0 c12, Option.bind_some, e13, bind2_some]
    · rw [if_neg (by simp [he])]
      exact x13.mono fun k hk h => h.elim (fun h => h.elim .inl (fun h => .inr ⟨by omega, hk⟩)) (fun h => .inr ⟨by omega, hk⟩)
    · exact (fw11.trans f12).trans_new f13 (fun k hk => hk.elim .inl (fun h => .inr (by omega)))
  · refine ⟨w12, run _ ?_, ?_, fw11.trans f12⟩
    · rw [if_pos (by simpa using he), if_pos he]
    · rw [if_pos he]
      exact x12.mono fun k hk h => h.elim .inl (fun h => .inr ⟨by omega, hk⟩)
end
end Go.Proofs.Ytoanmomopcaikaa.D
