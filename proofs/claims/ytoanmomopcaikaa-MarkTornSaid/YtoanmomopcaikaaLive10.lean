/- Chapter 10: live, MarkNone, MarkOpens. -/
import Derived.Test.YtoanmomopcaikaaPut
import Derived.Test.YtoanmomopcaikaaFnN
namespace Go.Proofs.Ytoanmomopcaikaa.D
open Go
set_option linter.unusedVariables false
set_option linter.unusedSimpArgs false
section
variable {w w' : World} {x c : Nat} {F : Nat → Prop} {D : Dk} {base count : Int}
theorem new_bt (n : Nat) : (Dk.new n).Bt := by
  refine ⟨fun x hx => ?_, fun x hx => by simp [Dk.new] at hx⟩
  simp only [Dk.new, List.mem_replicate] at hx
  rw [hx.2]
  intro b hb
  rw [(List.mem_replicate.1 hb).2]; decide
theorem sec_bytes (was : List Int) (n v : Int) : Bytes (secOf was n v) := by
  intro b hb
  simp only [secOf, List.mem_cons, List.mem_append, List.not_mem_nil, or_false] at hb
  rcases hb with rfl | ((hb | hb) | hb) | rfl
  · omega
  · exact keyL_bytes _ b hb
  · exact keyL_bytes _ b hb
  · rw [(List.mem_replicate.1 hb).2]; decide
  · omega
theorem put1_v : ((Dk.new 4).put 0 2 1 5).1 = 0 := by kernel_rfl
theorem put1_s : (((Dk.new 4).put 0 2 1 5).2.crash []).get 0 2 1 = (5, true) := by kernel_rfl
theorem put1_n : ((((Dk.new 4).put 0 2 1 5).2.crash []).get 0 2 0).2 = false := by kernel_rfl
theorem put1_w : ((Dk.new 4).put 0 2 1 5).2.W = [] := by kernel_rfl
theorem put1_b : (((Dk.new 4).put 0 2 1 5).2.crash []).Bt := by
  have hs : ∀ s ∈ (((Dk.new 4).put 0 2 1 5).2.crash []).S, (s.all fun b => decide (0 ≤ b) && decide (b < 256)) = true := by
    have : ((((Dk.new 4).put 0 2 1 5).2.crash []).S.all fun s => s.all fun b => decide (0 ≤ b) && decide (b < 256)) = true := by kernel_rfl
    exact List.all_eq_true.1 this
  refine ⟨fun s h b hb => ?_, fun x hx => ?_⟩
  · have := List.all_eq_true.1 (hs s h) b hb
    simpa using this
  · simp [Dk.crash] at hx
theorem live10_ok : ∃ w', grapevinelaw10_live w = some (true, w') ∧ ∀ S, Fr S w w' := by
  obtain ⟨x, w1, e1, d1, f1, hx⟩ := Disk.new (w := w) (m := 4) (by omega) (by omega)
  have hS : (Dk.new (4 : Int).toNat).S.length = 4 := by simp [Dk.new]
  obtain ⟨c, w2, e2, c2, hc, f2⟩ := open_yes d1 (base := 0) (count := 2) (by omega) (by rw [hS]; decide)
  have z1 := (f1 (fun _ => False)).size
  have z2 := (f2 (fun _ => False)).size
  have d2 := (d1.mono (G := fun k => w.heap.size ≤ k ∧ k < w1.heap.size) fun k hk h => ⟨h, hk⟩).all f2
  obtain ⟨w3, e3, d3, f3⟩ := put_ok d2 (fun k hk => by omega) c2 (fun hk => by omega) (new_bt _) (by simp [Dk.new]) (by rw [hS]; omega) 1 5
  have z3 := f3.size
  have c3 := c2.fr f3 (fun hk => by omega)
  have e3' : mark_Cells_Put (some ⟨c, 0, none⟩) 1 5 w2 = some (((Dk.new 4).put 0 2 1 5).1, w3) := e3
  have d3' : Disk w3 x (grow (fun k => w.heap.size ≤ k ∧ k < w1.heap.size) w2 w3) ((Dk.new 4).put 0 2 1 5).2 := d3
  rw [put1_v] at e3'
  have hclt : c < w2.heap.size := B_lt c2.blk
  obtain ⟨w4, e4, d4, f4⟩ := d3'.crash (f := Sl.nil) (fs := []) (by rw [put1_w]; decide) (Rd.nil rfl) Out.nil
  have c4 := c3.fr f4 (fun hk => hk.elim (fun h => by omega) (fun h => by omega))
  obtain ⟨w5, e5, f5⟩ := get_ok d4 c4 put1_b (by simp [Dk.crash]) 1
  rw [put1_s] at e5
  obtain ⟨w6, e6, f6⟩ := get_ok (d4.all f5) (c4.all f5) put1_b (by simp [Dk.crash]) 0
  rw [put1_n] at e6
  have z4 := f4.size
  refine ⟨w6, ?_, fun S => Fr.all (((((f1 _).trans (f2 _)).trans (f3.mono fun k hk => .inl hk.1)).trans ((f4.mono (S' := fun k => w.heap.size ≤ k) fun k hk => .inl (hk.elim (fun h => h.1) (fun h => by omega))))).trans ((f5 _).trans (f6 _)))⟩
  unfold grapevinelaw10_live
  rw [e1, bind3_some, e2, bind3_some, if_neg (by decide), if_neg (by decide), if_neg (by simp), if_neg (by simp), e3', bind2_some, if_neg (by decide), e4, bind2_some, bind2_some, if_neg (by decide), e5, bind3_some, e6, bind3_some, if_pos rfl, if_pos (by decide), bind2_some]
  rfl
theorem MarkNone_law (i : Int) (_ : (Lit.int .i64 i).wf = true) (v : Int) (_ : (Lit.int .i64 v).wf = true) : ∃ w', grapevinelaw10_MarkNone i v w = some (true, w') ∧ Fr (fun k => w.heap.size ≤ k) w w' := by
  obtain ⟨w1, e1, f1⟩ := live10_ok (w := w)
  refine ⟨w1, ?_, f1 _⟩
  simp only [grapevinelaw10_MarkNone, mark_Cells_Get, mark_Open, mark_Cells_Put, mark_Cells_Count, Option.isNone_none, if_true, bind2_some, bind3_some, e1, beq_self_eq_true, Bool.not_false]
theorem whole_zero : whole (List.replicate 64 0) = (0, 0, false) := by kernel_rfl
theorem new_read (n : Nat) (j : Int) : whole ((Dk.new n).read j).1 = (0, 0, false) := by
  unfold Dk.read
  split; · rfl
  split
  · rfl
  · rename_i hb
    have hj : j.toNat < n := by simp [Dk.bad, Dk.new] at hb; omega
    have : (Dk.new n).cur j = List.replicate 64 0 := by
      simp only [Dk.cur, Dk.new, List.foldl_nil, List.getD_eq_getElem?_getD, List.getElem?_replicate, hj, if_true, Option.getD_some]
    rw [this]; exact whole_zero
theorem new_get (n : Nat) (base count i : Int) : ((Dk.new n).get base count i).2 = false := by
  unfold Dk.get
  split
  · rfl
  · simp only [Dk.found, new_read]; rfl
theorem MarkOpens_law (a : Int) (_ : (Lit.int .i64 a).wf = true) (base : Int) (hbw : (Lit.int .i64 base).wf = true) (count : Int) (hcw : (Lit.int .i64 count).wf = true) : ∃ w', grapevinelaw10_MarkOpens a base count w = some (true, w') ∧ Fr (fun k => w.heap.size ≤ k) w w' := by
  have hc : -9223372036854775808 ≤ count ∧ count ≤ 9223372036854775807 := by simpa [Lit.wf, IntKind.min, IntKind.max, IntKind.signed, IntKind.bits] using hcw
  obtain ⟨m, hm⟩ : ∃ m, (a % 18446744073709551616) % 64 = m := ⟨_, rfl⟩
  have hrm : rmI (IntKind.wrap .u64 a) 64 = some m := by
    rw [wrap_u64]; unfold rmI; rw [if_neg (by decide), Int.tmod_eq_emod_of_nonneg (by omega), hm]
  have hsz : IntKind.wrap .i64 (1 + IntKind.wrap .i64 m) = 1 + m := by rw [IntKind.wrap_i64, IntKind.wrap_i64]; omega
  obtain ⟨x, w1, e1, d1, f1, hx⟩ := Disk.new (w := w) (m := 1 + m) (by omega) (by omega)
  have hS : ((Dk.new (1 + m).toNat).S.length : Int) = 1 + m := by simp [Dk.new]; omega
  have may : ∀ w : World, (if decide (1 ≤ count) = true then if decide (count ≤ 32) = true then if decide (0 ≤ base) = true then some (decide (base ≤ IntKind.wrap .i64 (1 + m - IntKind.wrap .i64 (2 * count))), w) else some (false, w) else some (false, w) else some (false, w)) = some (mayOpen (1 + m) base count, w) := by
    intro w
    unfold mayOpen
    by_cases h1 : 1 ≤ count
    · by_cases h2 : count ≤ 32
      · have : IntKind.wrap .i64 (1 + m - IntKind.wrap .i64 (2 * count)) = 1 + m - 2 * count := by rw [IntKind.wrap_i64, IntKind.wrap_i64]; omega
        rw [this]
        by_cases h3 : 0 ≤ base <;> simp [h1, h2, h3]
      · simp [h1, h2]
    · simp [h1]
  unfold grapevinelaw10_MarkOpens
  rw [hrm, Option.bind_some, hsz, e1, bind3_some, if_neg (by decide), bind2_some, if_neg (by simp)]
  by_cases hmy : mayOpen (1 + m) base count = true
  · obtain ⟨c, w2, e2, c2, hcx, f2⟩ := open_yes d1 (base := base) hc (by rw [hS]; exact hmy)
    obtain ⟨w3, e3, f3⟩ := get_ok (d1.all f2) c2 (new_bt _) (by simp [Dk.new]) 0
    rw [new_get] at e3
    obtain ⟨w4, e4, f4⟩ := live10_ok (w := w3)
    have d4 := ((d1.all f2).all f3).all f4
    have c4 := (c2.all f3).all f4
    refine ⟨w4, ?_, (((f1 _).trans (f2 _)).trans (f3 _)).trans (f4 _)⟩
    rw [e2, bind3_some, may, bind2_some, hmy, if_neg (by decide), e3, bind3_some, e4, bind2_some, if_pos rfl, if_pos (by decide), count_ok c4, bind2_some, if_pos (by simp), if_pos (by decide), d4.waits, bind2_some, bind2_some]
    rfl
  · have hmf : mayOpen (1 + m) base count = false := by simpa using hmy
    have e2 := open_no d1 (base := base) hc (by rw [hS]; exact hmf)
    obtain ⟨w4, e4, f4⟩ := live10_ok (w := w1)
    refine ⟨w4, ?_, (f1 _).trans (f4 _)⟩
    rw [e2, bind3_some, may, bind2_some, hmf, if_pos (by decide), e4, bind2_some, if_pos rfl, if_pos (by decide), bind2_some]
    rfl
end
end Go.Proofs.Ytoanmomopcaikaa.D
