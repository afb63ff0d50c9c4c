/- Chapter 10's scripts as arguments. -/
import Derived.Test.YtoanmomopcaikaaPlay10
namespace Go.Proofs.Ytoanmomopcaikaa.D
open Go
set_option linter.unusedVariables false
set_option linter.unusedSimpArgs false
section
variable {H : Type} {enc : TypeId × Value → H} {w : World} {base fuel : Nat} {spare : Nat → Bool} {held : Bool} {cs : List Value} {x : DataW H × List MemPlace}
theorem len5 {α : Type} {l : List α} (h : l.length = 5) : ∃ a b c d e, l = [a, b, c, d, e] := by
  match l, h with
  | [a, b, c, d, e], _ => exact ⟨a, b, c, d, e, rfl⟩
theorem open_dm {m : Nat} {c : List Value} {y : DataW H × List MemPlace} (h : DataW.trod enc Try.prog w base spare held m 78 c = some y) (hx : ∀ v ∈ y.1.weights Try.prog 78, v ≤ 140737488351232) : ∃ d, dmR (old w) w c d := by
  obtain ⟨xs, m', _, hy, hl, hlen, hf⟩ := DataW.trod_struct Try.underlying78 h
  have hl5 : c.length = 5 := hl.trans (by kernel_rfl)
  have c1 : Try.prog.cellsOf 3 = 1 := by kernel_rfl
  have c2 : Try.prog.cellsOf 29 = 1 := by kernel_rfl
  have c3 : Try.prog.cellsOf 35 = 1 := by kernel_rfl
  have hlen5 : xs.length = 5 := hlen
  clear hlen hl
  obtain ⟨v0, v1, v2, v3, v4, rfl⟩ := len5 hl5
  obtain ⟨y0, y1, y2, y3, y4, rfl⟩ := len5 hlen5
  have h0 : DataW.trod enc Try.prog w base spare held m' 3 (([v0, v1, v2, v3, v4].drop 0).take (Try.prog.cellsOf 3)) = some y0 := hf 0 _ rfl
  have h1 : DataW.trod enc Try.prog w base spare held m' 3 (([v0, v1, v2, v3, v4].drop 1).take (Try.prog.cellsOf 3)) = some y1 := hf 1 _ rfl
  have h2 : DataW.trod enc Try.prog w base spare held m' 3 (([v0, v1, v2, v3, v4].drop 2).take (Try.prog.cellsOf 3)) = some y2 := hf 2 _ rfl
  have h3 : DataW.trod enc Try.prog w base spare held m' 29 (([v0, v1, v2, v3, v4].drop 3).take (Try.prog.cellsOf 29)) = some y3 := hf 3 _ rfl
  have h4 : DataW.trod enc Try.prog w base spare held m' 35 (([v0, v1, v2, v3, v4].drop 4).take (Try.prog.cellsOf 35)) = some y4 := hf 4 _ rfl
  simp only [c1, c2, c3, List.drop_zero, List.take_succ_cons, List.take_zero, List.drop_succ_cons, List.getElem?_cons_zero, List.getElem?_cons_succ] at h0 h1 h2 h3 h4
  obtain ⟨k, e0, _, _⟩ := DataW.trod_int Try.underlying3 h0
  obtain ⟨i, e1, _, wi⟩ := DataW.trod_int Try.underlying3 h1
  obtain ⟨v, e2, _, wv⟩ := DataW.trod_int Try.underlying3 h2
  rw [hy] at hx
  have w3 : ∀ v ∈ y3.1.weights Try.prog 29, v ≤ 140737488351232 := wts_struct Try.underlying78 hx 3 _ y3.1 rfl rfl
  have w4 : ∀ v ∈ y4.1.weights Try.prog 35, v ≤ 140737488351232 := wts_struct Try.underlying78 hx 4 _ y4.1 rfl rfl
  obtain ⟨b, bs, e3, r3, n3, _, wb⟩ := open_nums3 Try.underlying29 Try.underlying5 (by kernel_rfl) (of_decide_eq_true (by kernel_rfl)) h3 w3
  obtain ⟨f, fs, e4, r4, n4, _, wf⟩ := open_nums3 Try.underlying35 Try.underlying3 (by kernel_rfl) (of_decide_eq_true (by kernel_rfl)) h4 w4
  obtain rfl := (List.cons.inj e0).1
  obtain rfl := (List.cons.inj e1).1
  obtain rfl := (List.cons.inj e2).1
  obtain rfl := (List.cons.inj e3).1
  obtain rfl := (List.cons.inj e4).1
  exact ⟨⟨k, i, v, bs, fs⟩, b, f, rfl, r3, r4, fun n hn => u8_range (wb n hn), (i64_range wv).2⟩
theorem open_dms (h : DataW.trod enc Try.prog w base spare held fuel 66 cs = some x) (hx : ∀ v ∈ x.1.weights Try.prog 66, v ≤ 140737488351232) : ∃ (s : Sl) (ds : List Dm), cs = [Sl.v s] ∧ PL dmR 5 (old w) w s ds :=
  open_list Try.underlying66 (by kernel_rfl) (by decide) (fun m c y h hx => open_dm h hx) h hx
end
end Go.Proofs.Ytoanmomopcaikaa.D
