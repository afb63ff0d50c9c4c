/- Chapter 12's scripts as arguments. -/
import Derived.Test.YtejkaciimmfgcaaPlay12
namespace Go.Proofs.Ytejkaciimmfgcaa.D
open Go
set_option linter.unusedVariables false
set_option linter.unusedSimpArgs false
section
variable {H : Type} {enc : TypeId × Value → H} {w : World} {base fuel : Nat} {spare : Nat → Bool} {held : Bool} {cs : List Value} {x : DataW H × List MemPlace}
theorem len3 {α : Type} {l : List α} (h : l.length = 3) : ∃ a b c, l = [a, b, c] := by
  match l, h with
  | [a, b, c], _ => exact ⟨a, b, c, rfl⟩
theorem open_dw {m : Nat} {c : List Value} {y : DataW H × List MemPlace} (h : DataW.trod enc Try.prog w base spare held m 30 c = some y) : ∃ d, dwR (old w) w c d := by
  obtain ⟨xs, m', _, hy, hl, hlen, hf⟩ := DataW.trod_struct Try.underlying30 h
  have hl3 : c.length = 3 := hl.trans (by kernel_rfl)
  have c1 : Try.prog.cellsOf 3 = 1 := by kernel_rfl
  have hlen3 : xs.length = 3 := hlen
  clear hlen hl
  obtain ⟨v0, v1, v2, rfl⟩ := len3 hl3
  obtain ⟨y0, y1, y2, rfl⟩ := len3 hlen3
  have h0 : DataW.trod enc Try.prog w base spare held m' 3 (([v0, v1, v2].drop 0).take (Try.prog.cellsOf 3)) = some y0 := hf 0 _ rfl
  have h1 : DataW.trod enc Try.prog w base spare held m' 3 (([v0, v1, v2].drop 1).take (Try.prog.cellsOf 3)) = some y1 := hf 1 _ rfl
  have h2 : DataW.trod enc Try.prog w base spare held m' 3 (([v0, v1, v2].drop 2).take (Try.prog.cellsOf 3)) = some y2 := hf 2 _ rfl
  simp only [c1, List.drop_zero, List.take_succ_cons, List.take_zero, List.drop_succ_cons, List.getElem?_cons_zero, List.getElem?_cons_succ] at h0 h1 h2
  obtain ⟨k, e0, _, _⟩ := DataW.trod_int Try.underlying3 h0
  obtain ⟨i, e1, _, _⟩ := DataW.trod_int Try.underlying3 h1
  obtain ⟨v, e2, _, _⟩ := DataW.trod_int Try.underlying3 h2
  obtain rfl := (List.cons.inj e0).1
  obtain rfl := (List.cons.inj e1).1
  obtain rfl := (List.cons.inj e2).1
  exact ⟨⟨k, i, v⟩, rfl⟩
theorem open_dws (h : DataW.trod enc Try.prog w base spare held fuel 22 cs = some x) (hx : ∀ v ∈ x.1.weights Try.prog 22, v ≤ 140737488351232) : ∃ (s : Sl) (ds : List Dw), cs = [Sl.v s] ∧ PL dwR 3 (old w) w s ds :=
  open_list Try.underlying22 (by kernel_rfl) (by decide) (fun m c y h hx => open_dw h) h hx
end
end Go.Proofs.Ytejkaciimmfgcaa.D
