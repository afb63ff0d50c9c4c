/- Chapter 10: a disk and cells beside the document's: open, start, do, same, play. -/
import Derived.Test.YtoanmomopcaikaaArgs
import Derived.Test.YtoanmomopcaikaaRPut
import Derived.Test.YtoanmomopcaikaaLive10
namespace Go.Proofs.Ytoanmomopcaikaa.D
open Go
set_option linter.unusedVariables false
set_option linter.unusedSimpArgs false
structure Dm where
  k : Int
  i : Int
  v : Int
  bs : List Int
  fs : List Int
def dmR (g : Gh) (w : World) (cs : List Value) (d : Dm) : Prop := ∃ b f : Sl, cs = [.int .i64 d.k, .int .i64 d.i, .int .i64 d.v, b.v, f.v] ∧ PR g w b 1 (nums .u8 d.bs) ∧ PR g w f 1 (nums .i64 d.fs) ∧ Bytes d.bs ∧ d.v ≤ 9223372036854775807
theorem dmR_mo {g g' : Gh} {w w' : World} {cs : List Value} {d : Dm} (h : dmR g w cs d) (m : Mo g w g' w') : dmR g' w' cs d := by
  obtain ⟨b, f, e, h1, h2, h3⟩ := h
  exact ⟨b, f, e, h1.mo m, h2.mo m, h3⟩
def Dk.deed10 (D : Dk) (d : Dm) : Dk := if d.k = 0 then (D.put 1 3 d.i d.v).2 else if d.k = 1 then (D.write d.i d.bs).2 else if d.k = 2 then D.sync.2 else if d.k = 3 then (D.trip d.v).2 else if d.k = 4 then D.crash d.fs else D
/-! ### What stays: the number of sectors, and that all are bytes -/
theorem write_S (D : Dk) (i : Int) (b : List Int) : (D.write i b).2.S = D.S := by
  unfold Dk.write
  split; · rfl
  split; · rfl
  split; · rfl
  split
  · exact trips_S D
  · exact trips_S D
theorem pad_bytes {b : List Int} (h : Bytes b) : Bytes (pad b) := by
  intro x hx
  simp only [pad, List.mem_append] at hx
  rcases hx with hx | hx
  · exact h x hx
  · rw [(List.mem_replicate.1 hx).2]; decide
theorem Dk.Bt.trips {D : Dk} (h : D.Bt) : D.trips.2.Bt := ⟨by rw [trips_S]; exact h.s, by rw [trips_W]; exact h.w⟩
theorem Dk.Bt.write {D : Dk} (h : D.Bt) {i : Int} {b : List Int} (hb : Bytes b) : (D.write i b).2.Bt := by
  unfold Dk.write
  split; · exact h
  split; · exact h
  split; · exact h
  split
  · exact h.trips
  · refine ⟨h.trips.s, fun x hx => ?_⟩
    simp only [List.mem_append, List.mem_singleton] at hx
    rcases hx with hx | rfl
    · exact h.w x hx
    · exact pad_bytes hb
theorem putS_bytes {S : List (List Int)} {x : Int × List Int} {m : Nat} (hS : ∀ s ∈ S, Bytes s) (hx : Bytes x.2) : ∀ s ∈ putS S x m, Bytes s := by
  intro s hs
  unfold putS at hs
  rcases List.mem_or_eq_of_mem_set hs with h | h
  · exact hS s h
  · subst h
    intro b hb
    rcases List.mem_append.1 hb with h | h
    · exact hx b (List.mem_of_mem_take h)
    · exact getD_bytes (i := x.1.toNat) hS b (List.mem_of_mem_drop h)
theorem syncS_bytes : ∀ (W : List (Int × List Int)) (S : List (List Int)), (∀ s ∈ S, Bytes s) → (∀ x ∈ W, Bytes x.2) → ∀ s ∈ W.foldl (fun S x => putS S x 64) S, Bytes s
  | [], S, h, _ => h
  | x :: W, S, h, hw => by
    rw [List.foldl_cons]
    exact syncS_bytes W _ (putS_bytes h (hw x (by simp))) (fun y hy => hw y (by simp [hy]))
theorem syncS_len : ∀ (W : List (Int × List Int)) (S : List (List Int)), (W.foldl (fun S x => putS S x 64) S).length = S.length
  | [], S => rfl
  | x :: W, S => by rw [List.foldl_cons, syncS_len W, putS_length]
theorem Dk.Bt.sync {D : Dk} (h : D.Bt) : D.sync.2.Bt := by
  unfold Dk.sync
  split; · exact h
  split
  · exact h.trips
  · exact ⟨syncS_bytes _ _ h.s h.w, fun x hx => by simp at hx⟩
theorem sync_S (D : Dk) : D.sync.2.S.length = D.S.length := by
  unfold Dk.sync
  split; · rfl
  split
  · simp [trips_S]
  · simp [syncS_len]
theorem sync_W (D : Dk) : D.sync.2.W.length ≤ D.W.length := by
  unfold Dk.sync
  split; · simp
  split
  · simp [trips_W]
  · simp
theorem trip_S (D : Dk) (n : Int) : (D.trip n).2.S = D.S ∧ (D.trip n).2.W = D.W := by
  unfold Dk.trip
  split; · exact ⟨rfl, rfl⟩
  split <;> exact ⟨rfl, rfl⟩
theorem crash1_bytes {fs : List Int} {k : Nat} {S : List (List Int)} {x : Int × List Int} (hS : ∀ s ∈ S, Bytes s) (hx : Bytes x.2) : (∀ s ∈ crash1 fs k S x, Bytes s) ∧ (crash1 fs k S x).length = S.length := by
  unfold crash1
  split
  · exact ⟨putS_bytes hS hx, putS_length⟩
  · split
    · exact ⟨putS_bytes hS hx, putS_length⟩
    · exact ⟨hS, rfl⟩
theorem crashS_bytes {fs : List Int} : ∀ (W : List (Int × List Int)) (k : Nat) (S : List (List Int)), (∀ s ∈ S, Bytes s) → (∀ x ∈ W, Bytes x.2) → (∀ s ∈ crashS fs k W S, Bytes s) ∧ (crashS fs k W S).length = S.length
  | [], k, S, h, _ => ⟨h, rfl⟩
  | x :: W, k, S, h, hw => by
    obtain ⟨h1, h2⟩ := crash1_bytes (fs := fs) (k := k) h (hw x (by simp))
    obtain ⟨h3, h4⟩ := crashS_bytes W (k + 1) _ h1 (fun y hy => hw y (by simp [hy]))
    exact ⟨h3, h4.trans h2⟩
theorem Dk.Bt.crash {D : Dk} (h : D.Bt) (fs : List Int) : (D.crash fs).Bt := ⟨(crashS_bytes D.W 0 D.S h.s h.w).1, fun x hx => by simp [Dk.crash] at hx⟩
theorem crash_S {D : Dk} (h : D.Bt) (fs : List Int) : (D.crash fs).S.length = D.S.length := (crashS_bytes D.W 0 D.S h.s h.w).2
theorem Dk.Bt.put {D : Dk} (h : D.Bt) (b c i v : Int) : (D.put b c i v).2.Bt := by
  unfold Dk.put
  split; · exact h
  split; · exact h
  split; · exact h
  split
  · exact h.write (sec_bytes _ _ _)
  · exact (h.write (sec_bytes _ _ _)).sync
theorem put_S (D : Dk) (b c i v : Int) : (D.put b c i v).2.S.length = D.S.length := by
  unfold Dk.put
  split; · rfl
  split; · rfl
  split; · rfl
  split
  · rw [write_S]
  · rw [sync_S, write_S]
theorem put_W (D : Dk) (b c i v : Int) : (D.put b c i v).2.W.length ≤ D.W.length + 1 := by
  unfold Dk.put
  split; · simp
  split; · simp
  split; · simp
  split
  · exact write_W _ _ _
  · exact Nat.le_trans (sync_W _) (write_W _ _ _)
theorem deed10_keep {D : Dk} (h : D.Bt) (d : Dm) (hb : Bytes d.bs) : (D.deed10 d).Bt ∧ (D.deed10 d).S.length = D.S.length ∧ (D.deed10 d).W.length ≤ D.W.length + 1 := by
  unfold Dk.deed10
  split; · exact ⟨h.put _ _ _ _, put_S _ _ _ _ _, put_W _ _ _ _ _⟩
  split; · exact ⟨h.write hb, by rw [write_S], write_W _ _ _⟩
  split; · exact ⟨h.sync, sync_S _, Nat.le_succ_of_le (sync_W _)⟩
  split
  · obtain ⟨h1, h2⟩ := trip_S D d.v
    exact ⟨⟨by rw [h1]; exact h.s, by rw [h2]; exact h.w⟩, by rw [h1], by rw [h2]; omega⟩
  split
  · exact ⟨h.crash _, crash_S h _, by simp [Dk.crash]⟩
  · exact ⟨h, rfl, by omega⟩
/-! ### The pair -/
def prC (x c y e : Nat) : List Value := [.pointer (some ⟨x, 0, none⟩), .pointer (some ⟨c, 0, none⟩), .pointer (some ⟨y, 0, none⟩), .pointer (some ⟨e, 0, none⟩)]
structure Pr (F0 : Nat → Prop) (g0 : Gh) (w0 : World) (g : Gh) (w : World) (p x c y e : Nat) (D : Dk) : Prop where
  H : Hp F0 g0 w0 g w [bxR p (prC x c y e) 75, dkR x D, rdR y D]
  c : Cp g w c x 1 3
  e : RCp g w e y 1 3
  bt : D.Bt
  n : D.S.length = 8
section
variable {F F0 : Nat → Prop} {g g' g0 : Gh} {w w' w0 : World} {L : List Rs} {p x y c e : Nat} {D D' : Dk} {d : Dm} {cs : List Value}
theorem may13 (h : D.S.length = 8) : mayOpen D.S.length 1 3 = true := by rw [h]; rfl
theorem popen {q1 q2 : Option Addr} (H : Hp F0 g0 w0 g w [bxR p [.pointer (some ⟨x, 0, none⟩), .pointer q1, .pointer (some ⟨y, 0, none⟩), .pointer q2] 75, dkR x D, rdR y D]) (hb : D.Bt) (hn : D.S.length = 8) :
    Ex (grapevinelaw10_pair_open (some ⟨p, 0, none⟩) w) fun r => r.1 = true ∧ ∃ g' c e, Pr F0 g0 w0 g' r.2 p x c y e D ∧ Mo g w g' r.2 := by
  unfold grapevinelaw10_pair_open
  obtain ⟨c, g1, w1, e1, H1, m1, c1⟩ := H.sw.mopen (base := 1) (count := 3) (by omega) (may13 hn)
  refine Ex.s1 (Ex.b1 (ldP_B H.bx rfl) (Ex.b3 e1 ?_))
  obtain ⟨w2, e2, H2, m2⟩ := H1.sw.stV (o := 1) (x := .pointer (some ⟨c, 0, none⟩)) (by simp) rfl
  refine Ex.b1 e2 (Ex.b1 (ldP_B H2.bx rfl) ?_)
  obtain ⟨e, g3, w3, e3, H3, m3, c3⟩ := H2.m2.ropen (base := 1) (count := 3) (by omega) (by omega) (may13 hn)
  refine Ex.b3 e3 ?_
  obtain ⟨w4, e4, H4, m4⟩ := H3.sw.stV (o := 3) (x := .pointer (some ⟨e, 0, none⟩)) (by simp) rfl
  refine Ex.b1 e4 (Ex.b2 (a := true) (b := w4) ?_ (Ex.ret ⟨rfl, g3, c, e, ⟨?_, c1.mo (m2.t (m3.t m4)), c3.mo m4, hb, hn⟩, m1.t (m2.t (m3.t m4))⟩))
  · rw [if_pos (by decide), if_pos (by decide)]
    exact (ldP_B H4.bx rfl : ldP w4 ⟨p, 1, none⟩ = some (some ⟨c, 0, none⟩)) ▸ rfl
  · exact ⟨H4.sp, H4.sep.cons fun _ h => h.sw⟩
end
end Go.Proofs.Ytoanmomopcaikaa.D
