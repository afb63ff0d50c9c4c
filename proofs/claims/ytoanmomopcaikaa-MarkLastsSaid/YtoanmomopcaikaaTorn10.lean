/- MarkTorn and MarkLasts: plain laws and walks. -/
import Derived.Test.YtoanmomopcaikaaMark10
import Derived.Test.YtoanmomopcaikaaOpen10
namespace Go.Proofs.Ytoanmomopcaikaa.D
open Go
set_option linter.unusedVariables false
set_option linter.unusedSimpArgs false
section
variable {D : Dk} {i v q : Int} {fs : List Int}
theorem cur_nil (h : D.W = []) (q : Int) : D.cur q = D.S.getD q.toNat [] := by unfold Dk.cur; rw [h]; rfl
/-- A settled disk's cell hangs on its sectors alone. -/
theorem get_S {D' : Dk} (hW : D.W = []) (hd : D.down = false) (hW' : D'.W = []) (hd' : D'.down = false) (hn : D.S.length = 8) (hS : D'.S = D.S) (i : Int) : D'.get 1 3 i = D.get 1 3 i := by
  by_cases hi : i < 0 ∨ 3 ≤ i
  · unfold Dk.get; rw [if_pos hi, if_pos hi]
  · rw [get_up (by omega) (by omega), get_up (by omega) (by omega), found_up (by simp [hd']) (by rw [hS]; exact hn) (by omega) (by omega), found_up (by simp [hd]) hn (by omega) (by omega), cur_nil hW, cur_nil hW, cur_nil hW', cur_nil hW', hS]
/-- One sector alone has become another one. -/
theorem get_set {D' : Dk} {s : List Int} (hW : D.W = []) (hd : D.down = false) (hW' : D'.W = []) (hd' : D'.down = false) (hn : D.S.length = 8) (i0 : 0 ≤ i) (i1 : i < 3) (hS : D'.S = D.S.set (D.pt 1 i).toNat s) :
    D'.get 1 3 i = gof (if nxt (fnd (D.cur (1 + 2 * i)) (D.cur (2 + 2 * i))) = 0 then fnd s (D.cur (2 + 2 * i)) else fnd (D.cur (1 + 2 * i)) s) := by
  have hn' : D'.S.length = 8 := by rw [hS, List.length_set]; exact hn
  have hf := found_up (by simp [hd]) hn i0 i1
  have hp : D.pt 1 i = 1 + 2 * i + nxt (fnd (D.cur (1 + 2 * i)) (D.cur (2 + 2 * i))) := by unfold Dk.pt; rw [hf]
  have h01 := nxt_01 (fnd (D.cur (1 + 2 * i)) (D.cur (2 + 2 * i)))
  have hc : ∀ q : Int, 0 ≤ q → q < 8 → D'.cur q = if q = D.pt 1 i then s else D.cur q := fun q h0 h1 => by
    rw [cur_nil hW', cur_nil hW, hS, getD_setL (by omega)]
    by_cases h : q = D.pt 1 i
    · rw [if_pos h, if_pos (by omega)]
    · rw [if_neg h, if_neg (by omega)]
  rw [get_up i0 i1, found_up (by simp [hd']) hn' i0 i1, hc _ (by omega) (by omega), hc _ (by omega) (by omega), hp]
  rcases h01 with e | e
  · rw [e, if_pos (by omega), if_neg (by omega), if_pos rfl]
  · rw [e, if_neg (by omega), if_pos (by omega), if_neg (by decide)]
/-- A put that is broken off anywhere, and a crash. -/
theorem put_torn (hw : D.Wf) (hb : D.Bt) (hn : D.S.length = 8) (hW : D.W = []) (hd : D.down = false) (i v : Int) (fs : List Int) :
    if (D.put 1 3 i v).1 = 0 then ((D.put 1 3 i v).2.crash fs).get 1 3 i = (v, true) else ((D.put 1 3 i v).2.crash fs).get 1 3 i = D.get 1 3 i ∨ ((D.put 1 3 i v).2.crash fs).get 1 3 i = (v, true) := by
  split
  · rename_i h
    obtain ⟨_, _, _, _, _, _, h1, h2, _⟩ := put_ok_is hw hn h
    have hg := (put_back hw hn h).1
    rw [← hg]
    refine get_S h2 h1 rfl rfl ((put_S D 1 3 i v).trans hn) ?_ i
    simp only [Dk.crash, h2, crashS]
  · rename_i h
    have same : ∀ D' : Dk, D'.W = [] → D'.S = D.S → (D'.crash fs).get 1 3 i = D.get 1 3 i := fun D' hW' hS' => get_S hW hd rfl rfl hn (by simp only [Dk.crash, hW', crashS, hS']) i
    rw [put_eq] at h ⊢
    rw [if_neg (by simp [hd])] at h ⊢
    by_cases hbad : i < 0 ∨ 3 ≤ i ∨ v < 0 ∨ 1099511627776 < v
    · rw [if_pos hbad]; exact .inl (same D hW rfl)
    rw [if_neg hbad] at h ⊢
    have i0 : 0 ≤ i := by omega
    have i1 : i < 3 := by omega
    by_cases hm : (D.found (1 + 2 * i)).2.1 = 4611686018427387904
    · rw [if_pos hm]; exact .inl (same D hW rfl)
    rw [if_neg hm] at h ⊢
    have hpt : 1 + 2 * i ≤ D.pt 1 i ∧ D.pt 1 i ≤ 2 + 2 * i := by unfold Dk.pt; have := nxt_01 (D.found (1 + 2 * i)); omega
    have hsl : (D.sc 1 i v).length = 64 := secOf_len _ _ _
    by_cases hq : (D.write (D.pt 1 i) (D.sc 1 i v)).1 ≠ 0
    · rw [if_pos hq]
      left
      unfold Dk.write at hq ⊢
      rw [if_neg (by simp [hd]), in8 hn (by omega) (by omega), if_neg (by simp), if_neg (by omega)] at hq ⊢
      by_cases ht : D.trips.1 = true
      · rw [if_pos ht]; exact same _ (by rw [trips_W]; exact hW) (trips_S D)
      · rw [if_neg ht] at hq; simp at hq
    rw [if_neg hq] at h ⊢
    have hq0 : (D.write (D.pt 1 i) (D.sc 1 i v)).1 = 0 := by simpa using hq
    obtain ⟨_, _, e1, e2, e3, _⟩ := write_is hq0
    obtain ⟨E, hE⟩ : ∃ E, (D.write (D.pt 1 i) (D.sc 1 i v)).2 = E := ⟨_, rfl⟩
    rw [hE] at h e1 e2 e3 ⊢
    rw [hW, List.nil_append, pad_64 hsl] at e2
    have hS2 : E.sync.2.S = D.S ∧ E.sync.2.W = [(D.pt 1 i, D.sc 1 i v)] := by
      unfold Dk.sync at h ⊢
      rw [if_neg (by simp [e3])] at h ⊢
      by_cases ht : E.trips.1 = true
      · rw [if_pos ht]; exact ⟨(trips_S E).trans e1, (trips_W E).trans e2⟩
      · rw [if_neg ht] at h; exact (h rfl).elim
    have hcS : (E.sync.2.crash fs).S = crash1 fs 0 D.S (D.pt 1 i, D.sc 1 i v) := by simp only [Dk.crash, hS2.1, hS2.2, crashS]
    have hcur : D.cur (D.pt 1 i) = D.S.getD (D.pt 1 i).toNat [] := cur_nil hW _
    have hc64 : (D.S.getD (D.pt 1 i).toNat []).length = 64 := by
      rw [List.getD_eq_getElem?_getD, List.getElem?_eq_getElem (by omega)]
      exact hw.s64 _ (List.getElem_mem _)
    have hcb : Bytes (D.S.getD (D.pt 1 i).toNat []) := getD_bytes hb.s
    have hscd : D.sc 1 i v = secOf (D.S.getD (D.pt 1 i).toNat []) (D.found (1 + 2 * i)).2.1 v := by unfold Dk.sc; rw [read_up (by simp [hd]) (in8 hn (by omega) (by omega)), hcur]
    have hrg := found_range D (1 + 2 * i)
    have hf := found_up (by simp [hd]) hn i0 i1
    have full : whole (D.sc 1 i v) = ((fnd (D.cur (1 + 2 * i)) (D.cur (2 + 2 * i))).2.1 + 1, v, true) := by rw [← hf]; exact whole_sec hrg.1 (by omega) (by omega) (by omega)
    have hlast := fnd_full full (by rw [← hf]; exact hrg.1)
    unfold crash1 at hcS
    by_cases f1 : (fate fs 0).tmod 3 = 1
    · rw [if_pos f1, putS_full hsl hw.s64] at hcS
      right
      rw [get_set hW hd rfl rfl hn i0 i1 hcS]
      exact hlast
    rw [if_neg f1] at hcS
    by_cases f2 : (fate fs 0).tmod 3 = 2
    · rw [if_pos f2] at hcS
      have hfr := fate_range fs 0
      obtain ⟨m, hm'⟩ : ∃ m, (((fate fs 0).tdiv 3).tmod 64).toNat = m := ⟨_, rfl⟩
      have hm64 : m < 64 := by
        rw [← hm', Int.tdiv_eq_ediv_of_nonneg hfr.1, Int.tmod_eq_emod_of_nonneg (by omega)]; omega
      rw [hm'] at hcS
      have hps : putS D.S (D.pt 1 i, D.sc 1 i v) m = D.S.set (D.pt 1 i).toNat ((D.sc 1 i v).take m ++ (D.S.getD (D.pt 1 i).toNat []).drop m) := rfl
      rw [hps] at hcS
      left
      rcases Nat.eq_zero_or_pos m with h0 | h0
      · subst h0
        refine get_S hW hd rfl rfl hn (hcS.trans ?_) i
        simp only [List.take_zero, List.nil_append, List.drop_zero]
        rw [List.getD_eq_getElem?_getD, List.getElem?_eq_getElem (by omega)]
        exact List.set_getElem_self (by omega)
      · rw [get_set hW hd rfl rfl hn i0 i1 hcS, fnd_torn (by rw [hscd]; exact whole_torn hc64 hcb h0 hm64), get_up i0 i1, hf]
    · rw [if_neg f2] at hcS
      exact .inl (get_S hW hd rfl rfl hn hcS i)
/-! ### What is put elsewhere -/
/-- The cell's two sectors are the same, and nothing waits for them. -/
structure Rests (D E : Dk) (i : Int) : Prop where
  a : E.S.getD (1 + 2 * i).toNat [] = D.S.getD (1 + 2 * i).toNat []
  b : E.S.getD (2 + 2 * i).toNat [] = D.S.getD (2 + 2 * i).toNat []
  w : ∀ x ∈ E.W, x.1 ≠ 1 + 2 * i ∧ x.1 ≠ 2 + 2 * i
  n : E.S.length = 8
  wf : E.Wf
theorem Rests.trip {E : Dk} (h : Rests D E i) (m : Int) (hw : (E.trip m).2.Wf) : Rests D (E.trip m).2 i := by
  obtain ⟨h1, h2⟩ := trip_S E m
  exact ⟨by rw [h1]; exact h.a, by rw [h1]; exact h.b, by rw [h2]; exact h.w, by rw [h1]; exact h.n, hw⟩
theorem crash1_other {S : List (List Int)} {x : Int × List Int} {k : Nat} {q : Int} (h0 : 0 ≤ q) (hx : x.1 ≠ q) (hx0 : 0 ≤ x.1) (hl : x.1 < S.length) : (crash1 fs k S x).getD q.toNat [] = S.getD q.toNat [] := by
  have : ∀ m, (putS S x m).getD q.toNat [] = S.getD q.toNat [] := fun m => by
    unfold putS
    rw [getD_setL (by omega), if_neg (by omega)]
  unfold crash1
  split
  · exact this _
  · split
    · exact this _
    · rfl
theorem crashS_other {q : Int} (h0 : 0 ≤ q) : ∀ (W : List (Int × List Int)) (k : Nat) (S : List (List Int)), (∀ x ∈ W, x.1 ≠ q ∧ 0 ≤ x.1 ∧ x.1 < S.length) → (crashS fs k W S).getD q.toNat [] = S.getD q.toNat []
  | [], k, S, _ => rfl
  | x :: W, k, S, h => by
    obtain ⟨h1, h2, h3⟩ := h x (by simp)
    have hl : (crash1 fs k S x).length = S.length := by unfold crash1; split; · exact putS_length
                                                        split; · exact putS_length
                                                        rfl
    unfold crashS
    rw [crashS_other h0 W (k + 1) _ (fun y hy => by rw [hl]; exact h y (by simp [hy])), crash1_other h0 h1 h2 h3]
theorem Rests.crash {E : Dk} (h : Rests D E i) (i0 : 0 ≤ i) (hb : E.Bt) (hw : (E.crash fs).Wf) : Rests D (E.crash fs) i :=
  ⟨(crashS_other (by omega) E.W 0 E.S (fun x hx => ⟨(h.w x hx).1, h.wf.wat x hx⟩)).trans h.a, (crashS_other (by omega) E.W 0 E.S (fun x hx => ⟨(h.w x hx).2, h.wf.wat x hx⟩)).trans h.b,
    fun x hx => by simp [Dk.crash] at hx, (crash_S hb fs).trans h.n, hw⟩
theorem write_cases (E : Dk) (q : Int) (b : List Int) : ((E.write q b).1 ≠ 0 ∧ (E.write q b).2.S = E.S ∧ (E.write q b).2.W = E.W) ∨ ((E.write q b).1 = 0 ∧ (E.write q b).2.S = E.S ∧ (E.write q b).2.W = E.W ++ [(q, pad b)]) := by
  unfold Dk.write
  split; · exact .inl ⟨by simp, rfl, rfl⟩
  split; · exact .inl ⟨by simp, rfl, rfl⟩
  split; · exact .inl ⟨by simp, rfl, rfl⟩
  split
  · exact .inl ⟨by simp, trips_S E, trips_W E⟩
  · exact .inr ⟨rfl, trips_S E, rfl⟩
theorem sync_cases (E : Dk) : ((E.sync).2.S = E.S ∧ E.sync.2.W = E.W) ∨ (E.sync.2.S = E.W.foldl (fun S x => putS S x 64) E.S ∧ E.sync.2.W = []) := by
  unfold Dk.sync
  split; · exact .inl ⟨rfl, rfl⟩
  split
  · exact .inl ⟨trips_S E, trips_W E⟩
  · exact .inr ⟨rfl, rfl⟩
theorem Rests.put {E : Dk} (h : Rests D E i) (i0 : 0 ≤ i) (i1 : i < 3) {k : Int} (hk : k ≠ i) (v : Int) (hw : (E.put 1 3 k v).2.Wf) : Rests D (E.put 1 3 k v).2 i := by
  have hself : Rests D E i := h
  have hn := (put_S E 1 3 k v).trans h.n
  rw [put_eq] at hw hn ⊢
  split; · exact h
  split; · exact h
  split; · exact h
  rename_i hd hb hm
  rw [if_neg hd, if_neg hb, if_neg hm] at hw hn
  have hpt : 1 + 2 * k ≤ E.pt 1 k ∧ E.pt 1 k ≤ 2 + 2 * k := by unfold Dk.pt; have := nxt_01 (E.found (1 + 2 * k)); omega
  have hsl : (E.sc 1 k v).length = 64 := secOf_len _ _ _
  rcases write_cases E (E.pt 1 k) (E.sc 1 k v) with ⟨c, cS, cW⟩ | ⟨c, cS, cW⟩
  · rw [if_pos c] at hw hn ⊢
    exact ⟨by rw [cS]; exact h.a, by rw [cS]; exact h.b, by rw [cW]; exact h.w, hn, hw⟩
  · rw [if_neg (by simp [c])] at hw hn ⊢
    have hW' : ∀ x ∈ (E.write (E.pt 1 k) (E.sc 1 k v)).2.W, x.1 ≠ 1 + 2 * i ∧ x.1 ≠ 2 + 2 * i := by
      intro x hx
      rw [cW] at hx
      simp only [List.mem_append, List.mem_singleton] at hx
      rcases hx with hx | rfl
      · exact h.w x hx
      · simp only; omega
    rcases sync_cases (E.write (E.pt 1 k) (E.sc 1 k v)).2 with ⟨sS, sW⟩ | ⟨sS, sW⟩
    · exact ⟨by rw [sS, cS]; exact h.a, by rw [sS, cS]; exact h.b, by rw [sW]; exact hW', hn, hw⟩
    · have hget : ∀ q : Int, 0 ≤ q → (∀ x ∈ (E.write (E.pt 1 k) (E.sc 1 k v)).2.W, x.1 ≠ q) → ((E.write (E.pt 1 k) (E.sc 1 k v)).2.sync).2.S.getD q.toNat [] = E.S.getD q.toNat [] := fun q h0 hx => by
        rw [sS, cS, cW, pad_64 hsl, sync_get _ _ h.wf.s64 (fun x hx => by
          simp only [List.mem_append, List.mem_singleton] at hx
          rcases hx with hx | rfl
          · exact ⟨h.wf.w64 x hx, h.wf.wat x hx⟩
          · have := h.n; exact ⟨hsl, by simp only; omega, by simp only; omega⟩)]
        refine fold_other _ _ fun x hx' => ?_
        rw [Int.toNat_of_nonneg h0]
        refine hx x ?_
        rw [cW, pad_64 hsl]; exact hx'
      exact ⟨(hget _ (by omega) (fun x hx => (hW' x hx).1)).trans h.a, (hget _ (by omega) (fun x hx => (hW' x hx).2)).trans h.b, by rw [sW]; simp, hn, hw⟩
/-- A cell that rests, behind a crash. -/
theorem Rests.get {E : Dk} (h : Rests D E i) (i0 : 0 ≤ i) (i1 : i < 3) (hW : D.W = []) (hd : D.down = false) (hn : D.S.length = 8) (hW' : E.W = []) (hd' : E.down = false) : E.get 1 3 i = D.get 1 3 i := by
  rw [get_up i0 i1, get_up i0 i1, found_up (by simp [hd']) h.n i0 i1, found_up (by simp [hd]) hn i0 i1, cur_nil hW', cur_nil hW', cur_nil hW, cur_nil hW, h.a, h.b]
end
theorem rm4 {t : Int} (wt : (Lit.int .u8 t).wf = true) : rmI (IntKind.wrap .i64 t) 4 = some (t % 4) ∧ 0 ≤ t % 4 := by
  have := u8_range wt
  have hw : IntKind.wrap .i64 t = t := by rw [IntKind.wrap_i64]; omega
  rw [hw]; unfold rmI; rw [if_neg (by decide), Int.tmod_eq_emod_of_nonneg (by omega)]; exact ⟨rfl, by omega⟩
theorem MarkTorn_law {w : World} (l : Sl) (ds : List Dm) (hs : PL dmR 5 (old w) w l ds) (cs : List Value) (hd : ∃ d, dmR (old w) w cs d) (t : Int) (wt : (Lit.int .u8 t).wf = true) : ∃ w', grapevinelaw10_MarkTorn l cs t w = some (true, w') ∧ Fr (fun k => w.heap.size ≤ k) w w' := by
  have key : Ex (grapevinelaw10_MarkTorn l cs t w) fun r => r.1 = true ∧ Fr (fun k => w.heap.size ≤ k) w r.2 := by
    obtain ⟨d, b, f, rfl, hb, hf, hby, hv⟩ := hd
    unfold grapevinelaw10_MarkTorn
    obtain ⟨q, g1, w1, e1, H1, m1, b1⟩ := (Hp.beg (F0 := fun _ => False) (old_lt w)).boxK 78 [.int .i64 d.k, .int .i64 d.i, .int .i64 d.v, b.v, f.v]
    refine Ex.b2 e1 ?_
    refine Ex.j3 (pplay (ds := ds) H1 (PL.mo (R := dmR) dmR_mo hs m1)) ?_
    rintro a0 b0 w2 ⟨p, g2, x, c, y, e, rfl, rfl, m2, D0, hD0, h2, hW⟩
    simp only at h2 m2 ⊢
    have P0 : ∀ {g' w' L}, Hp (fun _ => False) (old w) w g' w' (bxR p (prC x c y e) 75 :: L) → ldP w' ⟨p, 0, none⟩ = some (some ⟨x, 0, none⟩) := fun H => ldP_B H.bx rfl
    have P1 : ∀ {g' w' L}, Hp (fun _ => False) (old w) w g' w' (bxR p (prC x c y e) 75 :: L) → ldP w' ⟨p, 1, none⟩ = some (some ⟨c, 0, none⟩) := fun H => ldP_B H.bx rfl
    refine Ex.f (by simp) (Ex.s1 (Ex.b1 (P0 h2.H) ?_))
    obtain ⟨w3, e3, H3, m3⟩ := h2.H.sw.dcrash (f := Sl.nil) (fs := []) (PR.nil rfl) (by omega)
    refine Ex.b2 e3 ?_
    obtain ⟨D1, hD1⟩ : ∃ D1, D0.crash [] = D1 := ⟨_, rfl⟩
    have hW1 : D1.W = [] := by rw [← hD1]; rfl
    have hd1 : D1.down = false := by rw [← hD1]; rfl
    have hb1 : D1.Bt := hD1 ▸ h2.bt.crash []
    have hn1 : D1.S.length = 8 := by rw [← hD1]; exact (crash_S h2.bt []).trans h2.n
    rw [hD1] at H3
    obtain ⟨w4, e4, H4, m4⟩ := H3.dr
    have c4 := h2.c.mo (m3.t m4)
    have b4 := b1.mo (m2.t (m3.t m4))
    obtain ⟨w5, e5, H5, m5⟩ := H4.mget c4 hb1 (by simp [hW1]) d.i
    refine Ex.b1 e4 (Ex.b1 (P1 H4.sw) (Ex.b1 (ldI_B b4.at_ rfl) (Ex.b3 e5 (Ex.b1 (P0 H5.sw) (Ex.b1 (rm4 wt).1 ?_)))))
    have ht0 := (rm4 wt).2
    obtain ⟨w6, e6, H6, m6⟩ := H5.dtrip (m := t % 4) (by omega)
    obtain ⟨D2, hD2⟩ : ∃ D2, (D1.trip (t % 4)).2 = D2 := ⟨_, rfl⟩
    have hD2' : D2.S = D1.S ∧ D2.W = D1.W := hD2 ▸ trip_S D1 _
    have hd2 : D2.down = false := by rw [← hD2]; unfold Dk.trip; rw [if_neg (by simp [hd1]), if_neg (by omega)]; exact hd1
    rw [hD2] at H6
    have hW2 : D2.W = [] := hD2'.2.trans hW1
    have hn2 : D2.S.length = 8 := by rw [hD2'.1]; exact hn1
    have hb2 : D2.Bt := ⟨by rw [hD2'.1]; exact hb1.s, by rw [hW2]; simp⟩
    obtain ⟨w7, e7, H7, m7⟩ := H6.dr
    have c7 := c4.mo (m5.t (m6.t m7))
    have b7 := b4.mo (m5.t (m6.t m7))
    refine Ex.b2 e6 (Ex.b1 e7 (Ex.b1 (P1 H7.sw) (Ex.b1 (ldI_B b7.at_ rfl) (Ex.b1 (ldI_B b7.at_ rfl) ?_))))
    obtain ⟨w8, e8, H8, m8⟩ := H7.mput c7 hb2 (by simp [hW2]) (by rw [hn2]; decide) d.i d.v
    obtain ⟨w9, e9, H9, m9⟩ := H8.dr
    have b9 := b7.mo (m8.t m9)
    refine Ex.b2 e8 (Ex.b1 e9 (Ex.b1 (P0 H9.sw) (Ex.b1 (ldL_B b9.at_ rfl) ?_)))
    have pW := put_W D2 1 3 d.i d.v
    obtain ⟨w10, e10, H10, m10⟩ := H9.dcrash (hf.mo (m1.t (m2.t (m3.t (m4.t (m5.t (m6.t (m7.t (m8.t m9))))))))) (by rw [hW2] at pW; simp at pW; omega)
    refine Ex.b2 e10 (Ex.b1 (P0 H10.sw) ?_)
    have hn4 : ((D2.put 1 3 d.i d.v).2.crash d.fs).S.length = 8 := (crash_S (hb2.put 1 3 d.i d.v) d.fs).trans ((put_S D2 1 3 d.i d.v).trans hn2)
    obtain ⟨c', g11, w11, e11, H11, m11, c11⟩ := H10.mopen (base := 1) (count := 3) (by omega) (may13 hn4)
    refine Ex.b3 e11 (Ex.f (by simp) ?_)
    have b11 := b9.mo (m10.t m11)
    obtain ⟨w12, e12, H12, m12⟩ := H11.mget c11 ((hb2.put 1 3 d.i d.v).crash d.fs) (by simp [Dk.crash]) d.i
    refine Ex.b1 (ldI_B b11.at_ rfl) (Ex.b3 e12 ?_)
    obtain ⟨w13, e13, f13⟩ := live10_ok (w := w12)
    have b13 := (b11.mo m12).mo (H12.mold f13)
    have hv13 : ldI .i64 w13 ⟨q, 2, none⟩ = some d.v := ldI_B b13.at_ rfl
    have fin := (H12.old f13).fin (S := fun k => w.heap.size ≤ k)
    have hlaw := put_torn H7.dwf hb2 hn2 hW2 hd2 d.i d.v d.fs
    have hg2 : D2.get 1 3 d.i = D1.get 1 3 d.i := get_S hW1 hd1 hW2 hd2 hn1 hD2'.1 d.i
    rw [hg2] at hlaw
    obtain ⟨R, hR⟩ : ∃ R, ((D2.put 1 3 d.i d.v).2.crash d.fs).get 1 3 d.i = R := ⟨_, rfl⟩
    rw [hR] at hlaw ⊢
    by_cases he : (D2.put 1 3 d.i d.v).1 = 0
    · rw [if_pos he] at hlaw
      subst hlaw
      refine Ex.t (by simpa using he) (Ex.b2 (a := true) (b := w13) ?_ (Ex.ret ⟨rfl, fin⟩))
      rw [e13, bind2_some, if_pos rfl, if_pos rfl, add_mk, hv13, Option.bind_some]; simp
    · rw [if_neg he] at hlaw
      refine Ex.f (by simpa using he) (Ex.b2 (a := true) (b := w13) ?_ (Ex.ret ⟨rfl, fin⟩))
      rw [e13, bind2_some, if_pos rfl]
      rcases hlaw with h | h
      · subst h
        rw [if_pos (by simp), if_pos (by simp)]
      · subst h
        rw [if_pos (rfl : (true : Bool) = true), add_mk, hv13, Option.bind_some]
        by_cases h1 : d.v = (D1.get 1 3 d.i).1
        · rw [if_pos (by simpa using h1)]
          by_cases h2 : true = (D1.get 1 3 d.i).2
          · rw [if_pos (by simpa using h2)]
          · rw [if_neg (by simpa using h2)]; simp
        · rw [if_neg (by simpa using h1)]; simp
  obtain ⟨⟨r, w'⟩, e, rfl, f⟩ := key
  exact ⟨w', e, f⟩
end Go.Proofs.Ytoanmomopcaikaa.D
