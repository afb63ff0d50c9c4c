/- Cells of both kinds, as parts that last: Open, Get, Put told of the disk's model. -/
import Derived.Test.YtoanmomopcaikaaDk
import Derived.Test.YtoanmomopcaikaaRCell
namespace Go.Proofs.Ytoanmomopcaikaa.D
open Go
set_option linter.unusedVariables false
set_option linter.unusedSimpArgs false
theorem B_mo {g g' : Gh} {w w' : World} (m : Mo g w g' w') {k : Nat} (hg : g k) {x : List Value × TypeId} (h : B w k = some x) : B w' k = some x := by
  have := (m.keep k hg).2; unfold B at h ⊢; rw [this]; exact h
structure Cp (g : Gh) (w : World) (c x : Nat) (base count : Int) : Prop where
  per : g c
  at_ : CellsAt w c x base count
structure RCp (g : Gh) (w : World) (c y : Nat) (base count : Int) : Prop where
  per : g c
  at_ : RCellsAt w c y base count
section
variable {F F0 : Nat → Prop} {g g' g0 : Gh} {w w' w0 : World} {L : List Rs} {x y c : Nat} {D D' : Dk} {i m base count : Int} {b o : Sl} {bs : List Int}
theorem Cp.mo (h : Cp g w c x base count) (m : Mo g w g' w') : Cp g' w' c x base count := ⟨(m.keep _ h.per).1, B_mo m h.per h.at_.blk, h.at_.b0, h.at_.b1, h.at_.n0, h.at_.n1⟩
theorem RCp.mo (h : RCp g w c x base count) (m : Mo g w g' w') : RCp g' w' c x base count := ⟨(m.keep _ h.per).1, B_mo m h.per h.at_.blk, h.at_.b0, h.at_.b1, h.at_.n0, h.at_.n1⟩
theorem Hp.rdisk (H : Hp F0 g0 w0 g w (rdR y D :: L)) : ∃ G R, RDisk w y G R D := by
  obtain ⟨F, a, b, rows, puts, h, _⟩ := H.hd
  exact ⟨_, _, a, b, rows, puts, h, fun _ h => h, fun _ h => h⟩
/-! ### mark.Cells -/
theorem Hp.mget (H : Hp F0 g0 w0 g w (dkR x D :: L)) (hc : Cp g w c x base count) (hb : D.Bt) (hbd : D.W.length < 900000) (i : Int) :
    ∃ w', mark_Cells_Get (some ⟨c, 0, none⟩) i w = some ((D.get base count i).1, (D.get base count i).2, w') ∧ Hp F0 g0 w0 g w' (dkR x D :: L) ∧ Mo g w g w' := by
  obtain ⟨F, h⟩ := H.dk
  obtain ⟨w', e, f⟩ := get_ok h hc.at_ hb hbd i
  exact ⟨w', e, H.old f, H.mold f⟩
theorem Hp.mput (H : Hp F0 g0 w0 g w (dkR x D :: L)) (hc : Cp g w c x base count) (hb : D.Bt) (hbd : D.W.length < 900000) (hsz : base + 2 * count ≤ D.S.length) (i v : Int) :
    ∃ w', mark_Cells_Put (some ⟨c, 0, none⟩) i v w = some ((D.put base count i v).1, w') ∧ Hp F0 g0 w0 g w' (dkR x (D.put base count i v).2 :: L) ∧ Mo g w g w' := by
  obtain ⟨g', w', ⟨rfl, e⟩, h2, m⟩ := H.up (r' := dkR x (D.put base count i v).2) (Ψ := fun g' w' => g' = g ∧ mark_Cells_Put (some ⟨c, 0, none⟩) i v w = some ((D.put base count i v).1, w')) fun F h hF => by
    obtain ⟨w', e, d, fr⟩ := put_ok h.1 h.2 hc.at_ (fun hk => hF _ hk hc.per) hb hbd hsz i v
    exact ⟨g, w', grow F w w', ⟨rfl, e⟩, ⟨d, fun k hk => hk.elim (fun h' => Nat.lt_of_lt_of_le (h.2 k h') fr.size) (fun h => h.2)⟩, sp_dk hF H.lt fr,
      fun k hk => hk.elim (fun h' => ⟨hF k h', .inl h'⟩) (fun h' => ⟨fun hg => by have := H.lt k hg; omega, .inr h'.1⟩)⟩
  exact ⟨w', e, h2, m⟩
theorem Hp.mopen (H : Hp F0 g0 w0 g w (dkR x D :: L)) (hi : -9223372036854775808 ≤ count ∧ count ≤ 9223372036854775807) (hm : mayOpen D.S.length base count = true) :
    ∃ c g' w', mark_Open (some ⟨x, 0, none⟩) base count w = some (some ⟨c, 0, none⟩, 0, w') ∧ Hp F0 g0 w0 g' w' (dkR x D :: L) ∧ Mo g w g' w' ∧ Cp g' w' c x base count := by
  obtain ⟨F, h⟩ := H.dk
  obtain ⟨c, w', e, hc, hcn, f⟩ := open_yes h hi hm
  have n : Nw g w (fun k => g k ∨ k = c) w' := ⟨f _, fun k hk _ => ⟨fun h => h.elim id (fun h => by omega), .inl⟩, ⟨(f (fun _ => False)).size, fun k hk => ⟨.inl hk, (f (fun _ => False)).block k (H.lt k hk) id⟩⟩,
    fun k hk => hk.elim (fun h' => Nat.lt_of_lt_of_le (H.lt k h') (f (fun _ => False)).size) (fun h' => by subst h'; exact B_lt hc.blk)⟩
  exact ⟨c, _, w', e, H.nw n, n.mo, .inr rfl, hc⟩
/-! ### grapevineref10.Cells -/
theorem Hp.rget (H : Hp F0 g0 w0 g w (rdR y D :: L)) (hc : RCp g w c y base count) (hb : D.Bt) (hbd : D.W.length < 900000) (i : Int) :
    ∃ w', grapevineref10_Cells_Get (some ⟨c, 0, none⟩) i w = some ((D.get base count i).1, (D.get base count i).2, w') ∧ Hp F0 g0 w0 g w' (rdR y D :: L) ∧ Mo g w g w' := by
  obtain ⟨G, R, h⟩ := H.rdisk
  obtain ⟨w', e, f⟩ := rget_ok h hc.at_ hb hbd i
  exact ⟨w', e, H.old f, H.mold f⟩
theorem Hp.ropen (H : Hp F0 g0 w0 g w (rdR y D :: L)) (hn : D.S.length ≤ 512) (hi : -9223372036854775808 ≤ count ∧ count ≤ 9223372036854775807) (hm : mayOpen D.S.length base count = true) :
    ∃ c g' w', grapevineref10_Open (some ⟨y, 0, none⟩) base count w = some (some ⟨c, 0, none⟩, 0, w') ∧ Hp F0 g0 w0 g' w' (rdR y D :: L) ∧ Mo g w g' w' ∧ RCp g' w' c y base count := by
  have hr : 1 ≤ count ∧ count ≤ 32 ∧ 0 ≤ base ∧ base ≤ D.S.length - 2 * count := by simpa [mayOpen, and_assoc] using hm
  obtain ⟨s, l0, ln⟩ := H.rd0
  obtain ⟨b, w1, e1, H1, m1⟩ := H.box (T := 115) (cs := cellsC y base count)
  have hB := H1.bx
  obtain ⟨g', F, hk1, hk2, H2, m2⟩ := H1.keep
  have hw : IntKind.wrap .i64 ((s.n : Int) - IntKind.wrap .i64 (2 * count)) = D.S.length - 2 * count := by rw [IntKind.wrap_i64, IntKind.wrap_i64, ln]; omega
  refine ⟨b, g', w1, ?_, H2, m1.t m2, hk2 _ ((hk1.2 _).2 rfl), hB, by omega, by omega, by omega, by omega⟩
  unfold grapevineref10_Open
  have e1' : Go.Proofs.Ytoanmomopcaikaa.D.mk w 115 [.pointer (some ⟨y, 0, none⟩), .int .i64 base, .int .i64 count] = some (⟨b, 0, none⟩, w1) := e1
  rw [if_neg (by simp), if_neg (by simp; omega), if_neg (by simp; omega), if_neg (by simp; omega), Option.bind_some, add_mk, Nat.zero_add, l0, Option.bind_some, hw, decide_eq_false (by omega), bind2_some, if_neg (by simp), e1', bind2_some]
theorem Hp.rput (H : Hp F0 g0 w0 g w (rdR y D :: L)) (hc : RCp g w c y base count) (hb : D.Bt) (hbd : D.W.length < 900000) (hsz : base + 2 * count ≤ D.S.length) (i v : Int) :
    Ex (grapevineref10_Cells_Put (some ⟨c, 0, none⟩) i v w) fun r => ∃ g', r.1 = (D.put base count i v).1 ∧ Hp F0 g0 w0 g' r.2 (rdR y (D.put base count i v).2 :: L) ∧ Mo g w g' r.2 := by
  have hb0 := hc.at_.b0
  have hb1 := hc.at_.b1
  have hn1 := hc.at_.n1
  unfold grapevineref10_Cells_Put Dk.put
  refine Ex.f (by simp) (Ex.s1 (Ex.b1 (dread0 hc.at_) (Ex.s1 (Ex.b1 H.rd3 ?_))))
  by_cases hd : D.down = true
  · rw [if_pos hd, if_pos hd]; exact Ex.ret ⟨g, rfl, H, Mo.r⟩
  rw [if_neg hd, if_neg hd]
  by_cases hbad : i < 0 ∨ count ≤ i ∨ v < 0 ∨ 1099511627776 < v
  · refine Ex.b2 (a := true) (b := w) ?_ ?_
    · by_cases h0 : i < 0
      · rw [if_pos (by simpa using h0)]
      rw [if_neg (by simpa using h0), add_mk, Nat.zero_add, dread2 hc.at_, Option.bind_some]
      by_cases h1 : count ≤ i
      · rw [if_pos (by simpa using h1)]
      rw [if_neg (by simpa using h1)]
      by_cases h2 : v < 0
      · rw [if_pos (by simpa using h2)]
      rw [if_neg (by simpa using h2), decide_eq_true (show 1099511627776 < v by omega)]
    · rw [if_pos rfl, if_pos hbad]; exact Ex.ret ⟨g, rfl, H, Mo.r⟩
  have hi : 0 ≤ i ∧ i < count ∧ 0 ≤ v ∧ v ≤ 1099511627776 := by omega
  refine Ex.b2 (a := false) (b := w) (by rw [if_neg (by simp; omega), add_mk, Nat.zero_add, dread2 hc.at_, Option.bind_some, if_neg (by simp; omega), if_neg (by simp; omega), decide_eq_false (by omega)]) ?_
  rw [if_neg (by simp), if_neg hbad]
  obtain ⟨G, R, hrd⟩ := H.rdisk
  obtain ⟨w1, e1, f1⟩ := counts_ok hrd hc.at_ hb hbd hi.1 hi.2.1
  obtain ⟨fr, hfr⟩ : ∃ fr, D.found (base + 2 * i) = fr := ⟨_, rfl⟩
  have hrg := found_range D (base + 2 * i)
  have hat := found_at D (base + 2 * i)
  rw [hfr] at e1 hrg hat ⊢
  have H1 := H.old f1
  have m1 := H.mold f1
  refine Ex.b4 e1 ?_
  by_cases hm : fr.2.1 = 4611686018427387904
  · rw [if_pos (by simp; omega), if_pos hm]; exact Ex.ret ⟨g, rfl, H1, m1⟩
  rw [if_neg (by simp; omega), if_neg hm]
  have c1 := hc.mo m1
  refine Ex.b1 (dread1 c1.at_) ?_
  obtain ⟨to, hto⟩ : ∃ to, base + 2 * i + (fr.1 + 1) % 2 = to := ⟨_, rfl⟩
  have hwt : IntKind.wrap .i64 (base + IntKind.wrap .i64 (2 * i)) = base + 2 * i := by rw [IntKind.wrap_i64, IntKind.wrap_i64]; omega
  rw [hto, hwt]
  refine Ex.b2 (a := to) (b := w1) ?_ ?_
  · by_cases h0 : fr.1 = 0
    · rw [if_pos (by simp [rcnt, h0]), ← hto, h0, IntKind.wrap_i64]; congr 2; omega
    · rw [if_neg (by unfold rcnt; split <;> simp <;> omega), ← hto]; congr 2; omega
  have htb : D.bad to = false := by simp [Dk.bad]; omega
  refine Ex.b1 (dread0 c1.at_) ?_
  obtain ⟨o, w2, T, e2, H2, m2⟩ := H1.rread to (by omega)
  have hrd' : D.read to = (D.cur to, 0) := by unfold Dk.read; rw [if_neg hd, htb, if_neg (by simp)]
  have hcl : (D.cur to).length = 64 := cur_len H.rwf htb _ _ H.rwf.w64 (getS_len H.rwf htb)
  rw [hrd'] at e2 H2
  rw [hrd']
  simp only at e2 H2
  refine Ex.b3 e2 ?_
  obtain ⟨was, hwas⟩ : ∃ was, D.cur to = was := ⟨_, rfl⟩
  have hby : Bytes was := by have := read_bytes hb to; rw [hrd'] at this; rw [← hwas]; exact this
  rw [hwas] at H2 hcl ⊢
  obtain ⟨a63, a1, a2⟩ := ld_u8 (i := 63) H2.ow.rd (by omega)
  obtain ⟨p, hp⟩ : ∃ p, (was.getD 63 0 + 1) % 256 = p := ⟨_, rfl⟩
  have hw63 := hby (was.getD 63 0) (by rw [List.getD_eq_getElem?_getD, List.getElem?_eq_getElem (by omega)]; exact List.getElem_mem _)
  have hrm : rmI (IntKind.wrap .i64 ((IntKind.wrap .i64 (was.getD 63 0)) + 1)) 256 = some p := by
    unfold rmI; rw [if_neg (by decide), IntKind.wrap_i64, IntKind.wrap_i64, Int.tmod_eq_emod_of_nonneg (by omega), ← hp]; congr 1; omega
  have hp8 : IntKind.wrap .u8 p = p := by simp [IntKind.wrap, IntKind.bits, IntKind.signed]; omega
  refine Ex.b1 a1 (Ex.b1 a2 (Ex.b1 hrm ?_))
  rw [hp8]
  obtain ⟨z3, w3, e3, n3, _, H3, m3⟩ := H2.bsl (T := 5) (sz := 1) (ps := [[(.int .u8 p)]]) (by simp) (by simp)
  refine Ex.b2 e3 ?_
  have hwn : IntKind.wrap .i64 (fr.2.1 + 1) = fr.2.1 + 1 := by rw [IntKind.wrap_i64]; omega
  rw [hwn]
  obtain ⟨k4, w4, e4, r4, kk4, f4⟩ := rkey_ok (w := w3) (n := fr.2.1 + 1) (by omega) (by omega)
  have H4 := H3.old f4
  have m4 := H3.mold f4
  have k4n : k4.n = 8 := by have := r4.len; rw [nums_length, keyL_len] at this; omega
  refine Ex.b2 e4 ?_
  obtain ⟨z5, w5, e5, n5, H5, m5⟩ := H4.apS st29 r4.rd nums_one (by rw [n3, k4n]; simp)
  refine Ex.b2 e5 ?_
  obtain ⟨k6, w6, e6, r6, kk6, f6⟩ := rkey_ok (w := w5) (n := v) (by omega) (by omega)
  have H6 := H5.old f6
  have m6 := H5.mold f6
  have k6n : k6.n = 8 := by have := r6.len; rw [nums_length, keyL_len] at this; omega
  refine Ex.b2 e6 ?_
  obtain ⟨z7, w7, e7, n7, H7, m7⟩ := H6.apS st29 r6.rd nums_one (by rw [n5, n3, k4n, k6n]; simp)
  refine Ex.b2 e7 ?_
  obtain ⟨z8, w8, e8, n8, H8, m8⟩ := H7.apZ st29 Try.underlying3 46 u8_one (by rw [n7, n5, n3, k4n, k6n]; simp)
  refine Ex.b2 e8 ?_
  obtain ⟨w9, e9, H9, m9⟩ := H8.dr
  refine Ex.b1 e9 ?_
  have c9 := c1.mo (m2.t (m3.t (m4.t (m5.t (m6.t (m7.t (m8.t m9)))))))
  refine Ex.b1 (dread0 c9.at_) ?_
  obtain ⟨z10, w10, e10, n10, _, H10, m10⟩ := H9.bsl (T := 5) (sz := 1) (ps := [[(.int .u8 p)]]) (by simp) (by simp)
  refine Ex.b2 e10 ?_
  obtain ⟨z11, w11, e11, n11, H11, m11⟩ := H10.sw.apS st29 H10.ow.rd (by intro v hv; simp at hv; subst hv; rfl) (by rw [n8, n7, n5, n3, n10, k4n, k6n]; simp)
  refine Ex.b2 e11 ?_
  have hsec : ([[(Value.int .u8 p)]].flatten ++ nums .u8 (keyL (fr.2.1 + 1)) ++ nums .u8 (keyL v) ++ (List.replicate 46 [Value.int .u8 0]).flatten) ++ [[(Value.int .u8 p)]].flatten = nums .u8 (secOf was fr.2.1 v) := by
    unfold secOf; rw [hp, zeros_u8]; simp [nums]
  rw [hsec] at H11
  have rd11 := H11.ow.rd
  obtain ⟨g12, w12, e12, H12, m12⟩ := (H11.m2.m3.rwrite (i := to) rd11 (by omega))
  refine Ex.b2 e12 (Ex.ck (dread0 (c9.mo m10).at_) (Ex.ck (dread0 (c9.mo (m10.t m11)).at_) ?_))
  have c12 := c9.mo (m10.t (m11.t m12))
  have mall := m1.t (m2.t (m3.t (m4.t (m5.t (m6.t (m7.t (m8.t (m9.t (m10.t (m11.t m12))))))))))
  obtain ⟨q, hq⟩ : ∃ q, D.write to (secOf was fr.2.1 v) = q := ⟨_, rfl⟩
  rw [hq] at H12 ⊢
  have H12' := H12.sw.tl.sw.tl.sw.tl
  by_cases he : q.1 = 0
  · obtain ⟨g13, w13, e13, H13, m13⟩ := H12'.rsync (by have := write_W D to (secOf was fr.2.1 v); rw [hq] at this; omega)
    refine Ex.b2 (a := q.2.sync.1) (b := w13) ?_ (Ex.ret ⟨g13, ?_, ?_, mall.t m13⟩)
    · rw [if_pos (by simp [he]), add_mk, Nat.zero_add, dread0 c12.at_, Option.bind_some, e13, bind2_some]
    · rw [if_neg (by simp [he])]
    · rw [if_neg (by simp [he])]; exact H13
  · refine Ex.b2 (a := q.1) (b := w12) ?_ (Ex.ret ⟨g12, ?_, ?_, mall⟩)
    · rw [if_neg (by simpa using he)]
    · rw [if_pos he]
    · rw [if_pos he]; exact H12'
end
end Go.Proofs.Ytoanmomopcaikaa.D
