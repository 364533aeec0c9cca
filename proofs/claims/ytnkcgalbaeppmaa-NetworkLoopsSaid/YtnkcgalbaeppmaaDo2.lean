/- The law's do: the calls that put a packet in flight, and Deliver. -/
import Derived.Test.YtnkcgalbaeppmaaDo1
namespace Go.Proofs.Ytnkcgalbaeppmaa
open Go.RowKit
theorem Src.below {w w' : World} {b : Nat} {D : ND} {p : PV} {m : Pk} (h : Src w b D p m) (hb : Below w.heap.size w w') : Src w' b D p m :=
  ⟨⟨h.src.pin.below hb (Nat.le_refl _), h.src.nil⟩, h.ok, h.far, fun h0 k hk => Nat.lt_of_lt_of_le (h.old h0 k hk) hb.size⟩
set_option maxHeartbeats 3200000 in
set_option maxRecDepth 100000 in
theorem do0 (c : Nat) (V : RefV) (R : RefM) (b : Nat) (N : NetM) (D : ND) (x : AV) (m : Pk) (w : World) (h : St c w b N D V R) (hcc : c ≤ 30000) (hx : Src w b D x.p m) (hk : x.what = 0) :
    Calls Try.prog 9 #[.pointer (some ⟨b, 0, none⟩), V.val, x.val] w (DoPost c V D b (N.launch x m) (R.launch x m) w) := by
  have hl := h.lk.lim h.ok (by omega)
  have hf := h.lk.few h.ok
  have hlR := h.ok.lim (by omega)
  have hallR := h.ok.all
  have hblkR := h.ok.blk
  have hlk := h.lk
  have hok := h.ok
  obtain ⟨aa, ac, ha, hc, ea, ec, ba, bc, h1, h2, h3, h4⟩ := h.ref.forms
  obtain ⟨al, hi, ev, bl, ps, hs'⟩ := V
  simp only at h1 h2 h3 h4
  subst h1 h2 h3 h4
  simp only [RefV.val, AV.val]
  obtain ⟨e1, e2, e3, e4⟩ := top4 w (.cells #[.slice aa R.all.length ac, .slice ha R.hist.length hc, .slice ea R.ev.length ec, .slice ba R.blk.length bc] 35) (.cells #[.int .i64 x.what, .int .i64 x.id, .int .i64 x.off, .int .u8 x.mask, .string x.p.f, .string x.p.t, .slice x.p.ba x.p.bn x.p.bc] 42) (.cells #[.slice none 0 0, .slice none 0 0, .slice none 0 0, .slice none 0 0] 35) (.cells #[.slice aa R.all.length ac, .slice ha R.hist.length hc, .slice ea R.ev.length ec, .slice ba R.blk.length bc] 35)
  have hb1 : Below w.heap.size w ((((w.alloc (.cells #[.slice aa R.all.length ac, .slice ha R.hist.length hc, .slice ea R.ev.length ec, .slice ba R.blk.length bc] 35)).alloc (.cells #[.int .i64 x.what, .int .i64 x.id, .int .i64 x.off, .int .u8 x.mask, .string x.p.f, .string x.p.t, .slice x.p.ba x.p.bn x.p.bc] 42)).alloc (.cells #[.slice none 0 0, .slice none 0 0, .slice none 0 0, .slice none 0 0] 35)).alloc (.cells #[.slice aa R.all.length ac, .slice ha R.hist.length hc, .slice ea R.ev.length ec, .slice ba R.blk.length bc] 35)) := ((((Below.refl _ _).alloc (Nat.le_refl _) _).alloc (by simp) _).alloc (by simp; omega) _).alloc (by simp; omega) _
  have hfar : ∀ k, fp D b k → k < w.heap.size := h.rep.fp_lt
  have hk0 : (x.what == 0) = true := by simp [hk]
  have hk1 : (x.what == 1) = false := by simp [hk]
  have hk2 : (x.what == 2) = false := by simp [hk]
  have hk3 : (x.what == 3) = false := by simp [hk]
  have hk4 : (x.what == 4) = false := by simp [hk]
  have hk5 : (x.what == 5) = false := by simp [hk]
  have hk6 : (x.what == 6) = false := by simp [hk]
  have hk7 : (x.what == 7) = false := by simp [hk]
  have hk8 : (x.what == 8) = false := by simp [hk]
  have hk9 : (x.what == 9) = false := by simp [hk]
  have hk10 : (x.what == 10) = false := by simp [hk]
  have hk11 : (x.what == 11) = false := by simp [hk]
  clear hk
  obtain ⟨N', hN'⟩ : ∃ N', N' = N.launch x m := ⟨_, rfl⟩
  obtain ⟨R', hR'⟩ : ∃ R', R' = R.launch x m := ⟨_, rfl⟩
  rw [← hN', ← hR']
  have HN := Lib.hid hN'
  have HR := Lib.hid hR'
  clear hN' hR'
  go_enter Try.func9, Try.ntmps9
  go_wp2_with fail
  generalize (((w.alloc (.cells #[.slice aa R.all.length ac, .slice ha R.hist.length hc, .slice ea R.ev.length ec, .slice ba R.blk.length bc] 35)).alloc (.cells #[.int .i64 x.what, .int .i64 x.id, .int .i64 x.off, .int .u8 x.mask, .string x.p.f, .string x.p.t, .slice x.p.ba x.p.bn x.p.bc] 42)).alloc (.cells #[.slice none 0 0, .slice none 0 0, .slice none 0 0, .slice none 0 0] 35)).alloc (.cells #[.slice aa R.all.length ac, .slice ha R.hist.length hc, .slice ea R.ev.length ec, .slice ba R.blk.length bc] 35) = w1 at e1 e2 e3 e4 hb1 ⊢
  have hw1 := lt_of_heap e4
  have hfp1 : ∀ k, w.heap.size ≤ k → ¬ wr D b k := fun k h1 h3 => by have := hfar k (.inl h3); omega
  obtain ⟨c0, c1, c2, c3, c4, c5, c6, cl⟩ := blk7 e2
  obtain ⟨y0, y1, y2, y3, _, _⟩ := blk4 e1
  go_wp2_with fail
  refine (launchL_any c ⟨.slice aa R.all.length ac, .slice ha R.hist.length hc, .slice ea R.ev.length ec, .slice ba R.blk.length bc, ps, hs'⟩ R b N D x m w1 (h.below hb1) hcc (hx.below hb1)).mono ?_
  rw [← HN.out, ← HR.out]
  rintro e w5 ⟨⟨al5, hi5, ev5, bl5, ps5, hs5⟩, D4, rfl, H5, t4, hnw0⟩
  have hfpD : ∀ k, fp D4 b k → fp D b k ∨ w1.heap.size ≤ k := t4.fp
  have hnw : News ⟨.slice aa R.all.length ac, .slice ha R.hist.length hc, .slice ea R.ev.length ec, .slice ba R.blk.length bc, ps, hs'⟩ ⟨al5, hi5, ev5, bl5, ps5, hs5⟩ w.heap.size := hnw0.mono (by omega)
  obtain ⟨xa, xc, xb, xd, xe, xf, xg, xh, z1, z2, z3, z4⟩ := H5.ref.forms
  simp only at z1 z2 z3 z4
  subst z1 z2 z3 z4
  simp only [RefV.val]
  have q3 := (t4.kp.block _ (lt_of_heap e3) (hfp1 _ (by omega))).trans e3
  have q4' := (t4.kp.block _ (lt_of_heap e4) (hfp1 _ (by omega))).trans e4
  have t5 : Turns D D4 b w w5 := Turns.of_below' hb1 t4
  have hs45 : w1.heap.size ≤ w5.heap.size := t4.kp.size
  have r5 := H5.rep
  have h5 := H5.ref
  have hlk' := H5.lk
  have hok' := H5.ok
  have hap5 := H5.ap
  clear c0 c1 c2 c3 c4 c5 c6 cl y0 y1 y2 y3 e1 e2 e3 e4 hb1 t4 hnw0 H5
  obtain ⟨u0, u1, u2, u3, uf, ul⟩ := blk4 q4'
  have hkY := ((((Kp.refl (fun j => j = w.heap.size + 1 + 1 + 1) w5).setCell (p := ⟨w.heap.size + 1 + 1 + 1, 0, none⟩) (fun _ => rfl) (.slice xa R'.all.length xc)).setCell (p := ⟨w.heap.size + 1 + 1 + 1, 1, none⟩) (fun _ => rfl) (.slice xb R'.hist.length xd)).setCell (p := ⟨w.heap.size + 1 + 1 + 1, 2, none⟩) (fun _ => rfl) (.slice xe R'.ev.length xf)).setCell (p := ⟨w.heap.size + 1 + 1 + 1, 3, none⟩) (fun _ => rfl) (.slice xg R'.blk.length xh)
  have q4 : ((((w5.setCell ⟨w.heap.size + 1 + 1 + 1, 0, none⟩ (.slice xa R'.all.length xc)).setCell ⟨w.heap.size + 1 + 1 + 1, 1, none⟩ (.slice xb R'.hist.length xd)).setCell ⟨w.heap.size + 1 + 1 + 1, 2, none⟩ (.slice xe R'.ev.length xf)).setCell ⟨w.heap.size + 1 + 1 + 1, 3, none⟩ (.slice xg R'.blk.length xh)).heap[w.heap.size + 1 + 1 + 1]? = some (.cells #[.slice xa R'.all.length xc, .slice xb R'.hist.length xd, .slice xe R'.ev.length xf, .slice xg R'.blk.length xh] 35) := by simp [World.setCell, Array.getElem?_modify, q4']
  replace q3 := (hkY.block _ (lt_of_heap q3) (by omega)).trans q3
  have hnfY : ¬ fp D4 b (w.heap.size + 1 + 1 + 1) := fun hf => by
    rcases hfpD _ hf with e | e
    · have := hfar _ e; omega
    · omega
  replace r5 := r5.kp hkY (fun k hf e => hnfY (e ▸ hf))
  replace h5 := h5.same (fun k hr => hkY.block k (h5.lt k hr) (fun e => h5.notbox q4' (e ▸ hr)))
  have t6 : Kp (wr D b) w ((((w5.setCell ⟨w.heap.size + 1 + 1 + 1, 0, none⟩ (.slice xa R'.all.length xc)).setCell ⟨w.heap.size + 1 + 1 + 1, 1, none⟩ (.slice xb R'.hist.length xd)).setCell ⟨w.heap.size + 1 + 1 + 1, 2, none⟩ (.slice xe R'.ev.length xf)).setCell ⟨w.heap.size + 1 + 1 + 1, 3, none⟩ (.slice xg R'.blk.length xh)) := t5.kp.trans hkY (fun k hk e => by omega)
  replace t5 : Turns D D4 b w ((((w5.setCell ⟨w.heap.size + 1 + 1 + 1, 0, none⟩ (.slice xa R'.all.length xc)).setCell ⟨w.heap.size + 1 + 1 + 1, 1, none⟩ (.slice xb R'.hist.length xd)).setCell ⟨w.heap.size + 1 + 1 + 1, 2, none⟩ (.slice xe R'.ev.length xf)).setCell ⟨w.heap.size + 1 + 1 + 1, 3, none⟩ (.slice xg R'.blk.length xh)) := ⟨t6, t5.wr, t5.hp⟩
  go_wp2_with fail
  clear u0 u1 u2 u3 uf ul hkY q4' t6
  generalize ((((w5.setCell ⟨w.heap.size + 1 + 1 + 1, 0, none⟩ (.slice xa R'.all.length xc)).setCell ⟨w.heap.size + 1 + 1 + 1, 1, none⟩ (.slice xb R'.hist.length xd)).setCell ⟨w.heap.size + 1 + 1 + 1, 2, none⟩ (.slice xe R'.ev.length xf)).setCell ⟨w.heap.size + 1 + 1 + 1, 3, none⟩ (.slice xg R'.blk.length xh)) = w5 at q3 q4 r5 h5 t5 ⊢
  have hl' := hlk'.lim hok' (by omega)
  have hlR' := hok'.lim (by omega)
  have H5 : St (c + 1) w5 b N' D4 ⟨.slice xa R'.all.length xc, .slice xb R'.hist.length xd, .slice xe R'.ev.length xf, .slice xg R'.blk.length xh, ps5, hs5⟩ R' := ⟨r5, h5, hlk', hok', hap5⟩
  clear r5 h5 hap5
  have hfp5 := H5.rep.fp_lt
  have hrp5 := H5.ref.lt
  obtain ⟨u0, u1, u2, u3, uf, ul⟩ := blk4 q4
  obtain ⟨v0, v1, v2, v3, vf, vl⟩ := blk4 q3
  go_wp2_with fail
  apply wp_region_plan [.rd 0, .rd 1, .rd 2, .rd 3, .rd 4, .rd 5, .rd 6, .rd 7, .rd 8, .rd 9, .rd 10, .act 11, .rd 12, .act 13, .act 14, .act 15] [15] (fun w' => w'.heap[w.heap.size + 1 + 1 + 1]? = some (.cells #[.slice xa R'.all.length xc, .slice xb R'.hist.length xd, .slice xe R'.ev.length xf, .slice xg R'.blk.length xh] 35))
  case hm => kernel_rfl
  case hB => kernel_rfl
  case hS => exact q4
  intro W hW
  have hbW : Below w5.heap.size w5 W := by subst hW; exact (Below.refl _ _).drew
  clear hW
  iterate 11
    try simp only [Act.put, List.setIfInBounds_toArray, List.set_cons_succ, List.set_cons_zero]
    apply plan_rd rfl rfl
    · intro w' hS
      obtain ⟨y0, y1, y2, y3, _, _⟩ := blk4 hS
      go_simp
      try rfl
  have sW := (hbW.block _ (lt_of_heap q4)).trans q4
  have s3 := (hbW.block _ (lt_of_heap q3)).trans q3
  have HW := H5.below hbW
  clear u0 u1 u2 u3 uf ul v0 v1 v2 v3 vf vl q3 q4
  apply plan_act rfl
  try simp only [Act.put, List.setIfInBounds_toArray, List.set_cons_succ, List.set_cons_zero]
  go_wp2_with fail
  refine (agreesR_any _ R' b N' D4 W HW.rep hl' HW.ref hlR' hlk').mono ?_
  rintro e W2 ⟨rfl, hbl2⟩
  have hb2 := hbW.trans (hbl2.mono hbW.size)
  have sZ := (hbl2.block _ (lt_of_heap sW)).trans sW
  have s4 := (hbl2.block _ (lt_of_heap s3)).trans s3
  have H6 := HW.below hbl2
  clear hbW hbl2 sW s3 HW
  obtain ⟨v0, v1, v2, v3, vf, vl⟩ := blk4 s4
  go_wp2_with fail
  refine act_on sZ ?_
  apply plan_rd rfl rfl
  · intro w' hS
    go_simp
    try rfl
  try simp only [Act.put, List.setIfInBounds_toArray, List.set_cons_succ, List.set_cons_zero]
  apply plan_act rfl
  try simp only [Act.put, List.setIfInBounds_toArray, List.set_cons_succ, List.set_cons_zero]
  go_wp2_with fail
  refine act_on sZ ?_
  have hk4 : Kp (fun j => j = w.heap.size + 1 + 1) W2 ((((W2.setCell ⟨w.heap.size + 1 + 1, 0, none⟩ (.slice xa R'.all.length xc)).setCell ⟨w.heap.size + 1 + 1, 1, none⟩ (.slice xb R'.hist.length xd)).setCell ⟨w.heap.size + 1 + 1, 2, none⟩ (.slice xe R'.ev.length xf)).setCell ⟨w.heap.size + 1 + 1, 3, none⟩ (.slice xg R'.blk.length xh)) := ((((Kp.refl (fun j => j = w.heap.size + 1 + 1) W2).setCell (p := ⟨w.heap.size + 1 + 1, 0, none⟩) (fun _ => rfl) (.slice xa R'.all.length xc)).setCell (p := ⟨w.heap.size + 1 + 1, 1, none⟩) (fun _ => rfl) (.slice xb R'.hist.length xd)).setCell (p := ⟨w.heap.size + 1 + 1, 2, none⟩) (fun _ => rfl) (.slice xe R'.ev.length xf)).setCell (p := ⟨w.heap.size + 1 + 1, 3, none⟩) (fun _ => rfl) (.slice xg R'.blk.length xh)
  apply plan_act rfl
  try simp only [Act.put, List.setIfInBounds_toArray, List.set_cons_succ, List.set_cons_zero]
  go_wp2_with fail
  refine act_on ((hk4.block _ (lt_of_heap sZ) (by omega)).trans sZ) ?_
  apply plan_act rfl
  try simp only [Act.put, List.setIfInBounds_toArray, List.set_cons_succ, List.set_cons_zero]
  go_wp2_with fail
  refine act_late rfl ?_
  refine plan_end (Good.normal ?_)
  go_wp2_with fail
  refine bodyPost_ret (v := .tuple #[.pointer (some ⟨b, 0, none⟩), RefV.val ⟨.slice xa R'.all.length xc, .slice xb R'.hist.length xd, .slice xe R'.ev.length xf, .slice xg R'.blk.length xh, ps5, hs5⟩, .bool true]) (by simp [results, Try.results9, RefV.val, go_sem, v0, v1, v2, v3]) rfl ?_
  have hnf : ¬ fp D4 b (w.heap.size + 1 + 1) := fun hf => by
    rcases hfpD _ hf with e | e
    · have := hfar _ e; omega
    · omega
  refine ⟨_, D4, b, rfl, ⟨H6.rep.kp hk4 (fun k hf e => hnf (e ▸ hf)), H6.ref.same (fun k hr => hk4.block k (H6.ref.lt k hr) (fun e => H6.ref.notbox s4 (e ▸ hr))), hlk', hok', H6.ap⟩, ?_, t5.wr, hnw⟩
  exact ((t5.kp.below hb2 t5.kp.size).trans hk4 (fun k hk e => by omega))
set_option maxHeartbeats 3200000 in
set_option maxRecDepth 100000 in
theorem do1 (c : Nat) (V : RefV) (R : RefM) (b : Nat) (N : NetM) (D : ND) (x : AV) (m : Pk) (w : World) (h : St c w b N D V R) (hcc : c ≤ 30000) (hx : Src w b D x.p m) (hk : x.what = 1) :
    Calls Try.prog 9 #[.pointer (some ⟨b, 0, none⟩), V.val, x.val] w (DoPost c V D b (N.launch x m) (R.launch x m) w) := by
  have hl := h.lk.lim h.ok (by omega)
  have hf := h.lk.few h.ok
  have hlR := h.ok.lim (by omega)
  have hallR := h.ok.all
  have hblkR := h.ok.blk
  have hlk := h.lk
  have hok := h.ok
  obtain ⟨aa, ac, ha, hc, ea, ec, ba, bc, h1, h2, h3, h4⟩ := h.ref.forms
  obtain ⟨al, hi, ev, bl, ps, hs'⟩ := V
  simp only at h1 h2 h3 h4
  subst h1 h2 h3 h4
  simp only [RefV.val, AV.val]
  obtain ⟨e1, e2, e3, e4⟩ := top4 w (.cells #[.slice aa R.all.length ac, .slice ha R.hist.length hc, .slice ea R.ev.length ec, .slice ba R.blk.length bc] 35) (.cells #[.int .i64 x.what, .int .i64 x.id, .int .i64 x.off, .int .u8 x.mask, .string x.p.f, .string x.p.t, .slice x.p.ba x.p.bn x.p.bc] 42) (.cells #[.slice none 0 0, .slice none 0 0, .slice none 0 0, .slice none 0 0] 35) (.cells #[.slice aa R.all.length ac, .slice ha R.hist.length hc, .slice ea R.ev.length ec, .slice ba R.blk.length bc] 35)
  have hb1 : Below w.heap.size w ((((w.alloc (.cells #[.slice aa R.all.length ac, .slice ha R.hist.length hc, .slice ea R.ev.length ec, .slice ba R.blk.length bc] 35)).alloc (.cells #[.int .i64 x.what, .int .i64 x.id, .int .i64 x.off, .int .u8 x.mask, .string x.p.f, .string x.p.t, .slice x.p.ba x.p.bn x.p.bc] 42)).alloc (.cells #[.slice none 0 0, .slice none 0 0, .slice none 0 0, .slice none 0 0] 35)).alloc (.cells #[.slice aa R.all.length ac, .slice ha R.hist.length hc, .slice ea R.ev.length ec, .slice ba R.blk.length bc] 35)) := ((((Below.refl _ _).alloc (Nat.le_refl _) _).alloc (by simp) _).alloc (by simp; omega) _).alloc (by simp; omega) _
  have hfar : ∀ k, fp D b k → k < w.heap.size := h.rep.fp_lt
  have hk0 : (x.what == 0) = false := by simp [hk]
  have hk1 : (x.what == 1) = true := by simp [hk]
  have hk2 : (x.what == 2) = false := by simp [hk]
  have hk3 : (x.what == 3) = false := by simp [hk]
  have hk4 : (x.what == 4) = false := by simp [hk]
  have hk5 : (x.what == 5) = false := by simp [hk]
  have hk6 : (x.what == 6) = false := by simp [hk]
  have hk7 : (x.what == 7) = false := by simp [hk]
  have hk8 : (x.what == 8) = false := by simp [hk]
  have hk9 : (x.what == 9) = false := by simp [hk]
  have hk10 : (x.what == 10) = false := by simp [hk]
  have hk11 : (x.what == 11) = false := by simp [hk]
  clear hk
  obtain ⟨N', hN'⟩ : ∃ N', N' = N.launch x m := ⟨_, rfl⟩
  obtain ⟨R', hR'⟩ : ∃ R', R' = R.launch x m := ⟨_, rfl⟩
  rw [← hN', ← hR']
  have HN := Lib.hid hN'
  have HR := Lib.hid hR'
  clear hN' hR'
  go_enter Try.func9, Try.ntmps9
  go_wp2_with fail
  generalize (((w.alloc (.cells #[.slice aa R.all.length ac, .slice ha R.hist.length hc, .slice ea R.ev.length ec, .slice ba R.blk.length bc] 35)).alloc (.cells #[.int .i64 x.what, .int .i64 x.id, .int .i64 x.off, .int .u8 x.mask, .string x.p.f, .string x.p.t, .slice x.p.ba x.p.bn x.p.bc] 42)).alloc (.cells #[.slice none 0 0, .slice none 0 0, .slice none 0 0, .slice none 0 0] 35)).alloc (.cells #[.slice aa R.all.length ac, .slice ha R.hist.length hc, .slice ea R.ev.length ec, .slice ba R.blk.length bc] 35) = w1 at e1 e2 e3 e4 hb1 ⊢
  have hw1 := lt_of_heap e4
  have hfp1 : ∀ k, w.heap.size ≤ k → ¬ wr D b k := fun k h1 h3 => by have := hfar k (.inl h3); omega
  obtain ⟨c0, c1, c2, c3, c4, c5, c6, cl⟩ := blk7 e2
  obtain ⟨y0, y1, y2, y3, _, _⟩ := blk4 e1
  go_wp2_with fail
  refine (launchL_any c ⟨.slice aa R.all.length ac, .slice ha R.hist.length hc, .slice ea R.ev.length ec, .slice ba R.blk.length bc, ps, hs'⟩ R b N D x m w1 (h.below hb1) hcc (hx.below hb1)).mono ?_
  rw [← HN.out, ← HR.out]
  rintro e w5 ⟨⟨al5, hi5, ev5, bl5, ps5, hs5⟩, D4, rfl, H5, t4, hnw0⟩
  have hfpD : ∀ k, fp D4 b k → fp D b k ∨ w1.heap.size ≤ k := t4.fp
  have hnw : News ⟨.slice aa R.all.length ac, .slice ha R.hist.length hc, .slice ea R.ev.length ec, .slice ba R.blk.length bc, ps, hs'⟩ ⟨al5, hi5, ev5, bl5, ps5, hs5⟩ w.heap.size := hnw0.mono (by omega)
  obtain ⟨xa, xc, xb, xd, xe, xf, xg, xh, z1, z2, z3, z4⟩ := H5.ref.forms
  simp only at z1 z2 z3 z4
  subst z1 z2 z3 z4
  simp only [RefV.val]
  have q3 := (t4.kp.block _ (lt_of_heap e3) (hfp1 _ (by omega))).trans e3
  have q4' := (t4.kp.block _ (lt_of_heap e4) (hfp1 _ (by omega))).trans e4
  have t5 : Turns D D4 b w w5 := Turns.of_below' hb1 t4
  have hs45 : w1.heap.size ≤ w5.heap.size := t4.kp.size
  have r5 := H5.rep
  have h5 := H5.ref
  have hlk' := H5.lk
  have hok' := H5.ok
  have hap5 := H5.ap
  clear c0 c1 c2 c3 c4 c5 c6 cl y0 y1 y2 y3 e1 e2 e3 e4 hb1 t4 hnw0 H5
  obtain ⟨u0, u1, u2, u3, uf, ul⟩ := blk4 q4'
  have hkY := ((((Kp.refl (fun j => j = w.heap.size + 1 + 1 + 1) w5).setCell (p := ⟨w.heap.size + 1 + 1 + 1, 0, none⟩) (fun _ => rfl) (.slice xa R'.all.length xc)).setCell (p := ⟨w.heap.size + 1 + 1 + 1, 1, none⟩) (fun _ => rfl) (.slice xb R'.hist.length xd)).setCell (p := ⟨w.heap.size + 1 + 1 + 1, 2, none⟩) (fun _ => rfl) (.slice xe R'.ev.length xf)).setCell (p := ⟨w.heap.size + 1 + 1 + 1, 3, none⟩) (fun _ => rfl) (.slice xg R'.blk.length xh)
  have q4 : ((((w5.setCell ⟨w.heap.size + 1 + 1 + 1, 0, none⟩ (.slice xa R'.all.length xc)).setCell ⟨w.heap.size + 1 + 1 + 1, 1, none⟩ (.slice xb R'.hist.length xd)).setCell ⟨w.heap.size + 1 + 1 + 1, 2, none⟩ (.slice xe R'.ev.length xf)).setCell ⟨w.heap.size + 1 + 1 + 1, 3, none⟩ (.slice xg R'.blk.length xh)).heap[w.heap.size + 1 + 1 + 1]? = some (.cells #[.slice xa R'.all.length xc, .slice xb R'.hist.length xd, .slice xe R'.ev.length xf, .slice xg R'.blk.length xh] 35) := by simp [World.setCell, Array.getElem?_modify, q4']
  replace q3 := (hkY.block _ (lt_of_heap q3) (by omega)).trans q3
  have hnfY : ¬ fp D4 b (w.heap.size + 1 + 1 + 1) := fun hf => by
    rcases hfpD _ hf with e | e
    · have := hfar _ e; omega
    · omega
  replace r5 := r5.kp hkY (fun k hf e => hnfY (e ▸ hf))
  replace h5 := h5.same (fun k hr => hkY.block k (h5.lt k hr) (fun e => h5.notbox q4' (e ▸ hr)))
  have t6 : Kp (wr D b) w ((((w5.setCell ⟨w.heap.size + 1 + 1 + 1, 0, none⟩ (.slice xa R'.all.length xc)).setCell ⟨w.heap.size + 1 + 1 + 1, 1, none⟩ (.slice xb R'.hist.length xd)).setCell ⟨w.heap.size + 1 + 1 + 1, 2, none⟩ (.slice xe R'.ev.length xf)).setCell ⟨w.heap.size + 1 + 1 + 1, 3, none⟩ (.slice xg R'.blk.length xh)) := t5.kp.trans hkY (fun k hk e => by omega)
  replace t5 : Turns D D4 b w ((((w5.setCell ⟨w.heap.size + 1 + 1 + 1, 0, none⟩ (.slice xa R'.all.length xc)).setCell ⟨w.heap.size + 1 + 1 + 1, 1, none⟩ (.slice xb R'.hist.length xd)).setCell ⟨w.heap.size + 1 + 1 + 1, 2, none⟩ (.slice xe R'.ev.length xf)).setCell ⟨w.heap.size + 1 + 1 + 1, 3, none⟩ (.slice xg R'.blk.length xh)) := ⟨t6, t5.wr, t5.hp⟩
  go_wp2_with fail
  clear u0 u1 u2 u3 uf ul hkY q4' t6
  generalize ((((w5.setCell ⟨w.heap.size + 1 + 1 + 1, 0, none⟩ (.slice xa R'.all.length xc)).setCell ⟨w.heap.size + 1 + 1 + 1, 1, none⟩ (.slice xb R'.hist.length xd)).setCell ⟨w.heap.size + 1 + 1 + 1, 2, none⟩ (.slice xe R'.ev.length xf)).setCell ⟨w.heap.size + 1 + 1 + 1, 3, none⟩ (.slice xg R'.blk.length xh)) = w5 at q3 q4 r5 h5 t5 ⊢
  have hl' := hlk'.lim hok' (by omega)
  have hlR' := hok'.lim (by omega)
  have H5 : St (c + 1) w5 b N' D4 ⟨.slice xa R'.all.length xc, .slice xb R'.hist.length xd, .slice xe R'.ev.length xf, .slice xg R'.blk.length xh, ps5, hs5⟩ R' := ⟨r5, h5, hlk', hok', hap5⟩
  clear r5 h5 hap5
  have hfp5 := H5.rep.fp_lt
  have hrp5 := H5.ref.lt
  obtain ⟨u0, u1, u2, u3, uf, ul⟩ := blk4 q4
  obtain ⟨v0, v1, v2, v3, vf, vl⟩ := blk4 q3
  go_wp2_with fail
  apply wp_region_plan [.rd 0, .rd 1, .rd 2, .rd 3, .rd 4, .rd 5, .rd 6, .rd 7, .rd 8, .rd 9, .rd 10, .act 11, .rd 12, .act 13, .act 14, .act 15] [15] (fun w' => w'.heap[w.heap.size + 1 + 1 + 1]? = some (.cells #[.slice xa R'.all.length xc, .slice xb R'.hist.length xd, .slice xe R'.ev.length xf, .slice xg R'.blk.length xh] 35))
  case hm => kernel_rfl
  case hB => kernel_rfl
  case hS => exact q4
  intro W hW
  have hbW : Below w5.heap.size w5 W := by subst hW; exact (Below.refl _ _).drew
  clear hW
  iterate 11
    try simp only [Act.put, List.setIfInBounds_toArray, List.set_cons_succ, List.set_cons_zero]
    apply plan_rd rfl rfl
    · intro w' hS
      obtain ⟨y0, y1, y2, y3, _, _⟩ := blk4 hS
      go_simp
      try rfl
  have sW := (hbW.block _ (lt_of_heap q4)).trans q4
  have s3 := (hbW.block _ (lt_of_heap q3)).trans q3
  have HW := H5.below hbW
  clear u0 u1 u2 u3 uf ul v0 v1 v2 v3 vf vl q3 q4
  apply plan_act rfl
  try simp only [Act.put, List.setIfInBounds_toArray, List.set_cons_succ, List.set_cons_zero]
  go_wp2_with fail
  refine (agreesR_any _ R' b N' D4 W HW.rep hl' HW.ref hlR' hlk').mono ?_
  rintro e W2 ⟨rfl, hbl2⟩
  have hb2 := hbW.trans (hbl2.mono hbW.size)
  have sZ := (hbl2.block _ (lt_of_heap sW)).trans sW
  have s4 := (hbl2.block _ (lt_of_heap s3)).trans s3
  have H6 := HW.below hbl2
  clear hbW hbl2 sW s3 HW
  obtain ⟨v0, v1, v2, v3, vf, vl⟩ := blk4 s4
  go_wp2_with fail
  refine act_on sZ ?_
  apply plan_rd rfl rfl
  · intro w' hS
    go_simp
    try rfl
  try simp only [Act.put, List.setIfInBounds_toArray, List.set_cons_succ, List.set_cons_zero]
  apply plan_act rfl
  try simp only [Act.put, List.setIfInBounds_toArray, List.set_cons_succ, List.set_cons_zero]
  go_wp2_with fail
  refine act_on sZ ?_
  have hk4 : Kp (fun j => j = w.heap.size + 1 + 1) W2 ((((W2.setCell ⟨w.heap.size + 1 + 1, 0, none⟩ (.slice xa R'.all.length xc)).setCell ⟨w.heap.size + 1 + 1, 1, none⟩ (.slice xb R'.hist.length xd)).setCell ⟨w.heap.size + 1 + 1, 2, none⟩ (.slice xe R'.ev.length xf)).setCell ⟨w.heap.size + 1 + 1, 3, none⟩ (.slice xg R'.blk.length xh)) := ((((Kp.refl (fun j => j = w.heap.size + 1 + 1) W2).setCell (p := ⟨w.heap.size + 1 + 1, 0, none⟩) (fun _ => rfl) (.slice xa R'.all.length xc)).setCell (p := ⟨w.heap.size + 1 + 1, 1, none⟩) (fun _ => rfl) (.slice xb R'.hist.length xd)).setCell (p := ⟨w.heap.size + 1 + 1, 2, none⟩) (fun _ => rfl) (.slice xe R'.ev.length xf)).setCell (p := ⟨w.heap.size + 1 + 1, 3, none⟩) (fun _ => rfl) (.slice xg R'.blk.length xh)
  apply plan_act rfl
  try simp only [Act.put, List.setIfInBounds_toArray, List.set_cons_succ, List.set_cons_zero]
  go_wp2_with fail
  refine act_on ((hk4.block _ (lt_of_heap sZ) (by omega)).trans sZ) ?_
  apply plan_act rfl
  try simp only [Act.put, List.setIfInBounds_toArray, List.set_cons_succ, List.set_cons_zero]
  go_wp2_with fail
  refine act_late rfl ?_
  refine plan_end (Good.normal ?_)
  go_wp2_with fail
  refine bodyPost_ret (v := .tuple #[.pointer (some ⟨b, 0, none⟩), RefV.val ⟨.slice xa R'.all.length xc, .slice xb R'.hist.length xd, .slice xe R'.ev.length xf, .slice xg R'.blk.length xh, ps5, hs5⟩, .bool true]) (by simp [results, Try.results9, RefV.val, go_sem, v0, v1, v2, v3]) rfl ?_
  have hnf : ¬ fp D4 b (w.heap.size + 1 + 1) := fun hf => by
    rcases hfpD _ hf with e | e
    · have := hfar _ e; omega
    · omega
  refine ⟨_, D4, b, rfl, ⟨H6.rep.kp hk4 (fun k hf e => hnf (e ▸ hf)), H6.ref.same (fun k hr => hk4.block k (H6.ref.lt k hr) (fun e => H6.ref.notbox s4 (e ▸ hr))), hlk', hok', H6.ap⟩, ?_, t5.wr, hnw⟩
  exact ((t5.kp.below hb2 t5.kp.size).trans hk4 (fun k hk e => by omega))
set_option maxHeartbeats 3200000 in
set_option maxRecDepth 100000 in
theorem do2 (c : Nat) (V : RefV) (R : RefM) (b : Nat) (N : NetM) (D : ND) (x : AV) (m : Pk) (w : World) (h : St c w b N D V R) (hcc : c ≤ 30000) (hx : Src w b D x.p m) (hk : x.what = 2) :
    Calls Try.prog 9 #[.pointer (some ⟨b, 0, none⟩), V.val, x.val] w (DoPost c V D b (N.launch x m) (R.launch x m) w) := by
  have hl := h.lk.lim h.ok (by omega)
  have hf := h.lk.few h.ok
  have hlR := h.ok.lim (by omega)
  have hallR := h.ok.all
  have hblkR := h.ok.blk
  have hlk := h.lk
  have hok := h.ok
  obtain ⟨aa, ac, ha, hc, ea, ec, ba, bc, h1, h2, h3, h4⟩ := h.ref.forms
  obtain ⟨al, hi, ev, bl, ps, hs'⟩ := V
  simp only at h1 h2 h3 h4
  subst h1 h2 h3 h4
  simp only [RefV.val, AV.val]
  obtain ⟨e1, e2, e3, e4⟩ := top4 w (.cells #[.slice aa R.all.length ac, .slice ha R.hist.length hc, .slice ea R.ev.length ec, .slice ba R.blk.length bc] 35) (.cells #[.int .i64 x.what, .int .i64 x.id, .int .i64 x.off, .int .u8 x.mask, .string x.p.f, .string x.p.t, .slice x.p.ba x.p.bn x.p.bc] 42) (.cells #[.slice none 0 0, .slice none 0 0, .slice none 0 0, .slice none 0 0] 35) (.cells #[.slice aa R.all.length ac, .slice ha R.hist.length hc, .slice ea R.ev.length ec, .slice ba R.blk.length bc] 35)
  have hb1 : Below w.heap.size w ((((w.alloc (.cells #[.slice aa R.all.length ac, .slice ha R.hist.length hc, .slice ea R.ev.length ec, .slice ba R.blk.length bc] 35)).alloc (.cells #[.int .i64 x.what, .int .i64 x.id, .int .i64 x.off, .int .u8 x.mask, .string x.p.f, .string x.p.t, .slice x.p.ba x.p.bn x.p.bc] 42)).alloc (.cells #[.slice none 0 0, .slice none 0 0, .slice none 0 0, .slice none 0 0] 35)).alloc (.cells #[.slice aa R.all.length ac, .slice ha R.hist.length hc, .slice ea R.ev.length ec, .slice ba R.blk.length bc] 35)) := ((((Below.refl _ _).alloc (Nat.le_refl _) _).alloc (by simp) _).alloc (by simp; omega) _).alloc (by simp; omega) _
  have hfar : ∀ k, fp D b k → k < w.heap.size := h.rep.fp_lt
  have hk0 : (x.what == 0) = false := by simp [hk]
  have hk1 : (x.what == 1) = false := by simp [hk]
  have hk2 : (x.what == 2) = true := by simp [hk]
  have hk3 : (x.what == 3) = false := by simp [hk]
  have hk4 : (x.what == 4) = false := by simp [hk]
  have hk5 : (x.what == 5) = false := by simp [hk]
  have hk6 : (x.what == 6) = false := by simp [hk]
  have hk7 : (x.what == 7) = false := by simp [hk]
  have hk8 : (x.what == 8) = false := by simp [hk]
  have hk9 : (x.what == 9) = false := by simp [hk]
  have hk10 : (x.what == 10) = false := by simp [hk]
  have hk11 : (x.what == 11) = false := by simp [hk]
  clear hk
  obtain ⟨N', hN'⟩ : ∃ N', N' = N.launch x m := ⟨_, rfl⟩
  obtain ⟨R', hR'⟩ : ∃ R', R' = R.launch x m := ⟨_, rfl⟩
  rw [← hN', ← hR']
  have HN := Lib.hid hN'
  have HR := Lib.hid hR'
  clear hN' hR'
  go_enter Try.func9, Try.ntmps9
  go_wp2_with fail
  generalize (((w.alloc (.cells #[.slice aa R.all.length ac, .slice ha R.hist.length hc, .slice ea R.ev.length ec, .slice ba R.blk.length bc] 35)).alloc (.cells #[.int .i64 x.what, .int .i64 x.id, .int .i64 x.off, .int .u8 x.mask, .string x.p.f, .string x.p.t, .slice x.p.ba x.p.bn x.p.bc] 42)).alloc (.cells #[.slice none 0 0, .slice none 0 0, .slice none 0 0, .slice none 0 0] 35)).alloc (.cells #[.slice aa R.all.length ac, .slice ha R.hist.length hc, .slice ea R.ev.length ec, .slice ba R.blk.length bc] 35) = w1 at e1 e2 e3 e4 hb1 ⊢
  have hw1 := lt_of_heap e4
  have hfp1 : ∀ k, w.heap.size ≤ k → ¬ wr D b k := fun k h1 h3 => by have := hfar k (.inl h3); omega
  obtain ⟨c0, c1, c2, c3, c4, c5, c6, cl⟩ := blk7 e2
  obtain ⟨y0, y1, y2, y3, _, _⟩ := blk4 e1
  go_wp2_with fail
  refine (launchL_any c ⟨.slice aa R.all.length ac, .slice ha R.hist.length hc, .slice ea R.ev.length ec, .slice ba R.blk.length bc, ps, hs'⟩ R b N D x m w1 (h.below hb1) hcc (hx.below hb1)).mono ?_
  rw [← HN.out, ← HR.out]
  rintro e w5 ⟨⟨al5, hi5, ev5, bl5, ps5, hs5⟩, D4, rfl, H5, t4, hnw0⟩
  have hfpD : ∀ k, fp D4 b k → fp D b k ∨ w1.heap.size ≤ k := t4.fp
  have hnw : News ⟨.slice aa R.all.length ac, .slice ha R.hist.length hc, .slice ea R.ev.length ec, .slice ba R.blk.length bc, ps, hs'⟩ ⟨al5, hi5, ev5, bl5, ps5, hs5⟩ w.heap.size := hnw0.mono (by omega)
  obtain ⟨xa, xc, xb, xd, xe, xf, xg, xh, z1, z2, z3, z4⟩ := H5.ref.forms
  simp only at z1 z2 z3 z4
  subst z1 z2 z3 z4
  simp only [RefV.val]
  have q3 := (t4.kp.block _ (lt_of_heap e3) (hfp1 _ (by omega))).trans e3
  have q4' := (t4.kp.block _ (lt_of_heap e4) (hfp1 _ (by omega))).trans e4
  have t5 : Turns D D4 b w w5 := Turns.of_below' hb1 t4
  have hs45 : w1.heap.size ≤ w5.heap.size := t4.kp.size
  have r5 := H5.rep
  have h5 := H5.ref
  have hlk' := H5.lk
  have hok' := H5.ok
  have hap5 := H5.ap
  clear c0 c1 c2 c3 c4 c5 c6 cl y0 y1 y2 y3 e1 e2 e3 e4 hb1 t4 hnw0 H5
  obtain ⟨u0, u1, u2, u3, uf, ul⟩ := blk4 q4'
  have hkY := ((((Kp.refl (fun j => j = w.heap.size + 1 + 1 + 1) w5).setCell (p := ⟨w.heap.size + 1 + 1 + 1, 0, none⟩) (fun _ => rfl) (.slice xa R'.all.length xc)).setCell (p := ⟨w.heap.size + 1 + 1 + 1, 1, none⟩) (fun _ => rfl) (.slice xb R'.hist.length xd)).setCell (p := ⟨w.heap.size + 1 + 1 + 1, 2, none⟩) (fun _ => rfl) (.slice xe R'.ev.length xf)).setCell (p := ⟨w.heap.size + 1 + 1 + 1, 3, none⟩) (fun _ => rfl) (.slice xg R'.blk.length xh)
  have q4 : ((((w5.setCell ⟨w.heap.size + 1 + 1 + 1, 0, none⟩ (.slice xa R'.all.length xc)).setCell ⟨w.heap.size + 1 + 1 + 1, 1, none⟩ (.slice xb R'.hist.length xd)).setCell ⟨w.heap.size + 1 + 1 + 1, 2, none⟩ (.slice xe R'.ev.length xf)).setCell ⟨w.heap.size + 1 + 1 + 1, 3, none⟩ (.slice xg R'.blk.length xh)).heap[w.heap.size + 1 + 1 + 1]? = some (.cells #[.slice xa R'.all.length xc, .slice xb R'.hist.length xd, .slice xe R'.ev.length xf, .slice xg R'.blk.length xh] 35) := by simp [World.setCell, Array.getElem?_modify, q4']
  replace q3 := (hkY.block _ (lt_of_heap q3) (by omega)).trans q3
  have hnfY : ¬ fp D4 b (w.heap.size + 1 + 1 + 1) := fun hf => by
    rcases hfpD _ hf with e | e
    · have := hfar _ e; omega
    · omega
  replace r5 := r5.kp hkY (fun k hf e => hnfY (e ▸ hf))
  replace h5 := h5.same (fun k hr => hkY.block k (h5.lt k hr) (fun e => h5.notbox q4' (e ▸ hr)))
  have t6 : Kp (wr D b) w ((((w5.setCell ⟨w.heap.size + 1 + 1 + 1, 0, none⟩ (.slice xa R'.all.length xc)).setCell ⟨w.heap.size + 1 + 1 + 1, 1, none⟩ (.slice xb R'.hist.length xd)).setCell ⟨w.heap.size + 1 + 1 + 1, 2, none⟩ (.slice xe R'.ev.length xf)).setCell ⟨w.heap.size + 1 + 1 + 1, 3, none⟩ (.slice xg R'.blk.length xh)) := t5.kp.trans hkY (fun k hk e => by omega)
  replace t5 : Turns D D4 b w ((((w5.setCell ⟨w.heap.size + 1 + 1 + 1, 0, none⟩ (.slice xa R'.all.length xc)).setCell ⟨w.heap.size + 1 + 1 + 1, 1, none⟩ (.slice xb R'.hist.length xd)).setCell ⟨w.heap.size + 1 + 1 + 1, 2, none⟩ (.slice xe R'.ev.length xf)).setCell ⟨w.heap.size + 1 + 1 + 1, 3, none⟩ (.slice xg R'.blk.length xh)) := ⟨t6, t5.wr, t5.hp⟩
  go_wp2_with fail
  clear u0 u1 u2 u3 uf ul hkY q4' t6
  generalize ((((w5.setCell ⟨w.heap.size + 1 + 1 + 1, 0, none⟩ (.slice xa R'.all.length xc)).setCell ⟨w.heap.size + 1 + 1 + 1, 1, none⟩ (.slice xb R'.hist.length xd)).setCell ⟨w.heap.size + 1 + 1 + 1, 2, none⟩ (.slice xe R'.ev.length xf)).setCell ⟨w.heap.size + 1 + 1 + 1, 3, none⟩ (.slice xg R'.blk.length xh)) = w5 at q3 q4 r5 h5 t5 ⊢
  have hl' := hlk'.lim hok' (by omega)
  have hlR' := hok'.lim (by omega)
  have H5 : St (c + 1) w5 b N' D4 ⟨.slice xa R'.all.length xc, .slice xb R'.hist.length xd, .slice xe R'.ev.length xf, .slice xg R'.blk.length xh, ps5, hs5⟩ R' := ⟨r5, h5, hlk', hok', hap5⟩
  clear r5 h5 hap5
  have hfp5 := H5.rep.fp_lt
  have hrp5 := H5.ref.lt
  obtain ⟨u0, u1, u2, u3, uf, ul⟩ := blk4 q4
  obtain ⟨v0, v1, v2, v3, vf, vl⟩ := blk4 q3
  go_wp2_with fail
  apply wp_region_plan [.rd 0, .rd 1, .rd 2, .rd 3, .rd 4, .rd 5, .rd 6, .rd 7, .rd 8, .rd 9, .rd 10, .act 11, .rd 12, .act 13, .act 14, .act 15] [15] (fun w' => w'.heap[w.heap.size + 1 + 1 + 1]? = some (.cells #[.slice xa R'.all.length xc, .slice xb R'.hist.length xd, .slice xe R'.ev.length xf, .slice xg R'.blk.length xh] 35))
  case hm => kernel_rfl
  case hB => kernel_rfl
  case hS => exact q4
  intro W hW
  have hbW : Below w5.heap.size w5 W := by subst hW; exact (Below.refl _ _).drew
  clear hW
  iterate 11
    try simp only [Act.put, List.setIfInBounds_toArray, List.set_cons_succ, List.set_cons_zero]
    apply plan_rd rfl rfl
    · intro w' hS
      obtain ⟨y0, y1, y2, y3, _, _⟩ := blk4 hS
      go_simp
      try rfl
  have sW := (hbW.block _ (lt_of_heap q4)).trans q4
  have s3 := (hbW.block _ (lt_of_heap q3)).trans q3
  have HW := H5.below hbW
  clear u0 u1 u2 u3 uf ul v0 v1 v2 v3 vf vl q3 q4
  apply plan_act rfl
  try simp only [Act.put, List.setIfInBounds_toArray, List.set_cons_succ, List.set_cons_zero]
  go_wp2_with fail
  refine (agreesR_any _ R' b N' D4 W HW.rep hl' HW.ref hlR' hlk').mono ?_
  rintro e W2 ⟨rfl, hbl2⟩
  have hb2 := hbW.trans (hbl2.mono hbW.size)
  have sZ := (hbl2.block _ (lt_of_heap sW)).trans sW
  have s4 := (hbl2.block _ (lt_of_heap s3)).trans s3
  have H6 := HW.below hbl2
  clear hbW hbl2 sW s3 HW
  obtain ⟨v0, v1, v2, v3, vf, vl⟩ := blk4 s4
  go_wp2_with fail
  refine act_on sZ ?_
  apply plan_rd rfl rfl
  · intro w' hS
    go_simp
    try rfl
  try simp only [Act.put, List.setIfInBounds_toArray, List.set_cons_succ, List.set_cons_zero]
  apply plan_act rfl
  try simp only [Act.put, List.setIfInBounds_toArray, List.set_cons_succ, List.set_cons_zero]
  go_wp2_with fail
  refine act_on sZ ?_
  have hk4 : Kp (fun j => j = w.heap.size + 1 + 1) W2 ((((W2.setCell ⟨w.heap.size + 1 + 1, 0, none⟩ (.slice xa R'.all.length xc)).setCell ⟨w.heap.size + 1 + 1, 1, none⟩ (.slice xb R'.hist.length xd)).setCell ⟨w.heap.size + 1 + 1, 2, none⟩ (.slice xe R'.ev.length xf)).setCell ⟨w.heap.size + 1 + 1, 3, none⟩ (.slice xg R'.blk.length xh)) := ((((Kp.refl (fun j => j = w.heap.size + 1 + 1) W2).setCell (p := ⟨w.heap.size + 1 + 1, 0, none⟩) (fun _ => rfl) (.slice xa R'.all.length xc)).setCell (p := ⟨w.heap.size + 1 + 1, 1, none⟩) (fun _ => rfl) (.slice xb R'.hist.length xd)).setCell (p := ⟨w.heap.size + 1 + 1, 2, none⟩) (fun _ => rfl) (.slice xe R'.ev.length xf)).setCell (p := ⟨w.heap.size + 1 + 1, 3, none⟩) (fun _ => rfl) (.slice xg R'.blk.length xh)
  apply plan_act rfl
  try simp only [Act.put, List.setIfInBounds_toArray, List.set_cons_succ, List.set_cons_zero]
  go_wp2_with fail
  refine act_on ((hk4.block _ (lt_of_heap sZ) (by omega)).trans sZ) ?_
  apply plan_act rfl
  try simp only [Act.put, List.setIfInBounds_toArray, List.set_cons_succ, List.set_cons_zero]
  go_wp2_with fail
  refine act_late rfl ?_
  refine plan_end (Good.normal ?_)
  go_wp2_with fail
  refine bodyPost_ret (v := .tuple #[.pointer (some ⟨b, 0, none⟩), RefV.val ⟨.slice xa R'.all.length xc, .slice xb R'.hist.length xd, .slice xe R'.ev.length xf, .slice xg R'.blk.length xh, ps5, hs5⟩, .bool true]) (by simp [results, Try.results9, RefV.val, go_sem, v0, v1, v2, v3]) rfl ?_
  have hnf : ¬ fp D4 b (w.heap.size + 1 + 1) := fun hf => by
    rcases hfpD _ hf with e | e
    · have := hfar _ e; omega
    · omega
  refine ⟨_, D4, b, rfl, ⟨H6.rep.kp hk4 (fun k hf e => hnf (e ▸ hf)), H6.ref.same (fun k hr => hk4.block k (H6.ref.lt k hr) (fun e => H6.ref.notbox s4 (e ▸ hr))), hlk', hok', H6.ap⟩, ?_, t5.wr, hnw⟩
  exact ((t5.kp.below hb2 t5.kp.size).trans hk4 (fun k hk e => by omega))
set_option maxHeartbeats 3200000 in
set_option maxRecDepth 100000 in
theorem do3 (c : Nat) (V : RefV) (R : RefM) (b : Nat) (N : NetM) (D : ND) (x : AV) (m : Pk) (w : World) (h : St c w b N D V R) (hcc : c ≤ 30000) (hx : Src w b D x.p m) (hk : x.what = 3) :
    Calls Try.prog 9 #[.pointer (some ⟨b, 0, none⟩), V.val, x.val] w (DoPost c V D b (N.launch x m) (R.launch x m) w) := by
  have hl := h.lk.lim h.ok (by omega)
  have hf := h.lk.few h.ok
  have hlR := h.ok.lim (by omega)
  have hallR := h.ok.all
  have hblkR := h.ok.blk
  have hlk := h.lk
  have hok := h.ok
  obtain ⟨aa, ac, ha, hc, ea, ec, ba, bc, h1, h2, h3, h4⟩ := h.ref.forms
  obtain ⟨al, hi, ev, bl, ps, hs'⟩ := V
  simp only at h1 h2 h3 h4
  subst h1 h2 h3 h4
  simp only [RefV.val, AV.val]
  obtain ⟨e1, e2, e3, e4⟩ := top4 w (.cells #[.slice aa R.all.length ac, .slice ha R.hist.length hc, .slice ea R.ev.length ec, .slice ba R.blk.length bc] 35) (.cells #[.int .i64 x.what, .int .i64 x.id, .int .i64 x.off, .int .u8 x.mask, .string x.p.f, .string x.p.t, .slice x.p.ba x.p.bn x.p.bc] 42) (.cells #[.slice none 0 0, .slice none 0 0, .slice none 0 0, .slice none 0 0] 35) (.cells #[.slice aa R.all.length ac, .slice ha R.hist.length hc, .slice ea R.ev.length ec, .slice ba R.blk.length bc] 35)
  have hb1 : Below w.heap.size w ((((w.alloc (.cells #[.slice aa R.all.length ac, .slice ha R.hist.length hc, .slice ea R.ev.length ec, .slice ba R.blk.length bc] 35)).alloc (.cells #[.int .i64 x.what, .int .i64 x.id, .int .i64 x.off, .int .u8 x.mask, .string x.p.f, .string x.p.t, .slice x.p.ba x.p.bn x.p.bc] 42)).alloc (.cells #[.slice none 0 0, .slice none 0 0, .slice none 0 0, .slice none 0 0] 35)).alloc (.cells #[.slice aa R.all.length ac, .slice ha R.hist.length hc, .slice ea R.ev.length ec, .slice ba R.blk.length bc] 35)) := ((((Below.refl _ _).alloc (Nat.le_refl _) _).alloc (by simp) _).alloc (by simp; omega) _).alloc (by simp; omega) _
  have hfar : ∀ k, fp D b k → k < w.heap.size := h.rep.fp_lt
  have hk0 : (x.what == 0) = false := by simp [hk]
  have hk1 : (x.what == 1) = false := by simp [hk]
  have hk2 : (x.what == 2) = false := by simp [hk]
  have hk3 : (x.what == 3) = true := by simp [hk]
  have hk4 : (x.what == 4) = false := by simp [hk]
  have hk5 : (x.what == 5) = false := by simp [hk]
  have hk6 : (x.what == 6) = false := by simp [hk]
  have hk7 : (x.what == 7) = false := by simp [hk]
  have hk8 : (x.what == 8) = false := by simp [hk]
  have hk9 : (x.what == 9) = false := by simp [hk]
  have hk10 : (x.what == 10) = false := by simp [hk]
  have hk11 : (x.what == 11) = false := by simp [hk]
  clear hk
  obtain ⟨N', hN'⟩ : ∃ N', N' = N.launch x m := ⟨_, rfl⟩
  obtain ⟨R', hR'⟩ : ∃ R', R' = R.launch x m := ⟨_, rfl⟩
  rw [← hN', ← hR']
  have HN := Lib.hid hN'
  have HR := Lib.hid hR'
  clear hN' hR'
  go_enter Try.func9, Try.ntmps9
  go_wp2_with fail
  generalize (((w.alloc (.cells #[.slice aa R.all.length ac, .slice ha R.hist.length hc, .slice ea R.ev.length ec, .slice ba R.blk.length bc] 35)).alloc (.cells #[.int .i64 x.what, .int .i64 x.id, .int .i64 x.off, .int .u8 x.mask, .string x.p.f, .string x.p.t, .slice x.p.ba x.p.bn x.p.bc] 42)).alloc (.cells #[.slice none 0 0, .slice none 0 0, .slice none 0 0, .slice none 0 0] 35)).alloc (.cells #[.slice aa R.all.length ac, .slice ha R.hist.length hc, .slice ea R.ev.length ec, .slice ba R.blk.length bc] 35) = w1 at e1 e2 e3 e4 hb1 ⊢
  have hw1 := lt_of_heap e4
  have hfp1 : ∀ k, w.heap.size ≤ k → ¬ wr D b k := fun k h1 h3 => by have := hfar k (.inl h3); omega
  obtain ⟨c0, c1, c2, c3, c4, c5, c6, cl⟩ := blk7 e2
  obtain ⟨y0, y1, y2, y3, _, _⟩ := blk4 e1
  go_wp2_with fail
  refine (launchL_any c ⟨.slice aa R.all.length ac, .slice ha R.hist.length hc, .slice ea R.ev.length ec, .slice ba R.blk.length bc, ps, hs'⟩ R b N D x m w1 (h.below hb1) hcc (hx.below hb1)).mono ?_
  rw [← HN.out, ← HR.out]
  rintro e w5 ⟨⟨al5, hi5, ev5, bl5, ps5, hs5⟩, D4, rfl, H5, t4, hnw0⟩
  have hfpD : ∀ k, fp D4 b k → fp D b k ∨ w1.heap.size ≤ k := t4.fp
  have hnw : News ⟨.slice aa R.all.length ac, .slice ha R.hist.length hc, .slice ea R.ev.length ec, .slice ba R.blk.length bc, ps, hs'⟩ ⟨al5, hi5, ev5, bl5, ps5, hs5⟩ w.heap.size := hnw0.mono (by omega)
  obtain ⟨xa, xc, xb, xd, xe, xf, xg, xh, z1, z2, z3, z4⟩ := H5.ref.forms
  simp only at z1 z2 z3 z4
  subst z1 z2 z3 z4
  simp only [RefV.val]
  have q3 := (t4.kp.block _ (lt_of_heap e3) (hfp1 _ (by omega))).trans e3
  have q4' := (t4.kp.block _ (lt_of_heap e4) (hfp1 _ (by omega))).trans e4
  have t5 : Turns D D4 b w w5 := Turns.of_below' hb1 t4
  have hs45 : w1.heap.size ≤ w5.heap.size := t4.kp.size
  have r5 := H5.rep
  have h5 := H5.ref
  have hlk' := H5.lk
  have hok' := H5.ok
  have hap5 := H5.ap
  clear c0 c1 c2 c3 c4 c5 c6 cl y0 y1 y2 y3 e1 e2 e3 e4 hb1 t4 hnw0 H5
  obtain ⟨u0, u1, u2, u3, uf, ul⟩ := blk4 q4'
  have hkY := ((((Kp.refl (fun j => j = w.heap.size + 1 + 1 + 1) w5).setCell (p := ⟨w.heap.size + 1 + 1 + 1, 0, none⟩) (fun _ => rfl) (.slice xa R'.all.length xc)).setCell (p := ⟨w.heap.size + 1 + 1 + 1, 1, none⟩) (fun _ => rfl) (.slice xb R'.hist.length xd)).setCell (p := ⟨w.heap.size + 1 + 1 + 1, 2, none⟩) (fun _ => rfl) (.slice xe R'.ev.length xf)).setCell (p := ⟨w.heap.size + 1 + 1 + 1, 3, none⟩) (fun _ => rfl) (.slice xg R'.blk.length xh)
  have q4 : ((((w5.setCell ⟨w.heap.size + 1 + 1 + 1, 0, none⟩ (.slice xa R'.all.length xc)).setCell ⟨w.heap.size + 1 + 1 + 1, 1, none⟩ (.slice xb R'.hist.length xd)).setCell ⟨w.heap.size + 1 + 1 + 1, 2, none⟩ (.slice xe R'.ev.length xf)).setCell ⟨w.heap.size + 1 + 1 + 1, 3, none⟩ (.slice xg R'.blk.length xh)).heap[w.heap.size + 1 + 1 + 1]? = some (.cells #[.slice xa R'.all.length xc, .slice xb R'.hist.length xd, .slice xe R'.ev.length xf, .slice xg R'.blk.length xh] 35) := by simp [World.setCell, Array.getElem?_modify, q4']
  replace q3 := (hkY.block _ (lt_of_heap q3) (by omega)).trans q3
  have hnfY : ¬ fp D4 b (w.heap.size + 1 + 1 + 1) := fun hf => by
    rcases hfpD _ hf with e | e
    · have := hfar _ e; omega
    · omega
  replace r5 := r5.kp hkY (fun k hf e => hnfY (e ▸ hf))
  replace h5 := h5.same (fun k hr => hkY.block k (h5.lt k hr) (fun e => h5.notbox q4' (e ▸ hr)))
  have t6 : Kp (wr D b) w ((((w5.setCell ⟨w.heap.size + 1 + 1 + 1, 0, none⟩ (.slice xa R'.all.length xc)).setCell ⟨w.heap.size + 1 + 1 + 1, 1, none⟩ (.slice xb R'.hist.length xd)).setCell ⟨w.heap.size + 1 + 1 + 1, 2, none⟩ (.slice xe R'.ev.length xf)).setCell ⟨w.heap.size + 1 + 1 + 1, 3, none⟩ (.slice xg R'.blk.length xh)) := t5.kp.trans hkY (fun k hk e => by omega)
  replace t5 : Turns D D4 b w ((((w5.setCell ⟨w.heap.size + 1 + 1 + 1, 0, none⟩ (.slice xa R'.all.length xc)).setCell ⟨w.heap.size + 1 + 1 + 1, 1, none⟩ (.slice xb R'.hist.length xd)).setCell ⟨w.heap.size + 1 + 1 + 1, 2, none⟩ (.slice xe R'.ev.length xf)).setCell ⟨w.heap.size + 1 + 1 + 1, 3, none⟩ (.slice xg R'.blk.length xh)) := ⟨t6, t5.wr, t5.hp⟩
  go_wp2_with fail
  clear u0 u1 u2 u3 uf ul hkY q4' t6
  generalize ((((w5.setCell ⟨w.heap.size + 1 + 1 + 1, 0, none⟩ (.slice xa R'.all.length xc)).setCell ⟨w.heap.size + 1 + 1 + 1, 1, none⟩ (.slice xb R'.hist.length xd)).setCell ⟨w.heap.size + 1 + 1 + 1, 2, none⟩ (.slice xe R'.ev.length xf)).setCell ⟨w.heap.size + 1 + 1 + 1, 3, none⟩ (.slice xg R'.blk.length xh)) = w5 at q3 q4 r5 h5 t5 ⊢
  have hl' := hlk'.lim hok' (by omega)
  have hlR' := hok'.lim (by omega)
  have H5 : St (c + 1) w5 b N' D4 ⟨.slice xa R'.all.length xc, .slice xb R'.hist.length xd, .slice xe R'.ev.length xf, .slice xg R'.blk.length xh, ps5, hs5⟩ R' := ⟨r5, h5, hlk', hok', hap5⟩
  clear r5 h5 hap5
  have hfp5 := H5.rep.fp_lt
  have hrp5 := H5.ref.lt
  obtain ⟨u0, u1, u2, u3, uf, ul⟩ := blk4 q4
  obtain ⟨v0, v1, v2, v3, vf, vl⟩ := blk4 q3
  go_wp2_with fail
  apply wp_region_plan [.rd 0, .rd 1, .rd 2, .rd 3, .rd 4, .rd 5, .rd 6, .rd 7, .rd 8, .rd 9, .rd 10, .act 11, .rd 12, .act 13, .act 14, .act 15] [15] (fun w' => w'.heap[w.heap.size + 1 + 1 + 1]? = some (.cells #[.slice xa R'.all.length xc, .slice xb R'.hist.length xd, .slice xe R'.ev.length xf, .slice xg R'.blk.length xh] 35))
  case hm => kernel_rfl
  case hB => kernel_rfl
  case hS => exact q4
  intro W hW
  have hbW : Below w5.heap.size w5 W := by subst hW; exact (Below.refl _ _).drew
  clear hW
  iterate 11
    try simp only [Act.put, List.setIfInBounds_toArray, List.set_cons_succ, List.set_cons_zero]
    apply plan_rd rfl rfl
    · intro w' hS
      obtain ⟨y0, y1, y2, y3, _, _⟩ := blk4 hS
      go_simp
      try rfl
  have sW := (hbW.block _ (lt_of_heap q4)).trans q4
  have s3 := (hbW.block _ (lt_of_heap q3)).trans q3
  have HW := H5.below hbW
  clear u0 u1 u2 u3 uf ul v0 v1 v2 v3 vf vl q3 q4
  apply plan_act rfl
  try simp only [Act.put, List.setIfInBounds_toArray, List.set_cons_succ, List.set_cons_zero]
  go_wp2_with fail
  refine (agreesR_any _ R' b N' D4 W HW.rep hl' HW.ref hlR' hlk').mono ?_
  rintro e W2 ⟨rfl, hbl2⟩
  have hb2 := hbW.trans (hbl2.mono hbW.size)
  have sZ := (hbl2.block _ (lt_of_heap sW)).trans sW
  have s4 := (hbl2.block _ (lt_of_heap s3)).trans s3
  have H6 := HW.below hbl2
  clear hbW hbl2 sW s3 HW
  obtain ⟨v0, v1, v2, v3, vf, vl⟩ := blk4 s4
  go_wp2_with fail
  refine act_on sZ ?_
  apply plan_rd rfl rfl
  · intro w' hS
    go_simp
    try rfl
  try simp only [Act.put, List.setIfInBounds_toArray, List.set_cons_succ, List.set_cons_zero]
  apply plan_act rfl
  try simp only [Act.put, List.setIfInBounds_toArray, List.set_cons_succ, List.set_cons_zero]
  go_wp2_with fail
  refine act_on sZ ?_
  have hk4 : Kp (fun j => j = w.heap.size + 1 + 1) W2 ((((W2.setCell ⟨w.heap.size + 1 + 1, 0, none⟩ (.slice xa R'.all.length xc)).setCell ⟨w.heap.size + 1 + 1, 1, none⟩ (.slice xb R'.hist.length xd)).setCell ⟨w.heap.size + 1 + 1, 2, none⟩ (.slice xe R'.ev.length xf)).setCell ⟨w.heap.size + 1 + 1, 3, none⟩ (.slice xg R'.blk.length xh)) := ((((Kp.refl (fun j => j = w.heap.size + 1 + 1) W2).setCell (p := ⟨w.heap.size + 1 + 1, 0, none⟩) (fun _ => rfl) (.slice xa R'.all.length xc)).setCell (p := ⟨w.heap.size + 1 + 1, 1, none⟩) (fun _ => rfl) (.slice xb R'.hist.length xd)).setCell (p := ⟨w.heap.size + 1 + 1, 2, none⟩) (fun _ => rfl) (.slice xe R'.ev.length xf)).setCell (p := ⟨w.heap.size + 1 + 1, 3, none⟩) (fun _ => rfl) (.slice xg R'.blk.length xh)
  apply plan_act rfl
  try simp only [Act.put, List.setIfInBounds_toArray, List.set_cons_succ, List.set_cons_zero]
  go_wp2_with fail
  refine act_on ((hk4.block _ (lt_of_heap sZ) (by omega)).trans sZ) ?_
  apply plan_act rfl
  try simp only [Act.put, List.setIfInBounds_toArray, List.set_cons_succ, List.set_cons_zero]
  go_wp2_with fail
  refine act_late rfl ?_
  refine plan_end (Good.normal ?_)
  go_wp2_with fail
  refine bodyPost_ret (v := .tuple #[.pointer (some ⟨b, 0, none⟩), RefV.val ⟨.slice xa R'.all.length xc, .slice xb R'.hist.length xd, .slice xe R'.ev.length xf, .slice xg R'.blk.length xh, ps5, hs5⟩, .bool true]) (by simp [results, Try.results9, RefV.val, go_sem, v0, v1, v2, v3]) rfl ?_
  have hnf : ¬ fp D4 b (w.heap.size + 1 + 1) := fun hf => by
    rcases hfpD _ hf with e | e
    · have := hfar _ e; omega
    · omega
  refine ⟨_, D4, b, rfl, ⟨H6.rep.kp hk4 (fun k hf e => hnf (e ▸ hf)), H6.ref.same (fun k hr => hk4.block k (H6.ref.lt k hr) (fun e => H6.ref.notbox s4 (e ▸ hr))), hlk', hok', H6.ap⟩, ?_, t5.wr, hnw⟩
  exact ((t5.kp.below hb2 t5.kp.size).trans hk4 (fun k hk e => by omega))
set_option maxHeartbeats 3200000 in
set_option maxRecDepth 100000 in
theorem do4 (c : Nat) (V : RefV) (R : RefM) (b : Nat) (N : NetM) (D : ND) (x : AV) (m : Pk) (w : World) (h : St c w b N D V R) (hcc : c ≤ 30000) (hx : Src w b D x.p m) (hk : x.what = 4) :
    Calls Try.prog 9 #[.pointer (some ⟨b, 0, none⟩), V.val, x.val] w (DoPost c V D b (N.launch x m) (R.launch x m) w) := by
  have hl := h.lk.lim h.ok (by omega)
  have hf := h.lk.few h.ok
  have hlR := h.ok.lim (by omega)
  have hallR := h.ok.all
  have hblkR := h.ok.blk
  have hlk := h.lk
  have hok := h.ok
  obtain ⟨aa, ac, ha, hc, ea, ec, ba, bc, h1, h2, h3, h4⟩ := h.ref.forms
  obtain ⟨al, hi, ev, bl, ps, hs'⟩ := V
  simp only at h1 h2 h3 h4
  subst h1 h2 h3 h4
  simp only [RefV.val, AV.val]
  obtain ⟨e1, e2, e3, e4⟩ := top4 w (.cells #[.slice aa R.all.length ac, .slice ha R.hist.length hc, .slice ea R.ev.length ec, .slice ba R.blk.length bc] 35) (.cells #[.int .i64 x.what, .int .i64 x.id, .int .i64 x.off, .int .u8 x.mask, .string x.p.f, .string x.p.t, .slice x.p.ba x.p.bn x.p.bc] 42) (.cells #[.slice none 0 0, .slice none 0 0, .slice none 0 0, .slice none 0 0] 35) (.cells #[.slice aa R.all.length ac, .slice ha R.hist.length hc, .slice ea R.ev.length ec, .slice ba R.blk.length bc] 35)
  have hb1 : Below w.heap.size w ((((w.alloc (.cells #[.slice aa R.all.length ac, .slice ha R.hist.length hc, .slice ea R.ev.length ec, .slice ba R.blk.length bc] 35)).alloc (.cells #[.int .i64 x.what, .int .i64 x.id, .int .i64 x.off, .int .u8 x.mask, .string x.p.f, .string x.p.t, .slice x.p.ba x.p.bn x.p.bc] 42)).alloc (.cells #[.slice none 0 0, .slice none 0 0, .slice none 0 0, .slice none 0 0] 35)).alloc (.cells #[.slice aa R.all.length ac, .slice ha R.hist.length hc, .slice ea R.ev.length ec, .slice ba R.blk.length bc] 35)) := ((((Below.refl _ _).alloc (Nat.le_refl _) _).alloc (by simp) _).alloc (by simp; omega) _).alloc (by simp; omega) _
  have hfar : ∀ k, fp D b k → k < w.heap.size := h.rep.fp_lt
  have hk0 : (x.what == 0) = false := by simp [hk]
  have hk1 : (x.what == 1) = false := by simp [hk]
  have hk2 : (x.what == 2) = false := by simp [hk]
  have hk3 : (x.what == 3) = false := by simp [hk]
  have hk4 : (x.what == 4) = true := by simp [hk]
  have hk5 : (x.what == 5) = false := by simp [hk]
  have hk6 : (x.what == 6) = false := by simp [hk]
  have hk7 : (x.what == 7) = false := by simp [hk]
  have hk8 : (x.what == 8) = false := by simp [hk]
  have hk9 : (x.what == 9) = false := by simp [hk]
  have hk10 : (x.what == 10) = false := by simp [hk]
  have hk11 : (x.what == 11) = false := by simp [hk]
  clear hk
  obtain ⟨N', hN'⟩ : ∃ N', N' = N.launch x m := ⟨_, rfl⟩
  obtain ⟨R', hR'⟩ : ∃ R', R' = R.launch x m := ⟨_, rfl⟩
  rw [← hN', ← hR']
  have HN := Lib.hid hN'
  have HR := Lib.hid hR'
  clear hN' hR'
  go_enter Try.func9, Try.ntmps9
  go_wp2_with fail
  generalize (((w.alloc (.cells #[.slice aa R.all.length ac, .slice ha R.hist.length hc, .slice ea R.ev.length ec, .slice ba R.blk.length bc] 35)).alloc (.cells #[.int .i64 x.what, .int .i64 x.id, .int .i64 x.off, .int .u8 x.mask, .string x.p.f, .string x.p.t, .slice x.p.ba x.p.bn x.p.bc] 42)).alloc (.cells #[.slice none 0 0, .slice none 0 0, .slice none 0 0, .slice none 0 0] 35)).alloc (.cells #[.slice aa R.all.length ac, .slice ha R.hist.length hc, .slice ea R.ev.length ec, .slice ba R.blk.length bc] 35) = w1 at e1 e2 e3 e4 hb1 ⊢
  have hw1 := lt_of_heap e4
  have hfp1 : ∀ k, w.heap.size ≤ k → ¬ wr D b k := fun k h1 h3 => by have := hfar k (.inl h3); omega
  obtain ⟨c0, c1, c2, c3, c4, c5, c6, cl⟩ := blk7 e2
  obtain ⟨y0, y1, y2, y3, _, _⟩ := blk4 e1
  go_wp2_with fail
  refine (launchL_any c ⟨.slice aa R.all.length ac, .slice ha R.hist.length hc, .slice ea R.ev.length ec, .slice ba R.blk.length bc, ps, hs'⟩ R b N D x m w1 (h.below hb1) hcc (hx.below hb1)).mono ?_
  rw [← HN.out, ← HR.out]
  rintro e w5 ⟨⟨al5, hi5, ev5, bl5, ps5, hs5⟩, D4, rfl, H5, t4, hnw0⟩
  have hfpD : ∀ k, fp D4 b k → fp D b k ∨ w1.heap.size ≤ k := t4.fp
  have hnw : News ⟨.slice aa R.all.length ac, .slice ha R.hist.length hc, .slice ea R.ev.length ec, .slice ba R.blk.length bc, ps, hs'⟩ ⟨al5, hi5, ev5, bl5, ps5, hs5⟩ w.heap.size := hnw0.mono (by omega)
  obtain ⟨xa, xc, xb, xd, xe, xf, xg, xh, z1, z2, z3, z4⟩ := H5.ref.forms
  simp only at z1 z2 z3 z4
  subst z1 z2 z3 z4
  simp only [RefV.val]
  have q3 := (t4.kp.block _ (lt_of_heap e3) (hfp1 _ (by omega))).trans e3
  have q4' := (t4.kp.block _ (lt_of_heap e4) (hfp1 _ (by omega))).trans e4
  have t5 : Turns D D4 b w w5 := Turns.of_below' hb1 t4
  have hs45 : w1.heap.size ≤ w5.heap.size := t4.kp.size
  have r5 := H5.rep
  have h5 := H5.ref
  have hlk' := H5.lk
  have hok' := H5.ok
  have hap5 := H5.ap
  clear c0 c1 c2 c3 c4 c5 c6 cl y0 y1 y2 y3 e1 e2 e3 e4 hb1 t4 hnw0 H5
  obtain ⟨u0, u1, u2, u3, uf, ul⟩ := blk4 q4'
  have hkY := ((((Kp.refl (fun j => j = w.heap.size + 1 + 1 + 1) w5).setCell (p := ⟨w.heap.size + 1 + 1 + 1, 0, none⟩) (fun _ => rfl) (.slice xa R'.all.length xc)).setCell (p := ⟨w.heap.size + 1 + 1 + 1, 1, none⟩) (fun _ => rfl) (.slice xb R'.hist.length xd)).setCell (p := ⟨w.heap.size + 1 + 1 + 1, 2, none⟩) (fun _ => rfl) (.slice xe R'.ev.length xf)).setCell (p := ⟨w.heap.size + 1 + 1 + 1, 3, none⟩) (fun _ => rfl) (.slice xg R'.blk.length xh)
  have q4 : ((((w5.setCell ⟨w.heap.size + 1 + 1 + 1, 0, none⟩ (.slice xa R'.all.length xc)).setCell ⟨w.heap.size + 1 + 1 + 1, 1, none⟩ (.slice xb R'.hist.length xd)).setCell ⟨w.heap.size + 1 + 1 + 1, 2, none⟩ (.slice xe R'.ev.length xf)).setCell ⟨w.heap.size + 1 + 1 + 1, 3, none⟩ (.slice xg R'.blk.length xh)).heap[w.heap.size + 1 + 1 + 1]? = some (.cells #[.slice xa R'.all.length xc, .slice xb R'.hist.length xd, .slice xe R'.ev.length xf, .slice xg R'.blk.length xh] 35) := by simp [World.setCell, Array.getElem?_modify, q4']
  replace q3 := (hkY.block _ (lt_of_heap q3) (by omega)).trans q3
  have hnfY : ¬ fp D4 b (w.heap.size + 1 + 1 + 1) := fun hf => by
    rcases hfpD _ hf with e | e
    · have := hfar _ e; omega
    · omega
  replace r5 := r5.kp hkY (fun k hf e => hnfY (e ▸ hf))
  replace h5 := h5.same (fun k hr => hkY.block k (h5.lt k hr) (fun e => h5.notbox q4' (e ▸ hr)))
  have t6 : Kp (wr D b) w ((((w5.setCell ⟨w.heap.size + 1 + 1 + 1, 0, none⟩ (.slice xa R'.all.length xc)).setCell ⟨w.heap.size + 1 + 1 + 1, 1, none⟩ (.slice xb R'.hist.length xd)).setCell ⟨w.heap.size + 1 + 1 + 1, 2, none⟩ (.slice xe R'.ev.length xf)).setCell ⟨w.heap.size + 1 + 1 + 1, 3, none⟩ (.slice xg R'.blk.length xh)) := t5.kp.trans hkY (fun k hk e => by omega)
  replace t5 : Turns D D4 b w ((((w5.setCell ⟨w.heap.size + 1 + 1 + 1, 0, none⟩ (.slice xa R'.all.length xc)).setCell ⟨w.heap.size + 1 + 1 + 1, 1, none⟩ (.slice xb R'.hist.length xd)).setCell ⟨w.heap.size + 1 + 1 + 1, 2, none⟩ (.slice xe R'.ev.length xf)).setCell ⟨w.heap.size + 1 + 1 + 1, 3, none⟩ (.slice xg R'.blk.length xh)) := ⟨t6, t5.wr, t5.hp⟩
  go_wp2_with fail
  clear u0 u1 u2 u3 uf ul hkY q4' t6
  generalize ((((w5.setCell ⟨w.heap.size + 1 + 1 + 1, 0, none⟩ (.slice xa R'.all.length xc)).setCell ⟨w.heap.size + 1 + 1 + 1, 1, none⟩ (.slice xb R'.hist.length xd)).setCell ⟨w.heap.size + 1 + 1 + 1, 2, none⟩ (.slice xe R'.ev.length xf)).setCell ⟨w.heap.size + 1 + 1 + 1, 3, none⟩ (.slice xg R'.blk.length xh)) = w5 at q3 q4 r5 h5 t5 ⊢
  have hl' := hlk'.lim hok' (by omega)
  have hlR' := hok'.lim (by omega)
  have H5 : St (c + 1) w5 b N' D4 ⟨.slice xa R'.all.length xc, .slice xb R'.hist.length xd, .slice xe R'.ev.length xf, .slice xg R'.blk.length xh, ps5, hs5⟩ R' := ⟨r5, h5, hlk', hok', hap5⟩
  clear r5 h5 hap5
  have hfp5 := H5.rep.fp_lt
  have hrp5 := H5.ref.lt
  obtain ⟨u0, u1, u2, u3, uf, ul⟩ := blk4 q4
  obtain ⟨v0, v1, v2, v3, vf, vl⟩ := blk4 q3
  go_wp2_with fail
  apply wp_region_plan [.rd 0, .rd 1, .rd 2, .rd 3, .rd 4, .rd 5, .rd 6, .rd 7, .rd 8, .rd 9, .rd 10, .act 11, .rd 12, .act 13, .act 14, .act 15] [15] (fun w' => w'.heap[w.heap.size + 1 + 1 + 1]? = some (.cells #[.slice xa R'.all.length xc, .slice xb R'.hist.length xd, .slice xe R'.ev.length xf, .slice xg R'.blk.length xh] 35))
  case hm => kernel_rfl
  case hB => kernel_rfl
  case hS => exact q4
  intro W hW
  have hbW : Below w5.heap.size w5 W := by subst hW; exact (Below.refl _ _).drew
  clear hW
  iterate 11
    try simp only [Act.put, List.setIfInBounds_toArray, List.set_cons_succ, List.set_cons_zero]
    apply plan_rd rfl rfl
    · intro w' hS
      obtain ⟨y0, y1, y2, y3, _, _⟩ := blk4 hS
      go_simp
      try rfl
  have sW := (hbW.block _ (lt_of_heap q4)).trans q4
  have s3 := (hbW.block _ (lt_of_heap q3)).trans q3
  have HW := H5.below hbW
  clear u0 u1 u2 u3 uf ul v0 v1 v2 v3 vf vl q3 q4
  apply plan_act rfl
  try simp only [Act.put, List.setIfInBounds_toArray, List.set_cons_succ, List.set_cons_zero]
  go_wp2_with fail
  refine (agreesR_any _ R' b N' D4 W HW.rep hl' HW.ref hlR' hlk').mono ?_
  rintro e W2 ⟨rfl, hbl2⟩
  have hb2 := hbW.trans (hbl2.mono hbW.size)
  have sZ := (hbl2.block _ (lt_of_heap sW)).trans sW
  have s4 := (hbl2.block _ (lt_of_heap s3)).trans s3
  have H6 := HW.below hbl2
  clear hbW hbl2 sW s3 HW
  obtain ⟨v0, v1, v2, v3, vf, vl⟩ := blk4 s4
  go_wp2_with fail
  refine act_on sZ ?_
  apply plan_rd rfl rfl
  · intro w' hS
    go_simp
    try rfl
  try simp only [Act.put, List.setIfInBounds_toArray, List.set_cons_succ, List.set_cons_zero]
  apply plan_act rfl
  try simp only [Act.put, List.setIfInBounds_toArray, List.set_cons_succ, List.set_cons_zero]
  go_wp2_with fail
  refine act_on sZ ?_
  have hk4 : Kp (fun j => j = w.heap.size + 1 + 1) W2 ((((W2.setCell ⟨w.heap.size + 1 + 1, 0, none⟩ (.slice xa R'.all.length xc)).setCell ⟨w.heap.size + 1 + 1, 1, none⟩ (.slice xb R'.hist.length xd)).setCell ⟨w.heap.size + 1 + 1, 2, none⟩ (.slice xe R'.ev.length xf)).setCell ⟨w.heap.size + 1 + 1, 3, none⟩ (.slice xg R'.blk.length xh)) := ((((Kp.refl (fun j => j = w.heap.size + 1 + 1) W2).setCell (p := ⟨w.heap.size + 1 + 1, 0, none⟩) (fun _ => rfl) (.slice xa R'.all.length xc)).setCell (p := ⟨w.heap.size + 1 + 1, 1, none⟩) (fun _ => rfl) (.slice xb R'.hist.length xd)).setCell (p := ⟨w.heap.size + 1 + 1, 2, none⟩) (fun _ => rfl) (.slice xe R'.ev.length xf)).setCell (p := ⟨w.heap.size + 1 + 1, 3, none⟩) (fun _ => rfl) (.slice xg R'.blk.length xh)
  apply plan_act rfl
  try simp only [Act.put, List.setIfInBounds_toArray, List.set_cons_succ, List.set_cons_zero]
  go_wp2_with fail
  refine act_on ((hk4.block _ (lt_of_heap sZ) (by omega)).trans sZ) ?_
  apply plan_act rfl
  try simp only [Act.put, List.setIfInBounds_toArray, List.set_cons_succ, List.set_cons_zero]
  go_wp2_with fail
  refine act_late rfl ?_
  refine plan_end (Good.normal ?_)
  go_wp2_with fail
  refine bodyPost_ret (v := .tuple #[.pointer (some ⟨b, 0, none⟩), RefV.val ⟨.slice xa R'.all.length xc, .slice xb R'.hist.length xd, .slice xe R'.ev.length xf, .slice xg R'.blk.length xh, ps5, hs5⟩, .bool true]) (by simp [results, Try.results9, RefV.val, go_sem, v0, v1, v2, v3]) rfl ?_
  have hnf : ¬ fp D4 b (w.heap.size + 1 + 1) := fun hf => by
    rcases hfpD _ hf with e | e
    · have := hfar _ e; omega
    · omega
  refine ⟨_, D4, b, rfl, ⟨H6.rep.kp hk4 (fun k hf e => hnf (e ▸ hf)), H6.ref.same (fun k hr => hk4.block k (H6.ref.lt k hr) (fun e => H6.ref.notbox s4 (e ▸ hr))), hlk', hok', H6.ap⟩, ?_, t5.wr, hnw⟩
  exact ((t5.kp.below hb2 t5.kp.size).trans hk4 (fun k hk e => by omega))
set_option maxHeartbeats 3200000 in
set_option maxRecDepth 100000 in
theorem do5 (c : Nat) (V : RefV) (R : RefM) (b : Nat) (N : NetM) (D : ND) (x : AV) (m : Pk) (w : World) (h : St c w b N D V R) (hcc : c ≤ 30000) (_hx : Src w b D x.p m) (hk : x.what = 5) :
    Calls Try.prog 9 #[.pointer (some ⟨b, 0, none⟩), V.val, x.val] w (DoPost c V D b (N.deliver x.id).1 (R.deliver x.id).1 w) := by
  have hl := h.lk.lim h.ok (by omega)
  have hf := h.lk.few h.ok
  have hlR := h.ok.lim (by omega)
  have hallR := h.ok.all
  have hblkR := h.ok.blk
  have hlk := h.lk
  have hok := h.ok
  obtain ⟨aa, ac, ha, hc, ea, ec, ba, bc, h1, h2, h3, h4⟩ := h.ref.forms
  obtain ⟨al, hi, ev, bl, ps, hs'⟩ := V
  simp only at h1 h2 h3 h4
  subst h1 h2 h3 h4
  simp only [RefV.val, AV.val]
  obtain ⟨e1, e2, e3, e4⟩ := top4 w (.cells #[.slice aa R.all.length ac, .slice ha R.hist.length hc, .slice ea R.ev.length ec, .slice ba R.blk.length bc] 35) (.cells #[.int .i64 x.what, .int .i64 x.id, .int .i64 x.off, .int .u8 x.mask, .string x.p.f, .string x.p.t, .slice x.p.ba x.p.bn x.p.bc] 42) (.cells #[.slice none 0 0, .slice none 0 0, .slice none 0 0, .slice none 0 0] 35) (.cells #[.slice aa R.all.length ac, .slice ha R.hist.length hc, .slice ea R.ev.length ec, .slice ba R.blk.length bc] 35)
  have hb1 : Below w.heap.size w ((((w.alloc (.cells #[.slice aa R.all.length ac, .slice ha R.hist.length hc, .slice ea R.ev.length ec, .slice ba R.blk.length bc] 35)).alloc (.cells #[.int .i64 x.what, .int .i64 x.id, .int .i64 x.off, .int .u8 x.mask, .string x.p.f, .string x.p.t, .slice x.p.ba x.p.bn x.p.bc] 42)).alloc (.cells #[.slice none 0 0, .slice none 0 0, .slice none 0 0, .slice none 0 0] 35)).alloc (.cells #[.slice aa R.all.length ac, .slice ha R.hist.length hc, .slice ea R.ev.length ec, .slice ba R.blk.length bc] 35)) := ((((Below.refl _ _).alloc (Nat.le_refl _) _).alloc (by simp) _).alloc (by simp; omega) _).alloc (by simp; omega) _
  have hfar : ∀ k, fp D b k → k < w.heap.size := h.rep.fp_lt
  have hk0 : (x.what == 0) = false := by simp [hk]
  have hk1 : (x.what == 1) = false := by simp [hk]
  have hk2 : (x.what == 2) = false := by simp [hk]
  have hk3 : (x.what == 3) = false := by simp [hk]
  have hk4 : (x.what == 4) = false := by simp [hk]
  have hk5 : (x.what == 5) = true := by simp [hk]
  have hk6 : (x.what == 6) = false := by simp [hk]
  have hk7 : (x.what == 7) = false := by simp [hk]
  have hk8 : (x.what == 8) = false := by simp [hk]
  have hk9 : (x.what == 9) = false := by simp [hk]
  have hk10 : (x.what == 10) = false := by simp [hk]
  have hk11 : (x.what == 11) = false := by simp [hk]
  clear hk
  obtain ⟨N', hN'⟩ : ∃ N', N' = (N.deliver x.id).1 := ⟨_, rfl⟩
  obtain ⟨⟨R', rpk, rer⟩, hRR⟩ : ∃ RR, RR = R.deliver x.id := ⟨_, rfl⟩
  rw [← hN', ← hRR]
  have HN := Lib.hid hN'
  have HR := Lib.hid hRR
  clear hN' hRR
  dsimp only
  go_enter Try.func9, Try.ntmps9
  go_wp2_with fail
  generalize (((w.alloc (.cells #[.slice aa R.all.length ac, .slice ha R.hist.length hc, .slice ea R.ev.length ec, .slice ba R.blk.length bc] 35)).alloc (.cells #[.int .i64 x.what, .int .i64 x.id, .int .i64 x.off, .int .u8 x.mask, .string x.p.f, .string x.p.t, .slice x.p.ba x.p.bn x.p.bc] 42)).alloc (.cells #[.slice none 0 0, .slice none 0 0, .slice none 0 0, .slice none 0 0] 35)).alloc (.cells #[.slice aa R.all.length ac, .slice ha R.hist.length hc, .slice ea R.ev.length ec, .slice ba R.blk.length bc] 35) = w1 at e1 e2 e3 e4 hb1 ⊢
  have hw1 := lt_of_heap e4
  have hfp1 : ∀ k, w.heap.size ≤ k → ¬ wr D b k := fun k h1 h3 => by have := hfar k (.inl h3); omega
  obtain ⟨c0, c1, c2, c3, c4, c5, c6, cl⟩ := blk7 e2
  go_wp2_with fail
  refine (deliver_any b N D x.id w1 c (h.rep.below hb1 (Nat.le_refl _)) hl hf (by omega)).mono ?_
  rintro e w4 ⟨⟨qf, qt, qa, qn, qc⟩, D4, rfl, r4, t4, hq4, hqb4⟩
  simp only [PV.val]
  have k1 := (t4.kp.block _ (lt_of_heap e1) (hfp1 _ (by omega))).trans e1
  have k2 := (t4.kp.block _ (lt_of_heap e2) (hfp1 _ (by omega))).trans e2
  have k3 := (t4.kp.block _ (lt_of_heap e3) (hfp1 _ (by omega))).trans e3
  have k4 := (t4.kp.block _ (lt_of_heap e4) (hfp1 _ (by omega))).trans e4
  have hV4 := (h.ref.below hb1 (Nat.le_refl _)).same (fun k hk => t4.kp.block k (by have := h.ref.lt k hk; have := hb1.size; omega) (h.ap k hk))
  have t3 : Turns D D4 b w w4 := Turns.of_below' hb1 t4
  have hfpD : ∀ k, fp D4 b k → fp D b k ∨ w1.heap.size ≤ k := t4.fp
  have hwr4 : ∀ k, wr D4 b k → wr D b k ∨ w1.heap.size ≤ k := t4.wr
  have hs14 : w1.heap.size ≤ w4.heap.size := t4.kp.size
  have h4fp : ∀ k, fp D4 b k → k < w4.heap.size := r4.fp_lt
  clear e1 e2 e3 e4 hb1 t4 c0 c1 c2 c3 c4 c5 c6 cl
  have hbq := (Below.refl w4.heap.size w4).alloc (Nat.le_refl _) (.cells #[.string qf, .string qt, .slice qa qn qc] 40)
  have m1 := (hbq.block _ (lt_of_heap k1)).trans k1
  have m2 := (hbq.block _ (lt_of_heap k2)).trans k2
  have m3 := (hbq.block _ (lt_of_heap k3)).trans k3
  have m4 := (hbq.block _ (lt_of_heap k4)).trans k4
  have mq := heap_alloc_new w4 (.cells #[.string qf, .string qt, .slice qa qn qc] 40)
  have hq5 := hq4.below hbq (Nat.le_refl _)
  have hV5 := hV4.below hbq (Nat.le_refl _)
  have r5 := r4.below hbq (Nat.le_refl _)
  have t5 := t3.below hbq
  have hAz : w1.heap.size ≤ w4.heap.size := hs14
  obtain ⟨c0, c1, c2, c3, c4, c5, c6, cl⟩ := blk7 m2
  obtain ⟨y0, y1, y2, y3, _, _⟩ := blk4 m1
  clear k1 k2 k3 k4 hV4 t3 hq4 hqb4 r4
  go_wp2_with fail
  have hwA : (w4.alloc (.cells #[.string qf, .string qt, .slice qa qn qc] 40)).heap.size = w4.heap.size + 1 := by simp
  generalize w4.heap.size = A at mq hAz h4fp hwA hs14 ⊢
  clear hbq
  generalize w4.alloc (.cells #[.string qf, .string qt, .slice qa qn qc] 40) = w6 at m1 m2 m3 m4 mq hq5 hV5 r5 t5 hwA y0 y1 y2 y3 c0 c1 c2 c3 c4 c5 c6 cl ⊢
  refine (deliverR_any _ R x.id w6 hV5 hlR).mono ?_
  rintro e w5 ⟨⟨al5, hi5, ev5, bl5, ps5, hs5⟩, ⟨pf, pt, pa, pn, pc⟩, rfl, h5, hp5, hbl5, hnw0⟩
  simp only [PV.val]
  have hnw : News ⟨.slice aa R.all.length ac, .slice ha R.hist.length hc, .slice ea R.ev.length ec, .slice ba R.blk.length bc, ps, hs'⟩ ⟨al5, hi5, ev5, bl5, ps5, hs5⟩ w.heap.size := hnw0.mono (by omega)
  have hap5 : ∀ k, rp ⟨al5, hi5, ev5, bl5, ps5, hs5⟩ k → ¬ wr D4 b k := fun k hr hw => by
    rcases hnw0 k hr with e | e
    · rcases hwr4 k hw with e' | e'
      · exact h.ap k e e'
      · have := h.ref.lt k e; omega
    · have := h4fp k (.inl hw); omega
  obtain ⟨xa, xc, xb, xd, xe, xf, xg, xh, z1, z2, z3, z4⟩ := h5.forms
  simp only at z1 z2 z3 z4
  subst z1 z2 z3 z4
  simp only [RefV.val]
  have q3 := (hbl5.block _ (lt_of_heap m3)).trans m3
  have q4' := (hbl5.block _ (lt_of_heap m4)).trans m4
  have qq := (hbl5.block _ (lt_of_heap mq)).trans mq
  have hq6 := hq5.below hbl5 (Nat.le_refl _)
  replace r5 := r5.below hbl5 (Nat.le_refl _)
  replace t5 := t5.below hbl5
  have hs45 : w6.heap.size ≤ w5.heap.size := hbl5.size
  clear c0 c1 c2 c3 c4 c5 c6 cl y0 y1 y2 y3 m1 m2 m3 m4 mq hV5 hq5 hbl5 hnw0
  have hok' := hok.deliver x.id
  obtain ⟨hlk', hres⟩ := hlk.deliver x.id
  rw [hres]
  rw [hres] at hq6
  rw [← HN.out] at r5 hlk'
  rw [← HR.out] at h5 hp5 hnw hap5 hok' hlk' hq6
  simp only at h5 hp5 hnw hap5 hok' hlk' hq6
  rw [← HR.out]
  dsimp only
  clear hres
  -- the two boxes that take the answer
  have hb7 : Below w5.heap.size w5 ((w5.alloc (.cells #[.slice xa R'.all.length xc, .slice xb R'.hist.length xd, .slice xe R'.ev.length xf, .slice xg R'.blk.length xh] 35)).alloc (.cells #[.string pf, .string pt, .slice pa pn pc] 40)) := ((Below.refl _ _).alloc (Nat.le_refl _) _).alloc (by simp) _
  have b3 := (hb7.block _ (lt_of_heap q3)).trans q3
  have b4 := (hb7.block _ (lt_of_heap q4')).trans q4'
  have bq := (hb7.block _ (lt_of_heap qq)).trans qq
  have bB := top1 w5 (.cells #[.slice xa R'.all.length xc, .slice xb R'.hist.length xd, .slice xe R'.ev.length xf, .slice xg R'.blk.length xh] 35) (.cells #[.string pf, .string pt, .slice pa pn pc] 40)
  have bP := top0 w5 (.cells #[.slice xa R'.all.length xc, .slice xb R'.hist.length xd, .slice xe R'.ev.length xf, .slice xg R'.blk.length xh] 35) (.cells #[.string pf, .string pt, .slice pa pn pc] 40)
  have hq7 := hq6.below hb7 (Nat.le_refl _)
  have hp7 := hp5.below hb7 (Nat.le_refl _)
  have h7 := h5.below hb7 (Nat.le_refl _)
  have r7 := r5.below hb7 (Nat.le_refl _)
  have t7 := t5.below hb7
  go_wp2_with fail
  clear q3 q4' qq hq6 hp5 h5 r5 t5
  generalize (w5.alloc (.cells #[.slice xa R'.all.length xc, .slice xb R'.hist.length xd, .slice xe R'.ev.length xf, .slice xg R'.blk.length xh] 35)).alloc (.cells #[.string pf, .string pt, .slice pa pn pc] 40) = w7 at b3 b4 bq bB bP hq7 hp7 h7 r7 t7 hb7 ⊢
  generalize hBB : w5.heap.size = BB at bB bP hs45 ⊢
  apply wp_region_plan [.rd 0, .rd 1, .rd 2, .rd 4, .rd 5, .act 3, .act 6, .act 7, .act 8, .act 9] [9] (fun w' => w'.heap[BB]? = some (.cells #[.slice xa R'.all.length xc, .slice xb R'.hist.length xd, .slice xe R'.ev.length xf, .slice xg R'.blk.length xh] 35) ∧ w'.heap[A]? = some (.cells #[.string qf, .string qt, .slice qa qn qc] 40) ∧ w'.heap[BB + 1]? = some (.cells #[.string pf, .string pt, .slice pa pn pc] 40))
  case hm => kernel_rfl
  case hB => kernel_rfl
  case hS => exact ⟨bB, bq, bP⟩
  intro W hW
  have hbW : Below w7.heap.size w7 W := by subst hW; exact (Below.refl _ _).drew
  clear hW
  iterate 5
    try simp only [Act.put, List.setIfInBounds_toArray, List.set_cons_succ, List.set_cons_zero]
    apply plan_rd rfl rfl
    · intro w' hS
      obtain ⟨s0, s1, s2⟩ := hS
      obtain ⟨y0, y1, y2, y3, _, _⟩ := blk4 s0
      obtain ⟨p0, p1, p2, _, _, _, _⟩ := blk3 s1
      obtain ⟨o0, o1, o2, _, _, _, _⟩ := blk3 s2
      go_simp
      try rfl
  apply plan_act rfl
  try simp only [Act.put, List.setIfInBounds_toArray, List.set_cons_succ, List.set_cons_zero]
  go_wp2_with fail
  refine (same_any ⟨qf, qt, qa, qn, qc⟩ ⟨pf, pt, pa, pn, pc⟩ rpk rpk W (hq7.below hbW (Nat.le_refl _)) (hp7.below hbW (Nat.le_refl _))).mono ?_
  rw [sameR_refl]
  rintro e w5' ⟨rfl, hbl8⟩
  have hb8 := hbW.trans (hbl8.mono hbW.size)
  have q3 := (hb8.block _ (lt_of_heap b3)).trans b3
  have q4' := (hb8.block _ (lt_of_heap b4)).trans b4
  have hS8 : w5'.heap[BB]? = some (.cells #[.slice xa R'.all.length xc, .slice xb R'.hist.length xd, .slice xe R'.ev.length xf, .slice xg R'.blk.length xh] 35) ∧ w5'.heap[A]? = some (.cells #[.string qf, .string qt, .slice qa qn qc] 40) ∧ w5'.heap[BB + 1]? = some (.cells #[.string pf, .string pt, .slice pa pn pc] 40) := ⟨(hb8.block _ (lt_of_heap bB)).trans bB, (hb8.block _ (lt_of_heap bq)).trans bq, (hb8.block _ (lt_of_heap bP)).trans bP⟩
  have h5 := h7.below hb8 (Nat.le_refl _)
  have r5 := r7.below hb8 (Nat.le_refl _)
  have t5 := t7.below hb8
  have HS8 := Lib.hid hS8
  have hs78 : w5.heap.size ≤ w5'.heap.size := Nat.le_trans hb7.size hb8.size
  clear b3 b4 bq bB bP hq7 hp7 h7 r7 t7 hbW hbl8 hb8 hS8
  go_wp2_with fail
  refine act_on HS8.out ?_
  clear hb7
  obtain ⟨u0, u1, u2, u3, uf, ul⟩ := blk4 q4'
  have hkY := ((((Kp.refl (fun j => j = w.heap.size + 1 + 1 + 1) w5').setCell (p := ⟨w.heap.size + 1 + 1 + 1, 0, none⟩) (fun _ => rfl) (.slice xa R'.all.length xc)).setCell (p := ⟨w.heap.size + 1 + 1 + 1, 1, none⟩) (fun _ => rfl) (.slice xb R'.hist.length xd)).setCell (p := ⟨w.heap.size + 1 + 1 + 1, 2, none⟩) (fun _ => rfl) (.slice xe R'.ev.length xf)).setCell (p := ⟨w.heap.size + 1 + 1 + 1, 3, none⟩) (fun _ => rfl) (.slice xg R'.blk.length xh)
  have q4 : ((((w5'.setCell ⟨w.heap.size + 1 + 1 + 1, 0, none⟩ (.slice xa R'.all.length xc)).setCell ⟨w.heap.size + 1 + 1 + 1, 1, none⟩ (.slice xb R'.hist.length xd)).setCell ⟨w.heap.size + 1 + 1 + 1, 2, none⟩ (.slice xe R'.ev.length xf)).setCell ⟨w.heap.size + 1 + 1 + 1, 3, none⟩ (.slice xg R'.blk.length xh)).heap[w.heap.size + 1 + 1 + 1]? = some (.cells #[.slice xa R'.all.length xc, .slice xb R'.hist.length xd, .slice xe R'.ev.length xf, .slice xg R'.blk.length xh] 35) := by simp [World.setCell, Array.getElem?_modify, q4']
  replace q3 := (hkY.block _ (lt_of_heap q3) (by omega)).trans q3
  have hnfY : ¬ fp D4 b (w.heap.size + 1 + 1 + 1) := fun hf => by
    rcases hfpD _ hf with e | e
    · have := hfar _ e; omega
    · omega
  replace r5 := r5.kp hkY (fun k hf e => hnfY (e ▸ hf))
  replace h5 := h5.same (fun k hr => hkY.block k (h5.lt k hr) (fun e => h5.notbox q4' (e ▸ hr)))
  have t6 : Kp (wr D b) w ((((w5'.setCell ⟨w.heap.size + 1 + 1 + 1, 0, none⟩ (.slice xa R'.all.length xc)).setCell ⟨w.heap.size + 1 + 1 + 1, 1, none⟩ (.slice xb R'.hist.length xd)).setCell ⟨w.heap.size + 1 + 1 + 1, 2, none⟩ (.slice xe R'.ev.length xf)).setCell ⟨w.heap.size + 1 + 1 + 1, 3, none⟩ (.slice xg R'.blk.length xh)) := t5.kp.trans hkY (fun k hk e => by omega)
  replace t5 : Turns D D4 b w ((((w5'.setCell ⟨w.heap.size + 1 + 1 + 1, 0, none⟩ (.slice xa R'.all.length xc)).setCell ⟨w.heap.size + 1 + 1 + 1, 1, none⟩ (.slice xb R'.hist.length xd)).setCell ⟨w.heap.size + 1 + 1 + 1, 2, none⟩ (.slice xe R'.ev.length xf)).setCell ⟨w.heap.size + 1 + 1 + 1, 3, none⟩ (.slice xg R'.blk.length xh)) := ⟨t6, t5.wr, t5.hp⟩
  have HS9 := Lib.hid (show ((((w5'.setCell ⟨w.heap.size + 1 + 1 + 1, 0, none⟩ (.slice xa R'.all.length xc)).setCell ⟨w.heap.size + 1 + 1 + 1, 1, none⟩ (.slice xb R'.hist.length xd)).setCell ⟨w.heap.size + 1 + 1 + 1, 2, none⟩ (.slice xe R'.ev.length xf)).setCell ⟨w.heap.size + 1 + 1 + 1, 3, none⟩ (.slice xg R'.blk.length xh)).heap[BB]? = some (.cells #[.slice xa R'.all.length xc, .slice xb R'.hist.length xd, .slice xe R'.ev.length xf, .slice xg R'.blk.length xh] 35) ∧ ((((w5'.setCell ⟨w.heap.size + 1 + 1 + 1, 0, none⟩ (.slice xa R'.all.length xc)).setCell ⟨w.heap.size + 1 + 1 + 1, 1, none⟩ (.slice xb R'.hist.length xd)).setCell ⟨w.heap.size + 1 + 1 + 1, 2, none⟩ (.slice xe R'.ev.length xf)).setCell ⟨w.heap.size + 1 + 1 + 1, 3, none⟩ (.slice xg R'.blk.length xh)).heap[A]? = some (.cells #[.string qf, .string qt, .slice qa qn qc] 40) ∧ ((((w5'.setCell ⟨w.heap.size + 1 + 1 + 1, 0, none⟩ (.slice xa R'.all.length xc)).setCell ⟨w.heap.size + 1 + 1 + 1, 1, none⟩ (.slice xb R'.hist.length xd)).setCell ⟨w.heap.size + 1 + 1 + 1, 2, none⟩ (.slice xe R'.ev.length xf)).setCell ⟨w.heap.size + 1 + 1 + 1, 3, none⟩ (.slice xg R'.blk.length xh)).heap[BB + 1]? = some (.cells #[.string pf, .string pt, .slice pa pn pc] 40) from ⟨(hkY.block _ (lt_of_heap HS8.out.1) (by omega)).trans HS8.out.1, (hkY.block _ (lt_of_heap HS8.out.2.1) (by omega)).trans HS8.out.2.1, (hkY.block _ (lt_of_heap HS8.out.2.2) (by omega)).trans HS8.out.2.2⟩)
  iterate 3
    apply plan_act rfl
    try simp only [Act.put, List.setIfInBounds_toArray, List.set_cons_succ, List.set_cons_zero]
    go_wp2_with fail
    refine act_on HS9.out ?_
  apply plan_act rfl
  try simp only [Act.put, List.setIfInBounds_toArray, List.set_cons_succ, List.set_cons_zero]
  go_wp2_with fail
  refine act_late rfl ?_
  clear HS8 HS9
  refine plan_end (Good.normal ?_)
  try simp only [Act.put, List.setIfInBounds_toArray, List.set_cons_succ, List.set_cons_zero]
  clear u0 u1 u2 u3 uf ul hkY q4' t6
  generalize ((((w5'.setCell ⟨w.heap.size + 1 + 1 + 1, 0, none⟩ (.slice xa R'.all.length xc)).setCell ⟨w.heap.size + 1 + 1 + 1, 1, none⟩ (.slice xb R'.hist.length xd)).setCell ⟨w.heap.size + 1 + 1 + 1, 2, none⟩ (.slice xe R'.ev.length xf)).setCell ⟨w.heap.size + 1 + 1 + 1, 3, none⟩ (.slice xg R'.blk.length xh)) = w5 at q3 q4 r5 h5 t5 ⊢
  have hl' := hlk'.lim hok' (by omega)
  have hlR' := hok'.lim (by omega)
  have H5 : St (c + 1) w5 b N' D4 ⟨.slice xa R'.all.length xc, .slice xb R'.hist.length xd, .slice xe R'.ev.length xf, .slice xg R'.blk.length xh, ps5, hs5⟩ R' := ⟨r5, h5, hlk', hok', hap5⟩
  clear r5 h5 hap5
  have hfp5 := H5.rep.fp_lt
  have hrp5 := H5.ref.lt
  obtain ⟨u0, u1, u2, u3, uf, ul⟩ := blk4 q4
  obtain ⟨v0, v1, v2, v3, vf, vl⟩ := blk4 q3
  go_wp2_with fail
  apply wp_region_plan [.rd 0, .rd 1, .rd 2, .rd 3, .rd 4, .rd 5, .rd 6, .rd 7, .rd 8, .rd 9, .rd 10, .act 11, .rd 12, .act 13, .act 14, .act 15] [15] (fun w' => w'.heap[w.heap.size + 1 + 1 + 1]? = some (.cells #[.slice xa R'.all.length xc, .slice xb R'.hist.length xd, .slice xe R'.ev.length xf, .slice xg R'.blk.length xh] 35))
  case hm => kernel_rfl
  case hB => kernel_rfl
  case hS => exact q4
  intro W hW
  have hbW : Below w5.heap.size w5 W := by subst hW; exact (Below.refl _ _).drew
  clear hW
  iterate 11
    try simp only [Act.put, List.setIfInBounds_toArray, List.set_cons_succ, List.set_cons_zero]
    apply plan_rd rfl rfl
    · intro w' hS
      obtain ⟨y0, y1, y2, y3, _, _⟩ := blk4 hS
      go_simp
      try rfl
  have sW := (hbW.block _ (lt_of_heap q4)).trans q4
  have s3 := (hbW.block _ (lt_of_heap q3)).trans q3
  have HW := H5.below hbW
  clear u0 u1 u2 u3 uf ul v0 v1 v2 v3 vf vl q3 q4
  apply plan_act rfl
  try simp only [Act.put, List.setIfInBounds_toArray, List.set_cons_succ, List.set_cons_zero]
  go_wp2_with fail
  refine (agreesR_any _ R' b N' D4 W HW.rep hl' HW.ref hlR' hlk').mono ?_
  rintro e W2 ⟨rfl, hbl2⟩
  have hb2 := hbW.trans (hbl2.mono hbW.size)
  have sZ := (hbl2.block _ (lt_of_heap sW)).trans sW
  have s4 := (hbl2.block _ (lt_of_heap s3)).trans s3
  have H6 := HW.below hbl2
  clear hbW hbl2 sW s3 HW
  obtain ⟨v0, v1, v2, v3, vf, vl⟩ := blk4 s4
  go_wp2_with fail
  refine act_on sZ ?_
  apply plan_rd rfl rfl
  · intro w' hS
    go_simp
    try rfl
  try simp only [Act.put, List.setIfInBounds_toArray, List.set_cons_succ, List.set_cons_zero]
  apply plan_act rfl
  try simp only [Act.put, List.setIfInBounds_toArray, List.set_cons_succ, List.set_cons_zero]
  go_wp2_with fail
  refine act_on sZ ?_
  have hk4 : Kp (fun j => j = w.heap.size + 1 + 1) W2 ((((W2.setCell ⟨w.heap.size + 1 + 1, 0, none⟩ (.slice xa R'.all.length xc)).setCell ⟨w.heap.size + 1 + 1, 1, none⟩ (.slice xb R'.hist.length xd)).setCell ⟨w.heap.size + 1 + 1, 2, none⟩ (.slice xe R'.ev.length xf)).setCell ⟨w.heap.size + 1 + 1, 3, none⟩ (.slice xg R'.blk.length xh)) := ((((Kp.refl (fun j => j = w.heap.size + 1 + 1) W2).setCell (p := ⟨w.heap.size + 1 + 1, 0, none⟩) (fun _ => rfl) (.slice xa R'.all.length xc)).setCell (p := ⟨w.heap.size + 1 + 1, 1, none⟩) (fun _ => rfl) (.slice xb R'.hist.length xd)).setCell (p := ⟨w.heap.size + 1 + 1, 2, none⟩) (fun _ => rfl) (.slice xe R'.ev.length xf)).setCell (p := ⟨w.heap.size + 1 + 1, 3, none⟩) (fun _ => rfl) (.slice xg R'.blk.length xh)
  apply plan_act rfl
  try simp only [Act.put, List.setIfInBounds_toArray, List.set_cons_succ, List.set_cons_zero]
  go_wp2_with fail
  refine act_on ((hk4.block _ (lt_of_heap sZ) (by omega)).trans sZ) ?_
  apply plan_act rfl
  try simp only [Act.put, List.setIfInBounds_toArray, List.set_cons_succ, List.set_cons_zero]
  go_wp2_with fail
  refine act_late rfl ?_
  refine plan_end (Good.normal ?_)
  go_wp2_with fail
  refine bodyPost_ret (v := .tuple #[.pointer (some ⟨b, 0, none⟩), RefV.val ⟨.slice xa R'.all.length xc, .slice xb R'.hist.length xd, .slice xe R'.ev.length xf, .slice xg R'.blk.length xh, ps5, hs5⟩, .bool true]) (by simp [results, Try.results9, RefV.val, go_sem, v0, v1, v2, v3]) rfl ?_
  have hnf : ¬ fp D4 b (w.heap.size + 1 + 1) := fun hf => by
    rcases hfpD _ hf with e | e
    · have := hfar _ e; omega
    · omega
  refine ⟨_, D4, b, rfl, ⟨H6.rep.kp hk4 (fun k hf e => hnf (e ▸ hf)), H6.ref.same (fun k hr => hk4.block k (H6.ref.lt k hr) (fun e => H6.ref.notbox s4 (e ▸ hr))), hlk', hok', H6.ap⟩, ?_, t5.wr, hnw⟩
  exact ((t5.kp.below hb2 t5.kp.size).trans hk4 (fun k hk e => by omega))
set_option maxHeartbeats 3200000 in
set_option maxRecDepth 100000 in
theorem do6 (c : Nat) (V : RefV) (R : RefM) (b : Nat) (N : NetM) (D : ND) (x : AV) (m : Pk) (w : World) (h : St c w b N D V R) (hcc : c ≤ 30000) (_hx : Src w b D x.p m) (hk : x.what = 6) :
    Calls Try.prog 9 #[.pointer (some ⟨b, 0, none⟩), V.val, x.val] w (DoPost c V D b (N.deliver x.id).1 (R.deliver x.id).1 w) := by
  have hl := h.lk.lim h.ok (by omega)
  have hf := h.lk.few h.ok
  have hlR := h.ok.lim (by omega)
  have hallR := h.ok.all
  have hblkR := h.ok.blk
  have hlk := h.lk
  have hok := h.ok
  obtain ⟨aa, ac, ha, hc, ea, ec, ba, bc, h1, h2, h3, h4⟩ := h.ref.forms
  obtain ⟨al, hi, ev, bl, ps, hs'⟩ := V
  simp only at h1 h2 h3 h4
  subst h1 h2 h3 h4
  simp only [RefV.val, AV.val]
  obtain ⟨e1, e2, e3, e4⟩ := top4 w (.cells #[.slice aa R.all.length ac, .slice ha R.hist.length hc, .slice ea R.ev.length ec, .slice ba R.blk.length bc] 35) (.cells #[.int .i64 x.what, .int .i64 x.id, .int .i64 x.off, .int .u8 x.mask, .string x.p.f, .string x.p.t, .slice x.p.ba x.p.bn x.p.bc] 42) (.cells #[.slice none 0 0, .slice none 0 0, .slice none 0 0, .slice none 0 0] 35) (.cells #[.slice aa R.all.length ac, .slice ha R.hist.length hc, .slice ea R.ev.length ec, .slice ba R.blk.length bc] 35)
  have hb1 : Below w.heap.size w ((((w.alloc (.cells #[.slice aa R.all.length ac, .slice ha R.hist.length hc, .slice ea R.ev.length ec, .slice ba R.blk.length bc] 35)).alloc (.cells #[.int .i64 x.what, .int .i64 x.id, .int .i64 x.off, .int .u8 x.mask, .string x.p.f, .string x.p.t, .slice x.p.ba x.p.bn x.p.bc] 42)).alloc (.cells #[.slice none 0 0, .slice none 0 0, .slice none 0 0, .slice none 0 0] 35)).alloc (.cells #[.slice aa R.all.length ac, .slice ha R.hist.length hc, .slice ea R.ev.length ec, .slice ba R.blk.length bc] 35)) := ((((Below.refl _ _).alloc (Nat.le_refl _) _).alloc (by simp) _).alloc (by simp; omega) _).alloc (by simp; omega) _
  have hfar : ∀ k, fp D b k → k < w.heap.size := h.rep.fp_lt
  have hk0 : (x.what == 0) = false := by simp [hk]
  have hk1 : (x.what == 1) = false := by simp [hk]
  have hk2 : (x.what == 2) = false := by simp [hk]
  have hk3 : (x.what == 3) = false := by simp [hk]
  have hk4 : (x.what == 4) = false := by simp [hk]
  have hk5 : (x.what == 5) = false := by simp [hk]
  have hk6 : (x.what == 6) = true := by simp [hk]
  have hk7 : (x.what == 7) = false := by simp [hk]
  have hk8 : (x.what == 8) = false := by simp [hk]
  have hk9 : (x.what == 9) = false := by simp [hk]
  have hk10 : (x.what == 10) = false := by simp [hk]
  have hk11 : (x.what == 11) = false := by simp [hk]
  clear hk
  obtain ⟨N', hN'⟩ : ∃ N', N' = (N.deliver x.id).1 := ⟨_, rfl⟩
  obtain ⟨⟨R', rpk, rer⟩, hRR⟩ : ∃ RR, RR = R.deliver x.id := ⟨_, rfl⟩
  rw [← hN', ← hRR]
  have HN := Lib.hid hN'
  have HR := Lib.hid hRR
  clear hN' hRR
  dsimp only
  go_enter Try.func9, Try.ntmps9
  go_wp2_with fail
  generalize (((w.alloc (.cells #[.slice aa R.all.length ac, .slice ha R.hist.length hc, .slice ea R.ev.length ec, .slice ba R.blk.length bc] 35)).alloc (.cells #[.int .i64 x.what, .int .i64 x.id, .int .i64 x.off, .int .u8 x.mask, .string x.p.f, .string x.p.t, .slice x.p.ba x.p.bn x.p.bc] 42)).alloc (.cells #[.slice none 0 0, .slice none 0 0, .slice none 0 0, .slice none 0 0] 35)).alloc (.cells #[.slice aa R.all.length ac, .slice ha R.hist.length hc, .slice ea R.ev.length ec, .slice ba R.blk.length bc] 35) = w1 at e1 e2 e3 e4 hb1 ⊢
  have hw1 := lt_of_heap e4
  have hfp1 : ∀ k, w.heap.size ≤ k → ¬ wr D b k := fun k h1 h3 => by have := hfar k (.inl h3); omega
  obtain ⟨c0, c1, c2, c3, c4, c5, c6, cl⟩ := blk7 e2
  go_wp2_with fail
  refine (deliver_any b N D x.id w1 c (h.rep.below hb1 (Nat.le_refl _)) hl hf (by omega)).mono ?_
  rintro e w4 ⟨⟨qf, qt, qa, qn, qc⟩, D4, rfl, r4, t4, hq4, hqb4⟩
  simp only [PV.val]
  have k1 := (t4.kp.block _ (lt_of_heap e1) (hfp1 _ (by omega))).trans e1
  have k2 := (t4.kp.block _ (lt_of_heap e2) (hfp1 _ (by omega))).trans e2
  have k3 := (t4.kp.block _ (lt_of_heap e3) (hfp1 _ (by omega))).trans e3
  have k4 := (t4.kp.block _ (lt_of_heap e4) (hfp1 _ (by omega))).trans e4
  have hV4 := (h.ref.below hb1 (Nat.le_refl _)).same (fun k hk => t4.kp.block k (by have := h.ref.lt k hk; have := hb1.size; omega) (h.ap k hk))
  have t3 : Turns D D4 b w w4 := Turns.of_below' hb1 t4
  have hfpD : ∀ k, fp D4 b k → fp D b k ∨ w1.heap.size ≤ k := t4.fp
  have hwr4 : ∀ k, wr D4 b k → wr D b k ∨ w1.heap.size ≤ k := t4.wr
  have hs14 : w1.heap.size ≤ w4.heap.size := t4.kp.size
  have h4fp : ∀ k, fp D4 b k → k < w4.heap.size := r4.fp_lt
  clear e1 e2 e3 e4 hb1 t4 c0 c1 c2 c3 c4 c5 c6 cl
  have hbq := (Below.refl w4.heap.size w4).alloc (Nat.le_refl _) (.cells #[.string qf, .string qt, .slice qa qn qc] 40)
  have m1 := (hbq.block _ (lt_of_heap k1)).trans k1
  have m2 := (hbq.block _ (lt_of_heap k2)).trans k2
  have m3 := (hbq.block _ (lt_of_heap k3)).trans k3
  have m4 := (hbq.block _ (lt_of_heap k4)).trans k4
  have mq := heap_alloc_new w4 (.cells #[.string qf, .string qt, .slice qa qn qc] 40)
  have hq5 := hq4.below hbq (Nat.le_refl _)
  have hV5 := hV4.below hbq (Nat.le_refl _)
  have r5 := r4.below hbq (Nat.le_refl _)
  have t5 := t3.below hbq
  have hAz : w1.heap.size ≤ w4.heap.size := hs14
  obtain ⟨c0, c1, c2, c3, c4, c5, c6, cl⟩ := blk7 m2
  obtain ⟨y0, y1, y2, y3, _, _⟩ := blk4 m1
  clear k1 k2 k3 k4 hV4 t3 hq4 hqb4 r4
  go_wp2_with fail
  have hwA : (w4.alloc (.cells #[.string qf, .string qt, .slice qa qn qc] 40)).heap.size = w4.heap.size + 1 := by simp
  generalize w4.heap.size = A at mq hAz h4fp hwA hs14 ⊢
  clear hbq
  generalize w4.alloc (.cells #[.string qf, .string qt, .slice qa qn qc] 40) = w6 at m1 m2 m3 m4 mq hq5 hV5 r5 t5 hwA y0 y1 y2 y3 c0 c1 c2 c3 c4 c5 c6 cl ⊢
  refine (deliverR_any _ R x.id w6 hV5 hlR).mono ?_
  rintro e w5 ⟨⟨al5, hi5, ev5, bl5, ps5, hs5⟩, ⟨pf, pt, pa, pn, pc⟩, rfl, h5, hp5, hbl5, hnw0⟩
  simp only [PV.val]
  have hnw : News ⟨.slice aa R.all.length ac, .slice ha R.hist.length hc, .slice ea R.ev.length ec, .slice ba R.blk.length bc, ps, hs'⟩ ⟨al5, hi5, ev5, bl5, ps5, hs5⟩ w.heap.size := hnw0.mono (by omega)
  have hap5 : ∀ k, rp ⟨al5, hi5, ev5, bl5, ps5, hs5⟩ k → ¬ wr D4 b k := fun k hr hw => by
    rcases hnw0 k hr with e | e
    · rcases hwr4 k hw with e' | e'
      · exact h.ap k e e'
      · have := h.ref.lt k e; omega
    · have := h4fp k (.inl hw); omega
  obtain ⟨xa, xc, xb, xd, xe, xf, xg, xh, z1, z2, z3, z4⟩ := h5.forms
  simp only at z1 z2 z3 z4
  subst z1 z2 z3 z4
  simp only [RefV.val]
  have q3 := (hbl5.block _ (lt_of_heap m3)).trans m3
  have q4' := (hbl5.block _ (lt_of_heap m4)).trans m4
  have qq := (hbl5.block _ (lt_of_heap mq)).trans mq
  have hq6 := hq5.below hbl5 (Nat.le_refl _)
  replace r5 := r5.below hbl5 (Nat.le_refl _)
  replace t5 := t5.below hbl5
  have hs45 : w6.heap.size ≤ w5.heap.size := hbl5.size
  clear c0 c1 c2 c3 c4 c5 c6 cl y0 y1 y2 y3 m1 m2 m3 m4 mq hV5 hq5 hbl5 hnw0
  have hok' := hok.deliver x.id
  obtain ⟨hlk', hres⟩ := hlk.deliver x.id
  rw [hres]
  rw [hres] at hq6
  rw [← HN.out] at r5 hlk'
  rw [← HR.out] at h5 hp5 hnw hap5 hok' hlk' hq6
  simp only at h5 hp5 hnw hap5 hok' hlk' hq6
  rw [← HR.out]
  dsimp only
  clear hres
  -- the two boxes that take the answer
  have hb7 : Below w5.heap.size w5 ((w5.alloc (.cells #[.slice xa R'.all.length xc, .slice xb R'.hist.length xd, .slice xe R'.ev.length xf, .slice xg R'.blk.length xh] 35)).alloc (.cells #[.string pf, .string pt, .slice pa pn pc] 40)) := ((Below.refl _ _).alloc (Nat.le_refl _) _).alloc (by simp) _
  have b3 := (hb7.block _ (lt_of_heap q3)).trans q3
  have b4 := (hb7.block _ (lt_of_heap q4')).trans q4'
  have bq := (hb7.block _ (lt_of_heap qq)).trans qq
  have bB := top1 w5 (.cells #[.slice xa R'.all.length xc, .slice xb R'.hist.length xd, .slice xe R'.ev.length xf, .slice xg R'.blk.length xh] 35) (.cells #[.string pf, .string pt, .slice pa pn pc] 40)
  have bP := top0 w5 (.cells #[.slice xa R'.all.length xc, .slice xb R'.hist.length xd, .slice xe R'.ev.length xf, .slice xg R'.blk.length xh] 35) (.cells #[.string pf, .string pt, .slice pa pn pc] 40)
  have hq7 := hq6.below hb7 (Nat.le_refl _)
  have hp7 := hp5.below hb7 (Nat.le_refl _)
  have h7 := h5.below hb7 (Nat.le_refl _)
  have r7 := r5.below hb7 (Nat.le_refl _)
  have t7 := t5.below hb7
  go_wp2_with fail
  clear q3 q4' qq hq6 hp5 h5 r5 t5
  generalize (w5.alloc (.cells #[.slice xa R'.all.length xc, .slice xb R'.hist.length xd, .slice xe R'.ev.length xf, .slice xg R'.blk.length xh] 35)).alloc (.cells #[.string pf, .string pt, .slice pa pn pc] 40) = w7 at b3 b4 bq bB bP hq7 hp7 h7 r7 t7 hb7 ⊢
  generalize hBB : w5.heap.size = BB at bB bP hs45 ⊢
  apply wp_region_plan [.rd 0, .rd 1, .rd 2, .rd 4, .rd 5, .act 3, .act 6, .act 7, .act 8, .act 9] [9] (fun w' => w'.heap[BB]? = some (.cells #[.slice xa R'.all.length xc, .slice xb R'.hist.length xd, .slice xe R'.ev.length xf, .slice xg R'.blk.length xh] 35) ∧ w'.heap[A]? = some (.cells #[.string qf, .string qt, .slice qa qn qc] 40) ∧ w'.heap[BB + 1]? = some (.cells #[.string pf, .string pt, .slice pa pn pc] 40))
  case hm => kernel_rfl
  case hB => kernel_rfl
  case hS => exact ⟨bB, bq, bP⟩
  intro W hW
  have hbW : Below w7.heap.size w7 W := by subst hW; exact (Below.refl _ _).drew
  clear hW
  iterate 5
    try simp only [Act.put, List.setIfInBounds_toArray, List.set_cons_succ, List.set_cons_zero]
    apply plan_rd rfl rfl
    · intro w' hS
      obtain ⟨s0, s1, s2⟩ := hS
      obtain ⟨y0, y1, y2, y3, _, _⟩ := blk4 s0
      obtain ⟨p0, p1, p2, _, _, _, _⟩ := blk3 s1
      obtain ⟨o0, o1, o2, _, _, _, _⟩ := blk3 s2
      go_simp
      try rfl
  apply plan_act rfl
  try simp only [Act.put, List.setIfInBounds_toArray, List.set_cons_succ, List.set_cons_zero]
  go_wp2_with fail
  refine (same_any ⟨qf, qt, qa, qn, qc⟩ ⟨pf, pt, pa, pn, pc⟩ rpk rpk W (hq7.below hbW (Nat.le_refl _)) (hp7.below hbW (Nat.le_refl _))).mono ?_
  rw [sameR_refl]
  rintro e w5' ⟨rfl, hbl8⟩
  have hb8 := hbW.trans (hbl8.mono hbW.size)
  have q3 := (hb8.block _ (lt_of_heap b3)).trans b3
  have q4' := (hb8.block _ (lt_of_heap b4)).trans b4
  have hS8 : w5'.heap[BB]? = some (.cells #[.slice xa R'.all.length xc, .slice xb R'.hist.length xd, .slice xe R'.ev.length xf, .slice xg R'.blk.length xh] 35) ∧ w5'.heap[A]? = some (.cells #[.string qf, .string qt, .slice qa qn qc] 40) ∧ w5'.heap[BB + 1]? = some (.cells #[.string pf, .string pt, .slice pa pn pc] 40) := ⟨(hb8.block _ (lt_of_heap bB)).trans bB, (hb8.block _ (lt_of_heap bq)).trans bq, (hb8.block _ (lt_of_heap bP)).trans bP⟩
  have h5 := h7.below hb8 (Nat.le_refl _)
  have r5 := r7.below hb8 (Nat.le_refl _)
  have t5 := t7.below hb8
  have HS8 := Lib.hid hS8
  have hs78 : w5.heap.size ≤ w5'.heap.size := Nat.le_trans hb7.size hb8.size
  clear b3 b4 bq bB bP hq7 hp7 h7 r7 t7 hbW hbl8 hb8 hS8
  go_wp2_with fail
  refine act_on HS8.out ?_
  clear hb7
  obtain ⟨u0, u1, u2, u3, uf, ul⟩ := blk4 q4'
  have hkY := ((((Kp.refl (fun j => j = w.heap.size + 1 + 1 + 1) w5').setCell (p := ⟨w.heap.size + 1 + 1 + 1, 0, none⟩) (fun _ => rfl) (.slice xa R'.all.length xc)).setCell (p := ⟨w.heap.size + 1 + 1 + 1, 1, none⟩) (fun _ => rfl) (.slice xb R'.hist.length xd)).setCell (p := ⟨w.heap.size + 1 + 1 + 1, 2, none⟩) (fun _ => rfl) (.slice xe R'.ev.length xf)).setCell (p := ⟨w.heap.size + 1 + 1 + 1, 3, none⟩) (fun _ => rfl) (.slice xg R'.blk.length xh)
  have q4 : ((((w5'.setCell ⟨w.heap.size + 1 + 1 + 1, 0, none⟩ (.slice xa R'.all.length xc)).setCell ⟨w.heap.size + 1 + 1 + 1, 1, none⟩ (.slice xb R'.hist.length xd)).setCell ⟨w.heap.size + 1 + 1 + 1, 2, none⟩ (.slice xe R'.ev.length xf)).setCell ⟨w.heap.size + 1 + 1 + 1, 3, none⟩ (.slice xg R'.blk.length xh)).heap[w.heap.size + 1 + 1 + 1]? = some (.cells #[.slice xa R'.all.length xc, .slice xb R'.hist.length xd, .slice xe R'.ev.length xf, .slice xg R'.blk.length xh] 35) := by simp [World.setCell, Array.getElem?_modify, q4']
  replace q3 := (hkY.block _ (lt_of_heap q3) (by omega)).trans q3
  have hnfY : ¬ fp D4 b (w.heap.size + 1 + 1 + 1) := fun hf => by
    rcases hfpD _ hf with e | e
    · have := hfar _ e; omega
    · omega
  replace r5 := r5.kp hkY (fun k hf e => hnfY (e ▸ hf))
  replace h5 := h5.same (fun k hr => hkY.block k (h5.lt k hr) (fun e => h5.notbox q4' (e ▸ hr)))
  have t6 : Kp (wr D b) w ((((w5'.setCell ⟨w.heap.size + 1 + 1 + 1, 0, none⟩ (.slice xa R'.all.length xc)).setCell ⟨w.heap.size + 1 + 1 + 1, 1, none⟩ (.slice xb R'.hist.length xd)).setCell ⟨w.heap.size + 1 + 1 + 1, 2, none⟩ (.slice xe R'.ev.length xf)).setCell ⟨w.heap.size + 1 + 1 + 1, 3, none⟩ (.slice xg R'.blk.length xh)) := t5.kp.trans hkY (fun k hk e => by omega)
  replace t5 : Turns D D4 b w ((((w5'.setCell ⟨w.heap.size + 1 + 1 + 1, 0, none⟩ (.slice xa R'.all.length xc)).setCell ⟨w.heap.size + 1 + 1 + 1, 1, none⟩ (.slice xb R'.hist.length xd)).setCell ⟨w.heap.size + 1 + 1 + 1, 2, none⟩ (.slice xe R'.ev.length xf)).setCell ⟨w.heap.size + 1 + 1 + 1, 3, none⟩ (.slice xg R'.blk.length xh)) := ⟨t6, t5.wr, t5.hp⟩
  have HS9 := Lib.hid (show ((((w5'.setCell ⟨w.heap.size + 1 + 1 + 1, 0, none⟩ (.slice xa R'.all.length xc)).setCell ⟨w.heap.size + 1 + 1 + 1, 1, none⟩ (.slice xb R'.hist.length xd)).setCell ⟨w.heap.size + 1 + 1 + 1, 2, none⟩ (.slice xe R'.ev.length xf)).setCell ⟨w.heap.size + 1 + 1 + 1, 3, none⟩ (.slice xg R'.blk.length xh)).heap[BB]? = some (.cells #[.slice xa R'.all.length xc, .slice xb R'.hist.length xd, .slice xe R'.ev.length xf, .slice xg R'.blk.length xh] 35) ∧ ((((w5'.setCell ⟨w.heap.size + 1 + 1 + 1, 0, none⟩ (.slice xa R'.all.length xc)).setCell ⟨w.heap.size + 1 + 1 + 1, 1, none⟩ (.slice xb R'.hist.length xd)).setCell ⟨w.heap.size + 1 + 1 + 1, 2, none⟩ (.slice xe R'.ev.length xf)).setCell ⟨w.heap.size + 1 + 1 + 1, 3, none⟩ (.slice xg R'.blk.length xh)).heap[A]? = some (.cells #[.string qf, .string qt, .slice qa qn qc] 40) ∧ ((((w5'.setCell ⟨w.heap.size + 1 + 1 + 1, 0, none⟩ (.slice xa R'.all.length xc)).setCell ⟨w.heap.size + 1 + 1 + 1, 1, none⟩ (.slice xb R'.hist.length xd)).setCell ⟨w.heap.size + 1 + 1 + 1, 2, none⟩ (.slice xe R'.ev.length xf)).setCell ⟨w.heap.size + 1 + 1 + 1, 3, none⟩ (.slice xg R'.blk.length xh)).heap[BB + 1]? = some (.cells #[.string pf, .string pt, .slice pa pn pc] 40) from ⟨(hkY.block _ (lt_of_heap HS8.out.1) (by omega)).trans HS8.out.1, (hkY.block _ (lt_of_heap HS8.out.2.1) (by omega)).trans HS8.out.2.1, (hkY.block _ (lt_of_heap HS8.out.2.2) (by omega)).trans HS8.out.2.2⟩)
  iterate 3
    apply plan_act rfl
    try simp only [Act.put, List.setIfInBounds_toArray, List.set_cons_succ, List.set_cons_zero]
    go_wp2_with fail
    refine act_on HS9.out ?_
  apply plan_act rfl
  try simp only [Act.put, List.setIfInBounds_toArray, List.set_cons_succ, List.set_cons_zero]
  go_wp2_with fail
  refine act_late rfl ?_
  clear HS8 HS9
  refine plan_end (Good.normal ?_)
  try simp only [Act.put, List.setIfInBounds_toArray, List.set_cons_succ, List.set_cons_zero]
  clear u0 u1 u2 u3 uf ul hkY q4' t6
  generalize ((((w5'.setCell ⟨w.heap.size + 1 + 1 + 1, 0, none⟩ (.slice xa R'.all.length xc)).setCell ⟨w.heap.size + 1 + 1 + 1, 1, none⟩ (.slice xb R'.hist.length xd)).setCell ⟨w.heap.size + 1 + 1 + 1, 2, none⟩ (.slice xe R'.ev.length xf)).setCell ⟨w.heap.size + 1 + 1 + 1, 3, none⟩ (.slice xg R'.blk.length xh)) = w5 at q3 q4 r5 h5 t5 ⊢
  have hl' := hlk'.lim hok' (by omega)
  have hlR' := hok'.lim (by omega)
  have H5 : St (c + 1) w5 b N' D4 ⟨.slice xa R'.all.length xc, .slice xb R'.hist.length xd, .slice xe R'.ev.length xf, .slice xg R'.blk.length xh, ps5, hs5⟩ R' := ⟨r5, h5, hlk', hok', hap5⟩
  clear r5 h5 hap5
  have hfp5 := H5.rep.fp_lt
  have hrp5 := H5.ref.lt
  obtain ⟨u0, u1, u2, u3, uf, ul⟩ := blk4 q4
  obtain ⟨v0, v1, v2, v3, vf, vl⟩ := blk4 q3
  go_wp2_with fail
  apply wp_region_plan [.rd 0, .rd 1, .rd 2, .rd 3, .rd 4, .rd 5, .rd 6, .rd 7, .rd 8, .rd 9, .rd 10, .act 11, .rd 12, .act 13, .act 14, .act 15] [15] (fun w' => w'.heap[w.heap.size + 1 + 1 + 1]? = some (.cells #[.slice xa R'.all.length xc, .slice xb R'.hist.length xd, .slice xe R'.ev.length xf, .slice xg R'.blk.length xh] 35))
  case hm => kernel_rfl
  case hB => kernel_rfl
  case hS => exact q4
  intro W hW
  have hbW : Below w5.heap.size w5 W := by subst hW; exact (Below.refl _ _).drew
  clear hW
  iterate 11
    try simp only [Act.put, List.setIfInBounds_toArray, List.set_cons_succ, List.set_cons_zero]
    apply plan_rd rfl rfl
    · intro w' hS
      obtain ⟨y0, y1, y2, y3, _, _⟩ := blk4 hS
      go_simp
      try rfl
  have sW := (hbW.block _ (lt_of_heap q4)).trans q4
  have s3 := (hbW.block _ (lt_of_heap q3)).trans q3
  have HW := H5.below hbW
  clear u0 u1 u2 u3 uf ul v0 v1 v2 v3 vf vl q3 q4
  apply plan_act rfl
  try simp only [Act.put, List.setIfInBounds_toArray, List.set_cons_succ, List.set_cons_zero]
  go_wp2_with fail
  refine (agreesR_any _ R' b N' D4 W HW.rep hl' HW.ref hlR' hlk').mono ?_
  rintro e W2 ⟨rfl, hbl2⟩
  have hb2 := hbW.trans (hbl2.mono hbW.size)
  have sZ := (hbl2.block _ (lt_of_heap sW)).trans sW
  have s4 := (hbl2.block _ (lt_of_heap s3)).trans s3
  have H6 := HW.below hbl2
  clear hbW hbl2 sW s3 HW
  obtain ⟨v0, v1, v2, v3, vf, vl⟩ := blk4 s4
  go_wp2_with fail
  refine act_on sZ ?_
  apply plan_rd rfl rfl
  · intro w' hS
    go_simp
    try rfl
  try simp only [Act.put, List.setIfInBounds_toArray, List.set_cons_succ, List.set_cons_zero]
  apply plan_act rfl
  try simp only [Act.put, List.setIfInBounds_toArray, List.set_cons_succ, List.set_cons_zero]
  go_wp2_with fail
  refine act_on sZ ?_
  have hk4 : Kp (fun j => j = w.heap.size + 1 + 1) W2 ((((W2.setCell ⟨w.heap.size + 1 + 1, 0, none⟩ (.slice xa R'.all.length xc)).setCell ⟨w.heap.size + 1 + 1, 1, none⟩ (.slice xb R'.hist.length xd)).setCell ⟨w.heap.size + 1 + 1, 2, none⟩ (.slice xe R'.ev.length xf)).setCell ⟨w.heap.size + 1 + 1, 3, none⟩ (.slice xg R'.blk.length xh)) := ((((Kp.refl (fun j => j = w.heap.size + 1 + 1) W2).setCell (p := ⟨w.heap.size + 1 + 1, 0, none⟩) (fun _ => rfl) (.slice xa R'.all.length xc)).setCell (p := ⟨w.heap.size + 1 + 1, 1, none⟩) (fun _ => rfl) (.slice xb R'.hist.length xd)).setCell (p := ⟨w.heap.size + 1 + 1, 2, none⟩) (fun _ => rfl) (.slice xe R'.ev.length xf)).setCell (p := ⟨w.heap.size + 1 + 1, 3, none⟩) (fun _ => rfl) (.slice xg R'.blk.length xh)
  apply plan_act rfl
  try simp only [Act.put, List.setIfInBounds_toArray, List.set_cons_succ, List.set_cons_zero]
  go_wp2_with fail
  refine act_on ((hk4.block _ (lt_of_heap sZ) (by omega)).trans sZ) ?_
  apply plan_act rfl
  try simp only [Act.put, List.setIfInBounds_toArray, List.set_cons_succ, List.set_cons_zero]
  go_wp2_with fail
  refine act_late rfl ?_
  refine plan_end (Good.normal ?_)
  go_wp2_with fail
  refine bodyPost_ret (v := .tuple #[.pointer (some ⟨b, 0, none⟩), RefV.val ⟨.slice xa R'.all.length xc, .slice xb R'.hist.length xd, .slice xe R'.ev.length xf, .slice xg R'.blk.length xh, ps5, hs5⟩, .bool true]) (by simp [results, Try.results9, RefV.val, go_sem, v0, v1, v2, v3]) rfl ?_
  have hnf : ¬ fp D4 b (w.heap.size + 1 + 1) := fun hf => by
    rcases hfpD _ hf with e | e
    · have := hfar _ e; omega
    · omega
  refine ⟨_, D4, b, rfl, ⟨H6.rep.kp hk4 (fun k hf e => hnf (e ▸ hf)), H6.ref.same (fun k hr => hk4.block k (H6.ref.lt k hr) (fun e => H6.ref.notbox s4 (e ▸ hr))), hlk', hok', H6.ap⟩, ?_, t5.wr, hnw⟩
  exact ((t5.kp.below hb2 t5.kp.size).trans hk4 (fun k hk e => by omega))
end Go.Proofs.Ytnkcgalbaeppmaa
