/- The law's do: a call on a network and on the reference. -/
import Derived.Test.YtnkcgalbaeppmaaLa1
namespace Go.Proofs.Ytnkcgalbaeppmaa
open Go.RowKit
/-- What a step leaves. -/
def DoPost (c : Nat) (V : RefV) (D : ND) (b : Nat) (N' : NetM) (R' : RefM) (w : World) (e : Ending) (w' : World) : Prop :=
  ∃ V' D' b', e = .returned (.tuple #[.pointer (some ⟨b', 0, none⟩), RefV.val V', .bool true]) ∧ St (c + 1) w' b' N' D' V' R' ∧ Kp (wr D b) w w' ∧ (∀ k, wr D' b' k → wr D b k ∨ w.heap.size ≤ k) ∧ News V V' w.heap.size
set_option maxHeartbeats 3200000 in
set_option maxRecDepth 100000 in
theorem do7 (c : Nat) (V : RefV) (R : RefM) (b : Nat) (N : NetM) (D : ND) (x : AV) (m : Pk) (w : World) (h : St c w b N D V R) (hcc : c ≤ 30000) (hx : Src w b D x.p m) (hk : x.what = 7) :
    Calls Try.prog 9 #[.pointer (some ⟨b, 0, none⟩), V.val, x.val] w (DoPost c V D b (N.drop x.id).1 (R.drop x.id).1 w) := by
  have hl := h.lk.lim h.ok (by omega)
  have hf := h.lk.few h.ok
  have hlR := h.ok.lim (by omega)
  have hallR := h.ok.all
  have hblkR := h.ok.blk
  have hlk := h.lk
  have hok := h.ok
  obtain ⟨aa, ac, ha, hc, ea, ec, ba, bc, h1, h2, h3, h4⟩ := h.ref.forms
  obtain ⟨al, hi, ev, bl, ps, hs'⟩ := V
  simp only at h1 h2 h3 h4
  subst h1 h2 h3 h4
  simp only [RefV.val, AV.val]
  obtain ⟨e1, e2, e3, e4⟩ := top4 w (.cells #[.slice aa R.all.length ac, .slice ha R.hist.length hc, .slice ea R.ev.length ec, .slice ba R.blk.length bc] 35) (.cells #[.int .i64 x.what, .int .i64 x.id, .int .i64 x.off, .int .u8 x.mask, .string x.p.f, .string x.p.t, .slice x.p.ba x.p.bn x.p.bc] 42) (.cells #[.slice none 0 0, .slice none 0 0, .slice none 0 0, .slice none 0 0] 35) (.cells #[.slice aa R.all.length ac, .slice ha R.hist.length hc, .slice ea R.ev.length ec, .slice ba R.blk.length bc] 35)
  have hb1 : Below w.heap.size w ((((w.alloc (.cells #[.slice aa R.all.length ac, .slice ha R.hist.length hc, .slice ea R.ev.length ec, .slice ba R.blk.length bc] 35)).alloc (.cells #[.int .i64 x.what, .int .i64 x.id, .int .i64 x.off, .int .u8 x.mask, .string x.p.f, .string x.p.t, .slice x.p.ba x.p.bn x.p.bc] 42)).alloc (.cells #[.slice none 0 0, .slice none 0 0, .slice none 0 0, .slice none 0 0] 35)).alloc (.cells #[.slice aa R.all.length ac, .slice ha R.hist.length hc, .slice ea R.ev.length ec, .slice ba R.blk.length bc] 35)) := ((((Below.refl _ _).alloc (Nat.le_refl _) _).alloc (by simp) _).alloc (by simp; omega) _).alloc (by simp; omega) _
  have hfar : ∀ k, fp D b k → k < w.heap.size := h.rep.fp_lt
  have hk0 : (x.what == 0) = false := by simp [hk]
  have hk1 : (x.what == 1) = false := by simp [hk]
  have hk2 : (x.what == 2) = false := by simp [hk]
  have hk3 : (x.what == 3) = false := by simp [hk]
  have hk4 : (x.what == 4) = false := by simp [hk]
  have hk5 : (x.what == 5) = false := by simp [hk]
  have hk6 : (x.what == 6) = false := by simp [hk]
  have hk7 : (x.what == 7) = true := by simp [hk]
  have hk8 : (x.what == 8) = false := by simp [hk]
  have hk9 : (x.what == 9) = false := by simp [hk]
  have hk10 : (x.what == 10) = false := by simp [hk]
  have hk11 : (x.what == 11) = false := by simp [hk]
  clear hk
  obtain ⟨N', hN'⟩ : ∃ N', N' = (N.drop x.id).1 := ⟨_, rfl⟩
  obtain ⟨⟨R', rer⟩, hRR⟩ : ∃ RR, RR = R.drop x.id := ⟨_, rfl⟩
  rw [← hN', ← hRR]
  have HN := Lib.hid hN'
  have HR := Lib.hid hRR
  clear hN' hRR
  dsimp only
  go_enter Try.func9, Try.ntmps9
  go_wp2_with fail
  generalize (((w.alloc (.cells #[.slice aa R.all.length ac, .slice ha R.hist.length hc, .slice ea R.ev.length ec, .slice ba R.blk.length bc] 35)).alloc (.cells #[.int .i64 x.what, .int .i64 x.id, .int .i64 x.off, .int .u8 x.mask, .string x.p.f, .string x.p.t, .slice x.p.ba x.p.bn x.p.bc] 42)).alloc (.cells #[.slice none 0 0, .slice none 0 0, .slice none 0 0, .slice none 0 0] 35)).alloc (.cells #[.slice aa R.all.length ac, .slice ha R.hist.length hc, .slice ea R.ev.length ec, .slice ba R.blk.length bc] 35) = w1 at e1 e2 e3 e4 hb1 ⊢
  have hw1 := lt_of_heap e4
  have hfp1 : ∀ k, w.heap.size ≤ k → ¬ wr D b k := fun k h1 h3 => by have := hfar k (.inl h3); omega
  obtain ⟨c0, c1, c2, c3, c4, c5, c6, cl⟩ := blk7 e2
  go_wp2_with fail
  have hx1 : PIn w1 x.p m := hx.src.pin.below hb1 (Nat.le_refl _)
  refine (drop_any b N D x.id w1 c (h.rep.below hb1 (Nat.le_refl _)) hl hf (by omega)).mono ?_
  rintro e w4 ⟨rfl, D4, r4, t4⟩
  have k1 := (t4.kp.block _ (lt_of_heap e1) (hfp1 _ (by omega))).trans e1
  have k2 := (t4.kp.block _ (lt_of_heap e2) (hfp1 _ (by omega))).trans e2
  have k3 := (t4.kp.block _ (lt_of_heap e3) (hfp1 _ (by omega))).trans e3
  have k4 := (t4.kp.block _ (lt_of_heap e4) (hfp1 _ (by omega))).trans e4
  have hV4 := (h.ref.below hb1 (Nat.le_refl _)).same (fun k hk => t4.kp.block k (by have := h.ref.lt k hk; have := hb1.size; omega) (h.ap k hk))
  have t3 : Turns D D4 b w w4 := Turns.of_below' hb1 t4
  have hfpD : ∀ k, fp D4 b k → fp D b k ∨ w1.heap.size ≤ k := t4.fp
  have hwr4 : ∀ k, wr D4 b k → wr D b k ∨ w1.heap.size ≤ k := t4.wr
  have hs14 : w1.heap.size ≤ w4.heap.size := t4.kp.size
  have h4fp : ∀ k, fp D4 b k → k < w4.heap.size := r4.fp_lt
  clear e1 e2 e3 e4 hb1 t4 c0 c1 c2 c3 c4 c5 c6 cl
  obtain ⟨c0, c1, c2, c3, c4, c5, c6, cl⟩ := blk7 k2
  obtain ⟨y0, y1, y2, y3, _, _⟩ := blk4 k1
  go_wp2_with fail
  refine (dropR_any _ R x.id w4 hV4 hlR).mono ?_
  rintro e w5 ⟨⟨al5, hi5, ev5, bl5, ps5, hs5⟩, rfl, h5, hbl5, hnw0⟩
  have hnw1 := hnw0.mono hs14
  have hnw : News ⟨.slice aa R.all.length ac, .slice ha R.hist.length hc, .slice ea R.ev.length ec, .slice ba R.blk.length bc, ps, hs'⟩ ⟨al5, hi5, ev5, bl5, ps5, hs5⟩ w.heap.size := hnw0.mono (by omega)
  have hap5 : ∀ k, rp ⟨al5, hi5, ev5, bl5, ps5, hs5⟩ k → ¬ wr D4 b k := fun k hr hw => by
    rcases hnw0 k hr with e | e
    · rcases hwr4 k hw with e' | e'
      · exact h.ap k e e'
      · have := h.ref.lt k e; omega
    · have := h4fp k (.inl hw); omega
  obtain ⟨xa, xc, xb, xd, xe, xf, xg, xh, z1, z2, z3, z4⟩ := h5.forms
  simp only at z1 z2 z3 z4
  subst z1 z2 z3 z4
  simp only [RefV.val]
  have q3 := (hbl5.block _ (lt_of_heap k3)).trans k3
  have q4' := (hbl5.block _ (lt_of_heap k4)).trans k4
  have r5 := r4.below hbl5 (Nat.le_refl _)
  have t5 := t3.below hbl5
  have hs45 : w4.heap.size ≤ w5.heap.size := hbl5.size
  clear c0 c1 c2 c3 c4 c5 c6 cl y0 y1 y2 y3 k1 k2 k3 k4 hV4 t3 hbl5 hnw0 hnw1 r4
  have hok' := hok.drop x.id
  obtain ⟨hlk', hres⟩ := hlk.drop x.id
  rw [hres]
  rw [← HN.out] at r5 hlk'
  rw [← HR.out] at h5 hnw hap5 hok' hlk'
  simp only at h5 hnw hap5 hok' hlk'
  rw [← HR.out]
  dsimp only
  clear hres
  obtain ⟨u0, u1, u2, u3, uf, ul⟩ := blk4 q4'
  have hkY := ((((Kp.refl (fun j => j = w.heap.size + 1 + 1 + 1) w5).setCell (p := ⟨w.heap.size + 1 + 1 + 1, 0, none⟩) (fun _ => rfl) (.slice xa R'.all.length xc)).setCell (p := ⟨w.heap.size + 1 + 1 + 1, 1, none⟩) (fun _ => rfl) (.slice xb R'.hist.length xd)).setCell (p := ⟨w.heap.size + 1 + 1 + 1, 2, none⟩) (fun _ => rfl) (.slice xe R'.ev.length xf)).setCell (p := ⟨w.heap.size + 1 + 1 + 1, 3, none⟩) (fun _ => rfl) (.slice xg R'.blk.length xh)
  have q4 : ((((w5.setCell ⟨w.heap.size + 1 + 1 + 1, 0, none⟩ (.slice xa R'.all.length xc)).setCell ⟨w.heap.size + 1 + 1 + 1, 1, none⟩ (.slice xb R'.hist.length xd)).setCell ⟨w.heap.size + 1 + 1 + 1, 2, none⟩ (.slice xe R'.ev.length xf)).setCell ⟨w.heap.size + 1 + 1 + 1, 3, none⟩ (.slice xg R'.blk.length xh)).heap[w.heap.size + 1 + 1 + 1]? = some (.cells #[.slice xa R'.all.length xc, .slice xb R'.hist.length xd, .slice xe R'.ev.length xf, .slice xg R'.blk.length xh] 35) := by simp [World.setCell, Array.getElem?_modify, q4']
  replace q3 := (hkY.block _ (lt_of_heap q3) (by omega)).trans q3
  have hnfY : ¬ fp D4 b (w.heap.size + 1 + 1 + 1) := fun hf => by
    rcases hfpD _ hf with e | e
    · have := hfar _ e; omega
    · omega
  replace r5 := r5.kp hkY (fun k hf e => hnfY (e ▸ hf))
  replace h5 := h5.same (fun k hr => hkY.block k (h5.lt k hr) (fun e => h5.notbox q4' (e ▸ hr)))
  have t6 : Kp (wr D b) w ((((w5.setCell ⟨w.heap.size + 1 + 1 + 1, 0, none⟩ (.slice xa R'.all.length xc)).setCell ⟨w.heap.size + 1 + 1 + 1, 1, none⟩ (.slice xb R'.hist.length xd)).setCell ⟨w.heap.size + 1 + 1 + 1, 2, none⟩ (.slice xe R'.ev.length xf)).setCell ⟨w.heap.size + 1 + 1 + 1, 3, none⟩ (.slice xg R'.blk.length xh)) := t5.kp.trans hkY (fun k hk e => by omega)
  replace t5 : Turns D D4 b w ((((w5.setCell ⟨w.heap.size + 1 + 1 + 1, 0, none⟩ (.slice xa R'.all.length xc)).setCell ⟨w.heap.size + 1 + 1 + 1, 1, none⟩ (.slice xb R'.hist.length xd)).setCell ⟨w.heap.size + 1 + 1 + 1, 2, none⟩ (.slice xe R'.ev.length xf)).setCell ⟨w.heap.size + 1 + 1 + 1, 3, none⟩ (.slice xg R'.blk.length xh)) := ⟨t6, t5.wr, t5.hp⟩
  go_wp2_with fail
  clear u0 u1 u2 u3 uf ul hkY q4' t6
  generalize ((((w5.setCell ⟨w.heap.size + 1 + 1 + 1, 0, none⟩ (.slice xa R'.all.length xc)).setCell ⟨w.heap.size + 1 + 1 + 1, 1, none⟩ (.slice xb R'.hist.length xd)).setCell ⟨w.heap.size + 1 + 1 + 1, 2, none⟩ (.slice xe R'.ev.length xf)).setCell ⟨w.heap.size + 1 + 1 + 1, 3, none⟩ (.slice xg R'.blk.length xh)) = w5 at q3 q4 r5 h5 t5 ⊢
  have hl' := hlk'.lim hok' (by omega)
  have hlR' := hok'.lim (by omega)
  have H5 : St (c + 1) w5 b N' D4 ⟨.slice xa R'.all.length xc, .slice xb R'.hist.length xd, .slice xe R'.ev.length xf, .slice xg R'.blk.length xh, ps5, hs5⟩ R' := ⟨r5, h5, hlk', hok', hap5⟩
  clear r5 h5 hap5
  have hfp5 := H5.rep.fp_lt
  have hrp5 := H5.ref.lt
  obtain ⟨u0, u1, u2, u3, uf, ul⟩ := blk4 q4
  obtain ⟨v0, v1, v2, v3, vf, vl⟩ := blk4 q3
  go_wp2_with fail
  apply wp_region_plan [.rd 0, .rd 1, .rd 2, .rd 3, .rd 4, .rd 5, .rd 6, .rd 7, .rd 8, .rd 9, .rd 10, .act 11, .rd 12, .act 13, .act 14, .act 15] [15] (fun w' => w'.heap[w.heap.size + 1 + 1 + 1]? = some (.cells #[.slice xa R'.all.length xc, .slice xb R'.hist.length xd, .slice xe R'.ev.length xf, .slice xg R'.blk.length xh] 35))
  case hm => kernel_rfl
  case hB => kernel_rfl
  case hS => exact q4
  intro W hW
  have hbW : Below w5.heap.size w5 W := by subst hW; exact (Below.refl _ _).drew
  clear hW
  iterate 11
    try simp only [Act.put, List.setIfInBounds_toArray, List.set_cons_succ, List.set_cons_zero]
    apply plan_rd rfl rfl
    · intro w' hS
      obtain ⟨y0, y1, y2, y3, _, _⟩ := blk4 hS
      go_simp
      try rfl
  have sW := (hbW.block _ (lt_of_heap q4)).trans q4
  have s3 := (hbW.block _ (lt_of_heap q3)).trans q3
  have HW := H5.below hbW
  clear u0 u1 u2 u3 uf ul v0 v1 v2 v3 vf vl q3 q4
  apply plan_act rfl
  try simp only [Act.put, List.setIfInBounds_toArray, List.set_cons_succ, List.set_cons_zero]
  go_wp2_with fail
  refine (agreesR_any _ R' b N' D4 W HW.rep hl' HW.ref hlR' hlk').mono ?_
  rintro e W2 ⟨rfl, hbl2⟩
  have hb2 := hbW.trans (hbl2.mono hbW.size)
  have sZ := (hbl2.block _ (lt_of_heap sW)).trans sW
  have s4 := (hbl2.block _ (lt_of_heap s3)).trans s3
  have H6 := HW.below hbl2
  clear hbW hbl2 sW s3 HW
  obtain ⟨v0, v1, v2, v3, vf, vl⟩ := blk4 s4
  go_wp2_with fail
  refine act_on sZ ?_
  apply plan_rd rfl rfl
  · intro w' hS
    go_simp
    try rfl
  try simp only [Act.put, List.setIfInBounds_toArray, List.set_cons_succ, List.set_cons_zero]
  apply plan_act rfl
  try simp only [Act.put, List.setIfInBounds_toArray, List.set_cons_succ, List.set_cons_zero]
  go_wp2_with fail
  refine act_on sZ ?_
  have hk4 : Kp (fun j => j = w.heap.size + 1 + 1) W2 ((((W2.setCell ⟨w.heap.size + 1 + 1, 0, none⟩ (.slice xa R'.all.length xc)).setCell ⟨w.heap.size + 1 + 1, 1, none⟩ (.slice xb R'.hist.length xd)).setCell ⟨w.heap.size + 1 + 1, 2, none⟩ (.slice xe R'.ev.length xf)).setCell ⟨w.heap.size + 1 + 1, 3, none⟩ (.slice xg R'.blk.length xh)) := ((((Kp.refl (fun j => j = w.heap.size + 1 + 1) W2).setCell (p := ⟨w.heap.size + 1 + 1, 0, none⟩) (fun _ => rfl) (.slice xa R'.all.length xc)).setCell (p := ⟨w.heap.size + 1 + 1, 1, none⟩) (fun _ => rfl) (.slice xb R'.hist.length xd)).setCell (p := ⟨w.heap.size + 1 + 1, 2, none⟩) (fun _ => rfl) (.slice xe R'.ev.length xf)).setCell (p := ⟨w.heap.size + 1 + 1, 3, none⟩) (fun _ => rfl) (.slice xg R'.blk.length xh)
  apply plan_act rfl
  try simp only [Act.put, List.setIfInBounds_toArray, List.set_cons_succ, List.set_cons_zero]
  go_wp2_with fail
  refine act_on ((hk4.block _ (lt_of_heap sZ) (by omega)).trans sZ) ?_
  apply plan_act rfl
  try simp only [Act.put, List.setIfInBounds_toArray, List.set_cons_succ, List.set_cons_zero]
  go_wp2_with fail
  refine act_late rfl ?_
  refine plan_end (Good.normal ?_)
  go_wp2_with fail
  refine bodyPost_ret (v := .tuple #[.pointer (some ⟨b, 0, none⟩), RefV.val ⟨.slice xa R'.all.length xc, .slice xb R'.hist.length xd, .slice xe R'.ev.length xf, .slice xg R'.blk.length xh, ps5, hs5⟩, .bool true]) (by simp [results, Try.results9, RefV.val, go_sem, v0, v1, v2, v3]) rfl ?_
  have hnf : ¬ fp D4 b (w.heap.size + 1 + 1) := fun hf => by
    rcases hfpD _ hf with e | e
    · have := hfar _ e; omega
    · omega
  refine ⟨_, D4, b, rfl, ⟨H6.rep.kp hk4 (fun k hf e => hnf (e ▸ hf)), H6.ref.same (fun k hr => hk4.block k (H6.ref.lt k hr) (fun e => H6.ref.notbox s4 (e ▸ hr))), hlk', hok', H6.ap⟩, ?_, t5.wr, hnw⟩
  exact ((t5.kp.below hb2 t5.kp.size).trans hk4 (fun k hk e => by omega))
set_option maxHeartbeats 3200000 in
set_option maxRecDepth 100000 in
theorem do8 (c : Nat) (V : RefV) (R : RefM) (b : Nat) (N : NetM) (D : ND) (x : AV) (m : Pk) (w : World) (h : St c w b N D V R) (hcc : c ≤ 30000) (hx : Src w b D x.p m) (hk : x.what = 8) :
    Calls Try.prog 9 #[.pointer (some ⟨b, 0, none⟩), V.val, x.val] w (DoPost c V D b (N.alter x.id x.off x.mask).1 (R.alter x.id x.off x.mask).1 w) := by
  have hl := h.lk.lim h.ok (by omega)
  have hf := h.lk.few h.ok
  have hlR := h.ok.lim (by omega)
  have hallR := h.ok.all
  have hblkR := h.ok.blk
  have hlk := h.lk
  have hok := h.ok
  obtain ⟨aa, ac, ha, hc, ea, ec, ba, bc, h1, h2, h3, h4⟩ := h.ref.forms
  obtain ⟨al, hi, ev, bl, ps, hs'⟩ := V
  simp only at h1 h2 h3 h4
  subst h1 h2 h3 h4
  simp only [RefV.val, AV.val]
  obtain ⟨e1, e2, e3, e4⟩ := top4 w (.cells #[.slice aa R.all.length ac, .slice ha R.hist.length hc, .slice ea R.ev.length ec, .slice ba R.blk.length bc] 35) (.cells #[.int .i64 x.what, .int .i64 x.id, .int .i64 x.off, .int .u8 x.mask, .string x.p.f, .string x.p.t, .slice x.p.ba x.p.bn x.p.bc] 42) (.cells #[.slice none 0 0, .slice none 0 0, .slice none 0 0, .slice none 0 0] 35) (.cells #[.slice aa R.all.length ac, .slice ha R.hist.length hc, .slice ea R.ev.length ec, .slice ba R.blk.length bc] 35)
  have hb1 : Below w.heap.size w ((((w.alloc (.cells #[.slice aa R.all.length ac, .slice ha R.hist.length hc, .slice ea R.ev.length ec, .slice ba R.blk.length bc] 35)).alloc (.cells #[.int .i64 x.what, .int .i64 x.id, .int .i64 x.off, .int .u8 x.mask, .string x.p.f, .string x.p.t, .slice x.p.ba x.p.bn x.p.bc] 42)).alloc (.cells #[.slice none 0 0, .slice none 0 0, .slice none 0 0, .slice none 0 0] 35)).alloc (.cells #[.slice aa R.all.length ac, .slice ha R.hist.length hc, .slice ea R.ev.length ec, .slice ba R.blk.length bc] 35)) := ((((Below.refl _ _).alloc (Nat.le_refl _) _).alloc (by simp) _).alloc (by simp; omega) _).alloc (by simp; omega) _
  have hfar : ∀ k, fp D b k → k < w.heap.size := h.rep.fp_lt
  have hk0 : (x.what == 0) = false := by simp [hk]
  have hk1 : (x.what == 1) = false := by simp [hk]
  have hk2 : (x.what == 2) = false := by simp [hk]
  have hk3 : (x.what == 3) = false := by simp [hk]
  have hk4 : (x.what == 4) = false := by simp [hk]
  have hk5 : (x.what == 5) = false := by simp [hk]
  have hk6 : (x.what == 6) = false := by simp [hk]
  have hk7 : (x.what == 7) = false := by simp [hk]
  have hk8 : (x.what == 8) = true := by simp [hk]
  have hk9 : (x.what == 9) = false := by simp [hk]
  have hk10 : (x.what == 10) = false := by simp [hk]
  have hk11 : (x.what == 11) = false := by simp [hk]
  clear hk
  obtain ⟨N', hN'⟩ : ∃ N', N' = (N.alter x.id x.off x.mask).1 := ⟨_, rfl⟩
  obtain ⟨⟨R', rer⟩, hRR⟩ : ∃ RR, RR = R.alter x.id x.off x.mask := ⟨_, rfl⟩
  rw [← hN', ← hRR]
  have HN := Lib.hid hN'
  have HR := Lib.hid hRR
  clear hN' hRR
  dsimp only
  go_enter Try.func9, Try.ntmps9
  go_wp2_with fail
  generalize (((w.alloc (.cells #[.slice aa R.all.length ac, .slice ha R.hist.length hc, .slice ea R.ev.length ec, .slice ba R.blk.length bc] 35)).alloc (.cells #[.int .i64 x.what, .int .i64 x.id, .int .i64 x.off, .int .u8 x.mask, .string x.p.f, .string x.p.t, .slice x.p.ba x.p.bn x.p.bc] 42)).alloc (.cells #[.slice none 0 0, .slice none 0 0, .slice none 0 0, .slice none 0 0] 35)).alloc (.cells #[.slice aa R.all.length ac, .slice ha R.hist.length hc, .slice ea R.ev.length ec, .slice ba R.blk.length bc] 35) = w1 at e1 e2 e3 e4 hb1 ⊢
  have hw1 := lt_of_heap e4
  have hfp1 : ∀ k, w.heap.size ≤ k → ¬ wr D b k := fun k h1 h3 => by have := hfar k (.inl h3); omega
  obtain ⟨c0, c1, c2, c3, c4, c5, c6, cl⟩ := blk7 e2
  go_wp2_with fail
  have hx1 : PIn w1 x.p m := hx.src.pin.below hb1 (Nat.le_refl _)
  refine (alter_any b N D x.id x.off x.mask w1 c (h.rep.below hb1 (Nat.le_refl _)) hl hf (by omega)).mono ?_
  rintro e w4 ⟨rfl, D4, r4, t4⟩
  have k1 := (t4.kp.block _ (lt_of_heap e1) (hfp1 _ (by omega))).trans e1
  have k2 := (t4.kp.block _ (lt_of_heap e2) (hfp1 _ (by omega))).trans e2
  have k3 := (t4.kp.block _ (lt_of_heap e3) (hfp1 _ (by omega))).trans e3
  have k4 := (t4.kp.block _ (lt_of_heap e4) (hfp1 _ (by omega))).trans e4
  have hV4 := (h.ref.below hb1 (Nat.le_refl _)).same (fun k hk => t4.kp.block k (by have := h.ref.lt k hk; have := hb1.size; omega) (h.ap k hk))
  have t3 : Turns D D4 b w w4 := Turns.of_below' hb1 t4
  have hfpD : ∀ k, fp D4 b k → fp D b k ∨ w1.heap.size ≤ k := t4.fp
  have hwr4 : ∀ k, wr D4 b k → wr D b k ∨ w1.heap.size ≤ k := t4.wr
  have hs14 : w1.heap.size ≤ w4.heap.size := t4.kp.size
  have h4fp : ∀ k, fp D4 b k → k < w4.heap.size := r4.fp_lt
  clear e1 e2 e3 e4 hb1 t4 c0 c1 c2 c3 c4 c5 c6 cl
  obtain ⟨c0, c1, c2, c3, c4, c5, c6, cl⟩ := blk7 k2
  obtain ⟨y0, y1, y2, y3, _, _⟩ := blk4 k1
  go_wp2_with fail
  refine (alterR_any _ R x.id x.off x.mask w4 hV4 hlR).mono ?_
  rintro e w5 ⟨⟨al5, hi5, ev5, bl5, ps5, hs5⟩, rfl, h5, hbl5, hnw0⟩
  have hnw1 := hnw0.mono hs14
  have hnw : News ⟨.slice aa R.all.length ac, .slice ha R.hist.length hc, .slice ea R.ev.length ec, .slice ba R.blk.length bc, ps, hs'⟩ ⟨al5, hi5, ev5, bl5, ps5, hs5⟩ w.heap.size := hnw0.mono (by omega)
  have hap5 : ∀ k, rp ⟨al5, hi5, ev5, bl5, ps5, hs5⟩ k → ¬ wr D4 b k := fun k hr hw => by
    rcases hnw0 k hr with e | e
    · rcases hwr4 k hw with e' | e'
      · exact h.ap k e e'
      · have := h.ref.lt k e; omega
    · have := h4fp k (.inl hw); omega
  obtain ⟨xa, xc, xb, xd, xe, xf, xg, xh, z1, z2, z3, z4⟩ := h5.forms
  simp only at z1 z2 z3 z4
  subst z1 z2 z3 z4
  simp only [RefV.val]
  have q3 := (hbl5.block _ (lt_of_heap k3)).trans k3
  have q4' := (hbl5.block _ (lt_of_heap k4)).trans k4
  have r5 := r4.below hbl5 (Nat.le_refl _)
  have t5 := t3.below hbl5
  have hs45 : w4.heap.size ≤ w5.heap.size := hbl5.size
  clear c0 c1 c2 c3 c4 c5 c6 cl y0 y1 y2 y3 k1 k2 k3 k4 hV4 t3 hbl5 hnw0 hnw1 r4
  have hok' := hok.alter x.id x.off x.mask
  obtain ⟨hlk', hres⟩ := hlk.alter x.id x.off x.mask
  rw [hres]
  rw [← HN.out] at r5 hlk'
  rw [← HR.out] at h5 hnw hap5 hok' hlk'
  simp only at h5 hnw hap5 hok' hlk'
  rw [← HR.out]
  dsimp only
  clear hres
  obtain ⟨u0, u1, u2, u3, uf, ul⟩ := blk4 q4'
  have hkY := ((((Kp.refl (fun j => j = w.heap.size + 1 + 1 + 1) w5).setCell (p := ⟨w.heap.size + 1 + 1 + 1, 0, none⟩) (fun _ => rfl) (.slice xa R'.all.length xc)).setCell (p := ⟨w.heap.size + 1 + 1 + 1, 1, none⟩) (fun _ => rfl) (.slice xb R'.hist.length xd)).setCell (p := ⟨w.heap.size + 1 + 1 + 1, 2, none⟩) (fun _ => rfl) (.slice xe R'.ev.length xf)).setCell (p := ⟨w.heap.size + 1 + 1 + 1, 3, none⟩) (fun _ => rfl) (.slice xg R'.blk.length xh)
  have q4 : ((((w5.setCell ⟨w.heap.size + 1 + 1 + 1, 0, none⟩ (.slice xa R'.all.length xc)).setCell ⟨w.heap.size + 1 + 1 + 1, 1, none⟩ (.slice xb R'.hist.length xd)).setCell ⟨w.heap.size + 1 + 1 + 1, 2, none⟩ (.slice xe R'.ev.length xf)).setCell ⟨w.heap.size + 1 + 1 + 1, 3, none⟩ (.slice xg R'.blk.length xh)).heap[w.heap.size + 1 + 1 + 1]? = some (.cells #[.slice xa R'.all.length xc, .slice xb R'.hist.length xd, .slice xe R'.ev.length xf, .slice xg R'.blk.length xh] 35) := by simp [World.setCell, Array.getElem?_modify, q4']
  replace q3 := (hkY.block _ (lt_of_heap q3) (by omega)).trans q3
  have hnfY : ¬ fp D4 b (w.heap.size + 1 + 1 + 1) := fun hf => by
    rcases hfpD _ hf with e | e
    · have := hfar _ e; omega
    · omega
  replace r5 := r5.kp hkY (fun k hf e => hnfY (e ▸ hf))
  replace h5 := h5.same (fun k hr => hkY.block k (h5.lt k hr) (fun e => h5.notbox q4' (e ▸ hr)))
  have t6 : Kp (wr D b) w ((((w5.setCell ⟨w.heap.size + 1 + 1 + 1, 0, none⟩ (.slice xa R'.all.length xc)).setCell ⟨w.heap.size + 1 + 1 + 1, 1, none⟩ (.slice xb R'.hist.length xd)).setCell ⟨w.heap.size + 1 + 1 + 1, 2, none⟩ (.slice xe R'.ev.length xf)).setCell ⟨w.heap.size + 1 + 1 + 1, 3, none⟩ (.slice xg R'.blk.length xh)) := t5.kp.trans hkY (fun k hk e => by omega)
  replace t5 : Turns D D4 b w ((((w5.setCell ⟨w.heap.size + 1 + 1 + 1, 0, none⟩ (.slice xa R'.all.length xc)).setCell ⟨w.heap.size + 1 + 1 + 1, 1, none⟩ (.slice xb R'.hist.length xd)).setCell ⟨w.heap.size + 1 + 1 + 1, 2, none⟩ (.slice xe R'.ev.length xf)).setCell ⟨w.heap.size + 1 + 1 + 1, 3, none⟩ (.slice xg R'.blk.length xh)) := ⟨t6, t5.wr, t5.hp⟩
  go_wp2_with fail
  clear u0 u1 u2 u3 uf ul hkY q4' t6
  generalize ((((w5.setCell ⟨w.heap.size + 1 + 1 + 1, 0, none⟩ (.slice xa R'.all.length xc)).setCell ⟨w.heap.size + 1 + 1 + 1, 1, none⟩ (.slice xb R'.hist.length xd)).setCell ⟨w.heap.size + 1 + 1 + 1, 2, none⟩ (.slice xe R'.ev.length xf)).setCell ⟨w.heap.size + 1 + 1 + 1, 3, none⟩ (.slice xg R'.blk.length xh)) = w5 at q3 q4 r5 h5 t5 ⊢
  have hl' := hlk'.lim hok' (by omega)
  have hlR' := hok'.lim (by omega)
  have H5 : St (c + 1) w5 b N' D4 ⟨.slice xa R'.all.length xc, .slice xb R'.hist.length xd, .slice xe R'.ev.length xf, .slice xg R'.blk.length xh, ps5, hs5⟩ R' := ⟨r5, h5, hlk', hok', hap5⟩
  clear r5 h5 hap5
  have hfp5 := H5.rep.fp_lt
  have hrp5 := H5.ref.lt
  obtain ⟨u0, u1, u2, u3, uf, ul⟩ := blk4 q4
  obtain ⟨v0, v1, v2, v3, vf, vl⟩ := blk4 q3
  go_wp2_with fail
  apply wp_region_plan [.rd 0, .rd 1, .rd 2, .rd 3, .rd 4, .rd 5, .rd 6, .rd 7, .rd 8, .rd 9, .rd 10, .act 11, .rd 12, .act 13, .act 14, .act 15] [15] (fun w' => w'.heap[w.heap.size + 1 + 1 + 1]? = some (.cells #[.slice xa R'.all.length xc, .slice xb R'.hist.length xd, .slice xe R'.ev.length xf, .slice xg R'.blk.length xh] 35))
  case hm => kernel_rfl
  case hB => kernel_rfl
  case hS => exact q4
  intro W hW
  have hbW : Below w5.heap.size w5 W := by subst hW; exact (Below.refl _ _).drew
  clear hW
  iterate 11
    try simp only [Act.put, List.setIfInBounds_toArray, List.set_cons_succ, List.set_cons_zero]
    apply plan_rd rfl rfl
    · intro w' hS
      obtain ⟨y0, y1, y2, y3, _, _⟩ := blk4 hS
      go_simp
      try rfl
  have sW := (hbW.block _ (lt_of_heap q4)).trans q4
  have s3 := (hbW.block _ (lt_of_heap q3)).trans q3
  have HW := H5.below hbW
  clear u0 u1 u2 u3 uf ul v0 v1 v2 v3 vf vl q3 q4
  apply plan_act rfl
  try simp only [Act.put, List.setIfInBounds_toArray, List.set_cons_succ, List.set_cons_zero]
  go_wp2_with fail
  refine (agreesR_any _ R' b N' D4 W HW.rep hl' HW.ref hlR' hlk').mono ?_
  rintro e W2 ⟨rfl, hbl2⟩
  have hb2 := hbW.trans (hbl2.mono hbW.size)
  have sZ := (hbl2.block _ (lt_of_heap sW)).trans sW
  have s4 := (hbl2.block _ (lt_of_heap s3)).trans s3
  have H6 := HW.below hbl2
  clear hbW hbl2 sW s3 HW
  obtain ⟨v0, v1, v2, v3, vf, vl⟩ := blk4 s4
  go_wp2_with fail
  refine act_on sZ ?_
  apply plan_rd rfl rfl
  · intro w' hS
    go_simp
    try rfl
  try simp only [Act.put, List.setIfInBounds_toArray, List.set_cons_succ, List.set_cons_zero]
  apply plan_act rfl
  try simp only [Act.put, List.setIfInBounds_toArray, List.set_cons_succ, List.set_cons_zero]
  go_wp2_with fail
  refine act_on sZ ?_
  have hk4 : Kp (fun j => j = w.heap.size + 1 + 1) W2 ((((W2.setCell ⟨w.heap.size + 1 + 1, 0, none⟩ (.slice xa R'.all.length xc)).setCell ⟨w.heap.size + 1 + 1, 1, none⟩ (.slice xb R'.hist.length xd)).setCell ⟨w.heap.size + 1 + 1, 2, none⟩ (.slice xe R'.ev.length xf)).setCell ⟨w.heap.size + 1 + 1, 3, none⟩ (.slice xg R'.blk.length xh)) := ((((Kp.refl (fun j => j = w.heap.size + 1 + 1) W2).setCell (p := ⟨w.heap.size + 1 + 1, 0, none⟩) (fun _ => rfl) (.slice xa R'.all.length xc)).setCell (p := ⟨w.heap.size + 1 + 1, 1, none⟩) (fun _ => rfl) (.slice xb R'.hist.length xd)).setCell (p := ⟨w.heap.size + 1 + 1, 2, none⟩) (fun _ => rfl) (.slice xe R'.ev.length xf)).setCell (p := ⟨w.heap.size + 1 + 1, 3, none⟩) (fun _ => rfl) (.slice xg R'.blk.length xh)
  apply plan_act rfl
  try simp only [Act.put, List.setIfInBounds_toArray, List.set_cons_succ, List.set_cons_zero]
  go_wp2_with fail
  refine act_on ((hk4.block _ (lt_of_heap sZ) (by omega)).trans sZ) ?_
  apply plan_act rfl
  try simp only [Act.put, List.setIfInBounds_toArray, List.set_cons_succ, List.set_cons_zero]
  go_wp2_with fail
  refine act_late rfl ?_
  refine plan_end (Good.normal ?_)
  go_wp2_with fail
  refine bodyPost_ret (v := .tuple #[.pointer (some ⟨b, 0, none⟩), RefV.val ⟨.slice xa R'.all.length xc, .slice xb R'.hist.length xd, .slice xe R'.ev.length xf, .slice xg R'.blk.length xh, ps5, hs5⟩, .bool true]) (by simp [results, Try.results9, RefV.val, go_sem, v0, v1, v2, v3]) rfl ?_
  have hnf : ¬ fp D4 b (w.heap.size + 1 + 1) := fun hf => by
    rcases hfpD _ hf with e | e
    · have := hfar _ e; omega
    · omega
  refine ⟨_, D4, b, rfl, ⟨H6.rep.kp hk4 (fun k hf e => hnf (e ▸ hf)), H6.ref.same (fun k hr => hk4.block k (H6.ref.lt k hr) (fun e => H6.ref.notbox s4 (e ▸ hr))), hlk', hok', H6.ap⟩, ?_, t5.wr, hnw⟩
  exact ((t5.kp.below hb2 t5.kp.size).trans hk4 (fun k hk e => by omega))
set_option maxHeartbeats 3200000 in
set_option maxRecDepth 100000 in
theorem do9 (c : Nat) (V : RefV) (R : RefM) (b : Nat) (N : NetM) (D : ND) (x : AV) (m : Pk) (w : World) (h : St c w b N D V R) (hcc : c ≤ 30000) (hx : Src w b D x.p m) (hk : x.what = 9) :
    Calls Try.prog 9 #[.pointer (some ⟨b, 0, none⟩), V.val, x.val] w (DoPost c V D b (N.redirect x.id x.p.t).1 (R.redirect x.id x.p.t).1 w) := by
  have hl := h.lk.lim h.ok (by omega)
  have hf := h.lk.few h.ok
  have hlR := h.ok.lim (by omega)
  have hallR := h.ok.all
  have hblkR := h.ok.blk
  have hlk := h.lk
  have hok := h.ok
  obtain ⟨aa, ac, ha, hc, ea, ec, ba, bc, h1, h2, h3, h4⟩ := h.ref.forms
  obtain ⟨al, hi, ev, bl, ps, hs'⟩ := V
  simp only at h1 h2 h3 h4
  subst h1 h2 h3 h4
  simp only [RefV.val, AV.val]
  obtain ⟨e1, e2, e3, e4⟩ := top4 w (.cells #[.slice aa R.all.length ac, .slice ha R.hist.length hc, .slice ea R.ev.length ec, .slice ba R.blk.length bc] 35) (.cells #[.int .i64 x.what, .int .i64 x.id, .int .i64 x.off, .int .u8 x.mask, .string x.p.f, .string x.p.t, .slice x.p.ba x.p.bn x.p.bc] 42) (.cells #[.slice none 0 0, .slice none 0 0, .slice none 0 0, .slice none 0 0] 35) (.cells #[.slice aa R.all.length ac, .slice ha R.hist.length hc, .slice ea R.ev.length ec, .slice ba R.blk.length bc] 35)
  have hb1 : Below w.heap.size w ((((w.alloc (.cells #[.slice aa R.all.length ac, .slice ha R.hist.length hc, .slice ea R.ev.length ec, .slice ba R.blk.length bc] 35)).alloc (.cells #[.int .i64 x.what, .int .i64 x.id, .int .i64 x.off, .int .u8 x.mask, .string x.p.f, .string x.p.t, .slice x.p.ba x.p.bn x.p.bc] 42)).alloc (.cells #[.slice none 0 0, .slice none 0 0, .slice none 0 0, .slice none 0 0] 35)).alloc (.cells #[.slice aa R.all.length ac, .slice ha R.hist.length hc, .slice ea R.ev.length ec, .slice ba R.blk.length bc] 35)) := ((((Below.refl _ _).alloc (Nat.le_refl _) _).alloc (by simp) _).alloc (by simp; omega) _).alloc (by simp; omega) _
  have hfar : ∀ k, fp D b k → k < w.heap.size := h.rep.fp_lt
  have hk0 : (x.what == 0) = false := by simp [hk]
  have hk1 : (x.what == 1) = false := by simp [hk]
  have hk2 : (x.what == 2) = false := by simp [hk]
  have hk3 : (x.what == 3) = false := by simp [hk]
  have hk4 : (x.what == 4) = false := by simp [hk]
  have hk5 : (x.what == 5) = false := by simp [hk]
  have hk6 : (x.what == 6) = false := by simp [hk]
  have hk7 : (x.what == 7) = false := by simp [hk]
  have hk8 : (x.what == 8) = false := by simp [hk]
  have hk9 : (x.what == 9) = true := by simp [hk]
  have hk10 : (x.what == 10) = false := by simp [hk]
  have hk11 : (x.what == 11) = false := by simp [hk]
  clear hk
  obtain ⟨N', hN'⟩ : ∃ N', N' = (N.redirect x.id x.p.t).1 := ⟨_, rfl⟩
  obtain ⟨⟨R', rer⟩, hRR⟩ : ∃ RR, RR = R.redirect x.id x.p.t := ⟨_, rfl⟩
  rw [← hN', ← hRR]
  have HN := Lib.hid hN'
  have HR := Lib.hid hRR
  clear hN' hRR
  dsimp only
  have ht : x.p.t.size ≤ 100 := by rw [hx.src.pin.t]; exact hx.ok.to
  go_enter Try.func9, Try.ntmps9
  go_wp2_with fail
  generalize (((w.alloc (.cells #[.slice aa R.all.length ac, .slice ha R.hist.length hc, .slice ea R.ev.length ec, .slice ba R.blk.length bc] 35)).alloc (.cells #[.int .i64 x.what, .int .i64 x.id, .int .i64 x.off, .int .u8 x.mask, .string x.p.f, .string x.p.t, .slice x.p.ba x.p.bn x.p.bc] 42)).alloc (.cells #[.slice none 0 0, .slice none 0 0, .slice none 0 0, .slice none 0 0] 35)).alloc (.cells #[.slice aa R.all.length ac, .slice ha R.hist.length hc, .slice ea R.ev.length ec, .slice ba R.blk.length bc] 35) = w1 at e1 e2 e3 e4 hb1 ⊢
  have hw1 := lt_of_heap e4
  have hfp1 : ∀ k, w.heap.size ≤ k → ¬ wr D b k := fun k h1 h3 => by have := hfar k (.inl h3); omega
  obtain ⟨c0, c1, c2, c3, c4, c5, c6, cl⟩ := blk7 e2
  go_wp2_with fail
  have hx1 : PIn w1 x.p m := hx.src.pin.below hb1 (Nat.le_refl _)
  refine (redirect_any b N D x.id x.p.t w1 c (h.rep.below hb1 (Nat.le_refl _)) hl hf (by omega) ht).mono ?_
  rintro e w4 ⟨rfl, D4, r4, t4⟩
  have k1 := (t4.kp.block _ (lt_of_heap e1) (hfp1 _ (by omega))).trans e1
  have k2 := (t4.kp.block _ (lt_of_heap e2) (hfp1 _ (by omega))).trans e2
  have k3 := (t4.kp.block _ (lt_of_heap e3) (hfp1 _ (by omega))).trans e3
  have k4 := (t4.kp.block _ (lt_of_heap e4) (hfp1 _ (by omega))).trans e4
  have hV4 := (h.ref.below hb1 (Nat.le_refl _)).same (fun k hk => t4.kp.block k (by have := h.ref.lt k hk; have := hb1.size; omega) (h.ap k hk))
  have t3 : Turns D D4 b w w4 := Turns.of_below' hb1 t4
  have hfpD : ∀ k, fp D4 b k → fp D b k ∨ w1.heap.size ≤ k := t4.fp
  have hwr4 : ∀ k, wr D4 b k → wr D b k ∨ w1.heap.size ≤ k := t4.wr
  have hs14 : w1.heap.size ≤ w4.heap.size := t4.kp.size
  have h4fp : ∀ k, fp D4 b k → k < w4.heap.size := r4.fp_lt
  clear e1 e2 e3 e4 hb1 t4 c0 c1 c2 c3 c4 c5 c6 cl
  obtain ⟨c0, c1, c2, c3, c4, c5, c6, cl⟩ := blk7 k2
  obtain ⟨y0, y1, y2, y3, _, _⟩ := blk4 k1
  go_wp2_with fail
  refine (redirectR_any _ R x.id x.p.t w4 hV4 hlR ht).mono ?_
  rintro e w5 ⟨⟨al5, hi5, ev5, bl5, ps5, hs5⟩, rfl, h5, hbl5, hnw0⟩
  have hnw1 := hnw0.mono hs14
  have hnw : News ⟨.slice aa R.all.length ac, .slice ha R.hist.length hc, .slice ea R.ev.length ec, .slice ba R.blk.length bc, ps, hs'⟩ ⟨al5, hi5, ev5, bl5, ps5, hs5⟩ w.heap.size := hnw0.mono (by omega)
  have hap5 : ∀ k, rp ⟨al5, hi5, ev5, bl5, ps5, hs5⟩ k → ¬ wr D4 b k := fun k hr hw => by
    rcases hnw0 k hr with e | e
    · rcases hwr4 k hw with e' | e'
      · exact h.ap k e e'
      · have := h.ref.lt k e; omega
    · have := h4fp k (.inl hw); omega
  obtain ⟨xa, xc, xb, xd, xe, xf, xg, xh, z1, z2, z3, z4⟩ := h5.forms
  simp only at z1 z2 z3 z4
  subst z1 z2 z3 z4
  simp only [RefV.val]
  have q3 := (hbl5.block _ (lt_of_heap k3)).trans k3
  have q4' := (hbl5.block _ (lt_of_heap k4)).trans k4
  have r5 := r4.below hbl5 (Nat.le_refl _)
  have t5 := t3.below hbl5
  have hs45 : w4.heap.size ≤ w5.heap.size := hbl5.size
  clear c0 c1 c2 c3 c4 c5 c6 cl y0 y1 y2 y3 k1 k2 k3 k4 hV4 t3 hbl5 hnw0 hnw1 r4
  have hok' := hok.redirect x.id ht
  obtain ⟨hlk', hres⟩ := hlk.redirect x.id x.p.t
  rw [hres]
  rw [← HN.out] at r5 hlk'
  rw [← HR.out] at h5 hnw hap5 hok' hlk'
  simp only at h5 hnw hap5 hok' hlk'
  rw [← HR.out]
  dsimp only
  clear hres
  obtain ⟨u0, u1, u2, u3, uf, ul⟩ := blk4 q4'
  have hkY := ((((Kp.refl (fun j => j = w.heap.size + 1 + 1 + 1) w5).setCell (p := ⟨w.heap.size + 1 + 1 + 1, 0, none⟩) (fun _ => rfl) (.slice xa R'.all.length xc)).setCell (p := ⟨w.heap.size + 1 + 1 + 1, 1, none⟩) (fun _ => rfl) (.slice xb R'.hist.length xd)).setCell (p := ⟨w.heap.size + 1 + 1 + 1, 2, none⟩) (fun _ => rfl) (.slice xe R'.ev.length xf)).setCell (p := ⟨w.heap.size + 1 + 1 + 1, 3, none⟩) (fun _ => rfl) (.slice xg R'.blk.length xh)
  have q4 : ((((w5.setCell ⟨w.heap.size + 1 + 1 + 1, 0, none⟩ (.slice xa R'.all.length xc)).setCell ⟨w.heap.size + 1 + 1 + 1, 1, none⟩ (.slice xb R'.hist.length xd)).setCell ⟨w.heap.size + 1 + 1 + 1, 2, none⟩ (.slice xe R'.ev.length xf)).setCell ⟨w.heap.size + 1 + 1 + 1, 3, none⟩ (.slice xg R'.blk.length xh)).heap[w.heap.size + 1 + 1 + 1]? = some (.cells #[.slice xa R'.all.length xc, .slice xb R'.hist.length xd, .slice xe R'.ev.length xf, .slice xg R'.blk.length xh] 35) := by simp [World.setCell, Array.getElem?_modify, q4']
  replace q3 := (hkY.block _ (lt_of_heap q3) (by omega)).trans q3
  have hnfY : ¬ fp D4 b (w.heap.size + 1 + 1 + 1) := fun hf => by
    rcases hfpD _ hf with e | e
    · have := hfar _ e; omega
    · omega
  replace r5 := r5.kp hkY (fun k hf e => hnfY (e ▸ hf))
  replace h5 := h5.same (fun k hr => hkY.block k (h5.lt k hr) (fun e => h5.notbox q4' (e ▸ hr)))
  have t6 : Kp (wr D b) w ((((w5.setCell ⟨w.heap.size + 1 + 1 + 1, 0, none⟩ (.slice xa R'.all.length xc)).setCell ⟨w.heap.size + 1 + 1 + 1, 1, none⟩ (.slice xb R'.hist.length xd)).setCell ⟨w.heap.size + 1 + 1 + 1, 2, none⟩ (.slice xe R'.ev.length xf)).setCell ⟨w.heap.size + 1 + 1 + 1, 3, none⟩ (.slice xg R'.blk.length xh)) := t5.kp.trans hkY (fun k hk e => by omega)
  replace t5 : Turns D D4 b w ((((w5.setCell ⟨w.heap.size + 1 + 1 + 1, 0, none⟩ (.slice xa R'.all.length xc)).setCell ⟨w.heap.size + 1 + 1 + 1, 1, none⟩ (.slice xb R'.hist.length xd)).setCell ⟨w.heap.size + 1 + 1 + 1, 2, none⟩ (.slice xe R'.ev.length xf)).setCell ⟨w.heap.size + 1 + 1 + 1, 3, none⟩ (.slice xg R'.blk.length xh)) := ⟨t6, t5.wr, t5.hp⟩
  go_wp2_with fail
  clear u0 u1 u2 u3 uf ul hkY q4' t6
  generalize ((((w5.setCell ⟨w.heap.size + 1 + 1 + 1, 0, none⟩ (.slice xa R'.all.length xc)).setCell ⟨w.heap.size + 1 + 1 + 1, 1, none⟩ (.slice xb R'.hist.length xd)).setCell ⟨w.heap.size + 1 + 1 + 1, 2, none⟩ (.slice xe R'.ev.length xf)).setCell ⟨w.heap.size + 1 + 1 + 1, 3, none⟩ (.slice xg R'.blk.length xh)) = w5 at q3 q4 r5 h5 t5 ⊢
  have hl' := hlk'.lim hok' (by omega)
  have hlR' := hok'.lim (by omega)
  have H5 : St (c + 1) w5 b N' D4 ⟨.slice xa R'.all.length xc, .slice xb R'.hist.length xd, .slice xe R'.ev.length xf, .slice xg R'.blk.length xh, ps5, hs5⟩ R' := ⟨r5, h5, hlk', hok', hap5⟩
  clear r5 h5 hap5
  have hfp5 := H5.rep.fp_lt
  have hrp5 := H5.ref.lt
  obtain ⟨u0, u1, u2, u3, uf, ul⟩ := blk4 q4
  obtain ⟨v0, v1, v2, v3, vf, vl⟩ := blk4 q3
  go_wp2_with fail
  apply wp_region_plan [.rd 0, .rd 1, .rd 2, .rd 3, .rd 4, .rd 5, .rd 6, .rd 7, .rd 8, .rd 9, .rd 10, .act 11, .rd 12, .act 13, .act 14, .act 15] [15] (fun w' => w'.heap[w.heap.size + 1 + 1 + 1]? = some (.cells #[.slice xa R'.all.length xc, .slice xb R'.hist.length xd, .slice xe R'.ev.length xf, .slice xg R'.blk.length xh] 35))
  case hm => kernel_rfl
  case hB => kernel_rfl
  case hS => exact q4
  intro W hW
  have hbW : Below w5.heap.size w5 W := by subst hW; exact (Below.refl _ _).drew
  clear hW
  iterate 11
    try simp only [Act.put, List.setIfInBounds_toArray, List.set_cons_succ, List.set_cons_zero]
    apply plan_rd rfl rfl
    · intro w' hS
      obtain ⟨y0, y1, y2, y3, _, _⟩ := blk4 hS
      go_simp
      try rfl
  have sW := (hbW.block _ (lt_of_heap q4)).trans q4
  have s3 := (hbW.block _ (lt_of_heap q3)).trans q3
  have HW := H5.below hbW
  clear u0 u1 u2 u3 uf ul v0 v1 v2 v3 vf vl q3 q4
  apply plan_act rfl
  try simp only [Act.put, List.setIfInBounds_toArray, List.set_cons_succ, List.set_cons_zero]
  go_wp2_with fail
  refine (agreesR_any _ R' b N' D4 W HW.rep hl' HW.ref hlR' hlk').mono ?_
  rintro e W2 ⟨rfl, hbl2⟩
  have hb2 := hbW.trans (hbl2.mono hbW.size)
  have sZ := (hbl2.block _ (lt_of_heap sW)).trans sW
  have s4 := (hbl2.block _ (lt_of_heap s3)).trans s3
  have H6 := HW.below hbl2
  clear hbW hbl2 sW s3 HW
  obtain ⟨v0, v1, v2, v3, vf, vl⟩ := blk4 s4
  go_wp2_with fail
  refine act_on sZ ?_
  apply plan_rd rfl rfl
  · intro w' hS
    go_simp
    try rfl
  try simp only [Act.put, List.setIfInBounds_toArray, List.set_cons_succ, List.set_cons_zero]
  apply plan_act rfl
  try simp only [Act.put, List.setIfInBounds_toArray, List.set_cons_succ, List.set_cons_zero]
  go_wp2_with fail
  refine act_on sZ ?_
  have hk4 : Kp (fun j => j = w.heap.size + 1 + 1) W2 ((((W2.setCell ⟨w.heap.size + 1 + 1, 0, none⟩ (.slice xa R'.all.length xc)).setCell ⟨w.heap.size + 1 + 1, 1, none⟩ (.slice xb R'.hist.length xd)).setCell ⟨w.heap.size + 1 + 1, 2, none⟩ (.slice xe R'.ev.length xf)).setCell ⟨w.heap.size + 1 + 1, 3, none⟩ (.slice xg R'.blk.length xh)) := ((((Kp.refl (fun j => j = w.heap.size + 1 + 1) W2).setCell (p := ⟨w.heap.size + 1 + 1, 0, none⟩) (fun _ => rfl) (.slice xa R'.all.length xc)).setCell (p := ⟨w.heap.size + 1 + 1, 1, none⟩) (fun _ => rfl) (.slice xb R'.hist.length xd)).setCell (p := ⟨w.heap.size + 1 + 1, 2, none⟩) (fun _ => rfl) (.slice xe R'.ev.length xf)).setCell (p := ⟨w.heap.size + 1 + 1, 3, none⟩) (fun _ => rfl) (.slice xg R'.blk.length xh)
  apply plan_act rfl
  try simp only [Act.put, List.setIfInBounds_toArray, List.set_cons_succ, List.set_cons_zero]
  go_wp2_with fail
  refine act_on ((hk4.block _ (lt_of_heap sZ) (by omega)).trans sZ) ?_
  apply plan_act rfl
  try simp only [Act.put, List.setIfInBounds_toArray, List.set_cons_succ, List.set_cons_zero]
  go_wp2_with fail
  refine act_late rfl ?_
  refine plan_end (Good.normal ?_)
  go_wp2_with fail
  refine bodyPost_ret (v := .tuple #[.pointer (some ⟨b, 0, none⟩), RefV.val ⟨.slice xa R'.all.length xc, .slice xb R'.hist.length xd, .slice xe R'.ev.length xf, .slice xg R'.blk.length xh, ps5, hs5⟩, .bool true]) (by simp [results, Try.results9, RefV.val, go_sem, v0, v1, v2, v3]) rfl ?_
  have hnf : ¬ fp D4 b (w.heap.size + 1 + 1) := fun hf => by
    rcases hfpD _ hf with e | e
    · have := hfar _ e; omega
    · omega
  refine ⟨_, D4, b, rfl, ⟨H6.rep.kp hk4 (fun k hf e => hnf (e ▸ hf)), H6.ref.same (fun k hr => hk4.block k (H6.ref.lt k hr) (fun e => H6.ref.notbox s4 (e ▸ hr))), hlk', hok', H6.ap⟩, ?_, t5.wr, hnw⟩
  exact ((t5.kp.below hb2 t5.kp.size).trans hk4 (fun k hk e => by omega))
set_option maxHeartbeats 3200000 in
set_option maxRecDepth 100000 in
theorem do10 (c : Nat) (V : RefV) (R : RefM) (b : Nat) (N : NetM) (D : ND) (x : AV) (m : Pk) (w : World) (h : St c w b N D V R) (hcc : c ≤ 30000) (hx : Src w b D x.p m) (hk : x.what = 10) :
    Calls Try.prog 9 #[.pointer (some ⟨b, 0, none⟩), V.val, x.val] w (DoPost c V D b (N.block (x.p.f, x.p.t)).1 (R.block (x.p.f, x.p.t) false).1 w) := by
  have hl := h.lk.lim h.ok (by omega)
  have hf := h.lk.few h.ok
  have hlR := h.ok.lim (by omega)
  have hallR := h.ok.all
  have hblkR := h.ok.blk
  have hlk := h.lk
  have hok := h.ok
  obtain ⟨aa, ac, ha, hc, ea, ec, ba, bc, h1, h2, h3, h4⟩ := h.ref.forms
  obtain ⟨al, hi, ev, bl, ps, hs'⟩ := V
  simp only at h1 h2 h3 h4
  subst h1 h2 h3 h4
  simp only [RefV.val, AV.val]
  obtain ⟨e1, e2, e3, e4⟩ := top4 w (.cells #[.slice aa R.all.length ac, .slice ha R.hist.length hc, .slice ea R.ev.length ec, .slice ba R.blk.length bc] 35) (.cells #[.int .i64 x.what, .int .i64 x.id, .int .i64 x.off, .int .u8 x.mask, .string x.p.f, .string x.p.t, .slice x.p.ba x.p.bn x.p.bc] 42) (.cells #[.slice none 0 0, .slice none 0 0, .slice none 0 0, .slice none 0 0] 35) (.cells #[.slice aa R.all.length ac, .slice ha R.hist.length hc, .slice ea R.ev.length ec, .slice ba R.blk.length bc] 35)
  have hb1 : Below w.heap.size w ((((w.alloc (.cells #[.slice aa R.all.length ac, .slice ha R.hist.length hc, .slice ea R.ev.length ec, .slice ba R.blk.length bc] 35)).alloc (.cells #[.int .i64 x.what, .int .i64 x.id, .int .i64 x.off, .int .u8 x.mask, .string x.p.f, .string x.p.t, .slice x.p.ba x.p.bn x.p.bc] 42)).alloc (.cells #[.slice none 0 0, .slice none 0 0, .slice none 0 0, .slice none 0 0] 35)).alloc (.cells #[.slice aa R.all.length ac, .slice ha R.hist.length hc, .slice ea R.ev.length ec, .slice ba R.blk.length bc] 35)) := ((((Below.refl _ _).alloc (Nat.le_refl _) _).alloc (by simp) _).alloc (by simp; omega) _).alloc (by simp; omega) _
  have hfar : ∀ k, fp D b k → k < w.heap.size := h.rep.fp_lt
  have hk0 : (x.what == 0) = false := by simp [hk]
  have hk1 : (x.what == 1) = false := by simp [hk]
  have hk2 : (x.what == 2) = false := by simp [hk]
  have hk3 : (x.what == 3) = false := by simp [hk]
  have hk4 : (x.what == 4) = false := by simp [hk]
  have hk5 : (x.what == 5) = false := by simp [hk]
  have hk6 : (x.what == 6) = false := by simp [hk]
  have hk7 : (x.what == 7) = false := by simp [hk]
  have hk8 : (x.what == 8) = false := by simp [hk]
  have hk9 : (x.what == 9) = false := by simp [hk]
  have hk10 : (x.what == 10) = true := by simp [hk]
  have hk11 : (x.what == 11) = false := by simp [hk]
  clear hk
  obtain ⟨N', hN'⟩ : ∃ N', N' = (N.block (x.p.f, x.p.t)).1 := ⟨_, rfl⟩
  obtain ⟨⟨R', rer⟩, hRR⟩ : ∃ RR, RR = R.block (x.p.f, x.p.t) false := ⟨_, rfl⟩
  rw [← hN', ← hRR]
  have HN := Lib.hid hN'
  have HR := Lib.hid hRR
  clear hN' hRR
  dsimp only
  have ht : x.p.t.size ≤ 100 := by rw [hx.src.pin.t]; exact hx.ok.to
  have hfr : x.p.f.size ≤ 100 := by rw [hx.src.pin.f]; exact hx.ok.fr
  go_enter Try.func9, Try.ntmps9
  go_wp2_with fail
  generalize (((w.alloc (.cells #[.slice aa R.all.length ac, .slice ha R.hist.length hc, .slice ea R.ev.length ec, .slice ba R.blk.length bc] 35)).alloc (.cells #[.int .i64 x.what, .int .i64 x.id, .int .i64 x.off, .int .u8 x.mask, .string x.p.f, .string x.p.t, .slice x.p.ba x.p.bn x.p.bc] 42)).alloc (.cells #[.slice none 0 0, .slice none 0 0, .slice none 0 0, .slice none 0 0] 35)).alloc (.cells #[.slice aa R.all.length ac, .slice ha R.hist.length hc, .slice ea R.ev.length ec, .slice ba R.blk.length bc] 35) = w1 at e1 e2 e3 e4 hb1 ⊢
  have hw1 := lt_of_heap e4
  have hfp1 : ∀ k, w.heap.size ≤ k → ¬ wr D b k := fun k h1 h3 => by have := hfar k (.inl h3); omega
  obtain ⟨c0, c1, c2, c3, c4, c5, c6, cl⟩ := blk7 e2
  go_wp2_with fail
  have hx1 : PIn w1 x.p m := hx.src.pin.below hb1 (Nat.le_refl _)
  refine (block_any b N D x.p.f x.p.t w1 (h.rep.below hb1 (Nat.le_refl _)) hfr ht).mono ?_
  rintro e w4 ⟨rfl, D4, r4, t4⟩
  have k1 := (t4.kp.block _ (lt_of_heap e1) (hfp1 _ (by omega))).trans e1
  have k2 := (t4.kp.block _ (lt_of_heap e2) (hfp1 _ (by omega))).trans e2
  have k3 := (t4.kp.block _ (lt_of_heap e3) (hfp1 _ (by omega))).trans e3
  have k4 := (t4.kp.block _ (lt_of_heap e4) (hfp1 _ (by omega))).trans e4
  have hV4 := (h.ref.below hb1 (Nat.le_refl _)).same (fun k hk => t4.kp.block k (by have := h.ref.lt k hk; have := hb1.size; omega) (h.ap k hk))
  have t3 : Turns D D4 b w w4 := Turns.of_below' hb1 t4
  have hfpD : ∀ k, fp D4 b k → fp D b k ∨ w1.heap.size ≤ k := t4.fp
  have hwr4 : ∀ k, wr D4 b k → wr D b k ∨ w1.heap.size ≤ k := t4.wr
  have hs14 : w1.heap.size ≤ w4.heap.size := t4.kp.size
  have h4fp : ∀ k, fp D4 b k → k < w4.heap.size := r4.fp_lt
  clear e1 e2 e3 e4 hb1 t4 c0 c1 c2 c3 c4 c5 c6 cl
  obtain ⟨c0, c1, c2, c3, c4, c5, c6, cl⟩ := blk7 k2
  obtain ⟨y0, y1, y2, y3, _, _⟩ := blk4 k1
  go_wp2_with fail
  refine (blockR_any _ R x.p.f x.p.t false w4 hV4 hlR (by omega) hfr ht).mono ?_
  rintro e w5 ⟨⟨al5, hi5, ev5, bl5, ps5, hs5⟩, rfl, h5, hbl5, hnw0⟩
  have hnw1 := hnw0.mono hs14
  have hnw : News ⟨.slice aa R.all.length ac, .slice ha R.hist.length hc, .slice ea R.ev.length ec, .slice ba R.blk.length bc, ps, hs'⟩ ⟨al5, hi5, ev5, bl5, ps5, hs5⟩ w.heap.size := hnw0.mono (by omega)
  have hap5 : ∀ k, rp ⟨al5, hi5, ev5, bl5, ps5, hs5⟩ k → ¬ wr D4 b k := fun k hr hw => by
    rcases hnw0 k hr with e | e
    · rcases hwr4 k hw with e' | e'
      · exact h.ap k e e'
      · have := h.ref.lt k e; omega
    · have := h4fp k (.inl hw); omega
  obtain ⟨xa, xc, xb, xd, xe, xf, xg, xh, z1, z2, z3, z4⟩ := h5.forms
  simp only at z1 z2 z3 z4
  subst z1 z2 z3 z4
  simp only [RefV.val]
  have q3 := (hbl5.block _ (lt_of_heap k3)).trans k3
  have q4' := (hbl5.block _ (lt_of_heap k4)).trans k4
  have r5 := r4.below hbl5 (Nat.le_refl _)
  have t5 := t3.below hbl5
  have hs45 : w4.heap.size ≤ w5.heap.size := hbl5.size
  clear c0 c1 c2 c3 c4 c5 c6 cl y0 y1 y2 y3 k1 k2 k3 k4 hV4 t3 hbl5 hnw0 hnw1 r4
  have hok' := hok.block (x.p.f, x.p.t) false
  obtain ⟨hlk', hres⟩ := hlk.block (x.p.f, x.p.t)
  rw [hres]
  rw [← HN.out] at r5 hlk'
  rw [← HR.out] at h5 hnw hap5 hok' hlk'
  simp only at h5 hnw hap5 hok' hlk'
  rw [← HR.out]
  dsimp only
  clear hres
  obtain ⟨u0, u1, u2, u3, uf, ul⟩ := blk4 q4'
  have hkY := ((((Kp.refl (fun j => j = w.heap.size + 1 + 1 + 1) w5).setCell (p := ⟨w.heap.size + 1 + 1 + 1, 0, none⟩) (fun _ => rfl) (.slice xa R'.all.length xc)).setCell (p := ⟨w.heap.size + 1 + 1 + 1, 1, none⟩) (fun _ => rfl) (.slice xb R'.hist.length xd)).setCell (p := ⟨w.heap.size + 1 + 1 + 1, 2, none⟩) (fun _ => rfl) (.slice xe R'.ev.length xf)).setCell (p := ⟨w.heap.size + 1 + 1 + 1, 3, none⟩) (fun _ => rfl) (.slice xg R'.blk.length xh)
  have q4 : ((((w5.setCell ⟨w.heap.size + 1 + 1 + 1, 0, none⟩ (.slice xa R'.all.length xc)).setCell ⟨w.heap.size + 1 + 1 + 1, 1, none⟩ (.slice xb R'.hist.length xd)).setCell ⟨w.heap.size + 1 + 1 + 1, 2, none⟩ (.slice xe R'.ev.length xf)).setCell ⟨w.heap.size + 1 + 1 + 1, 3, none⟩ (.slice xg R'.blk.length xh)).heap[w.heap.size + 1 + 1 + 1]? = some (.cells #[.slice xa R'.all.length xc, .slice xb R'.hist.length xd, .slice xe R'.ev.length xf, .slice xg R'.blk.length xh] 35) := by simp [World.setCell, Array.getElem?_modify, q4']
  replace q3 := (hkY.block _ (lt_of_heap q3) (by omega)).trans q3
  have hnfY : ¬ fp D4 b (w.heap.size + 1 + 1 + 1) := fun hf => by
    rcases hfpD _ hf with e | e
    · have := hfar _ e; omega
    · omega
  replace r5 := r5.kp hkY (fun k hf e => hnfY (e ▸ hf))
  replace h5 := h5.same (fun k hr => hkY.block k (h5.lt k hr) (fun e => h5.notbox q4' (e ▸ hr)))
  have t6 : Kp (wr D b) w ((((w5.setCell ⟨w.heap.size + 1 + 1 + 1, 0, none⟩ (.slice xa R'.all.length xc)).setCell ⟨w.heap.size + 1 + 1 + 1, 1, none⟩ (.slice xb R'.hist.length xd)).setCell ⟨w.heap.size + 1 + 1 + 1, 2, none⟩ (.slice xe R'.ev.length xf)).setCell ⟨w.heap.size + 1 + 1 + 1, 3, none⟩ (.slice xg R'.blk.length xh)) := t5.kp.trans hkY (fun k hk e => by omega)
  replace t5 : Turns D D4 b w ((((w5.setCell ⟨w.heap.size + 1 + 1 + 1, 0, none⟩ (.slice xa R'.all.length xc)).setCell ⟨w.heap.size + 1 + 1 + 1, 1, none⟩ (.slice xb R'.hist.length xd)).setCell ⟨w.heap.size + 1 + 1 + 1, 2, none⟩ (.slice xe R'.ev.length xf)).setCell ⟨w.heap.size + 1 + 1 + 1, 3, none⟩ (.slice xg R'.blk.length xh)) := ⟨t6, t5.wr, t5.hp⟩
  go_wp2_with fail
  clear u0 u1 u2 u3 uf ul hkY q4' t6
  generalize ((((w5.setCell ⟨w.heap.size + 1 + 1 + 1, 0, none⟩ (.slice xa R'.all.length xc)).setCell ⟨w.heap.size + 1 + 1 + 1, 1, none⟩ (.slice xb R'.hist.length xd)).setCell ⟨w.heap.size + 1 + 1 + 1, 2, none⟩ (.slice xe R'.ev.length xf)).setCell ⟨w.heap.size + 1 + 1 + 1, 3, none⟩ (.slice xg R'.blk.length xh)) = w5 at q3 q4 r5 h5 t5 ⊢
  have hl' := hlk'.lim hok' (by omega)
  have hlR' := hok'.lim (by omega)
  have H5 : St (c + 1) w5 b N' D4 ⟨.slice xa R'.all.length xc, .slice xb R'.hist.length xd, .slice xe R'.ev.length xf, .slice xg R'.blk.length xh, ps5, hs5⟩ R' := ⟨r5, h5, hlk', hok', hap5⟩
  clear r5 h5 hap5
  have hfp5 := H5.rep.fp_lt
  have hrp5 := H5.ref.lt
  obtain ⟨u0, u1, u2, u3, uf, ul⟩ := blk4 q4
  obtain ⟨v0, v1, v2, v3, vf, vl⟩ := blk4 q3
  go_wp2_with fail
  apply wp_region_plan [.rd 0, .rd 1, .rd 2, .rd 3, .rd 4, .rd 5, .rd 6, .rd 7, .rd 8, .rd 9, .rd 10, .act 11, .rd 12, .act 13, .act 14, .act 15] [15] (fun w' => w'.heap[w.heap.size + 1 + 1 + 1]? = some (.cells #[.slice xa R'.all.length xc, .slice xb R'.hist.length xd, .slice xe R'.ev.length xf, .slice xg R'.blk.length xh] 35))
  case hm => kernel_rfl
  case hB => kernel_rfl
  case hS => exact q4
  intro W hW
  have hbW : Below w5.heap.size w5 W := by subst hW; exact (Below.refl _ _).drew
  clear hW
  iterate 11
    try simp only [Act.put, List.setIfInBounds_toArray, List.set_cons_succ, List.set_cons_zero]
    apply plan_rd rfl rfl
    · intro w' hS
      obtain ⟨y0, y1, y2, y3, _, _⟩ := blk4 hS
      go_simp
      try rfl
  have sW := (hbW.block _ (lt_of_heap q4)).trans q4
  have s3 := (hbW.block _ (lt_of_heap q3)).trans q3
  have HW := H5.below hbW
  clear u0 u1 u2 u3 uf ul v0 v1 v2 v3 vf vl q3 q4
  apply plan_act rfl
  try simp only [Act.put, List.setIfInBounds_toArray, List.set_cons_succ, List.set_cons_zero]
  go_wp2_with fail
  refine (agreesR_any _ R' b N' D4 W HW.rep hl' HW.ref hlR' hlk').mono ?_
  rintro e W2 ⟨rfl, hbl2⟩
  have hb2 := hbW.trans (hbl2.mono hbW.size)
  have sZ := (hbl2.block _ (lt_of_heap sW)).trans sW
  have s4 := (hbl2.block _ (lt_of_heap s3)).trans s3
  have H6 := HW.below hbl2
  clear hbW hbl2 sW s3 HW
  obtain ⟨v0, v1, v2, v3, vf, vl⟩ := blk4 s4
  go_wp2_with fail
  refine act_on sZ ?_
  apply plan_rd rfl rfl
  · intro w' hS
    go_simp
    try rfl
  try simp only [Act.put, List.setIfInBounds_toArray, List.set_cons_succ, List.set_cons_zero]
  apply plan_act rfl
  try simp only [Act.put, List.setIfInBounds_toArray, List.set_cons_succ, List.set_cons_zero]
  go_wp2_with fail
  refine act_on sZ ?_
  have hk4 : Kp (fun j => j = w.heap.size + 1 + 1) W2 ((((W2.setCell ⟨w.heap.size + 1 + 1, 0, none⟩ (.slice xa R'.all.length xc)).setCell ⟨w.heap.size + 1 + 1, 1, none⟩ (.slice xb R'.hist.length xd)).setCell ⟨w.heap.size + 1 + 1, 2, none⟩ (.slice xe R'.ev.length xf)).setCell ⟨w.heap.size + 1 + 1, 3, none⟩ (.slice xg R'.blk.length xh)) := ((((Kp.refl (fun j => j = w.heap.size + 1 + 1) W2).setCell (p := ⟨w.heap.size + 1 + 1, 0, none⟩) (fun _ => rfl) (.slice xa R'.all.length xc)).setCell (p := ⟨w.heap.size + 1 + 1, 1, none⟩) (fun _ => rfl) (.slice xb R'.hist.length xd)).setCell (p := ⟨w.heap.size + 1 + 1, 2, none⟩) (fun _ => rfl) (.slice xe R'.ev.length xf)).setCell (p := ⟨w.heap.size + 1 + 1, 3, none⟩) (fun _ => rfl) (.slice xg R'.blk.length xh)
  apply plan_act rfl
  try simp only [Act.put, List.setIfInBounds_toArray, List.set_cons_succ, List.set_cons_zero]
  go_wp2_with fail
  refine act_on ((hk4.block _ (lt_of_heap sZ) (by omega)).trans sZ) ?_
  apply plan_act rfl
  try simp only [Act.put, List.setIfInBounds_toArray, List.set_cons_succ, List.set_cons_zero]
  go_wp2_with fail
  refine act_late rfl ?_
  refine plan_end (Good.normal ?_)
  go_wp2_with fail
  refine bodyPost_ret (v := .tuple #[.pointer (some ⟨b, 0, none⟩), RefV.val ⟨.slice xa R'.all.length xc, .slice xb R'.hist.length xd, .slice xe R'.ev.length xf, .slice xg R'.blk.length xh, ps5, hs5⟩, .bool true]) (by simp [results, Try.results9, RefV.val, go_sem, v0, v1, v2, v3]) rfl ?_
  have hnf : ¬ fp D4 b (w.heap.size + 1 + 1) := fun hf => by
    rcases hfpD _ hf with e | e
    · have := hfar _ e; omega
    · omega
  refine ⟨_, D4, b, rfl, ⟨H6.rep.kp hk4 (fun k hf e => hnf (e ▸ hf)), H6.ref.same (fun k hr => hk4.block k (H6.ref.lt k hr) (fun e => H6.ref.notbox s4 (e ▸ hr))), hlk', hok', H6.ap⟩, ?_, t5.wr, hnw⟩
  exact ((t5.kp.below hb2 t5.kp.size).trans hk4 (fun k hk e => by omega))
set_option maxHeartbeats 3200000 in
set_option maxRecDepth 100000 in
theorem do11 (c : Nat) (V : RefV) (R : RefM) (b : Nat) (N : NetM) (D : ND) (x : AV) (m : Pk) (w : World) (h : St c w b N D V R) (hcc : c ≤ 30000) (hx : Src w b D x.p m) (hk : x.what = 11) :
    Calls Try.prog 9 #[.pointer (some ⟨b, 0, none⟩), V.val, x.val] w (DoPost c V D b (N.unblock (x.p.f, x.p.t)).1 (R.block (x.p.f, x.p.t) true).1 w) := by
  have hl := h.lk.lim h.ok (by omega)
  have hf := h.lk.few h.ok
  have hlR := h.ok.lim (by omega)
  have hallR := h.ok.all
  have hblkR := h.ok.blk
  have hlk := h.lk
  have hok := h.ok
  obtain ⟨aa, ac, ha, hc, ea, ec, ba, bc, h1, h2, h3, h4⟩ := h.ref.forms
  obtain ⟨al, hi, ev, bl, ps, hs'⟩ := V
  simp only at h1 h2 h3 h4
  subst h1 h2 h3 h4
  simp only [RefV.val, AV.val]
  obtain ⟨e1, e2, e3, e4⟩ := top4 w (.cells #[.slice aa R.all.length ac, .slice ha R.hist.length hc, .slice ea R.ev.length ec, .slice ba R.blk.length bc] 35) (.cells #[.int .i64 x.what, .int .i64 x.id, .int .i64 x.off, .int .u8 x.mask, .string x.p.f, .string x.p.t, .slice x.p.ba x.p.bn x.p.bc] 42) (.cells #[.slice none 0 0, .slice none 0 0, .slice none 0 0, .slice none 0 0] 35) (.cells #[.slice aa R.all.length ac, .slice ha R.hist.length hc, .slice ea R.ev.length ec, .slice ba R.blk.length bc] 35)
  have hb1 : Below w.heap.size w ((((w.alloc (.cells #[.slice aa R.all.length ac, .slice ha R.hist.length hc, .slice ea R.ev.length ec, .slice ba R.blk.length bc] 35)).alloc (.cells #[.int .i64 x.what, .int .i64 x.id, .int .i64 x.off, .int .u8 x.mask, .string x.p.f, .string x.p.t, .slice x.p.ba x.p.bn x.p.bc] 42)).alloc (.cells #[.slice none 0 0, .slice none 0 0, .slice none 0 0, .slice none 0 0] 35)).alloc (.cells #[.slice aa R.all.length ac, .slice ha R.hist.length hc, .slice ea R.ev.length ec, .slice ba R.blk.length bc] 35)) := ((((Below.refl _ _).alloc (Nat.le_refl _) _).alloc (by simp) _).alloc (by simp; omega) _).alloc (by simp; omega) _
  have hfar : ∀ k, fp D b k → k < w.heap.size := h.rep.fp_lt
  have hk0 : (x.what == 0) = false := by simp [hk]
  have hk1 : (x.what == 1) = false := by simp [hk]
  have hk2 : (x.what == 2) = false := by simp [hk]
  have hk3 : (x.what == 3) = false := by simp [hk]
  have hk4 : (x.what == 4) = false := by simp [hk]
  have hk5 : (x.what == 5) = false := by simp [hk]
  have hk6 : (x.what == 6) = false := by simp [hk]
  have hk7 : (x.what == 7) = false := by simp [hk]
  have hk8 : (x.what == 8) = false := by simp [hk]
  have hk9 : (x.what == 9) = false := by simp [hk]
  have hk10 : (x.what == 10) = false := by simp [hk]
  have hk11 : (x.what == 11) = true := by simp [hk]
  clear hk
  obtain ⟨N', hN'⟩ : ∃ N', N' = (N.unblock (x.p.f, x.p.t)).1 := ⟨_, rfl⟩
  obtain ⟨⟨R', rer⟩, hRR⟩ : ∃ RR, RR = R.block (x.p.f, x.p.t) true := ⟨_, rfl⟩
  rw [← hN', ← hRR]
  have HN := Lib.hid hN'
  have HR := Lib.hid hRR
  clear hN' hRR
  dsimp only
  have ht : x.p.t.size ≤ 100 := by rw [hx.src.pin.t]; exact hx.ok.to
  have hfr : x.p.f.size ≤ 100 := by rw [hx.src.pin.f]; exact hx.ok.fr
  go_enter Try.func9, Try.ntmps9
  go_wp2_with fail
  generalize (((w.alloc (.cells #[.slice aa R.all.length ac, .slice ha R.hist.length hc, .slice ea R.ev.length ec, .slice ba R.blk.length bc] 35)).alloc (.cells #[.int .i64 x.what, .int .i64 x.id, .int .i64 x.off, .int .u8 x.mask, .string x.p.f, .string x.p.t, .slice x.p.ba x.p.bn x.p.bc] 42)).alloc (.cells #[.slice none 0 0, .slice none 0 0, .slice none 0 0, .slice none 0 0] 35)).alloc (.cells #[.slice aa R.all.length ac, .slice ha R.hist.length hc, .slice ea R.ev.length ec, .slice ba R.blk.length bc] 35) = w1 at e1 e2 e3 e4 hb1 ⊢
  have hw1 := lt_of_heap e4
  have hfp1 : ∀ k, w.heap.size ≤ k → ¬ wr D b k := fun k h1 h3 => by have := hfar k (.inl h3); omega
  obtain ⟨c0, c1, c2, c3, c4, c5, c6, cl⟩ := blk7 e2
  go_wp2_with fail
  have hx1 : PIn w1 x.p m := hx.src.pin.below hb1 (Nat.le_refl _)
  refine (unblock_any b N D x.p.f x.p.t w1 (h.rep.below hb1 (Nat.le_refl _)) hfr ht).mono ?_
  rintro e w4 ⟨rfl, D4, r4, t4⟩
  have k1 := (t4.kp.block _ (lt_of_heap e1) (hfp1 _ (by omega))).trans e1
  have k2 := (t4.kp.block _ (lt_of_heap e2) (hfp1 _ (by omega))).trans e2
  have k3 := (t4.kp.block _ (lt_of_heap e3) (hfp1 _ (by omega))).trans e3
  have k4 := (t4.kp.block _ (lt_of_heap e4) (hfp1 _ (by omega))).trans e4
  have hV4 := (h.ref.below hb1 (Nat.le_refl _)).same (fun k hk => t4.kp.block k (by have := h.ref.lt k hk; have := hb1.size; omega) (h.ap k hk))
  have t3 : Turns D D4 b w w4 := Turns.of_below' hb1 t4
  have hfpD : ∀ k, fp D4 b k → fp D b k ∨ w1.heap.size ≤ k := t4.fp
  have hwr4 : ∀ k, wr D4 b k → wr D b k ∨ w1.heap.size ≤ k := t4.wr
  have hs14 : w1.heap.size ≤ w4.heap.size := t4.kp.size
  have h4fp : ∀ k, fp D4 b k → k < w4.heap.size := r4.fp_lt
  clear e1 e2 e3 e4 hb1 t4 c0 c1 c2 c3 c4 c5 c6 cl
  obtain ⟨c0, c1, c2, c3, c4, c5, c6, cl⟩ := blk7 k2
  obtain ⟨y0, y1, y2, y3, _, _⟩ := blk4 k1
  go_wp2_with fail
  refine (blockR_any _ R x.p.f x.p.t true w4 hV4 hlR (by omega) hfr ht).mono ?_
  rintro e w5 ⟨⟨al5, hi5, ev5, bl5, ps5, hs5⟩, rfl, h5, hbl5, hnw0⟩
  have hnw1 := hnw0.mono hs14
  have hnw : News ⟨.slice aa R.all.length ac, .slice ha R.hist.length hc, .slice ea R.ev.length ec, .slice ba R.blk.length bc, ps, hs'⟩ ⟨al5, hi5, ev5, bl5, ps5, hs5⟩ w.heap.size := hnw0.mono (by omega)
  have hap5 : ∀ k, rp ⟨al5, hi5, ev5, bl5, ps5, hs5⟩ k → ¬ wr D4 b k := fun k hr hw => by
    rcases hnw0 k hr with e | e
    · rcases hwr4 k hw with e' | e'
      · exact h.ap k e e'
      · have := h.ref.lt k e; omega
    · have := h4fp k (.inl hw); omega
  obtain ⟨xa, xc, xb, xd, xe, xf, xg, xh, z1, z2, z3, z4⟩ := h5.forms
  simp only at z1 z2 z3 z4
  subst z1 z2 z3 z4
  simp only [RefV.val]
  have q3 := (hbl5.block _ (lt_of_heap k3)).trans k3
  have q4' := (hbl5.block _ (lt_of_heap k4)).trans k4
  have r5 := r4.below hbl5 (Nat.le_refl _)
  have t5 := t3.below hbl5
  have hs45 : w4.heap.size ≤ w5.heap.size := hbl5.size
  clear c0 c1 c2 c3 c4 c5 c6 cl y0 y1 y2 y3 k1 k2 k3 k4 hV4 t3 hbl5 hnw0 hnw1 r4
  have hok' := hok.block (x.p.f, x.p.t) true
  obtain ⟨hlk', hres⟩ := hlk.unblock (x.p.f, x.p.t)
  rw [hres]
  rw [← HN.out] at r5 hlk'
  rw [← HR.out] at h5 hnw hap5 hok' hlk'
  simp only at h5 hnw hap5 hok' hlk'
  rw [← HR.out]
  dsimp only
  clear hres
  obtain ⟨u0, u1, u2, u3, uf, ul⟩ := blk4 q4'
  have hkY := ((((Kp.refl (fun j => j = w.heap.size + 1 + 1 + 1) w5).setCell (p := ⟨w.heap.size + 1 + 1 + 1, 0, none⟩) (fun _ => rfl) (.slice xa R'.all.length xc)).setCell (p := ⟨w.heap.size + 1 + 1 + 1, 1, none⟩) (fun _ => rfl) (.slice xb R'.hist.length xd)).setCell (p := ⟨w.heap.size + 1 + 1 + 1, 2, none⟩) (fun _ => rfl) (.slice xe R'.ev.length xf)).setCell (p := ⟨w.heap.size + 1 + 1 + 1, 3, none⟩) (fun _ => rfl) (.slice xg R'.blk.length xh)
  have q4 : ((((w5.setCell ⟨w.heap.size + 1 + 1 + 1, 0, none⟩ (.slice xa R'.all.length xc)).setCell ⟨w.heap.size + 1 + 1 + 1, 1, none⟩ (.slice xb R'.hist.length xd)).setCell ⟨w.heap.size + 1 + 1 + 1, 2, none⟩ (.slice xe R'.ev.length xf)).setCell ⟨w.heap.size + 1 + 1 + 1, 3, none⟩ (.slice xg R'.blk.length xh)).heap[w.heap.size + 1 + 1 + 1]? = some (.cells #[.slice xa R'.all.length xc, .slice xb R'.hist.length xd, .slice xe R'.ev.length xf, .slice xg R'.blk.length xh] 35) := by simp [World.setCell, Array.getElem?_modify, q4']
  replace q3 := (hkY.block _ (lt_of_heap q3) (by omega)).trans q3
  have hnfY : ¬ fp D4 b (w.heap.size + 1 + 1 + 1) := fun hf => by
    rcases hfpD _ hf with e | e
    · have := hfar _ e; omega
    · omega
  replace r5 := r5.kp hkY (fun k hf e => hnfY (e ▸ hf))
  replace h5 := h5.same (fun k hr => hkY.block k (h5.lt k hr) (fun e => h5.notbox q4' (e ▸ hr)))
  have t6 : Kp (wr D b) w ((((w5.setCell ⟨w.heap.size + 1 + 1 + 1, 0, none⟩ (.slice xa R'.all.length xc)).setCell ⟨w.heap.size + 1 + 1 + 1, 1, none⟩ (.slice xb R'.hist.length xd)).setCell ⟨w.heap.size + 1 + 1 + 1, 2, none⟩ (.slice xe R'.ev.length xf)).setCell ⟨w.heap.size + 1 + 1 + 1, 3, none⟩ (.slice xg R'.blk.length xh)) := t5.kp.trans hkY (fun k hk e => by omega)
  replace t5 : Turns D D4 b w ((((w5.setCell ⟨w.heap.size + 1 + 1 + 1, 0, none⟩ (.slice xa R'.all.length xc)).setCell ⟨w.heap.size + 1 + 1 + 1, 1, none⟩ (.slice xb R'.hist.length xd)).setCell ⟨w.heap.size + 1 + 1 + 1, 2, none⟩ (.slice xe R'.ev.length xf)).setCell ⟨w.heap.size + 1 + 1 + 1, 3, none⟩ (.slice xg R'.blk.length xh)) := ⟨t6, t5.wr, t5.hp⟩
  go_wp2_with fail
  clear u0 u1 u2 u3 uf ul hkY q4' t6
  generalize ((((w5.setCell ⟨w.heap.size + 1 + 1 + 1, 0, none⟩ (.slice xa R'.all.length xc)).setCell ⟨w.heap.size + 1 + 1 + 1, 1, none⟩ (.slice xb R'.hist.length xd)).setCell ⟨w.heap.size + 1 + 1 + 1, 2, none⟩ (.slice xe R'.ev.length xf)).setCell ⟨w.heap.size + 1 + 1 + 1, 3, none⟩ (.slice xg R'.blk.length xh)) = w5 at q3 q4 r5 h5 t5 ⊢
  have hl' := hlk'.lim hok' (by omega)
  have hlR' := hok'.lim (by omega)
  have H5 : St (c + 1) w5 b N' D4 ⟨.slice xa R'.all.length xc, .slice xb R'.hist.length xd, .slice xe R'.ev.length xf, .slice xg R'.blk.length xh, ps5, hs5⟩ R' := ⟨r5, h5, hlk', hok', hap5⟩
  clear r5 h5 hap5
  have hfp5 := H5.rep.fp_lt
  have hrp5 := H5.ref.lt
  obtain ⟨u0, u1, u2, u3, uf, ul⟩ := blk4 q4
  obtain ⟨v0, v1, v2, v3, vf, vl⟩ := blk4 q3
  go_wp2_with fail
  apply wp_region_plan [.rd 0, .rd 1, .rd 2, .rd 3, .rd 4, .rd 5, .rd 6, .rd 7, .rd 8, .rd 9, .rd 10, .act 11, .rd 12, .act 13, .act 14, .act 15] [15] (fun w' => w'.heap[w.heap.size + 1 + 1 + 1]? = some (.cells #[.slice xa R'.all.length xc, .slice xb R'.hist.length xd, .slice xe R'.ev.length xf, .slice xg R'.blk.length xh] 35))
  case hm => kernel_rfl
  case hB => kernel_rfl
  case hS => exact q4
  intro W hW
  have hbW : Below w5.heap.size w5 W := by subst hW; exact (Below.refl _ _).drew
  clear hW
  iterate 11
    try simp only [Act.put, List.setIfInBounds_toArray, List.set_cons_succ, List.set_cons_zero]
    apply plan_rd rfl rfl
    · intro w' hS
      obtain ⟨y0, y1, y2, y3, _, _⟩ := blk4 hS
      go_simp
      try rfl
  have sW := (hbW.block _ (lt_of_heap q4)).trans q4
  have s3 := (hbW.block _ (lt_of_heap q3)).trans q3
  have HW := H5.below hbW
  clear u0 u1 u2 u3 uf ul v0 v1 v2 v3 vf vl q3 q4
  apply plan_act rfl
  try simp only [Act.put, List.setIfInBounds_toArray, List.set_cons_succ, List.set_cons_zero]
  go_wp2_with fail
  refine (agreesR_any _ R' b N' D4 W HW.rep hl' HW.ref hlR' hlk').mono ?_
  rintro e W2 ⟨rfl, hbl2⟩
  have hb2 := hbW.trans (hbl2.mono hbW.size)
  have sZ := (hbl2.block _ (lt_of_heap sW)).trans sW
  have s4 := (hbl2.block _ (lt_of_heap s3)).trans s3
  have H6 := HW.below hbl2
  clear hbW hbl2 sW s3 HW
  obtain ⟨v0, v1, v2, v3, vf, vl⟩ := blk4 s4
  go_wp2_with fail
  refine act_on sZ ?_
  apply plan_rd rfl rfl
  · intro w' hS
    go_simp
    try rfl
  try simp only [Act.put, List.setIfInBounds_toArray, List.set_cons_succ, List.set_cons_zero]
  apply plan_act rfl
  try simp only [Act.put, List.setIfInBounds_toArray, List.set_cons_succ, List.set_cons_zero]
  go_wp2_with fail
  refine act_on sZ ?_
  have hk4 : Kp (fun j => j = w.heap.size + 1 + 1) W2 ((((W2.setCell ⟨w.heap.size + 1 + 1, 0, none⟩ (.slice xa R'.all.length xc)).setCell ⟨w.heap.size + 1 + 1, 1, none⟩ (.slice xb R'.hist.length xd)).setCell ⟨w.heap.size + 1 + 1, 2, none⟩ (.slice xe R'.ev.length xf)).setCell ⟨w.heap.size + 1 + 1, 3, none⟩ (.slice xg R'.blk.length xh)) := ((((Kp.refl (fun j => j = w.heap.size + 1 + 1) W2).setCell (p := ⟨w.heap.size + 1 + 1, 0, none⟩) (fun _ => rfl) (.slice xa R'.all.length xc)).setCell (p := ⟨w.heap.size + 1 + 1, 1, none⟩) (fun _ => rfl) (.slice xb R'.hist.length xd)).setCell (p := ⟨w.heap.size + 1 + 1, 2, none⟩) (fun _ => rfl) (.slice xe R'.ev.length xf)).setCell (p := ⟨w.heap.size + 1 + 1, 3, none⟩) (fun _ => rfl) (.slice xg R'.blk.length xh)
  apply plan_act rfl
  try simp only [Act.put, List.setIfInBounds_toArray, List.set_cons_succ, List.set_cons_zero]
  go_wp2_with fail
  refine act_on ((hk4.block _ (lt_of_heap sZ) (by omega)).trans sZ) ?_
  apply plan_act rfl
  try simp only [Act.put, List.setIfInBounds_toArray, List.set_cons_succ, List.set_cons_zero]
  go_wp2_with fail
  refine act_late rfl ?_
  refine plan_end (Good.normal ?_)
  go_wp2_with fail
  refine bodyPost_ret (v := .tuple #[.pointer (some ⟨b, 0, none⟩), RefV.val ⟨.slice xa R'.all.length xc, .slice xb R'.hist.length xd, .slice xe R'.ev.length xf, .slice xg R'.blk.length xh, ps5, hs5⟩, .bool true]) (by simp [results, Try.results9, RefV.val, go_sem, v0, v1, v2, v3]) rfl ?_
  have hnf : ¬ fp D4 b (w.heap.size + 1 + 1) := fun hf => by
    rcases hfpD _ hf with e | e
    · have := hfar _ e; omega
    · omega
  refine ⟨_, D4, b, rfl, ⟨H6.rep.kp hk4 (fun k hf e => hnf (e ▸ hf)), H6.ref.same (fun k hr => hk4.block k (H6.ref.lt k hr) (fun e => H6.ref.notbox s4 (e ▸ hr))), hlk', hok', H6.ap⟩, ?_, t5.wr, hnw⟩
  exact ((t5.kp.below hb2 t5.kp.size).trans hk4 (fun k hk e => by omega))
end Go.Proofs.Ytnkcgalbaeppmaa
