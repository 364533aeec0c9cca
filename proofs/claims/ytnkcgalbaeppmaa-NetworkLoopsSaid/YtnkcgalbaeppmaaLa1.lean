/- The law's launch: the calls that put a packet in flight, on a network and on the reference. -/
import Derived.Test.YtnkcgalbaeppmaaPl
import Derived.Test.YtnkcgalbaeppmaaNn3
namespace Go.Proofs.Ytnkcgalbaeppmaa
open Go.RowKit
theorem PIn.kp0 {w w' : World} {p : PV} {m : Pk} (h : PIn w p m) {S : Nat → Prop} (hk : Kp S w w') (hS : 0 < p.bn → ∀ k, p.blk = some k → ¬ S k) : PIn w' p m :=
  ⟨h.f, h.t, h.n, fun hn => BytesIn.kp h.b hk (fun a ha => hS hn a.block (by simp [PV.blk, Value.ownBlock, ha])) hn⟩
/-- The packet of a call, where no method turns it. -/
structure Src (w : World) (b : Nat) (D : ND) (p : PV) (m : Pk) : Prop where
  src : PSrc w p m
  ok : m.ok
  far : 0 < p.bn → ∀ k, p.blk = some k → ¬ wr D b k
  old : 0 < p.bn → ∀ k, p.blk = some k → k < w.heap.size
theorem Src.turn {w w' : World} {b b' : Nat} {D D' : ND} {p : PV} {m : Pk} (h : Src w b D p m) (hk : Kp (wr D b) w w') (hw : ∀ k, wr D' b' k → wr D b k ∨ w.heap.size ≤ k) : Src w' b' D' p m :=
  ⟨⟨h.src.pin.kp0 hk h.far, h.src.nil⟩, h.ok, fun h0 k hb hk' => (hw k hk').elim (h.far h0 k hb) (fun e => by have := h.old h0 k hb; omega), fun h0 k hb => Nat.lt_of_lt_of_le (h.old h0 k hb) hk.size⟩
/-- A network and the reference in one state, apart in memory. -/
structure St (c : Nat) (w : World) (b : Nat) (N : NetM) (D : ND) (V : RefV) (R : RefM) : Prop where
  rep : RepOk w b N D
  ref : RefAt w V R
  lk : Lk N R
  ok : R.ok c
  ap : ∀ k, rp V k → ¬ wr D b k
theorem St.below {c : Nat} {w w' : World} {b : Nat} {N : NetM} {D : ND} {V : RefV} {R : RefM} (h : St c w b N D V R) (hb : Below w.heap.size w w') : St c w' b N D V R :=
  ⟨h.rep.below hb (Nat.le_refl _), h.ref.below hb (Nat.le_refl _), h.lk, h.ok, h.ap⟩
/-- What a step leaves. -/
def LPost (c : Nat) (V : RefV) (D : ND) (b : Nat) (N' : NetM) (R' : RefM) (w : World) (e : Ending) (w' : World) : Prop :=
  ∃ V' D', e = .returned (.tuple #[RefV.val V', .bool true]) ∧ St (c + 1) w' b N' D' V' R' ∧ Turns D D' b w w' ∧ News V V' w.heap.size
/-- The four blocks at the start of launch. -/
theorem top4 (w : World) (o p q r : Obj) : ((((w.alloc o).alloc p).alloc q).alloc r).heap[w.heap.size]? = some o ∧ ((((w.alloc o).alloc p).alloc q).alloc r).heap[w.heap.size + 1]? = some p ∧ ((((w.alloc o).alloc p).alloc q).alloc r).heap[w.heap.size + 1 + 1]? = some q ∧ ((((w.alloc o).alloc p).alloc q).alloc r).heap[w.heap.size + 1 + 1 + 1]? = some r := by
  obtain ⟨h1, h2, h3⟩ := top3 w o p q
  refine ⟨?_, ?_, ?_, ?_⟩
  · rw [Below.heap_alloc _ _ _ (by simp; try omega)]; exact h1
  · rw [Below.heap_alloc _ _ _ (by simp; try omega)]; exact h2
  · rw [Below.heap_alloc _ _ _ (by simp)]; exact h3
  · have := heap_alloc_new (((w.alloc o).alloc p).alloc q) r
    simpa using this
set_option maxHeartbeats 3200000 in
set_option maxRecDepth 100000 in
theorem launch2 (c : Nat) (V : RefV) (R : RefM) (b : Nat) (N : NetM) (D : ND) (x : AV) (m : Pk) (w : World) (h : St c w b N D V R) (hcc : c ≤ 30000) (hx : Src w b D x.p m) (hk : x.what = 2) :
    Calls Try.prog 31 #[.pointer (some ⟨b, 0, none⟩), V.val, x.val] w (LPost c V D b (N.inject m).1 (R.inject m).1 w) := by
  have hl := h.lk.lim h.ok (by omega)
  have hf := h.lk.few h.ok
  have hlR := h.ok.lim (by omega)
  have hallR := h.ok.all
  have hlk := h.lk
  have hok := h.ok
  obtain ⟨aa, ac, ha, hc, ea, ec, ba, bc, h1, h2, h3, h4⟩ := h.ref.forms
  obtain ⟨al, hi, ev, bl, ps, hs'⟩ := V
  simp only at h1 h2 h3 h4
  subst h1 h2 h3 h4
  simp only [RefV.val, AV.val]
  obtain ⟨e1, e2, e3, e4⟩ := top4 w (.cells #[.slice aa R.all.length ac, .slice ha R.hist.length hc, .slice ea R.ev.length ec, .slice ba R.blk.length bc] 35) (.cells #[.int .i64 x.what, .int .i64 x.id, .int .i64 x.off, .int .u8 x.mask, .string x.p.f, .string x.p.t, .slice x.p.ba x.p.bn x.p.bc] 42) (.cells #[.slice none 0 0, .slice none 0 0, .slice none 0 0, .slice none 0 0] 35) (.cells #[.slice none 0 0, .slice none 0 0, .slice none 0 0, .slice none 0 0] 35)
  have hb1 : Below w.heap.size w ((((w.alloc (.cells #[.slice aa R.all.length ac, .slice ha R.hist.length hc, .slice ea R.ev.length ec, .slice ba R.blk.length bc] 35)).alloc (.cells #[.int .i64 x.what, .int .i64 x.id, .int .i64 x.off, .int .u8 x.mask, .string x.p.f, .string x.p.t, .slice x.p.ba x.p.bn x.p.bc] 42)).alloc (.cells #[.slice none 0 0, .slice none 0 0, .slice none 0 0, .slice none 0 0] 35)).alloc (.cells #[.slice none 0 0, .slice none 0 0, .slice none 0 0, .slice none 0 0] 35)) := ((((Below.refl _ _).alloc (Nat.le_refl _) _).alloc (by simp) _).alloc (by simp; omega) _).alloc (by simp; omega) _
  have hk2 : (x.what == 2) = true := by simp [hk]
  have hk3 : (x.what == 3) = false := by simp [hk]
  have hk4 : (x.what == 4) = false := by simp [hk]
  clear hk
  obtain ⟨N', hN'⟩ : ∃ N', N' = (N.inject m).1 := ⟨_, rfl⟩
  obtain ⟨⟨R', rid, rer⟩, hRR⟩ : ∃ RR, RR = R.inject m := ⟨_, rfl⟩
  rw [← hN', ← hRR]
  have HN := Lib.hid hN'
  have HR := Lib.hid hRR
  clear hN' hRR
  go_enter Try.func31, Try.ntmps31
  go_wp2_with fail
  generalize (((w.alloc (.cells #[.slice aa R.all.length ac, .slice ha R.hist.length hc, .slice ea R.ev.length ec, .slice ba R.blk.length bc] 35)).alloc (.cells #[.int .i64 x.what, .int .i64 x.id, .int .i64 x.off, .int .u8 x.mask, .string x.p.f, .string x.p.t, .slice x.p.ba x.p.bn x.p.bc] 42)).alloc (.cells #[.slice none 0 0, .slice none 0 0, .slice none 0 0, .slice none 0 0] 35)).alloc (.cells #[.slice none 0 0, .slice none 0 0, .slice none 0 0, .slice none 0 0] 35) = w1 at e1 e2 e3 e4 hb1 ⊢
  have hx1 : PSrc w1 x.p m := ⟨hx.src.pin.below hb1 (Nat.le_refl _), hx.src.nil⟩
  have hw1 := lt_of_heap e4
  refine (own_any x.p m w1 hx1 (by have := hx.src.pin.n; have := hx.ok.bs; omega)).mono ?_
  rintro e w2 ⟨⟨qf, qt, qa, qn, qc⟩, rfl, hqo, hqn, hbl2⟩
  simp only [PV.val]
  have f1 := (hbl2.block _ (lt_of_heap e1)).trans e1
  have f2 := (hbl2.block _ (lt_of_heap e2)).trans e2
  have f3 := (hbl2.block _ (lt_of_heap e3)).trans e3
  have f4 := (hbl2.block _ (lt_of_heap e4)).trans e4
  have hb2 := hb1.trans (hbl2.mono hb1.size)
  have hw2 := lt_of_heap f4
  have hbx := (Below.refl w2.heap.size w2).alloc (Nat.le_refl _) (.cells #[.string qf, .string qt, .slice qa qn qc] 40)
  have g1 := (hbx.block _ (lt_of_heap f1)).trans f1
  have g2 := (hbx.block _ (lt_of_heap f2)).trans f2
  have g3 := (hbx.block _ (lt_of_heap f3)).trans f3
  have g4 := (hbx.block _ (lt_of_heap f4)).trans f4
  have gq := heap_alloc_new w2 (.cells #[.string qf, .string qt, .slice qa qn qc] 40)
  have hb3 := hb2.trans (hbx.mono hb2.size)
  have hqo3 := hqo.below hbx (Nat.le_refl _)
  obtain ⟨c0, c1, c2, c3, c4, c5, c6, cl⟩ := blk7 f2
  have hqlt : ∀ k, PV.blk ⟨qf, qt, qa, qn, qc⟩ = some k → w1.heap.size ≤ k ∧ k < w2.heap.size := fun k hk => ⟨hqn k hk, hqo.lt hk⟩
  clear e1 e2 e3 e4 hbl2 f1 f3 f4 hqo hqn hb1 hb2 hbx hx1
  go_wp2_with fail
  generalize hA : w2.heap.size = A at gq hw2 hqlt ⊢
  have hw3 : (w2.alloc (.cells #[.string qf, .string qt, .slice qa qn qc] 40)).heap.size = A + 1 := by rw [← hA]; simp
  clear hA
  generalize w2.alloc (.cells #[.string qf, .string qt, .slice qa qn qc] 40) = w3 at g1 g2 g3 g4 gq hb3 hqo3 hw3 ⊢
  clear c0 c1 c2 c3 c4 c5 c6 cl f2
  obtain ⟨c0, c1, c2, c3, c4, c5, c6, cl⟩ := blk7 g2
  obtain ⟨p0, p1, p2, _, _, _, _⟩ := blk3 gq
  go_wp2_with fail
  have hfar : ∀ k, fp D b k → k < w.heap.size := h.rep.fp_lt
  refine (inject_any b N D ⟨qf, qt, qa, qn, qc⟩ m w3 c (h.rep.below hb3 (Nat.le_refl _)) hl hf (by omega) hqo3.pin (fun k hk e => by have := hfar k e; have := (hqlt k hk).1; omega) hx.ok).mono ?_
  rintro e w4 ⟨rfl, D4, r4, t4⟩
  have hfp4 : ∀ k, w.heap.size ≤ k → k < w3.heap.size → ¬ wr D b k := fun k h1 h2 h3 => by have := hfar k (.inl h3); omega
  have k1 := (t4.kp.block _ (lt_of_heap g1) (hfp4 _ (by omega) (lt_of_heap g1))).trans g1
  have k2 := (t4.kp.block _ (lt_of_heap g2) (hfp4 _ (by omega) (lt_of_heap g2))).trans g2
  have k3 := (t4.kp.block _ (lt_of_heap g3) (hfp4 _ (by omega) (lt_of_heap g3))).trans g3
  have k4 := (t4.kp.block _ (lt_of_heap g4) (hfp4 _ (by omega) (lt_of_heap g4))).trans g4
  have kq := (t4.kp.block _ (lt_of_heap gq) (hfp4 _ (by omega) (lt_of_heap gq))).trans gq
  have hqo4 := hqo3.kp t4.kp (fun k hk => hfp4 k (by have := (hqlt k hk).1; omega) (by have := (hqlt k hk).2; omega))
  have hx4 : PSrc w4 x.p m := ⟨(hx.src.pin.below hb3 (Nat.le_refl _)).kp0 t4.kp hx.far, hx.src.nil⟩
  have hV4 := (h.ref.below hb3 (Nat.le_refl _)).same (fun k hk => t4.kp.block k (by have := h.ref.lt k hk; have := hb3.size; omega) (h.ap k hk))
  have t3 : Turns D D4 b w w4 := Turns.of_below' hb3 t4
  have hs34 : w3.heap.size ≤ w4.heap.size := t4.kp.size
  have hwr4 : ∀ k, wr D4 b k → wr D b k ∨ w3.heap.size ≤ k := t4.wr
  have hfp' : ∀ k, fp D4 b k → fp D b k ∨ w3.heap.size ≤ k := t4.fp
  clear g1 g2 g3 g4 gq hb3 hqo3 c0 c1 c2 c3 c4 c5 c6 cl p0 p1 p2 t4
  obtain ⟨c0, c1, c2, c3, c4, c5, c6, cl⟩ := blk7 k2
  obtain ⟨y0, y1, y2, y3, _, _⟩ := blk4 k1
  go_wp2_with fail
  refine (injectR_any _ R x.p m w4 hV4 hlR (by omega) hx4 hx.ok).mono ?_
  rintro e w5 ⟨⟨al5, hi5, ev5, bl5, ps5, hs5⟩, rfl, h5, hbl5, hnw⟩
  obtain ⟨xa, xc, xb, xd, xe, xf, xg, xh, z1, z2, z3, z4⟩ := h5.forms
  simp only at z1 z2 z3 z4
  subst z1 z2 z3 z4
  simp only [RefV.val]
  have q3 := (hbl5.block _ (lt_of_heap k3)).trans k3
  have q4 := (hbl5.block _ (lt_of_heap k4)).trans k4
  have qq := (hbl5.block _ (lt_of_heap kq)).trans kq
  have hqo5 := hqo4.below hbl5 (Nat.le_refl _)
  have r5 := r4.below hbl5 (Nat.le_refl _)
  have t5 := t3.below hbl5
  have hs45 : w4.heap.size ≤ w5.heap.size := hbl5.size
  clear c0 c1 c2 c3 c4 c5 c6 cl y0 y1 y2 y3 k1 k2 k3 k4 kq hqo4 hx4 hV4 t3 hbl5
  have hok' := hok.inject hx.ok
  obtain ⟨hlk', hres⟩ := hlk.inject m
  rw [hres]
  have h4fp : ∀ k, fp D4 b k → k < w4.heap.size := r4.fp_lt
  rw [← HN.out] at r5 hlk'
  rw [← HR.out] at h5 hnw hok' hlk'
  simp only at h5 hnw hok' hlk'
  rw [← HR.out]
  dsimp only
  clear hres r4
  obtain ⟨u0, u1, u2, u3, uf, ul⟩ := blk4 q4
  obtain ⟨p0, p1, p2, _, _, _, pl⟩ := blk3 qq
  have hqnl : qn ≤ 100 := by have := hqo5.n; have := hx.ok.bs; dsimp only at *; omega
  have hlen : m.bs.length = qn := hqo5.n
  have yb : w5.ownsRow 0 5 1 (.slice qa qn qc) qn (m.bs.map (Value.int .u8)) := hqo5.b
  have hA5 : A < w5.heap.size := pl
  have hq40 : ∀ k, PV.blk ⟨qf, qt, qa, qn, qc⟩ = some k → k ≠ A ∧ k ≠ w.heap.size + 1 + 1 ∧ k ≠ w.heap.size + 1 + 1 + 1 := fun k hk => by
    have := hqlt k hk
    exact ⟨by omega, by omega, by omega⟩
  go_wp2_with fail
  have hkY := ((((Kp.refl (fun j => j = w.heap.size + 1 + 1 + 1) w5).setCell (p := ⟨w.heap.size + 1 + 1 + 1, 0, none⟩) (fun _ => rfl) (.slice xa R'.all.length xc)).setCell (p := ⟨w.heap.size + 1 + 1 + 1, 1, none⟩) (fun _ => rfl) (.slice xb R'.hist.length xd)).setCell (p := ⟨w.heap.size + 1 + 1 + 1, 2, none⟩) (fun _ => rfl) (.slice xe R'.ev.length xf)).setCell (p := ⟨w.heap.size + 1 + 1 + 1, 3, none⟩) (fun _ => rfl) (.slice xg R'.blk.length xh)
  have y4 : ((((w5.setCell ⟨w.heap.size + 1 + 1 + 1, 0, none⟩ (.slice xa R'.all.length xc)).setCell ⟨w.heap.size + 1 + 1 + 1, 1, none⟩ (.slice xb R'.hist.length xd)).setCell ⟨w.heap.size + 1 + 1 + 1, 2, none⟩ (.slice xe R'.ev.length xf)).setCell ⟨w.heap.size + 1 + 1 + 1, 3, none⟩ (.slice xg R'.blk.length xh)).heap[w.heap.size + 1 + 1 + 1]? = some (.cells #[.slice xa R'.all.length xc, .slice xb R'.hist.length xd, .slice xe R'.ev.length xf, .slice xg R'.blk.length xh] 35) := by simp [World.setCell, Array.getElem?_modify, q4]
  have y3 := (hkY.block _ (lt_of_heap q3) (by omega)).trans q3
  have yq := (hkY.block _ hA5 (by omega)).trans qq
  have hz5 : ((((w5.setCell ⟨w.heap.size + 1 + 1 + 1, 0, none⟩ (.slice xa R'.all.length xc)).setCell ⟨w.heap.size + 1 + 1 + 1, 1, none⟩ (.slice xb R'.hist.length xd)).setCell ⟨w.heap.size + 1 + 1 + 1, 2, none⟩ (.slice xe R'.ev.length xf)).setCell ⟨w.heap.size + 1 + 1 + 1, 3, none⟩ (.slice xg R'.blk.length xh)).heap.size = w5.heap.size := by simp [World.setCell]
  have yb' := ownsRow_kp yb hkY (fun k hk => (hq40 k hk).2.2)
  clear u0 u1 u2 u3 uf ul p0 p1 p2 q3 q4 qq yb
  generalize (((w5.setCell ⟨w.heap.size + 1 + 1 + 1, 0, none⟩ (.slice xa R'.all.length xc)).setCell ⟨w.heap.size + 1 + 1 + 1, 1, none⟩ (.slice xb R'.hist.length xd)).setCell ⟨w.heap.size + 1 + 1 + 1, 2, none⟩ (.slice xe R'.ev.length xf)).setCell ⟨w.heap.size + 1 + 1 + 1, 3, none⟩ (.slice xg R'.blk.length xh) = Y at hkY y4 y3 yq yb' hz5 ⊢
  have HQN := Lib.hid hlen
  clear hlen
  go_loopw [14] (fun i wr => ∃ (j : Nat) (bs : List Int), j ≤ qn ∧ i = .int .i64 j ∧ bs.length = qn ∧ wr.ownsRow 0 5 1 (.slice qa qn qc) qn (bs.map (Value.int .u8)) ∧ Kp (fun z => PV.blk ⟨qf, qt, qa, qn, qc⟩ = some z) Y wr) (fun i _ => qn - (intOf i).toNat)
  case atStart => exact ⟨0, _, Nat.zero_le _, rfl, HQN.out, yb', Kp.refl _ _⟩
  case round =>
    obtain ⟨j, bs, hj, rfl, hbl, hob, hkb⟩ := hrel
    have wA := (hkb.block _ (lt_of_heap yq) (fun e => (hq40 _ e).1 rfl)).trans yq
    obtain ⟨p0, p1, p2, _, _, _, pl⟩ := blk3 wA
    by_cases hjl : j < qn
    · obtain ⟨gq, cq, hgq, _, hgl⟩ := hob.form (by omega)
      injection hgq with hq1 _ hq2
      subst hq1 hq2
      obtain ⟨bj, hbj⟩ : ∃ bj, bs[j]? = some bj := ⟨_, List.getElem?_eq_getElem (by omega)⟩
      have dj : wr.cell? ⟨gq, j, none⟩ = some (.int .u8 bj) := by
        rw [hob.cellAt j (by omega), List.getElem?_map, hbj]; rfl
      have df : wr.frozen? ⟨gq, j, none⟩ = false := hob.frozenAt j
      have j0 : (0 : Int) ≤ (j : Int) := by omega
      have j3 : (j : Int) < (qn : Int) := by omega
      have j4 : (qn : Int) ≤ 100 := by omega
      clear hbj
      go_wp2_with fail
      go_roundw
      case rel =>
        refine ⟨j + 1, bs.set j ((bj + 1) % 256), by omega, by go_num, by simpa using hbl, ?_, hkb.setCell (p := ⟨gq, j, none⟩) (fun _ => rfl) _⟩
        rw [List.map_set]
        exact (hob.stored j _).1
      case measure => simp [intOf]; omega
    · obtain rfl : j = qn := by omega
      have w4' := (hkb.block _ (lt_of_heap y4) (fun e => (hq40 _ e).2.2 rfl)).trans y4
      have w3' := (hkb.block _ (lt_of_heap y3) (fun e => (hq40 _ e).2.1 rfl)).trans y3
      obtain ⟨u0, u1, u2, u3, uf, ul⟩ := blk4 w4'
      obtain ⟨v0, v1, v2, v3, vf, vl⟩ := blk4 w3'
      go_wp2_with fail
      have hkZ := ((((Kp.refl (fun j => j = w.heap.size + 1 + 1) wr).setCell (p := ⟨w.heap.size + 1 + 1, 0, none⟩) (fun _ => rfl) (.slice xa R'.all.length xc)).setCell (p := ⟨w.heap.size + 1 + 1, 1, none⟩) (fun _ => rfl) (.slice xb R'.hist.length xd)).setCell (p := ⟨w.heap.size + 1 + 1, 2, none⟩) (fun _ => rfl) (.slice xe R'.ev.length xf)).setCell (p := ⟨w.heap.size + 1 + 1, 3, none⟩) (fun _ => rfl) (.slice xg R'.blk.length xh)
      have hkA : Kp (fun k => w.heap.size + 1 + 1 ≤ k ∧ k < w3.heap.size) w5 ((((wr.setCell ⟨w.heap.size + 1 + 1, 0, none⟩ (.slice xa R'.all.length xc)).setCell ⟨w.heap.size + 1 + 1, 1, none⟩ (.slice xb R'.hist.length xd)).setCell ⟨w.heap.size + 1 + 1, 2, none⟩ (.slice xe R'.ev.length xf)).setCell ⟨w.heap.size + 1 + 1, 3, none⟩ (.slice xg R'.blk.length xh)) :=
        ((hkY.mono (fun k _ e => ⟨by omega, by omega⟩)).trans hkb (fun k _ e => by have := hqlt k e; exact ⟨by omega, by omega⟩)).trans hkZ (fun k _ e => ⟨by omega, by omega⟩)
      refine bodyPost_ret (v := .tuple #[RefV.val ⟨.slice xa R'.all.length xc, .slice xb R'.hist.length xd, .slice xe R'.ev.length xf, .slice xg R'.blk.length xh, ps5, hs5⟩, .bool true]) (by simp [results, Try.results31, RefV.val, go_sem, v0, v1, v2, v3]) rfl ?_
      have hnr : ∀ k, (w.heap.size + 1 + 1 ≤ k ∧ k < w3.heap.size) → ¬ rp ⟨.slice xa R'.all.length xc, .slice xb R'.hist.length xd, .slice xe R'.ev.length xf, .slice xg R'.blk.length xh, ps5, hs5⟩ k := fun k hk hr => by
        rcases hnw k hr with e | e
        · have := h.ref.lt k e; omega
        · omega
      have hnf : ∀ k, (w.heap.size + 1 + 1 ≤ k ∧ k < w3.heap.size) → ¬ fp D4 b k := fun k hk hr => by
        rcases hfp' k hr with e | e
        · have := hfar k e; omega
        · omega
      have hkAb := Below.kp (Below.refl (w.heap.size + 1 + 1) w5) hkA (by omega) (fun k e => e.1)
      refine ⟨_, D4, rfl, ⟨r5.kp hkA (fun k hf hk => hnf k hk hf), h5.same (fun k hr => hkA.block k (h5.lt k hr) (fun e => hnr k e hr)), hlk', hok', fun k hr hw => ?_⟩, ⟨t5.kp.trans (hkA.mono (fun k _ e => e)) ?_, t5.wr, t5.hp⟩, (hnw.mono (by omega))⟩
      · rcases hnw k hr with e | e
        · rcases hwr4 k hw with e' | e'
          · exact h.ap k e e'
          · have := h.ref.lt k e; omega
        · have := h4fp k (.inl hw); omega
      · intro k hk e; omega
set_option maxHeartbeats 3200000 in
set_option maxRecDepth 100000 in
theorem launch3 (c : Nat) (V : RefV) (R : RefM) (b : Nat) (N : NetM) (D : ND) (x : AV) (m : Pk) (w : World) (h : St c w b N D V R) (hcc : c ≤ 30000) (hx : Src w b D x.p m) (hk : x.what = 3) :
    Calls Try.prog 31 #[.pointer (some ⟨b, 0, none⟩), V.val, x.val] w (LPost c V D b (N.replay x.id).1 (R.replay x.id).1 w) := by
  have hl := h.lk.lim h.ok (by omega)
  have hf := h.lk.few h.ok
  have hlR := h.ok.lim (by omega)
  have hallR := h.ok.all
  have hlk := h.lk
  have hok := h.ok
  obtain ⟨aa, ac, ha, hc, ea, ec, ba, bc, h1, h2, h3, h4⟩ := h.ref.forms
  obtain ⟨al, hi, ev, bl, ps, hs'⟩ := V
  simp only at h1 h2 h3 h4
  subst h1 h2 h3 h4
  simp only [RefV.val, AV.val]
  obtain ⟨e1, e2, e3, e4⟩ := top4 w (.cells #[.slice aa R.all.length ac, .slice ha R.hist.length hc, .slice ea R.ev.length ec, .slice ba R.blk.length bc] 35) (.cells #[.int .i64 x.what, .int .i64 x.id, .int .i64 x.off, .int .u8 x.mask, .string x.p.f, .string x.p.t, .slice x.p.ba x.p.bn x.p.bc] 42) (.cells #[.slice none 0 0, .slice none 0 0, .slice none 0 0, .slice none 0 0] 35) (.cells #[.slice none 0 0, .slice none 0 0, .slice none 0 0, .slice none 0 0] 35)
  have hb1 : Below w.heap.size w ((((w.alloc (.cells #[.slice aa R.all.length ac, .slice ha R.hist.length hc, .slice ea R.ev.length ec, .slice ba R.blk.length bc] 35)).alloc (.cells #[.int .i64 x.what, .int .i64 x.id, .int .i64 x.off, .int .u8 x.mask, .string x.p.f, .string x.p.t, .slice x.p.ba x.p.bn x.p.bc] 42)).alloc (.cells #[.slice none 0 0, .slice none 0 0, .slice none 0 0, .slice none 0 0] 35)).alloc (.cells #[.slice none 0 0, .slice none 0 0, .slice none 0 0, .slice none 0 0] 35)) := ((((Below.refl _ _).alloc (Nat.le_refl _) _).alloc (by simp) _).alloc (by simp; omega) _).alloc (by simp; omega) _
  have hk2 : (x.what == 2) = false := by simp [hk]
  have hk3 : (x.what == 3) = true := by simp [hk]
  have hk4 : (x.what == 4) = false := by simp [hk]
  clear hk
  obtain ⟨N', hN'⟩ : ∃ N', N' = (N.replay x.id).1 := ⟨_, rfl⟩
  obtain ⟨⟨R', rid, rer⟩, hRR⟩ : ∃ RR, RR = R.replay x.id := ⟨_, rfl⟩
  rw [← hN', ← hRR]
  have HN := Lib.hid hN'
  have HR := Lib.hid hRR
  clear hN' hRR
  go_enter Try.func31, Try.ntmps31
  go_wp2_with fail
  generalize (((w.alloc (.cells #[.slice aa R.all.length ac, .slice ha R.hist.length hc, .slice ea R.ev.length ec, .slice ba R.blk.length bc] 35)).alloc (.cells #[.int .i64 x.what, .int .i64 x.id, .int .i64 x.off, .int .u8 x.mask, .string x.p.f, .string x.p.t, .slice x.p.ba x.p.bn x.p.bc] 42)).alloc (.cells #[.slice none 0 0, .slice none 0 0, .slice none 0 0, .slice none 0 0] 35)).alloc (.cells #[.slice none 0 0, .slice none 0 0, .slice none 0 0, .slice none 0 0] 35) = w1 at e1 e2 e3 e4 hb1 ⊢
  have hx1 : PSrc w1 x.p m := ⟨hx.src.pin.below hb1 (Nat.le_refl _), hx.src.nil⟩
  have hw1 := lt_of_heap e4
  refine (own_any x.p m w1 hx1 (by have := hx.src.pin.n; have := hx.ok.bs; omega)).mono ?_
  rintro e w2 ⟨⟨qf, qt, qa, qn, qc⟩, rfl, hqo, hqn, hbl2⟩
  simp only [PV.val]
  have f1 := (hbl2.block _ (lt_of_heap e1)).trans e1
  have f2 := (hbl2.block _ (lt_of_heap e2)).trans e2
  have f3 := (hbl2.block _ (lt_of_heap e3)).trans e3
  have f4 := (hbl2.block _ (lt_of_heap e4)).trans e4
  have hb2 := hb1.trans (hbl2.mono hb1.size)
  have hw2 := lt_of_heap f4
  have hbx := (Below.refl w2.heap.size w2).alloc (Nat.le_refl _) (.cells #[.string qf, .string qt, .slice qa qn qc] 40)
  have g1 := (hbx.block _ (lt_of_heap f1)).trans f1
  have g2 := (hbx.block _ (lt_of_heap f2)).trans f2
  have g3 := (hbx.block _ (lt_of_heap f3)).trans f3
  have g4 := (hbx.block _ (lt_of_heap f4)).trans f4
  have gq := heap_alloc_new w2 (.cells #[.string qf, .string qt, .slice qa qn qc] 40)
  have hb3 := hb2.trans (hbx.mono hb2.size)
  have hqo3 := hqo.below hbx (Nat.le_refl _)
  obtain ⟨c0, c1, c2, c3, c4, c5, c6, cl⟩ := blk7 f2
  have hqlt : ∀ k, PV.blk ⟨qf, qt, qa, qn, qc⟩ = some k → w1.heap.size ≤ k ∧ k < w2.heap.size := fun k hk => ⟨hqn k hk, hqo.lt hk⟩
  clear e1 e2 e3 e4 hbl2 f1 f3 f4 hqo hqn hb1 hb2 hbx hx1
  go_wp2_with fail
  generalize hA : w2.heap.size = A at gq hw2 hqlt ⊢
  have hw3 : (w2.alloc (.cells #[.string qf, .string qt, .slice qa qn qc] 40)).heap.size = A + 1 := by rw [← hA]; simp
  clear hA
  generalize w2.alloc (.cells #[.string qf, .string qt, .slice qa qn qc] 40) = w3 at g1 g2 g3 g4 gq hb3 hqo3 hw3 ⊢
  clear c0 c1 c2 c3 c4 c5 c6 cl f2
  obtain ⟨c0, c1, c2, c3, c4, c5, c6, cl⟩ := blk7 g2
  obtain ⟨p0, p1, p2, _, _, _, _⟩ := blk3 gq
  go_wp2_with fail
  have hfar : ∀ k, fp D b k → k < w.heap.size := h.rep.fp_lt
  refine (replay_any b N D x.id w3 c (h.rep.below hb3 (Nat.le_refl _)) hl hf (by omega)).mono ?_
  rintro e w4 ⟨rfl, D4, r4, t4⟩
  have hfp4 : ∀ k, w.heap.size ≤ k → k < w3.heap.size → ¬ wr D b k := fun k h1 h2 h3 => by have := hfar k (.inl h3); omega
  have k1 := (t4.kp.block _ (lt_of_heap g1) (hfp4 _ (by omega) (lt_of_heap g1))).trans g1
  have k2 := (t4.kp.block _ (lt_of_heap g2) (hfp4 _ (by omega) (lt_of_heap g2))).trans g2
  have k3 := (t4.kp.block _ (lt_of_heap g3) (hfp4 _ (by omega) (lt_of_heap g3))).trans g3
  have k4 := (t4.kp.block _ (lt_of_heap g4) (hfp4 _ (by omega) (lt_of_heap g4))).trans g4
  have kq := (t4.kp.block _ (lt_of_heap gq) (hfp4 _ (by omega) (lt_of_heap gq))).trans gq
  have hqo4 := hqo3.kp t4.kp (fun k hk => hfp4 k (by have := (hqlt k hk).1; omega) (by have := (hqlt k hk).2; omega))
  have hx4 : PSrc w4 x.p m := ⟨(hx.src.pin.below hb3 (Nat.le_refl _)).kp0 t4.kp hx.far, hx.src.nil⟩
  have hV4 := (h.ref.below hb3 (Nat.le_refl _)).same (fun k hk => t4.kp.block k (by have := h.ref.lt k hk; have := hb3.size; omega) (h.ap k hk))
  have t3 : Turns D D4 b w w4 := Turns.of_below' hb3 t4
  have hs34 : w3.heap.size ≤ w4.heap.size := t4.kp.size
  have hwr4 : ∀ k, wr D4 b k → wr D b k ∨ w3.heap.size ≤ k := t4.wr
  have hfp' : ∀ k, fp D4 b k → fp D b k ∨ w3.heap.size ≤ k := t4.fp
  clear g1 g2 g3 g4 gq hb3 hqo3 c0 c1 c2 c3 c4 c5 c6 cl p0 p1 p2 t4
  obtain ⟨c0, c1, c2, c3, c4, c5, c6, cl⟩ := blk7 k2
  obtain ⟨y0, y1, y2, y3, _, _⟩ := blk4 k1
  go_wp2_with fail
  refine (replayR_any _ R x.id w4 hV4 hlR (by omega)).mono ?_
  rintro e w5 ⟨⟨al5, hi5, ev5, bl5, ps5, hs5⟩, rfl, h5, hbl5, hnw⟩
  obtain ⟨xa, xc, xb, xd, xe, xf, xg, xh, z1, z2, z3, z4⟩ := h5.forms
  simp only at z1 z2 z3 z4
  subst z1 z2 z3 z4
  simp only [RefV.val]
  have q3 := (hbl5.block _ (lt_of_heap k3)).trans k3
  have q4 := (hbl5.block _ (lt_of_heap k4)).trans k4
  have qq := (hbl5.block _ (lt_of_heap kq)).trans kq
  have hqo5 := hqo4.below hbl5 (Nat.le_refl _)
  have r5 := r4.below hbl5 (Nat.le_refl _)
  have t5 := t3.below hbl5
  have hs45 : w4.heap.size ≤ w5.heap.size := hbl5.size
  clear c0 c1 c2 c3 c4 c5 c6 cl y0 y1 y2 y3 k1 k2 k3 k4 kq hqo4 hx4 hV4 t3 hbl5
  have hok' := hok.replay x.id
  obtain ⟨hlk', hres⟩ := hlk.replay x.id
  rw [hres]
  have h4fp : ∀ k, fp D4 b k → k < w4.heap.size := r4.fp_lt
  rw [← HN.out] at r5 hlk'
  rw [← HR.out] at h5 hnw hok' hlk'
  simp only at h5 hnw hok' hlk'
  rw [← HR.out]
  dsimp only
  clear hres r4
  obtain ⟨u0, u1, u2, u3, uf, ul⟩ := blk4 q4
  obtain ⟨p0, p1, p2, _, _, _, pl⟩ := blk3 qq
  have hqnl : qn ≤ 100 := by have := hqo5.n; have := hx.ok.bs; dsimp only at *; omega
  have hlen : m.bs.length = qn := hqo5.n
  have yb : w5.ownsRow 0 5 1 (.slice qa qn qc) qn (m.bs.map (Value.int .u8)) := hqo5.b
  have hA5 : A < w5.heap.size := pl
  have hq40 : ∀ k, PV.blk ⟨qf, qt, qa, qn, qc⟩ = some k → k ≠ A ∧ k ≠ w.heap.size + 1 + 1 ∧ k ≠ w.heap.size + 1 + 1 + 1 := fun k hk => by
    have := hqlt k hk
    exact ⟨by omega, by omega, by omega⟩
  go_wp2_with fail
  have hkY := ((((Kp.refl (fun j => j = w.heap.size + 1 + 1 + 1) w5).setCell (p := ⟨w.heap.size + 1 + 1 + 1, 0, none⟩) (fun _ => rfl) (.slice xa R'.all.length xc)).setCell (p := ⟨w.heap.size + 1 + 1 + 1, 1, none⟩) (fun _ => rfl) (.slice xb R'.hist.length xd)).setCell (p := ⟨w.heap.size + 1 + 1 + 1, 2, none⟩) (fun _ => rfl) (.slice xe R'.ev.length xf)).setCell (p := ⟨w.heap.size + 1 + 1 + 1, 3, none⟩) (fun _ => rfl) (.slice xg R'.blk.length xh)
  have y4 : ((((w5.setCell ⟨w.heap.size + 1 + 1 + 1, 0, none⟩ (.slice xa R'.all.length xc)).setCell ⟨w.heap.size + 1 + 1 + 1, 1, none⟩ (.slice xb R'.hist.length xd)).setCell ⟨w.heap.size + 1 + 1 + 1, 2, none⟩ (.slice xe R'.ev.length xf)).setCell ⟨w.heap.size + 1 + 1 + 1, 3, none⟩ (.slice xg R'.blk.length xh)).heap[w.heap.size + 1 + 1 + 1]? = some (.cells #[.slice xa R'.all.length xc, .slice xb R'.hist.length xd, .slice xe R'.ev.length xf, .slice xg R'.blk.length xh] 35) := by simp [World.setCell, Array.getElem?_modify, q4]
  have y3 := (hkY.block _ (lt_of_heap q3) (by omega)).trans q3
  have yq := (hkY.block _ hA5 (by omega)).trans qq
  have hz5 : ((((w5.setCell ⟨w.heap.size + 1 + 1 + 1, 0, none⟩ (.slice xa R'.all.length xc)).setCell ⟨w.heap.size + 1 + 1 + 1, 1, none⟩ (.slice xb R'.hist.length xd)).setCell ⟨w.heap.size + 1 + 1 + 1, 2, none⟩ (.slice xe R'.ev.length xf)).setCell ⟨w.heap.size + 1 + 1 + 1, 3, none⟩ (.slice xg R'.blk.length xh)).heap.size = w5.heap.size := by simp [World.setCell]
  have yb' := ownsRow_kp yb hkY (fun k hk => (hq40 k hk).2.2)
  clear u0 u1 u2 u3 uf ul p0 p1 p2 q3 q4 qq yb
  generalize (((w5.setCell ⟨w.heap.size + 1 + 1 + 1, 0, none⟩ (.slice xa R'.all.length xc)).setCell ⟨w.heap.size + 1 + 1 + 1, 1, none⟩ (.slice xb R'.hist.length xd)).setCell ⟨w.heap.size + 1 + 1 + 1, 2, none⟩ (.slice xe R'.ev.length xf)).setCell ⟨w.heap.size + 1 + 1 + 1, 3, none⟩ (.slice xg R'.blk.length xh) = Y at hkY y4 y3 yq yb' hz5 ⊢
  have HQN := Lib.hid hlen
  clear hlen
  go_loopw [14] (fun i wr => ∃ (j : Nat) (bs : List Int), j ≤ qn ∧ i = .int .i64 j ∧ bs.length = qn ∧ wr.ownsRow 0 5 1 (.slice qa qn qc) qn (bs.map (Value.int .u8)) ∧ Kp (fun z => PV.blk ⟨qf, qt, qa, qn, qc⟩ = some z) Y wr) (fun i _ => qn - (intOf i).toNat)
  case atStart => exact ⟨0, _, Nat.zero_le _, rfl, HQN.out, yb', Kp.refl _ _⟩
  case round =>
    obtain ⟨j, bs, hj, rfl, hbl, hob, hkb⟩ := hrel
    have wA := (hkb.block _ (lt_of_heap yq) (fun e => (hq40 _ e).1 rfl)).trans yq
    obtain ⟨p0, p1, p2, _, _, _, pl⟩ := blk3 wA
    by_cases hjl : j < qn
    · obtain ⟨gq, cq, hgq, _, hgl⟩ := hob.form (by omega)
      injection hgq with hq1 _ hq2
      subst hq1 hq2
      obtain ⟨bj, hbj⟩ : ∃ bj, bs[j]? = some bj := ⟨_, List.getElem?_eq_getElem (by omega)⟩
      have dj : wr.cell? ⟨gq, j, none⟩ = some (.int .u8 bj) := by
        rw [hob.cellAt j (by omega), List.getElem?_map, hbj]; rfl
      have df : wr.frozen? ⟨gq, j, none⟩ = false := hob.frozenAt j
      have j0 : (0 : Int) ≤ (j : Int) := by omega
      have j3 : (j : Int) < (qn : Int) := by omega
      have j4 : (qn : Int) ≤ 100 := by omega
      clear hbj
      go_wp2_with fail
      go_roundw
      case rel =>
        refine ⟨j + 1, bs.set j ((bj + 1) % 256), by omega, by go_num, by simpa using hbl, ?_, hkb.setCell (p := ⟨gq, j, none⟩) (fun _ => rfl) _⟩
        rw [List.map_set]
        exact (hob.stored j _).1
      case measure => simp [intOf]; omega
    · obtain rfl : j = qn := by omega
      have w4' := (hkb.block _ (lt_of_heap y4) (fun e => (hq40 _ e).2.2 rfl)).trans y4
      have w3' := (hkb.block _ (lt_of_heap y3) (fun e => (hq40 _ e).2.1 rfl)).trans y3
      obtain ⟨u0, u1, u2, u3, uf, ul⟩ := blk4 w4'
      obtain ⟨v0, v1, v2, v3, vf, vl⟩ := blk4 w3'
      go_wp2_with fail
      have hkZ := ((((Kp.refl (fun j => j = w.heap.size + 1 + 1) wr).setCell (p := ⟨w.heap.size + 1 + 1, 0, none⟩) (fun _ => rfl) (.slice xa R'.all.length xc)).setCell (p := ⟨w.heap.size + 1 + 1, 1, none⟩) (fun _ => rfl) (.slice xb R'.hist.length xd)).setCell (p := ⟨w.heap.size + 1 + 1, 2, none⟩) (fun _ => rfl) (.slice xe R'.ev.length xf)).setCell (p := ⟨w.heap.size + 1 + 1, 3, none⟩) (fun _ => rfl) (.slice xg R'.blk.length xh)
      have hkA : Kp (fun k => w.heap.size + 1 + 1 ≤ k ∧ k < w3.heap.size) w5 ((((wr.setCell ⟨w.heap.size + 1 + 1, 0, none⟩ (.slice xa R'.all.length xc)).setCell ⟨w.heap.size + 1 + 1, 1, none⟩ (.slice xb R'.hist.length xd)).setCell ⟨w.heap.size + 1 + 1, 2, none⟩ (.slice xe R'.ev.length xf)).setCell ⟨w.heap.size + 1 + 1, 3, none⟩ (.slice xg R'.blk.length xh)) :=
        ((hkY.mono (fun k _ e => ⟨by omega, by omega⟩)).trans hkb (fun k _ e => by have := hqlt k e; exact ⟨by omega, by omega⟩)).trans hkZ (fun k _ e => ⟨by omega, by omega⟩)
      refine bodyPost_ret (v := .tuple #[RefV.val ⟨.slice xa R'.all.length xc, .slice xb R'.hist.length xd, .slice xe R'.ev.length xf, .slice xg R'.blk.length xh, ps5, hs5⟩, .bool true]) (by simp [results, Try.results31, RefV.val, go_sem, v0, v1, v2, v3]) rfl ?_
      have hnr : ∀ k, (w.heap.size + 1 + 1 ≤ k ∧ k < w3.heap.size) → ¬ rp ⟨.slice xa R'.all.length xc, .slice xb R'.hist.length xd, .slice xe R'.ev.length xf, .slice xg R'.blk.length xh, ps5, hs5⟩ k := fun k hk hr => by
        rcases hnw k hr with e | e
        · have := h.ref.lt k e; omega
        · omega
      have hnf : ∀ k, (w.heap.size + 1 + 1 ≤ k ∧ k < w3.heap.size) → ¬ fp D4 b k := fun k hk hr => by
        rcases hfp' k hr with e | e
        · have := hfar k e; omega
        · omega
      have hkAb := Below.kp (Below.refl (w.heap.size + 1 + 1) w5) hkA (by omega) (fun k e => e.1)
      refine ⟨_, D4, rfl, ⟨r5.kp hkA (fun k hf hk => hnf k hk hf), h5.same (fun k hr => hkA.block k (h5.lt k hr) (fun e => hnr k e hr)), hlk', hok', fun k hr hw => ?_⟩, ⟨t5.kp.trans (hkA.mono (fun k _ e => e)) ?_, t5.wr, t5.hp⟩, (hnw.mono (by omega))⟩
      · rcases hnw k hr with e | e
        · rcases hwr4 k hw with e' | e'
          · exact h.ap k e e'
          · have := h.ref.lt k e; omega
        · have := h4fp k (.inl hw); omega
      · intro k hk e; omega
set_option maxHeartbeats 3200000 in
set_option maxRecDepth 100000 in
theorem launch4 (c : Nat) (V : RefV) (R : RefM) (b : Nat) (N : NetM) (D : ND) (x : AV) (m : Pk) (w : World) (h : St c w b N D V R) (hcc : c ≤ 30000) (hx : Src w b D x.p m) (hk : x.what = 4) :
    Calls Try.prog 31 #[.pointer (some ⟨b, 0, none⟩), V.val, x.val] w (LPost c V D b (N.dup x.id).1 (R.dup x.id).1 w) := by
  have hl := h.lk.lim h.ok (by omega)
  have hf := h.lk.few h.ok
  have hlR := h.ok.lim (by omega)
  have hallR := h.ok.all
  have hlk := h.lk
  have hok := h.ok
  obtain ⟨aa, ac, ha, hc, ea, ec, ba, bc, h1, h2, h3, h4⟩ := h.ref.forms
  obtain ⟨al, hi, ev, bl, ps, hs'⟩ := V
  simp only at h1 h2 h3 h4
  subst h1 h2 h3 h4
  simp only [RefV.val, AV.val]
  obtain ⟨e1, e2, e3, e4⟩ := top4 w (.cells #[.slice aa R.all.length ac, .slice ha R.hist.length hc, .slice ea R.ev.length ec, .slice ba R.blk.length bc] 35) (.cells #[.int .i64 x.what, .int .i64 x.id, .int .i64 x.off, .int .u8 x.mask, .string x.p.f, .string x.p.t, .slice x.p.ba x.p.bn x.p.bc] 42) (.cells #[.slice none 0 0, .slice none 0 0, .slice none 0 0, .slice none 0 0] 35) (.cells #[.slice none 0 0, .slice none 0 0, .slice none 0 0, .slice none 0 0] 35)
  have hb1 : Below w.heap.size w ((((w.alloc (.cells #[.slice aa R.all.length ac, .slice ha R.hist.length hc, .slice ea R.ev.length ec, .slice ba R.blk.length bc] 35)).alloc (.cells #[.int .i64 x.what, .int .i64 x.id, .int .i64 x.off, .int .u8 x.mask, .string x.p.f, .string x.p.t, .slice x.p.ba x.p.bn x.p.bc] 42)).alloc (.cells #[.slice none 0 0, .slice none 0 0, .slice none 0 0, .slice none 0 0] 35)).alloc (.cells #[.slice none 0 0, .slice none 0 0, .slice none 0 0, .slice none 0 0] 35)) := ((((Below.refl _ _).alloc (Nat.le_refl _) _).alloc (by simp) _).alloc (by simp; omega) _).alloc (by simp; omega) _
  have hk2 : (x.what == 2) = false := by simp [hk]
  have hk3 : (x.what == 3) = false := by simp [hk]
  have hk4 : (x.what == 4) = true := by simp [hk]
  clear hk
  obtain ⟨N', hN'⟩ : ∃ N', N' = (N.dup x.id).1 := ⟨_, rfl⟩
  obtain ⟨⟨R', rid, rer⟩, hRR⟩ : ∃ RR, RR = R.dup x.id := ⟨_, rfl⟩
  rw [← hN', ← hRR]
  have HN := Lib.hid hN'
  have HR := Lib.hid hRR
  clear hN' hRR
  go_enter Try.func31, Try.ntmps31
  go_wp2_with fail
  generalize (((w.alloc (.cells #[.slice aa R.all.length ac, .slice ha R.hist.length hc, .slice ea R.ev.length ec, .slice ba R.blk.length bc] 35)).alloc (.cells #[.int .i64 x.what, .int .i64 x.id, .int .i64 x.off, .int .u8 x.mask, .string x.p.f, .string x.p.t, .slice x.p.ba x.p.bn x.p.bc] 42)).alloc (.cells #[.slice none 0 0, .slice none 0 0, .slice none 0 0, .slice none 0 0] 35)).alloc (.cells #[.slice none 0 0, .slice none 0 0, .slice none 0 0, .slice none 0 0] 35) = w1 at e1 e2 e3 e4 hb1 ⊢
  have hx1 : PSrc w1 x.p m := ⟨hx.src.pin.below hb1 (Nat.le_refl _), hx.src.nil⟩
  have hw1 := lt_of_heap e4
  refine (own_any x.p m w1 hx1 (by have := hx.src.pin.n; have := hx.ok.bs; omega)).mono ?_
  rintro e w2 ⟨⟨qf, qt, qa, qn, qc⟩, rfl, hqo, hqn, hbl2⟩
  simp only [PV.val]
  have f1 := (hbl2.block _ (lt_of_heap e1)).trans e1
  have f2 := (hbl2.block _ (lt_of_heap e2)).trans e2
  have f3 := (hbl2.block _ (lt_of_heap e3)).trans e3
  have f4 := (hbl2.block _ (lt_of_heap e4)).trans e4
  have hb2 := hb1.trans (hbl2.mono hb1.size)
  have hw2 := lt_of_heap f4
  have hbx := (Below.refl w2.heap.size w2).alloc (Nat.le_refl _) (.cells #[.string qf, .string qt, .slice qa qn qc] 40)
  have g1 := (hbx.block _ (lt_of_heap f1)).trans f1
  have g2 := (hbx.block _ (lt_of_heap f2)).trans f2
  have g3 := (hbx.block _ (lt_of_heap f3)).trans f3
  have g4 := (hbx.block _ (lt_of_heap f4)).trans f4
  have gq := heap_alloc_new w2 (.cells #[.string qf, .string qt, .slice qa qn qc] 40)
  have hb3 := hb2.trans (hbx.mono hb2.size)
  have hqo3 := hqo.below hbx (Nat.le_refl _)
  obtain ⟨c0, c1, c2, c3, c4, c5, c6, cl⟩ := blk7 f2
  have hqlt : ∀ k, PV.blk ⟨qf, qt, qa, qn, qc⟩ = some k → w1.heap.size ≤ k ∧ k < w2.heap.size := fun k hk => ⟨hqn k hk, hqo.lt hk⟩
  clear e1 e2 e3 e4 hbl2 f1 f3 f4 hqo hqn hb1 hb2 hbx hx1
  go_wp2_with fail
  generalize hA : w2.heap.size = A at gq hw2 hqlt ⊢
  have hw3 : (w2.alloc (.cells #[.string qf, .string qt, .slice qa qn qc] 40)).heap.size = A + 1 := by rw [← hA]; simp
  clear hA
  generalize w2.alloc (.cells #[.string qf, .string qt, .slice qa qn qc] 40) = w3 at g1 g2 g3 g4 gq hb3 hqo3 hw3 ⊢
  clear c0 c1 c2 c3 c4 c5 c6 cl f2
  obtain ⟨c0, c1, c2, c3, c4, c5, c6, cl⟩ := blk7 g2
  obtain ⟨p0, p1, p2, _, _, _, _⟩ := blk3 gq
  go_wp2_with fail
  have hfar : ∀ k, fp D b k → k < w.heap.size := h.rep.fp_lt
  refine (dup_any b N D x.id w3 c (h.rep.below hb3 (Nat.le_refl _)) hl hf (by omega)).mono ?_
  rintro e w4 ⟨rfl, D4, r4, t4⟩
  have hfp4 : ∀ k, w.heap.size ≤ k → k < w3.heap.size → ¬ wr D b k := fun k h1 h2 h3 => by have := hfar k (.inl h3); omega
  have k1 := (t4.kp.block _ (lt_of_heap g1) (hfp4 _ (by omega) (lt_of_heap g1))).trans g1
  have k2 := (t4.kp.block _ (lt_of_heap g2) (hfp4 _ (by omega) (lt_of_heap g2))).trans g2
  have k3 := (t4.kp.block _ (lt_of_heap g3) (hfp4 _ (by omega) (lt_of_heap g3))).trans g3
  have k4 := (t4.kp.block _ (lt_of_heap g4) (hfp4 _ (by omega) (lt_of_heap g4))).trans g4
  have kq := (t4.kp.block _ (lt_of_heap gq) (hfp4 _ (by omega) (lt_of_heap gq))).trans gq
  have hqo4 := hqo3.kp t4.kp (fun k hk => hfp4 k (by have := (hqlt k hk).1; omega) (by have := (hqlt k hk).2; omega))
  have hx4 : PSrc w4 x.p m := ⟨(hx.src.pin.below hb3 (Nat.le_refl _)).kp0 t4.kp hx.far, hx.src.nil⟩
  have hV4 := (h.ref.below hb3 (Nat.le_refl _)).same (fun k hk => t4.kp.block k (by have := h.ref.lt k hk; have := hb3.size; omega) (h.ap k hk))
  have t3 : Turns D D4 b w w4 := Turns.of_below' hb3 t4
  have hs34 : w3.heap.size ≤ w4.heap.size := t4.kp.size
  have hwr4 : ∀ k, wr D4 b k → wr D b k ∨ w3.heap.size ≤ k := t4.wr
  have hfp' : ∀ k, fp D4 b k → fp D b k ∨ w3.heap.size ≤ k := t4.fp
  clear g1 g2 g3 g4 gq hb3 hqo3 c0 c1 c2 c3 c4 c5 c6 cl p0 p1 p2 t4
  obtain ⟨c0, c1, c2, c3, c4, c5, c6, cl⟩ := blk7 k2
  obtain ⟨y0, y1, y2, y3, _, _⟩ := blk4 k1
  go_wp2_with fail
  refine (dupR_any _ R x.id w4 hV4 hlR (by omega)).mono ?_
  rintro e w5 ⟨⟨al5, hi5, ev5, bl5, ps5, hs5⟩, rfl, h5, hbl5, hnw⟩
  obtain ⟨xa, xc, xb, xd, xe, xf, xg, xh, z1, z2, z3, z4⟩ := h5.forms
  simp only at z1 z2 z3 z4
  subst z1 z2 z3 z4
  simp only [RefV.val]
  have q3 := (hbl5.block _ (lt_of_heap k3)).trans k3
  have q4 := (hbl5.block _ (lt_of_heap k4)).trans k4
  have qq := (hbl5.block _ (lt_of_heap kq)).trans kq
  have hqo5 := hqo4.below hbl5 (Nat.le_refl _)
  have r5 := r4.below hbl5 (Nat.le_refl _)
  have t5 := t3.below hbl5
  have hs45 : w4.heap.size ≤ w5.heap.size := hbl5.size
  clear c0 c1 c2 c3 c4 c5 c6 cl y0 y1 y2 y3 k1 k2 k3 k4 kq hqo4 hx4 hV4 t3 hbl5
  have hok' := hok.dup x.id
  obtain ⟨hlk', hres⟩ := hlk.dup x.id
  rw [hres]
  have h4fp : ∀ k, fp D4 b k → k < w4.heap.size := r4.fp_lt
  rw [← HN.out] at r5 hlk'
  rw [← HR.out] at h5 hnw hok' hlk'
  simp only at h5 hnw hok' hlk'
  rw [← HR.out]
  dsimp only
  clear hres r4
  obtain ⟨u0, u1, u2, u3, uf, ul⟩ := blk4 q4
  obtain ⟨p0, p1, p2, _, _, _, pl⟩ := blk3 qq
  have hqnl : qn ≤ 100 := by have := hqo5.n; have := hx.ok.bs; dsimp only at *; omega
  have hlen : m.bs.length = qn := hqo5.n
  have yb : w5.ownsRow 0 5 1 (.slice qa qn qc) qn (m.bs.map (Value.int .u8)) := hqo5.b
  have hA5 : A < w5.heap.size := pl
  have hq40 : ∀ k, PV.blk ⟨qf, qt, qa, qn, qc⟩ = some k → k ≠ A ∧ k ≠ w.heap.size + 1 + 1 ∧ k ≠ w.heap.size + 1 + 1 + 1 := fun k hk => by
    have := hqlt k hk
    exact ⟨by omega, by omega, by omega⟩
  go_wp2_with fail
  have hkY := ((((Kp.refl (fun j => j = w.heap.size + 1 + 1 + 1) w5).setCell (p := ⟨w.heap.size + 1 + 1 + 1, 0, none⟩) (fun _ => rfl) (.slice xa R'.all.length xc)).setCell (p := ⟨w.heap.size + 1 + 1 + 1, 1, none⟩) (fun _ => rfl) (.slice xb R'.hist.length xd)).setCell (p := ⟨w.heap.size + 1 + 1 + 1, 2, none⟩) (fun _ => rfl) (.slice xe R'.ev.length xf)).setCell (p := ⟨w.heap.size + 1 + 1 + 1, 3, none⟩) (fun _ => rfl) (.slice xg R'.blk.length xh)
  have y4 : ((((w5.setCell ⟨w.heap.size + 1 + 1 + 1, 0, none⟩ (.slice xa R'.all.length xc)).setCell ⟨w.heap.size + 1 + 1 + 1, 1, none⟩ (.slice xb R'.hist.length xd)).setCell ⟨w.heap.size + 1 + 1 + 1, 2, none⟩ (.slice xe R'.ev.length xf)).setCell ⟨w.heap.size + 1 + 1 + 1, 3, none⟩ (.slice xg R'.blk.length xh)).heap[w.heap.size + 1 + 1 + 1]? = some (.cells #[.slice xa R'.all.length xc, .slice xb R'.hist.length xd, .slice xe R'.ev.length xf, .slice xg R'.blk.length xh] 35) := by simp [World.setCell, Array.getElem?_modify, q4]
  have y3 := (hkY.block _ (lt_of_heap q3) (by omega)).trans q3
  have yq := (hkY.block _ hA5 (by omega)).trans qq
  have hz5 : ((((w5.setCell ⟨w.heap.size + 1 + 1 + 1, 0, none⟩ (.slice xa R'.all.length xc)).setCell ⟨w.heap.size + 1 + 1 + 1, 1, none⟩ (.slice xb R'.hist.length xd)).setCell ⟨w.heap.size + 1 + 1 + 1, 2, none⟩ (.slice xe R'.ev.length xf)).setCell ⟨w.heap.size + 1 + 1 + 1, 3, none⟩ (.slice xg R'.blk.length xh)).heap.size = w5.heap.size := by simp [World.setCell]
  have yb' := ownsRow_kp yb hkY (fun k hk => (hq40 k hk).2.2)
  clear u0 u1 u2 u3 uf ul p0 p1 p2 q3 q4 qq yb
  generalize (((w5.setCell ⟨w.heap.size + 1 + 1 + 1, 0, none⟩ (.slice xa R'.all.length xc)).setCell ⟨w.heap.size + 1 + 1 + 1, 1, none⟩ (.slice xb R'.hist.length xd)).setCell ⟨w.heap.size + 1 + 1 + 1, 2, none⟩ (.slice xe R'.ev.length xf)).setCell ⟨w.heap.size + 1 + 1 + 1, 3, none⟩ (.slice xg R'.blk.length xh) = Y at hkY y4 y3 yq yb' hz5 ⊢
  have HQN := Lib.hid hlen
  clear hlen
  go_loopw [14] (fun i wr => ∃ (j : Nat) (bs : List Int), j ≤ qn ∧ i = .int .i64 j ∧ bs.length = qn ∧ wr.ownsRow 0 5 1 (.slice qa qn qc) qn (bs.map (Value.int .u8)) ∧ Kp (fun z => PV.blk ⟨qf, qt, qa, qn, qc⟩ = some z) Y wr) (fun i _ => qn - (intOf i).toNat)
  case atStart => exact ⟨0, _, Nat.zero_le _, rfl, HQN.out, yb', Kp.refl _ _⟩
  case round =>
    obtain ⟨j, bs, hj, rfl, hbl, hob, hkb⟩ := hrel
    have wA := (hkb.block _ (lt_of_heap yq) (fun e => (hq40 _ e).1 rfl)).trans yq
    obtain ⟨p0, p1, p2, _, _, _, pl⟩ := blk3 wA
    by_cases hjl : j < qn
    · obtain ⟨gq, cq, hgq, _, hgl⟩ := hob.form (by omega)
      injection hgq with hq1 _ hq2
      subst hq1 hq2
      obtain ⟨bj, hbj⟩ : ∃ bj, bs[j]? = some bj := ⟨_, List.getElem?_eq_getElem (by omega)⟩
      have dj : wr.cell? ⟨gq, j, none⟩ = some (.int .u8 bj) := by
        rw [hob.cellAt j (by omega), List.getElem?_map, hbj]; rfl
      have df : wr.frozen? ⟨gq, j, none⟩ = false := hob.frozenAt j
      have j0 : (0 : Int) ≤ (j : Int) := by omega
      have j3 : (j : Int) < (qn : Int) := by omega
      have j4 : (qn : Int) ≤ 100 := by omega
      clear hbj
      go_wp2_with fail
      go_roundw
      case rel =>
        refine ⟨j + 1, bs.set j ((bj + 1) % 256), by omega, by go_num, by simpa using hbl, ?_, hkb.setCell (p := ⟨gq, j, none⟩) (fun _ => rfl) _⟩
        rw [List.map_set]
        exact (hob.stored j _).1
      case measure => simp [intOf]; omega
    · obtain rfl : j = qn := by omega
      have w4' := (hkb.block _ (lt_of_heap y4) (fun e => (hq40 _ e).2.2 rfl)).trans y4
      have w3' := (hkb.block _ (lt_of_heap y3) (fun e => (hq40 _ e).2.1 rfl)).trans y3
      obtain ⟨u0, u1, u2, u3, uf, ul⟩ := blk4 w4'
      obtain ⟨v0, v1, v2, v3, vf, vl⟩ := blk4 w3'
      go_wp2_with fail
      have hkZ := ((((Kp.refl (fun j => j = w.heap.size + 1 + 1) wr).setCell (p := ⟨w.heap.size + 1 + 1, 0, none⟩) (fun _ => rfl) (.slice xa R'.all.length xc)).setCell (p := ⟨w.heap.size + 1 + 1, 1, none⟩) (fun _ => rfl) (.slice xb R'.hist.length xd)).setCell (p := ⟨w.heap.size + 1 + 1, 2, none⟩) (fun _ => rfl) (.slice xe R'.ev.length xf)).setCell (p := ⟨w.heap.size + 1 + 1, 3, none⟩) (fun _ => rfl) (.slice xg R'.blk.length xh)
      have hkA : Kp (fun k => w.heap.size + 1 + 1 ≤ k ∧ k < w3.heap.size) w5 ((((wr.setCell ⟨w.heap.size + 1 + 1, 0, none⟩ (.slice xa R'.all.length xc)).setCell ⟨w.heap.size + 1 + 1, 1, none⟩ (.slice xb R'.hist.length xd)).setCell ⟨w.heap.size + 1 + 1, 2, none⟩ (.slice xe R'.ev.length xf)).setCell ⟨w.heap.size + 1 + 1, 3, none⟩ (.slice xg R'.blk.length xh)) :=
        ((hkY.mono (fun k _ e => ⟨by omega, by omega⟩)).trans hkb (fun k _ e => by have := hqlt k e; exact ⟨by omega, by omega⟩)).trans hkZ (fun k _ e => ⟨by omega, by omega⟩)
      refine bodyPost_ret (v := .tuple #[RefV.val ⟨.slice xa R'.all.length xc, .slice xb R'.hist.length xd, .slice xe R'.ev.length xf, .slice xg R'.blk.length xh, ps5, hs5⟩, .bool true]) (by simp [results, Try.results31, RefV.val, go_sem, v0, v1, v2, v3]) rfl ?_
      have hnr : ∀ k, (w.heap.size + 1 + 1 ≤ k ∧ k < w3.heap.size) → ¬ rp ⟨.slice xa R'.all.length xc, .slice xb R'.hist.length xd, .slice xe R'.ev.length xf, .slice xg R'.blk.length xh, ps5, hs5⟩ k := fun k hk hr => by
        rcases hnw k hr with e | e
        · have := h.ref.lt k e; omega
        · omega
      have hnf : ∀ k, (w.heap.size + 1 + 1 ≤ k ∧ k < w3.heap.size) → ¬ fp D4 b k := fun k hk hr => by
        rcases hfp' k hr with e | e
        · have := hfar k e; omega
        · omega
      have hkAb := Below.kp (Below.refl (w.heap.size + 1 + 1) w5) hkA (by omega) (fun k e => e.1)
      refine ⟨_, D4, rfl, ⟨r5.kp hkA (fun k hf hk => hnf k hk hf), h5.same (fun k hr => hkA.block k (h5.lt k hr) (fun e => hnr k e hr)), hlk', hok', fun k hr hw => ?_⟩, ⟨t5.kp.trans (hkA.mono (fun k _ e => e)) ?_, t5.wr, t5.hp⟩, (hnw.mono (by omega))⟩
      · rcases hnw k hr with e | e
        · rcases hwr4 k hw with e' | e'
          · exact h.ap k e e'
          · have := h.ref.lt k e; omega
        · have := h4fp k (.inl hw); omega
      · intro k hk e; omega
set_option maxHeartbeats 3200000 in
set_option maxRecDepth 100000 in
theorem launch1 (c : Nat) (V : RefV) (R : RefM) (b : Nat) (N : NetM) (D : ND) (x : AV) (m : Pk) (w : World) (h : St c w b N D V R) (hcc : c ≤ 30000) (hx : Src w b D x.p m) (hk : x.what ≠ 2 ∧ x.what ≠ 3 ∧ x.what ≠ 4) :
    Calls Try.prog 31 #[.pointer (some ⟨b, 0, none⟩), V.val, x.val] w (LPost c V D b (N.send m).1 (R.send m).1 w) := by
  have hl := h.lk.lim h.ok (by omega)
  have hf := h.lk.few h.ok
  have hlR := h.ok.lim (by omega)
  have hallR := h.ok.all
  have hlk := h.lk
  have hok := h.ok
  obtain ⟨aa, ac, ha, hc, ea, ec, ba, bc, h1, h2, h3, h4⟩ := h.ref.forms
  obtain ⟨al, hi, ev, bl, ps, hs'⟩ := V
  simp only at h1 h2 h3 h4
  subst h1 h2 h3 h4
  simp only [RefV.val, AV.val]
  obtain ⟨e1, e2, e3, e4⟩ := top4 w (.cells #[.slice aa R.all.length ac, .slice ha R.hist.length hc, .slice ea R.ev.length ec, .slice ba R.blk.length bc] 35) (.cells #[.int .i64 x.what, .int .i64 x.id, .int .i64 x.off, .int .u8 x.mask, .string x.p.f, .string x.p.t, .slice x.p.ba x.p.bn x.p.bc] 42) (.cells #[.slice none 0 0, .slice none 0 0, .slice none 0 0, .slice none 0 0] 35) (.cells #[.slice none 0 0, .slice none 0 0, .slice none 0 0, .slice none 0 0] 35)
  have hb1 : Below w.heap.size w ((((w.alloc (.cells #[.slice aa R.all.length ac, .slice ha R.hist.length hc, .slice ea R.ev.length ec, .slice ba R.blk.length bc] 35)).alloc (.cells #[.int .i64 x.what, .int .i64 x.id, .int .i64 x.off, .int .u8 x.mask, .string x.p.f, .string x.p.t, .slice x.p.ba x.p.bn x.p.bc] 42)).alloc (.cells #[.slice none 0 0, .slice none 0 0, .slice none 0 0, .slice none 0 0] 35)).alloc (.cells #[.slice none 0 0, .slice none 0 0, .slice none 0 0, .slice none 0 0] 35)) := ((((Below.refl _ _).alloc (Nat.le_refl _) _).alloc (by simp) _).alloc (by simp; omega) _).alloc (by simp; omega) _
  have hk2 : (x.what == 2) = false := by simpa using hk.1
  have hk3 : (x.what == 3) = false := by simpa using hk.2.1
  have hk4 : (x.what == 4) = false := by simpa using hk.2.2
  clear hk
  obtain ⟨N', hN'⟩ : ∃ N', N' = (N.send m).1 := ⟨_, rfl⟩
  obtain ⟨⟨R', rid, rer⟩, hRR⟩ : ∃ RR, RR = R.send m := ⟨_, rfl⟩
  rw [← hN', ← hRR]
  have HN := Lib.hid hN'
  have HR := Lib.hid hRR
  clear hN' hRR
  go_enter Try.func31, Try.ntmps31
  go_wp2_with fail
  generalize (((w.alloc (.cells #[.slice aa R.all.length ac, .slice ha R.hist.length hc, .slice ea R.ev.length ec, .slice ba R.blk.length bc] 35)).alloc (.cells #[.int .i64 x.what, .int .i64 x.id, .int .i64 x.off, .int .u8 x.mask, .string x.p.f, .string x.p.t, .slice x.p.ba x.p.bn x.p.bc] 42)).alloc (.cells #[.slice none 0 0, .slice none 0 0, .slice none 0 0, .slice none 0 0] 35)).alloc (.cells #[.slice none 0 0, .slice none 0 0, .slice none 0 0, .slice none 0 0] 35) = w1 at e1 e2 e3 e4 hb1 ⊢
  have hx1 : PSrc w1 x.p m := ⟨hx.src.pin.below hb1 (Nat.le_refl _), hx.src.nil⟩
  have hw1 := lt_of_heap e4
  refine (own_any x.p m w1 hx1 (by have := hx.src.pin.n; have := hx.ok.bs; omega)).mono ?_
  rintro e w2 ⟨⟨qf, qt, qa, qn, qc⟩, rfl, hqo, hqn, hbl2⟩
  simp only [PV.val]
  have f1 := (hbl2.block _ (lt_of_heap e1)).trans e1
  have f2 := (hbl2.block _ (lt_of_heap e2)).trans e2
  have f3 := (hbl2.block _ (lt_of_heap e3)).trans e3
  have f4 := (hbl2.block _ (lt_of_heap e4)).trans e4
  have hb2 := hb1.trans (hbl2.mono hb1.size)
  have hw2 := lt_of_heap f4
  have hbx := (Below.refl w2.heap.size w2).alloc (Nat.le_refl _) (.cells #[.string qf, .string qt, .slice qa qn qc] 40)
  have g1 := (hbx.block _ (lt_of_heap f1)).trans f1
  have g2 := (hbx.block _ (lt_of_heap f2)).trans f2
  have g3 := (hbx.block _ (lt_of_heap f3)).trans f3
  have g4 := (hbx.block _ (lt_of_heap f4)).trans f4
  have gq := heap_alloc_new w2 (.cells #[.string qf, .string qt, .slice qa qn qc] 40)
  have hb3 := hb2.trans (hbx.mono hb2.size)
  have hqo3 := hqo.below hbx (Nat.le_refl _)
  obtain ⟨c0, c1, c2, c3, c4, c5, c6, cl⟩ := blk7 f2
  have hqlt : ∀ k, PV.blk ⟨qf, qt, qa, qn, qc⟩ = some k → w1.heap.size ≤ k ∧ k < w2.heap.size := fun k hk => ⟨hqn k hk, hqo.lt hk⟩
  clear e1 e2 e3 e4 hbl2 f1 f3 f4 hqo hqn hb1 hb2 hbx hx1
  go_wp2_with fail
  generalize hA : w2.heap.size = A at gq hw2 hqlt ⊢
  have hw3 : (w2.alloc (.cells #[.string qf, .string qt, .slice qa qn qc] 40)).heap.size = A + 1 := by rw [← hA]; simp
  clear hA
  generalize w2.alloc (.cells #[.string qf, .string qt, .slice qa qn qc] 40) = w3 at g1 g2 g3 g4 gq hb3 hqo3 hw3 ⊢
  clear c0 c1 c2 c3 c4 c5 c6 cl f2
  obtain ⟨c0, c1, c2, c3, c4, c5, c6, cl⟩ := blk7 g2
  obtain ⟨p0, p1, p2, _, _, _, _⟩ := blk3 gq
  go_wp2_with fail
  have hfar : ∀ k, fp D b k → k < w.heap.size := h.rep.fp_lt
  refine (send_any b N D ⟨qf, qt, qa, qn, qc⟩ m w3 c (h.rep.below hb3 (Nat.le_refl _)) hl hf (by omega) hqo3.pin (fun k hk e => by have := hfar k e; have := (hqlt k hk).1; omega) hx.ok).mono ?_
  rintro e w4 ⟨rfl, D4, r4, t4⟩
  have hfp4 : ∀ k, w.heap.size ≤ k → k < w3.heap.size → ¬ wr D b k := fun k h1 h2 h3 => by have := hfar k (.inl h3); omega
  have k1 := (t4.kp.block _ (lt_of_heap g1) (hfp4 _ (by omega) (lt_of_heap g1))).trans g1
  have k2 := (t4.kp.block _ (lt_of_heap g2) (hfp4 _ (by omega) (lt_of_heap g2))).trans g2
  have k3 := (t4.kp.block _ (lt_of_heap g3) (hfp4 _ (by omega) (lt_of_heap g3))).trans g3
  have k4 := (t4.kp.block _ (lt_of_heap g4) (hfp4 _ (by omega) (lt_of_heap g4))).trans g4
  have kq := (t4.kp.block _ (lt_of_heap gq) (hfp4 _ (by omega) (lt_of_heap gq))).trans gq
  have hqo4 := hqo3.kp t4.kp (fun k hk => hfp4 k (by have := (hqlt k hk).1; omega) (by have := (hqlt k hk).2; omega))
  have hx4 : PSrc w4 x.p m := ⟨(hx.src.pin.below hb3 (Nat.le_refl _)).kp0 t4.kp hx.far, hx.src.nil⟩
  have hV4 := (h.ref.below hb3 (Nat.le_refl _)).same (fun k hk => t4.kp.block k (by have := h.ref.lt k hk; have := hb3.size; omega) (h.ap k hk))
  have t3 : Turns D D4 b w w4 := Turns.of_below' hb3 t4
  have hs34 : w3.heap.size ≤ w4.heap.size := t4.kp.size
  have hwr4 : ∀ k, wr D4 b k → wr D b k ∨ w3.heap.size ≤ k := t4.wr
  have hfp' : ∀ k, fp D4 b k → fp D b k ∨ w3.heap.size ≤ k := t4.fp
  clear g1 g2 g3 g4 gq hb3 hqo3 c0 c1 c2 c3 c4 c5 c6 cl p0 p1 p2 t4
  obtain ⟨c0, c1, c2, c3, c4, c5, c6, cl⟩ := blk7 k2
  obtain ⟨y0, y1, y2, y3, _, _⟩ := blk4 k1
  go_wp2_with fail
  refine (sendR_any _ R x.p m w4 hV4 hlR (by omega) hx4 hx.ok).mono ?_
  rintro e w5 ⟨⟨al5, hi5, ev5, bl5, ps5, hs5⟩, rfl, h5, hbl5, hnw⟩
  obtain ⟨xa, xc, xb, xd, xe, xf, xg, xh, z1, z2, z3, z4⟩ := h5.forms
  simp only at z1 z2 z3 z4
  subst z1 z2 z3 z4
  simp only [RefV.val]
  have q3 := (hbl5.block _ (lt_of_heap k3)).trans k3
  have q4 := (hbl5.block _ (lt_of_heap k4)).trans k4
  have qq := (hbl5.block _ (lt_of_heap kq)).trans kq
  have hqo5 := hqo4.below hbl5 (Nat.le_refl _)
  have r5 := r4.below hbl5 (Nat.le_refl _)
  have t5 := t3.below hbl5
  have hs45 : w4.heap.size ≤ w5.heap.size := hbl5.size
  clear c0 c1 c2 c3 c4 c5 c6 cl y0 y1 y2 y3 k1 k2 k3 k4 kq hqo4 hx4 hV4 t3 hbl5
  have hok' := hok.send hx.ok
  obtain ⟨hlk', hres⟩ := hlk.send m
  rw [hres]
  have h4fp : ∀ k, fp D4 b k → k < w4.heap.size := r4.fp_lt
  rw [← HN.out] at r5 hlk'
  rw [← HR.out] at h5 hnw hok' hlk'
  simp only at h5 hnw hok' hlk'
  rw [← HR.out]
  dsimp only
  clear hres r4
  obtain ⟨u0, u1, u2, u3, uf, ul⟩ := blk4 q4
  obtain ⟨p0, p1, p2, _, _, _, pl⟩ := blk3 qq
  have hqnl : qn ≤ 100 := by have := hqo5.n; have := hx.ok.bs; dsimp only at *; omega
  have hlen : m.bs.length = qn := hqo5.n
  have yb : w5.ownsRow 0 5 1 (.slice qa qn qc) qn (m.bs.map (Value.int .u8)) := hqo5.b
  have hA5 : A < w5.heap.size := pl
  have hq40 : ∀ k, PV.blk ⟨qf, qt, qa, qn, qc⟩ = some k → k ≠ A ∧ k ≠ w.heap.size + 1 + 1 ∧ k ≠ w.heap.size + 1 + 1 + 1 := fun k hk => by
    have := hqlt k hk
    exact ⟨by omega, by omega, by omega⟩
  go_wp2_with fail
  have hkY := ((((Kp.refl (fun j => j = w.heap.size + 1 + 1 + 1) w5).setCell (p := ⟨w.heap.size + 1 + 1 + 1, 0, none⟩) (fun _ => rfl) (.slice xa R'.all.length xc)).setCell (p := ⟨w.heap.size + 1 + 1 + 1, 1, none⟩) (fun _ => rfl) (.slice xb R'.hist.length xd)).setCell (p := ⟨w.heap.size + 1 + 1 + 1, 2, none⟩) (fun _ => rfl) (.slice xe R'.ev.length xf)).setCell (p := ⟨w.heap.size + 1 + 1 + 1, 3, none⟩) (fun _ => rfl) (.slice xg R'.blk.length xh)
  have y4 : ((((w5.setCell ⟨w.heap.size + 1 + 1 + 1, 0, none⟩ (.slice xa R'.all.length xc)).setCell ⟨w.heap.size + 1 + 1 + 1, 1, none⟩ (.slice xb R'.hist.length xd)).setCell ⟨w.heap.size + 1 + 1 + 1, 2, none⟩ (.slice xe R'.ev.length xf)).setCell ⟨w.heap.size + 1 + 1 + 1, 3, none⟩ (.slice xg R'.blk.length xh)).heap[w.heap.size + 1 + 1 + 1]? = some (.cells #[.slice xa R'.all.length xc, .slice xb R'.hist.length xd, .slice xe R'.ev.length xf, .slice xg R'.blk.length xh] 35) := by simp [World.setCell, Array.getElem?_modify, q4]
  have y3 := (hkY.block _ (lt_of_heap q3) (by omega)).trans q3
  have yq := (hkY.block _ hA5 (by omega)).trans qq
  have hz5 : ((((w5.setCell ⟨w.heap.size + 1 + 1 + 1, 0, none⟩ (.slice xa R'.all.length xc)).setCell ⟨w.heap.size + 1 + 1 + 1, 1, none⟩ (.slice xb R'.hist.length xd)).setCell ⟨w.heap.size + 1 + 1 + 1, 2, none⟩ (.slice xe R'.ev.length xf)).setCell ⟨w.heap.size + 1 + 1 + 1, 3, none⟩ (.slice xg R'.blk.length xh)).heap.size = w5.heap.size := by simp [World.setCell]
  have yb' := ownsRow_kp yb hkY (fun k hk => (hq40 k hk).2.2)
  clear u0 u1 u2 u3 uf ul p0 p1 p2 q3 q4 qq yb
  generalize (((w5.setCell ⟨w.heap.size + 1 + 1 + 1, 0, none⟩ (.slice xa R'.all.length xc)).setCell ⟨w.heap.size + 1 + 1 + 1, 1, none⟩ (.slice xb R'.hist.length xd)).setCell ⟨w.heap.size + 1 + 1 + 1, 2, none⟩ (.slice xe R'.ev.length xf)).setCell ⟨w.heap.size + 1 + 1 + 1, 3, none⟩ (.slice xg R'.blk.length xh) = Y at hkY y4 y3 yq yb' hz5 ⊢
  have HQN := Lib.hid hlen
  clear hlen
  go_loopw [14] (fun i wr => ∃ (j : Nat) (bs : List Int), j ≤ qn ∧ i = .int .i64 j ∧ bs.length = qn ∧ wr.ownsRow 0 5 1 (.slice qa qn qc) qn (bs.map (Value.int .u8)) ∧ Kp (fun z => PV.blk ⟨qf, qt, qa, qn, qc⟩ = some z) Y wr) (fun i _ => qn - (intOf i).toNat)
  case atStart => exact ⟨0, _, Nat.zero_le _, rfl, HQN.out, yb', Kp.refl _ _⟩
  case round =>
    obtain ⟨j, bs, hj, rfl, hbl, hob, hkb⟩ := hrel
    have wA := (hkb.block _ (lt_of_heap yq) (fun e => (hq40 _ e).1 rfl)).trans yq
    obtain ⟨p0, p1, p2, _, _, _, pl⟩ := blk3 wA
    by_cases hjl : j < qn
    · obtain ⟨gq, cq, hgq, _, hgl⟩ := hob.form (by omega)
      injection hgq with hq1 _ hq2
      subst hq1 hq2
      obtain ⟨bj, hbj⟩ : ∃ bj, bs[j]? = some bj := ⟨_, List.getElem?_eq_getElem (by omega)⟩
      have dj : wr.cell? ⟨gq, j, none⟩ = some (.int .u8 bj) := by
        rw [hob.cellAt j (by omega), List.getElem?_map, hbj]; rfl
      have df : wr.frozen? ⟨gq, j, none⟩ = false := hob.frozenAt j
      have j0 : (0 : Int) ≤ (j : Int) := by omega
      have j3 : (j : Int) < (qn : Int) := by omega
      have j4 : (qn : Int) ≤ 100 := by omega
      clear hbj
      go_wp2_with fail
      go_roundw
      case rel =>
        refine ⟨j + 1, bs.set j ((bj + 1) % 256), by omega, by go_num, by simpa using hbl, ?_, hkb.setCell (p := ⟨gq, j, none⟩) (fun _ => rfl) _⟩
        rw [List.map_set]
        exact (hob.stored j _).1
      case measure => simp [intOf]; omega
    · obtain rfl : j = qn := by omega
      have w4' := (hkb.block _ (lt_of_heap y4) (fun e => (hq40 _ e).2.2 rfl)).trans y4
      have w3' := (hkb.block _ (lt_of_heap y3) (fun e => (hq40 _ e).2.1 rfl)).trans y3
      obtain ⟨u0, u1, u2, u3, uf, ul⟩ := blk4 w4'
      obtain ⟨v0, v1, v2, v3, vf, vl⟩ := blk4 w3'
      go_wp2_with fail
      have hkZ := ((((Kp.refl (fun j => j = w.heap.size + 1 + 1) wr).setCell (p := ⟨w.heap.size + 1 + 1, 0, none⟩) (fun _ => rfl) (.slice xa R'.all.length xc)).setCell (p := ⟨w.heap.size + 1 + 1, 1, none⟩) (fun _ => rfl) (.slice xb R'.hist.length xd)).setCell (p := ⟨w.heap.size + 1 + 1, 2, none⟩) (fun _ => rfl) (.slice xe R'.ev.length xf)).setCell (p := ⟨w.heap.size + 1 + 1, 3, none⟩) (fun _ => rfl) (.slice xg R'.blk.length xh)
      have hkA : Kp (fun k => w.heap.size + 1 + 1 ≤ k ∧ k < w3.heap.size) w5 ((((wr.setCell ⟨w.heap.size + 1 + 1, 0, none⟩ (.slice xa R'.all.length xc)).setCell ⟨w.heap.size + 1 + 1, 1, none⟩ (.slice xb R'.hist.length xd)).setCell ⟨w.heap.size + 1 + 1, 2, none⟩ (.slice xe R'.ev.length xf)).setCell ⟨w.heap.size + 1 + 1, 3, none⟩ (.slice xg R'.blk.length xh)) :=
        ((hkY.mono (fun k _ e => ⟨by omega, by omega⟩)).trans hkb (fun k _ e => by have := hqlt k e; exact ⟨by omega, by omega⟩)).trans hkZ (fun k _ e => ⟨by omega, by omega⟩)
      refine bodyPost_ret (v := .tuple #[RefV.val ⟨.slice xa R'.all.length xc, .slice xb R'.hist.length xd, .slice xe R'.ev.length xf, .slice xg R'.blk.length xh, ps5, hs5⟩, .bool true]) (by simp [results, Try.results31, RefV.val, go_sem, v0, v1, v2, v3]) rfl ?_
      have hnr : ∀ k, (w.heap.size + 1 + 1 ≤ k ∧ k < w3.heap.size) → ¬ rp ⟨.slice xa R'.all.length xc, .slice xb R'.hist.length xd, .slice xe R'.ev.length xf, .slice xg R'.blk.length xh, ps5, hs5⟩ k := fun k hk hr => by
        rcases hnw k hr with e | e
        · have := h.ref.lt k e; omega
        · omega
      have hnf : ∀ k, (w.heap.size + 1 + 1 ≤ k ∧ k < w3.heap.size) → ¬ fp D4 b k := fun k hk hr => by
        rcases hfp' k hr with e | e
        · have := hfar k e; omega
        · omega
      have hkAb := Below.kp (Below.refl (w.heap.size + 1 + 1) w5) hkA (by omega) (fun k e => e.1)
      refine ⟨_, D4, rfl, ⟨r5.kp hkA (fun k hf hk => hnf k hk hf), h5.same (fun k hr => hkA.block k (h5.lt k hr) (fun e => hnr k e hr)), hlk', hok', fun k hr hw => ?_⟩, ⟨t5.kp.trans (hkA.mono (fun k _ e => e)) ?_, t5.wr, t5.hp⟩, (hnw.mono (by omega))⟩
      · rcases hnw k hr with e | e
        · rcases hwr4 k hw with e' | e'
          · exact h.ap k e e'
          · have := h.ref.lt k e; omega
        · have := h4fp k (.inl hw); omega
      · intro k hk e; omega
/-- The call that puts a packet in flight. -/
def NetM.launch (N : NetM) (x : AV) (m : Pk) : NetM := if x.what = 2 then (N.inject m).1 else if x.what = 3 then (N.replay x.id).1 else if x.what = 4 then (N.dup x.id).1 else (N.send m).1
def RefM.launch (R : RefM) (x : AV) (m : Pk) : RefM := if x.what = 2 then (R.inject m).1 else if x.what = 3 then (R.replay x.id).1 else if x.what = 4 then (R.dup x.id).1 else (R.send m).1
theorem launchL_any (c : Nat) (V : RefV) (R : RefM) (b : Nat) (N : NetM) (D : ND) (x : AV) (m : Pk) (w : World) (h : St c w b N D V R) (hcc : c ≤ 30000) (hx : Src w b D x.p m) :
    Calls Try.prog 31 #[.pointer (some ⟨b, 0, none⟩), V.val, x.val] w (LPost c V D b (N.launch x m) (R.launch x m) w) := by
  unfold NetM.launch RefM.launch
  by_cases h2 : x.what = 2
  · rw [if_pos h2, if_pos h2]; exact launch2 c V R b N D x m w h hcc hx h2
  · rw [if_neg h2, if_neg h2]
    by_cases h3 : x.what = 3
    · rw [if_pos h3, if_pos h3]; exact launch3 c V R b N D x m w h hcc hx h3
    · rw [if_neg h3, if_neg h3]
      by_cases h4 : x.what = 4
      · rw [if_pos h4, if_pos h4]; exact launch4 c V R b N D x m w h hcc hx h4
      · rw [if_neg h4, if_neg h4]; exact launch1 c V R b N D x m w h hcc hx ⟨h2, h3, h4⟩
end Go.Proofs.Ytnkcgalbaeppmaa
