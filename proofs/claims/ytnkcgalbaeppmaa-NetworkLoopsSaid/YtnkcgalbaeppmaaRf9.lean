/- The reference's Inject. -/
import Derived.Test.YtnkcgalbaeppmaaRf8
namespace Go.Proofs.Ytnkcgalbaeppmaa
open Go.RowKit
/-- What a reference's call that hands back a network and two numbers leaves. -/
def Ref3 (V : RefV) (r : RefM × Int × Int) (w : World) (e : Ending) (w' : World) : Prop :=
  ∃ V', e = .returned (.tuple #[RefV.val V', .int .i64 r.2.1, .int .i64 r.2.2]) ∧ RefAt w' V' r.1 ∧ Below w.heap.size w w' ∧ News V V' w.heap.size
theorem below_four {B0 B : Nat} {w0 w : World} (h : Below B0 w0 w) (hB : B0 ≤ B) (a b c d : Value) : Below B0 w0 ((((w.setCell ⟨B, 0, none⟩ a).setCell ⟨B, 1, none⟩ b).setCell ⟨B, 2, none⟩ c).setCell ⟨B, 3, none⟩ d) :=
  (((h.setCell (p := ⟨B, 0, none⟩) hB a).setCell (p := ⟨B, 1, none⟩) hB b).setCell (p := ⟨B, 2, none⟩) hB c).setCell (p := ⟨B, 3, none⟩) hB d
theorem RefAt.notbox {w : World} {V : RefV} {R : RefM} (h : RefAt w V R) {B : Nat} {c : Array Value} (hB : w.heap[B]? = some (.cells c 35 (0, 0))) : ¬ rp V B := fun hj => by
  rcases hj with hj | hj | hj | hj | ⟨x, hx, hj⟩ | ⟨x, hx, hj⟩
  · obtain ⟨c', hc⟩ := ownsRow_block h.all hj; exact absurd (cells_inj hc hB) (by decide)
  · obtain ⟨c', hc⟩ := ownsRow_block h.hist hj; exact absurd (cells_inj hc hB) (by decide)
  · obtain ⟨c', hc⟩ := ownsRow_block h.ev hj; exact absurd (cells_inj hc hB) (by decide)
  · obtain ⟨c', hc⟩ := ownsRow_block h.blk hj; exact absurd (cells_inj hc hB) (by decide)
  · obtain ⟨z, _, hz⟩ := h.allp.left hx; obtain ⟨c', hc⟩ := hz.p.block hj; exact absurd (cells_inj hc hB) (by decide)
  · obtain ⟨z, _, hz⟩ := h.histp.left hx; obtain ⟨c', hc⟩ := hz.block hj; exact absurd (cells_inj hc hB) (by decide)
theorem RefAt.four {w : World} {V : RefV} {R : RefM} (h : RefAt w V R) {B : Nat} {cs : Array Value} (hB : w.heap[B]? = some (.cells cs 35 (0, 0))) (a b c d : Value) : RefAt ((((w.setCell ⟨B, 0, none⟩ a).setCell ⟨B, 1, none⟩ b).setCell ⟨B, 2, none⟩ c).setCell ⟨B, 3, none⟩ d) V R := by
  have hk : Kp (fun j => j = B) w ((((w.setCell ⟨B, 0, none⟩ a).setCell ⟨B, 1, none⟩ b).setCell ⟨B, 2, none⟩ c).setCell ⟨B, 3, none⟩ d) := ((((Kp.refl (fun j => j = B) w).setCell (fun _ => rfl) _).setCell (fun _ => rfl) _).setCell (fun _ => rfl) _).setCell (fun _ => rfl) _
  exact h.same fun j hj => hk.block j (h.lt j hj) (fun e => h.notbox hB (e ▸ hj))
set_option maxHeartbeats 1600000 in
set_option maxRecDepth 100000 in
theorem injectR_any (V : RefV) (R : RefM) (p : PV) (m : Pk) (w : World) (h : RefAt w V R) (hl : R.lim) (hn : R.all.length < 50000) (hp : PSrc w p m) (hm : m.ok) :
    Calls Try.prog 54 #[V.val, p.val] w (Ref3 V (R.inject m) w) := by
  obtain ⟨aa, ac, ha, hc, ea, ec, ba, bc, h1, h2, h3, h4⟩ := h.forms
  obtain ⟨al, hi, ev, bl, ps, hs'⟩ := V
  simp only at h1 h2 h3 h4
  subst h1 h2 h3 h4
  simp only [RefV.val, PV.val]
  have hb1 : Below w.heap.size w (((w.alloc (.cells #[.slice aa R.all.length ac, .slice ha R.hist.length hc, .slice ea R.ev.length ec, .slice ba R.blk.length bc] 35)).alloc (.cells #[.string p.f, .string p.t, .slice p.ba p.bn p.bc] 40)).alloc (.cells #[.slice none 0 0, .slice none 0 0, .slice none 0 0, .slice none 0 0] 35)) :=
    (((Below.refl _ _).alloc (Nat.le_refl _) _).alloc (by simp) _).alloc (by simp; omega) _
  have e1 : (((w.alloc (.cells #[.slice aa R.all.length ac, .slice ha R.hist.length hc, .slice ea R.ev.length ec, .slice ba R.blk.length bc] 35)).alloc (.cells #[.string p.f, .string p.t, .slice p.ba p.bn p.bc] 40)).alloc (.cells #[.slice none 0 0, .slice none 0 0, .slice none 0 0, .slice none 0 0] 35)).heap[w.heap.size]? = some (.cells #[.slice aa R.all.length ac, .slice ha R.hist.length hc, .slice ea R.ev.length ec, .slice ba R.blk.length bc] 35) := by
    rw [Below.heap_alloc _ _ _ (by simp; omega)]; exact top1 w _ _
  have e2 : (((w.alloc (.cells #[.slice aa R.all.length ac, .slice ha R.hist.length hc, .slice ea R.ev.length ec, .slice ba R.blk.length bc] 35)).alloc (.cells #[.string p.f, .string p.t, .slice p.ba p.bn p.bc] 40)).alloc (.cells #[.slice none 0 0, .slice none 0 0, .slice none 0 0, .slice none 0 0] 35)).heap[w.heap.size + 1]? = some (.cells #[.string p.f, .string p.t, .slice p.ba p.bn p.bc] 40) := by
    rw [Below.heap_alloc _ _ _ (by simp)]; exact top0 w _ _
  have e3 : (((w.alloc (.cells #[.slice aa R.all.length ac, .slice ha R.hist.length hc, .slice ea R.ev.length ec, .slice ba R.blk.length bc] 35)).alloc (.cells #[.string p.f, .string p.t, .slice p.ba p.bn p.bc] 40)).alloc (.cells #[.slice none 0 0, .slice none 0 0, .slice none 0 0, .slice none 0 0] 35)).heap[w.heap.size + 1 + 1]? = some (.cells #[.slice none 0 0, .slice none 0 0, .slice none 0 0, .slice none 0 0] 35) := by
    have := heap_alloc_new ((w.alloc (.cells #[.slice aa R.all.length ac, .slice ha R.hist.length hc, .slice ea R.ev.length ec, .slice ba R.blk.length bc] 35)).alloc (.cells #[.string p.f, .string p.t, .slice p.ba p.bn p.bc] 40)) (.cells #[.slice none 0 0, .slice none 0 0, .slice none 0 0, .slice none 0 0] 35)
    simpa using this
  go_enter Try.func54, Try.ntmps54
  go_wp2_with fail
  generalize ((w.alloc (.cells #[.slice aa R.all.length ac, .slice ha R.hist.length hc, .slice ea R.ev.length ec, .slice ba R.blk.length bc] 35)).alloc (.cells #[.string p.f, .string p.t, .slice p.ba p.bn p.bc] 40)).alloc (.cells #[.slice none 0 0, .slice none 0 0, .slice none 0 0, .slice none 0 0] 35) = w1 at hb1 e1 e2 e3 ⊢
  refine (validR_any p m w1 hp.pin.f hp.pin.t hp.pin.n hm).mono ?_
  rintro e w2 ⟨rfl, hbl⟩
  have f1 := (hbl.block _ (lt_of_heap e1)).trans e1
  have f2 := (hbl.block _ (lt_of_heap e2)).trans e2
  have f3 := (hbl.block _ (lt_of_heap e3)).trans e3
  have hb2 := hb1.trans (hbl.mono hb1.size)
  clear e1 e2 e3 hb1 hbl
  obtain ⟨c0, c1, c2, c3, cf, cl⟩ := blk4 f1
  obtain ⟨u0, u1, u2, u3, uf, ul⟩ := blk4 f3
  cases hv : validB m
  · have HF : Hid (R.inject m = (R, 0, 2)) := by simp [Hid, RefM.inject, hv]
    go_wp2_with fail
    refine bodyPost_ret (v := .tuple #[RefV.val ⟨.slice aa R.all.length ac, .slice ha R.hist.length hc, .slice ea R.ev.length ec, .slice ba R.blk.length bc, ps, hs'⟩, .int .i64 0, .int .i64 2]) (by simp [results, Try.results54, RefV.val, go_sem, u0, u1, u2, u3]) rfl ?_
    exact ⟨_, by rw [HF.out], by rw [HF.out]; exact h.below (below_four hb2 (by omega) _ _ _ _) (Nat.le_refl _), below_four hb2 (by omega) _ _ _ _, News.refl _ _⟩
  · have HV := Lib.hid hv
    clear hv
    go_wp2_with fail
    refine (count_any _ R w2 (h.below hb2 (Nat.le_refl _)) hl).mono ?_
    rintro e w3 ⟨rfl, hbl⟩
    have g1 := (hbl.block _ (lt_of_heap f1)).trans f1
    have g2 := (hbl.block _ (lt_of_heap f2)).trans f2
    have g3 := (hbl.block _ (lt_of_heap f3)).trans f3
    have hb3 := hb2.trans (hbl.mono hb2.size)
    clear f1 f2 f3 hb2 hbl c0 c1 c2 c3 cf cl u0 u1 u2 u3 uf ul
    obtain ⟨c0, c1, c2, c3, cf, cl⟩ := blk4 g1
    obtain ⟨p0, p1, p2, _, _, _, _⟩ := blk3 g2
    obtain ⟨u0, u1, u2, u3, uf, ul⟩ := blk4 g3
    by_cases hfull : 64 ≤ R.count
    · have HF : Hid (R.inject m = (R, 0, 7)) := by simp [Hid, RefM.inject, HV.out, hfull]
      have hf' : (64 : Int) ≤ (R.count : Int) := by omega
      clear hfull
      go_wp2_with fail
      refine bodyPost_ret (v := .tuple #[RefV.val ⟨.slice aa R.all.length ac, .slice ha R.hist.length hc, .slice ea R.ev.length ec, .slice ba R.blk.length bc, ps, hs'⟩, .int .i64 0, .int .i64 7]) (by simp [results, Try.results54, RefV.val, go_sem, u0, u1, u2, u3]) rfl ?_
      exact ⟨_, by rw [HF.out], by rw [HF.out]; exact h.below (below_four hb3 (by omega) _ _ _ _) (Nat.le_refl _), below_four hb3 (by omega) _ _ _ _, News.refl _ _⟩
    · have HF : Hid (R.inject m = (R.launched 8 m (-1) (-1), ((R.all.length : Nat) : Int), 0)) := by simp [Hid, RefM.inject, HV.out, hfull]
      have hf' : ¬ (64 : Int) ≤ (R.count : Int) := by omega
      clear hfull
      go_wp2_with fail
      refine (launchedR_any _ R 8 (-1) (-1) p m w3 (h.below hb3 (Nat.le_refl _)) hl hn ⟨hp.pin.below hb3 (Nat.le_refl _), hp.nil⟩ hm ⟨by omega, by omega⟩).mono ?_
      rintro e w4 ⟨⟨al4, hi4, ev4, bl4, ps4, hs4⟩, rfl, h4, hbl, hnw0⟩
      have hnw := hnw0.mono hb3.size
      clear hnw0
      obtain ⟨xa, xc, xb, xd, xe, xf, xg, xh, y1, y2, y3, y4⟩ := h4.forms
      simp only at y1 y2 y3 y4
      subst y1 y2 y3 y4
      simp only [RefV.val]
      have k3 := (hbl.block _ (lt_of_heap g3)).trans g3
      have hb4 := hb3.trans (hbl.mono hb3.size)
      clear g1 g2 g3 hb3 hbl c0 c1 c2 c3 cf cl u0 u1 u2 u3 uf ul p0 p1 p2
      generalize R.launched 8 m (-1) (-1) = R' at h4 HF hnw ⊢
      obtain ⟨u0, u1, u2, u3, uf, ul⟩ := blk4 k3
      have hne : w.heap.size + 1 + 1 ≠ w4.heap.size := by omega
      go_wp2_with fail
      refine bodyPost_ret (v := .tuple #[RefV.val ⟨.slice xa R'.all.length xc, .slice xb R'.hist.length xd, .slice xe R'.ev.length xf, .slice xg R'.blk.length xh, ps4, hs4⟩, .int .i64 R.all.length, .int .i64 0]) (by simp [results, Try.results54, RefV.val, go_sem, u0, u1, u2, u3, ul]) rfl ?_
      exact ⟨_, by rw [HF.out], by rw [HF.out]; exact (h4.four k3 _ _ _ _).below ((Below.refl _ _).alloc (Nat.le_refl _) _) (Nat.le_refl _), (below_four hb4 (B := w.heap.size + 1 + 1) (by omega) _ _ _ _).alloc (by have := hb4.size; simp [World.setCell]; omega) _, hnw⟩
end Go.Proofs.Ytnkcgalbaeppmaa
