/- The reference's noted. -/
import Derived.Test.YtnkcgalbaeppmaaM9
namespace Go.Proofs.Ytnkcgalbaeppmaa
open Go.RowKit
def NotedR (V : RefV) (R : RefM) (x : EvM) (w : World) (e : Ending) (w' : World) : Prop :=
  ∃ ev, e = .returned (RefV.val { V with ev := ev }) ∧ RefAt w' { V with ev := ev } { R with ev := R.ev ++ [x] } ∧ Kp (fun k => V.ev.ownBlock = some k) w w' ∧ (∀ k, ev.ownBlock = some k → V.ev.ownBlock = some k ∨ w.heap.size ≤ k)
/-- What turns blocks of other types, or new ones, leaves the rest of a reference. -/
theorem RefAt.keep {w w' : World} {V : RefV} {R : RefM} (h : RefAt w V R) {S : Nat → Prop} (hk : Kp S w w') (hS : ∀ k, S k → V.ev.ownBlock = some k ∨ w.heap.size ≤ k) :
    w'.ownsRow 0 51 5 V.al R.all.length (V.ps.flatMap RV.cells) ∧ Both (ROwn w') V.ps R.all ∧ w'.ownsRow 0 40 3 V.hi R.hist.length (V.hs.flatMap PV.cells) ∧ Both (POwn w') V.hs R.hist ∧ w'.ownsRow 0 95 2 V.bl R.blk.length (R.blk.flatMap Pr.cells) := by
  have hA : ∀ k c T, w.heap[k]? = some (.cells c T (0, 0)) → T ≠ 61 → ¬ S k := fun k c T hc hT hs => by
    rcases hS k hs with h1 | h1
    · obtain ⟨c', hc'⟩ := ownsRow_block h.ev h1; exact hT (cells_inj hc hc')
    · have := lt_of_heap hc; omega
  exact ⟨ownsRow_kp h.all hk (fun k h1 => by obtain ⟨c, hc⟩ := ownsRow_block h.all h1; exact hA k c 51 hc (by decide)),
    h.allp.mono fun _ _ _ hm => ⟨hm.p.kp hk (fun k h1 => by obtain ⟨c, hc⟩ := hm.p.block h1; exact hA k c 5 hc (by decide)), hm.src, hm.gone⟩,
    ownsRow_kp h.hist hk (fun k h1 => by obtain ⟨c, hc⟩ := ownsRow_block h.hist h1; exact hA k c 40 hc (by decide)),
    h.histp.mono fun _ _ _ hm => hm.kp hk (fun k h1 => by obtain ⟨c, hc⟩ := hm.block h1; exact hA k c 5 hc (by decide)),
    ownsRow_kp h.blk hk (fun k h1 => by obtain ⟨c, hc⟩ := ownsRow_block h.blk h1; exact hA k c 95 hc (by decide))⟩
set_option maxHeartbeats 800000 in
theorem notedR_any (V : RefV) (R : RefM) (kind id fr : Int) (w : World) (h : RefAt w V R) (hl : R.lim) : Calls Try.prog 60 #[V.val, .int .i64 kind, .int .i64 id, .int .i64 fr] w (NotedR V R ⟨kind, id, fr⟩ w) := by
  obtain ⟨aa, ac, ha, hc, ea, ec, ba, bc, h1, h2, h3, h4⟩ := h.forms
  obtain ⟨al, hi, ev, bl, ps, hs⟩ := V
  simp only at h1 h2 h3 h4
  subst h1 h2 h3 h4
  simp only [RefV.val]
  have hlen := hl.ev
  have hev := h.ev
  simp only at hev
  have e1 := top1 w (.cells #[.slice aa R.all.length ac, .slice ha R.hist.length hc, .slice ea R.ev.length ec, .slice ba R.blk.length bc] 35) (.cells #[.slice none 0 0, .slice none 0 0, .slice none 0 0, .slice none 0 0] 35)
  have e2 := top0 w (.cells #[.slice aa R.all.length ac, .slice ha R.hist.length hc, .slice ea R.ev.length ec, .slice ba R.blk.length bc] 35) (.cells #[.slice none 0 0, .slice none 0 0, .slice none 0 0, .slice none 0 0] 35)
  have hk1 : Kp (fun k => Value.ownBlock (.slice ea R.ev.length ec) = some k) w ((w.alloc (.cells #[.slice aa R.all.length ac, .slice ha R.hist.length hc, .slice ea R.ev.length ec, .slice ba R.blk.length bc] 35)).alloc (.cells #[.slice none 0 0, .slice none 0 0, .slice none 0 0, .slice none 0 0] 35)) := ((Kp.refl _ w).alloc _).alloc _
  have hev1 := (hev.alloc (.cells #[.slice aa R.all.length ac, .slice ha R.hist.length hc, .slice ea R.ev.length ec, .slice ba R.blk.length bc] 35)).alloc (.cells #[.slice none 0 0, .slice none 0 0, .slice none 0 0, .slice none 0 0] 35)
  have hel : ∀ k, Value.ownBlock (.slice ea R.ev.length ec) = some k → k < w.heap.size := fun k hk => (hev.lt k hk).2
  go_enter Try.func60, Try.ntmps60
  go_wp2_with (at_builtin; apply unwrap)
  have hsz : ((w.alloc (.cells #[.slice aa R.all.length ac, .slice ha R.hist.length hc, .slice ea R.ev.length ec, .slice ba R.blk.length bc] 35)).alloc (.cells #[.slice none 0 0, .slice none 0 0, .slice none 0 0, .slice none 0 0] 35)).heap.size = w.heap.size + 1 + 1 := by simp
  generalize (w.alloc (.cells #[.slice aa R.all.length ac, .slice ha R.hist.length hc, .slice ea R.ev.length ec, .slice ba R.blk.length bc] 35)).alloc (.cells #[.slice none 0 0, .slice none 0 0, .slice none 0 0, .slice none 0 0] 35) = w1 at e1 e2 hk1 hev1 hsz ⊢
  rw [← hsz]
  refine wpList_push rfl _ _ 29 rfl T29 rfl hev1 #[.int .i64 kind, .int .i64 id, .int .i64 fr] rfl (by simp [Value.oneCell']) rfl (by omega) ?_
  intro g cap w3 hown hk3 hat hlt
  have f1 := (hk3.block _ (lt_of_heap e1) (fun e => by have := hel _ e; omega)).trans e1
  have f2 := (hk3.block _ (lt_of_heap e2) (fun e => by have := hel _ e; omega)).trans e2
  have hk4 := hk1.trans hk3 (fun k _ h => h)
  obtain ⟨c0, c1, c2, c3, cf, cl⟩ := blk4 f1
  obtain ⟨r0, r1, r2, r3, rf, rl⟩ := blk4 f2
  have hgo : Value.ownBlock (.slice ea R.ev.length ec) = some g ∨ w.heap.size + 2 ≤ g := hat.imp (fun h => h) (fun h => by omega)
  clear e1 e2 hk1 hev1 hk3 hat
  go_wp2_with fail
  have hkZ : Kp (fun k => Value.ownBlock (.slice ea R.ev.length ec) = some k ∨ w.heap.size ≤ k) w (((((w3.setCell ⟨w.heap.size, 2, none⟩ (.slice (some ⟨g, 0, none⟩) (R.ev.length + 1) cap)).setCell ⟨w.heap.size + 1, 0, none⟩ (.slice aa R.all.length ac)).setCell ⟨w.heap.size + 1, 1, none⟩ (.slice ha R.hist.length hc)).setCell ⟨w.heap.size + 1, 2, none⟩ (.slice (some ⟨g, 0, none⟩) (R.ev.length + 1) cap)).setCell ⟨w.heap.size + 1, 3, none⟩ (.slice ba R.blk.length bc)) :=
    (((((hk4.mono (fun k _ h => .inl h)).setCell (fun _ => .inr (Nat.le_refl _)) _).setCell (fun _ => .inr (by simp)) _).setCell (fun _ => .inr (by simp)) _).setCell (fun _ => .inr (by simp)) _).setCell (fun _ => .inr (by simp)) _
  refine bodyPost_ret (v := RefV.val ⟨.slice aa R.all.length ac, .slice ha R.hist.length hc, .slice (some ⟨g, 0, none⟩) (R.ev.length + 1) cap, .slice ba R.blk.length bc, ps, hs⟩) (by simp [results, Try.results60, RefV.val, go_sem, r0, r1, r2, r3]) rfl ?_
  obtain ⟨k1, k2, k3, k4, k5⟩ := h.keep hkZ (fun k hk => hk)
  simp only at k1 k2 k3 k4 k5
  have hx : (R.ev ++ [(⟨kind, id, fr⟩ : EvM)]).flatMap EvM.cells = R.ev.flatMap EvM.cells ++ [.int .i64 kind, .int .i64 id, .int .i64 fr] := by simp [EvM.cells]
  refine ⟨.slice (some ⟨g, 0, none⟩) (R.ev.length + 1) cap, rfl, ⟨k1, k2, k3, k4, ?_, k5⟩, ?_, fun k hk => by
    have hk' : g = k := by simpa [Value.ownBlock] using hk
    subst hk'
    exact hgo.imp (fun h => h) (fun h => by omega)⟩
  · rw [hx]
    simp only [List.length_append, List.length_cons, List.length_nil]
    have hne : ∀ j, (j = w.heap.size ∨ j = w.heap.size + 1) → Value.ownBlock (.slice (some ⟨g, 0, none⟩) (R.ev.length + 1) cap) ≠ some j := fun j hj e => by
      have e' : g = j := by simpa [Value.ownBlock] using e
      subst e'
      rcases hgo with h1 | h1
      · have := hel _ h1; omega
      · omega
    exact own_setCell (own_setCell (own_setCell (own_setCell (own_setCell hown (hne _ (.inl rfl)) _) (hne _ (.inr rfl)) _) (hne _ (.inr rfl)) _) (hne _ (.inr rfl)) _) (hne _ (.inr rfl)) _
  · exact ⟨hkZ.os, hkZ.tape, hkZ.output, hkZ.size, fun k hk hn => hkZ.block k hk (fun h => h.elim hn (fun h => by omega))⟩
end Go.Proofs.Ytnkcgalbaeppmaa
