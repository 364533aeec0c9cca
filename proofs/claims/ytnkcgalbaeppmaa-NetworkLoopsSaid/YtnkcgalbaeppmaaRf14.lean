/- The reference's Drop. -/
import Derived.Test.YtnkcgalbaeppmaaRf13
namespace Go.Proofs.Ytnkcgalbaeppmaa
open Go.RowKit
/-- What a reference's call that hands back a network and a number leaves. -/
def Ref2 (V : RefV) (r : RefM × Int) (w : World) (e : Ending) (w' : World) : Prop :=
  ∃ V', e = .returned (.tuple #[RefV.val V', .int .i64 r.2]) ∧ RefAt w' V' r.1 ∧ Below w.heap.size w w' ∧ News V V' w.heap.size
/-- A cell of the list of all packets is stored. -/
theorem RefAt.setAll {w : World} {V : RefV} {R : RefM} (h : RefAt w V R) {g cap i j : Nat} {x y : RV} {m m' : RF} {u : Value} (hv : V.al = .slice (some ⟨g, 0, none⟩) R.all.length cap) (hx : V.ps[i]? = some x) (hm : R.all[i]? = some m) (hj : j < 5) (hy : y.cells = x.cells.set j u)
    (_hb : y.p.blk = x.p.blk) (ho : ∀ W, ROwn W x m → ROwn W y m') :
    RefAt (w.setCell ⟨g, i * 5 + j, none⟩ u) { V with ps := V.ps.set i y } { R with all := R.all.set i m' } := by
  obtain ⟨al, hi, ev, bl, ps, hs⟩ := V
  simp only at hv hx
  subst hv
  have hk : Kp (fun k => k = g) w (w.setCell ⟨g, i * 5 + j, none⟩ u) := (Kp.refl (fun k => k = g) w).setCell (fun _ => rfl) _
  obtain ⟨cg, hcg⟩ := ownsRow_block h.all (k := g) rfl
  have hA : ∀ k c T, w.heap[k]? = some (.cells c T (0, 0)) → T ≠ 51 → ¬ k = g := fun k c T hc hT e => by subst e; exact hT (cells_inj hc hcg)
  have keep : ∀ (p : PV) (q : Pk), POwn w p q → POwn (w.setCell ⟨g, i * 5 + j, none⟩ u) p q := fun p q hq => hq.kp hk (fun k h1 => by obtain ⟨c, hc⟩ := hq.block h1; exact hA k c 5 hc (by decide))
  have hall := h.all
  simp only at hall
  have hst := (hall.stored (i * 5 + j) u).1
  rw [flat_set RV.cells 5 RV.cells_len u ps i j x y hx hj hy] at hst
  refine ⟨?_, ?_, ?_, ?_, ?_, ?_⟩
  · simp only [List.length_set]; exact hst
  · refine Both.set i (fun a b c _ hb' hc' => ?_) h.allp.1 (ho _ ?_)
    · have := h.allp.2 a b c hb' hc'; exact ⟨keep _ _ this.p, this.src, this.gone⟩
    · have := h.allp.2 i x m hx hm; exact ⟨keep _ _ this.p, this.src, this.gone⟩
  · exact ownsRow_kp h.hist hk (fun k h1 => by obtain ⟨c, hc⟩ := ownsRow_block h.hist h1; exact hA k c 40 hc (by decide))
  · exact h.histp.mono fun y q _ hq => keep y q hq
  · exact ownsRow_kp h.ev hk (fun k h1 => by obtain ⟨c, hc⟩ := ownsRow_block h.ev h1; exact hA k c 61 hc (by decide))
  · exact ownsRow_kp h.blk hk (fun k h1 => by obtain ⟨c, hc⟩ := ownsRow_block h.blk h1; exact hA k c 95 hc (by decide))
/-- The limits hold where one is put in another's place. -/
theorem RefM.lim.set {R : RefM} (h : R.lim) {i : Nat} {x y : RF} (hx : R.all[i]? = some x) (hp : y.pk.ok) (hs : y.src = x.src) : ({ R with all := R.all.set i y } : RefM).lim := by
  have hm : ∀ m ∈ R.all.set i y, m ∈ R.all ∨ m = y := fun m hm => List.mem_or_eq_of_mem_set hm
  refine ⟨by simpa using h.all, h.hist, h.ev, h.blk, fun m hm' => ?_, h.histok, fun m hm' => ?_⟩
  · rcases hm m hm' with h1 | rfl
    · exact h.allok m h1
    · exact hp
  · rcases hm m hm' with h1 | rfl
    · exact h.srcok m h1
    · rw [hs]; exact h.srcok x (List.mem_of_getElem? hx)
set_option maxHeartbeats 1600000 in
set_option maxRecDepth 100000 in
theorem dropR_any (V : RefV) (R : RefM) (id : Int) (w : World) (h : RefAt w V R) (hl : R.lim) :
    Calls Try.prog 33 #[V.val, .int .i64 id] w (Ref2 V (R.drop id) w) := by
  obtain ⟨aa, ac, ha, hc, ea, ec, ba, bc, h1, h2, h3, h4⟩ := h.forms
  obtain ⟨al, hi, ev, bl, ps, hs'⟩ := V
  simp only at h1 h2 h3 h4
  subst h1 h2 h3 h4
  simp only [RefV.val]
  have e1 := top1 w (.cells #[.slice aa R.all.length ac, .slice ha R.hist.length hc, .slice ea R.ev.length ec, .slice ba R.blk.length bc] 35) (.cells #[.slice none 0 0, .slice none 0 0, .slice none 0 0, .slice none 0 0] 35)
  have e2 := top0 w (.cells #[.slice aa R.all.length ac, .slice ha R.hist.length hc, .slice ea R.ev.length ec, .slice ba R.blk.length bc] 35) (.cells #[.slice none 0 0, .slice none 0 0, .slice none 0 0, .slice none 0 0] 35)
  have hb1 : Below w.heap.size w ((w.alloc (.cells #[.slice aa R.all.length ac, .slice ha R.hist.length hc, .slice ea R.ev.length ec, .slice ba R.blk.length bc] 35)).alloc (.cells #[.slice none 0 0, .slice none 0 0, .slice none 0 0, .slice none 0 0] 35)) := ((Below.refl _ _).alloc (Nat.le_refl _) _).alloc (by simp) _
  go_enter Try.func33, Try.ntmps33
  go_wp2_with fail
  generalize (w.alloc (.cells #[.slice aa R.all.length ac, .slice ha R.hist.length hc, .slice ea R.ev.length ec, .slice ba R.blk.length bc] 35)).alloc (.cells #[.slice none 0 0, .slice none 0 0, .slice none 0 0, .slice none 0 0] 35) = w1 at e1 e2 hb1 ⊢
  refine (flies_any _ R id w1 (h.below hb1 (Nat.le_refl _)) hl).mono ?_
  rintro e w3 ⟨rfl, hbl⟩
  have g1 := (hbl.block _ (lt_of_heap e1)).trans e1
  have g3 := (hbl.block _ (lt_of_heap e2)).trans e2
  have hb3 := hb1.trans (hbl.mono hb1.size)
  clear e1 e2 hb1 hbl
  obtain ⟨c0, c1, c2, c3, cf, cl⟩ := blk4 g1
  obtain ⟨u0, u1, u2, u3, uf, ul⟩ := blk4 g3
  cases hf : R.flies id
  · have HF : Hid (R.drop id = (R, 9)) := by simp [Hid, RefM.drop, hf]
    clear hf
    go_wp2_with fail
    refine bodyPost_ret (v := .tuple #[RefV.val ⟨.slice aa R.all.length ac, .slice ha R.hist.length hc, .slice ea R.ev.length ec, .slice ba R.blk.length bc, ps, hs'⟩, .int .i64 9]) (by simp [results, Try.results33, RefV.val, go_sem, u0, u1, u2, u3]) rfl ?_
    exact ⟨_, by rw [HF.out], by rw [HF.out]; exact h.below (below_four hb3 (by omega) _ _ _ _) (Nat.le_refl _), below_four hb3 (by omega) _ _ _ _, News.refl _ _⟩
  · obtain ⟨n, m, rfl, hg, M⟩ := flies_true hf
    have hm := M.at_
    have HF : Hid (R.drop n = (R.gone n m 3, 0)) := by simp [Hid, RefM.drop, hf, hm]
    have HM := Lib.hid hm
    have hn : n < R.all.length := (List.getElem?_eq_some_iff.1 hm).1
    have hla := hl.all
    have i0 : (0 : Int) ≤ (n : Int) := by omega
    have i1 : (n : Int) < (R.all.length : Int) := by omega
    have i2 : (R.all.length : Int) ≤ 50000 := by omega
    clear hf hg M hm
    go_wp2_with fail
    refine (ownR_any _ R w3 (h.below hb3 (Nat.le_refl _)) hl).mono ?_
    rintro e w4 ⟨g, cap, evv, qs, rfl, h4, hg, hev, hqs, hap, hbl⟩
    obtain ⟨ea2, ec2, hE, _⟩ := ownsRow_slice h4.ev
    simp only at hE
    subst hE
    simp only [RefV.val]
    have k1 := (hbl.block _ (lt_of_heap g1)).trans g1
    have k3 := (hbl.block _ (lt_of_heap g3)).trans g3
    have hb4 := hb3.trans (hbl.mono hb3.size)
    have hg4 : g < w4.heap.size := (h4.all.lt g rfl).2
    have hlw3 := lt_of_heap g3
    have hb3s := hb3.size
    clear g1 g3 hb3 hbl c0 c1 c2 c3 cf cl u0 u1 u2 u3 uf ul
    have hall := h4.all
    simp only at hall
    obtain ⟨x, hx, hxm⟩ := h4.allp.at HM.out
    simp only at hx
    obtain ⟨d0, d1, d2, d3, d4⟩ := all_cells hall hx
    have df := hall.frozenAt (n * 5 + 4)
    have HX := Lib.hid hx
    have hne : w4.heap.size ≠ g := by omega
    have hne' : g ≠ w4.heap.size := by omega
    clear hall hx
    go_wp2_with fail
    have h5 := h4.setAll (j := 4) (u := .bool true) (y := { x with gone := true }) (m' := { m with gone := true }) rfl HX.out HM.out (by decide) rfl rfl (fun W hW => ⟨hW.p, hW.src, rfl⟩)
    have hb5 := hb4.setCell (p := ⟨g, n * 5 + 4, none⟩) (by simp only; have := hb3s; omega) (.bool true)
    have k5 : (w4.setCell ⟨g, n * 5 + 4, none⟩ (.bool true)).heap[w.heap.size + 1]? = some (.cells #[.slice none 0 0, .slice none 0 0, .slice none 0 0, .slice none 0 0] 35) := (Below.heap_setCell _ _ _ _ (by simp only; omega)).trans k3
    have hl5 := hl.set (y := { m with gone := true }) HM.out (hl.allok m (List.mem_of_getElem? HM.out)) rfl
    clear k1 k3 hb4 h4 d0 d1 d2 d3 d4 df hxm hne hne'
    generalize w4.setCell ⟨g, n * 5 + 4, none⟩ (.bool true) = w5 at h5 hb5 k5 ⊢
    have hbx := (Below.refl w5.heap.size w5).alloc (Nat.le_refl _) (.cells #[.slice (some ⟨g, 0, none⟩) R.all.length cap, .slice ha R.hist.length hc, .slice ea2 R.ev.length ec2, .slice ba R.blk.length bc] 35)
    have h6 := h5.below hbx (Nat.le_refl _)
    have k6 := (hbx.block _ (lt_of_heap k5)).trans k5
    have hb6 := hb5.trans (hbx.mono hb5.size)
    clear hbx h5 k5 hb5
    generalize w5.alloc (.cells #[.slice (some ⟨g, 0, none⟩) R.all.length cap, .slice ha R.hist.length hc, .slice ea2 R.ev.length ec2, .slice ba R.blk.length bc] 35) = w6 at h6 k6 hb6 ⊢
    refine (notedR_any _ _ 3 n (-1) w6 h6 hl5).mono ?_
    rintro e w7 ⟨ev7, rfl, h7, hk7, hev7⟩
    obtain ⟨ea7, ec7, hE7, _⟩ := ownsRow_slice h7.ev
    simp only [List.length_append, List.length_cons, List.length_nil, Nat.zero_add] at hE7
    subst hE7
    simp only [RefV.val]
    have hw6s := hb6.size
    have k7 := (hk7.block _ (lt_of_heap k6) (fun e => by have := hev _ e; omega)).trans k6
    have hb7 : Below w.heap.size w w7 := Below.kp hb6 hk7 (Nat.le_refl _) (fun j e => by have := hev j e; omega)
    obtain ⟨u0, u1, u2, u3, uf, ul⟩ := blk4 k7
    clear h6 k6 hb6 hk7
    go_wp2_with fail
    refine bodyPost_ret (v := .tuple #[RefV.val ⟨.slice (some ⟨g, 0, none⟩) R.all.length cap, .slice ha R.hist.length hc, .slice ea7 (R.ev.length + 1) ec7, .slice ba R.blk.length bc, qs.set n { x with gone := true }, hs'⟩, .int .i64 0]) (by simp [results, Try.results33, RefV.val, go_sem, u0, u1, u2, u3]) rfl ?_
    exact ⟨_, by rw [HF.out], by rw [HF.out]; exact h7.four k7 _ _ _ _, below_four hb7 (by omega) _ _ _ _, fun j hj => by
      rcases hj with hj | hj | hj | hj | ⟨z, hz, hj⟩ | ⟨z, hz, hj⟩
      · have e' : g = j := by simpa [Value.ownBlock] using hj
        exact .inr (by omega)
      · exact .inl (.inr (.inl hj))
      · rcases hev7 _ hj with h9 | h9
        · have := hev _ h9; exact .inr (by omega)
        · exact .inr (by omega)
      · exact .inl (.inr (.inr (.inr (.inl hj))))
      · rcases List.mem_or_eq_of_mem_set hz with hz | rfl
        · have := hqs z hz _ hj; exact .inr (by omega)
        · have := hqs x (List.mem_of_getElem? HX.out) _ hj; exact .inr (by omega)
      · exact .inl (.inr (.inr (.inr (.inr (.inr ⟨z, hz, hj⟩)))))⟩
end Go.Proofs.Ytnkcgalbaeppmaa
