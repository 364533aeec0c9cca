/- The reference's Redirect. -/
import Derived.Test.YtnkcgalbaeppmaaRf14
namespace Go.Proofs.Ytnkcgalbaeppmaa
open Go.RowKit
set_option maxHeartbeats 1600000 in
set_option maxRecDepth 100000 in
theorem redirectR_any (V : RefV) (R : RefM) (id : Int) (to : ByteArray) (w : World) (h : RefAt w V R) (hl : R.lim) (ht : to.size ≤ 100) :
    Calls Try.prog 35 #[V.val, .int .i64 id, .string to] w (Ref2 V (R.redirect id to) w) := by
  obtain ⟨aa, ac, ha, hc, ea, ec, ba, bc, h1, h2, h3, h4⟩ := h.forms
  obtain ⟨al, hi, ev, bl, ps, hs'⟩ := V
  simp only at h1 h2 h3 h4
  subst h1 h2 h3 h4
  simp only [RefV.val]
  have e1 := top1 w (.cells #[.slice aa R.all.length ac, .slice ha R.hist.length hc, .slice ea R.ev.length ec, .slice ba R.blk.length bc] 35) (.cells #[.slice none 0 0, .slice none 0 0, .slice none 0 0, .slice none 0 0] 35)
  have e2 := top0 w (.cells #[.slice aa R.all.length ac, .slice ha R.hist.length hc, .slice ea R.ev.length ec, .slice ba R.blk.length bc] 35) (.cells #[.slice none 0 0, .slice none 0 0, .slice none 0 0, .slice none 0 0] 35)
  have hb1 : Below w.heap.size w ((w.alloc (.cells #[.slice aa R.all.length ac, .slice ha R.hist.length hc, .slice ea R.ev.length ec, .slice ba R.blk.length bc] 35)).alloc (.cells #[.slice none 0 0, .slice none 0 0, .slice none 0 0, .slice none 0 0] 35)) := ((Below.refl _ _).alloc (Nat.le_refl _) _).alloc (by simp) _
  go_enter Try.func35, Try.ntmps35
  go_wp2_with fail
  generalize (w.alloc (.cells #[.slice aa R.all.length ac, .slice ha R.hist.length hc, .slice ea R.ev.length ec, .slice ba R.blk.length bc] 35)).alloc (.cells #[.slice none 0 0, .slice none 0 0, .slice none 0 0, .slice none 0 0] 35) = w1 at e1 e2 hb1 ⊢
  refine (hostR_any to w1 ht).mono ?_
  rintro e w2 ⟨rfl, rfl⟩
  cases hh : hostB to
  · have HF : Hid (R.redirect id to = (R, 2)) := by simp [Hid, RefM.redirect, hh]
    obtain ⟨c0, c1, c2, c3, cf, cl⟩ := blk4 e1
    obtain ⟨u0, u1, u2, u3, uf, ul⟩ := blk4 e2
    clear hh
    go_wp2_with fail
    refine bodyPost_ret (v := .tuple #[RefV.val ⟨.slice aa R.all.length ac, .slice ha R.hist.length hc, .slice ea R.ev.length ec, .slice ba R.blk.length bc, ps, hs'⟩, .int .i64 2]) (by simp [results, Try.results35, RefV.val, go_sem, u0, u1, u2, u3]) rfl ?_
    exact ⟨_, by rw [HF.out], by rw [HF.out]; exact h.below (below_four hb1 (by omega) _ _ _ _) (Nat.le_refl _), below_four hb1 (by omega) _ _ _ _, News.refl _ _⟩
  have HH := Lib.hid hh
  clear hh
  obtain ⟨c0, c1, c2, c3, cf, cl⟩ := blk4 e1
  go_wp2_with fail
  refine (flies_any _ R id w1 (h.below hb1 (Nat.le_refl _)) hl).mono ?_
  rintro e w3 ⟨rfl, hbl⟩
  clear c0 c1 c2 c3 cf cl
  have g1 := (hbl.block _ (lt_of_heap e1)).trans e1
  have g3 := (hbl.block _ (lt_of_heap e2)).trans e2
  have hb3 := hb1.trans (hbl.mono hb1.size)
  clear e1 e2 hb1 hbl
  obtain ⟨c0, c1, c2, c3, cf, cl⟩ := blk4 g1
  obtain ⟨u0, u1, u2, u3, uf, ul⟩ := blk4 g3
  cases hf : R.flies id
  · have HF : Hid (R.redirect id to = (R, 9)) := by simp [Hid, RefM.redirect, hf, HH.out]
    clear hf
    go_wp2_with fail
    refine bodyPost_ret (v := .tuple #[RefV.val ⟨.slice aa R.all.length ac, .slice ha R.hist.length hc, .slice ea R.ev.length ec, .slice ba R.blk.length bc, ps, hs'⟩, .int .i64 9]) (by simp [results, Try.results35, RefV.val, go_sem, u0, u1, u2, u3]) rfl ?_
    exact ⟨_, by rw [HF.out], by rw [HF.out]; exact h.below (below_four hb3 (by omega) _ _ _ _) (Nat.le_refl _), below_four hb3 (by omega) _ _ _ _, News.refl _ _⟩
  · obtain ⟨n, m, rfl, hg, M⟩ := flies_true hf
    have hm := M.at_
    have HF : Hid (R.redirect n to = (R.turned n { m with pk := { m.pk with to } } 6, 0)) := by simp [Hid, RefM.redirect, hf, hm, HH.out]
    have HM := Lib.hid hm
    have hn : n < R.all.length := (List.getElem?_eq_some_iff.1 hm).1
    have hla := hl.all
    have i0 : (0 : Int) ≤ (n : Int) := by omega
    have i1 : (n : Int) < (R.all.length : Int) := by omega
    have i2 : (R.all.length : Int) ≤ 50000 := by omega
    clear hf hg M hm
    go_wp2_with fail
    refine (ownR_any _ R w3 (h.below hb3 (Nat.le_refl _)) hl).mono ?_
    rintro e w4 ⟨g, cap, evv, qs, rfl, h4, hg, hev, hqs, hap, hbl⟩
    obtain ⟨ea2, ec2, hE, _⟩ := ownsRow_slice h4.ev
    simp only at hE
    subst hE
    simp only [RefV.val]
    have k1 := (hbl.block _ (lt_of_heap g1)).trans g1
    have k3 := (hbl.block _ (lt_of_heap g3)).trans g3
    have hb4 := hb3.trans (hbl.mono hb3.size)
    have hg4 : g < w4.heap.size := (h4.all.lt g rfl).2
    have hlw3 := lt_of_heap g3
    have hb3s := hb3.size
    clear g1 g3 hb3 hbl c0 c1 c2 c3 cf cl u0 u1 u2 u3 uf ul
    have hall := h4.all
    simp only at hall
    obtain ⟨x, hx, hxm⟩ := h4.allp.at HM.out
    simp only at hx
    obtain ⟨d0, d1, d2, d3, d4⟩ := all_cells hall hx
    have df := hall.frozenAt (n * 5 + 1)
    have HX := Lib.hid hx
    have hne : w4.heap.size ≠ g := by omega
    have hne' : g ≠ w4.heap.size := by omega
    clear hall hx
    go_wp2_with fail
    have h5 := h4.setAll (j := 1) (u := .string to) (y := { x with p := { x.p with t := to } }) (m' := { m with pk := { m.pk with to } }) rfl HX.out HM.out (by decide) rfl rfl (fun W hW => ⟨⟨hW.p.f, rfl, hW.p.n, hW.p.b⟩, hW.src, hW.gone⟩)
    have hb5 := hb4.setCell (p := ⟨g, n * 5 + 1, none⟩) (by simp only; have := hb3s; omega) (.string to)
    have k5 : (w4.setCell ⟨g, n * 5 + 1, none⟩ (.string to)).heap[w.heap.size + 1]? = some (.cells #[.slice none 0 0, .slice none 0 0, .slice none 0 0, .slice none 0 0] 35) := (Below.heap_setCell _ _ _ _ (by simp only; omega)).trans k3
    have hl5 := hl.set (y := { m with pk := { m.pk with to } }) HM.out ⟨(hl.allok m (List.mem_of_getElem? HM.out)).fr, ht, (hl.allok m (List.mem_of_getElem? HM.out)).bs⟩ rfl
    clear k1 k3 hb4 h4 d0 d1 d2 d3 d4 df hxm hne hne'
    generalize w4.setCell ⟨g, n * 5 + 1, none⟩ (.string to) = w5 at h5 hb5 k5 ⊢
    have hbx := (Below.refl w5.heap.size w5).alloc (Nat.le_refl _) (.cells #[.slice (some ⟨g, 0, none⟩) R.all.length cap, .slice ha R.hist.length hc, .slice ea2 R.ev.length ec2, .slice ba R.blk.length bc] 35)
    have h6 := h5.below hbx (Nat.le_refl _)
    have k6 := (hbx.block _ (lt_of_heap k5)).trans k5
    have hb6 := hb5.trans (hbx.mono hb5.size)
    clear hbx h5 k5 hb5
    generalize w5.alloc (.cells #[.slice (some ⟨g, 0, none⟩) R.all.length cap, .slice ha R.hist.length hc, .slice ea2 R.ev.length ec2, .slice ba R.blk.length bc] 35) = w6 at h6 k6 hb6 ⊢
    refine (notedR_any _ _ 6 n (-1) w6 h6 hl5).mono ?_
    rintro e w7 ⟨ev7, rfl, h7, hk7, hev7⟩
    obtain ⟨ea7, ec7, hE7, _⟩ := ownsRow_slice h7.ev
    simp only [List.length_append, List.length_cons, List.length_nil, Nat.zero_add] at hE7
    subst hE7
    simp only [RefV.val]
    have hw6s := hb6.size
    have k7 := (hk7.block _ (lt_of_heap k6) (fun e => by have := hev _ e; omega)).trans k6
    have hb7 : Below w.heap.size w w7 := Below.kp hb6 hk7 (Nat.le_refl _) (fun j e => by have := hev j e; omega)
    obtain ⟨u0, u1, u2, u3, uf, ul⟩ := blk4 k7
    clear h6 k6 hb6 hk7
    go_wp2_with fail
    refine bodyPost_ret (v := .tuple #[RefV.val ⟨.slice (some ⟨g, 0, none⟩) R.all.length cap, .slice ha R.hist.length hc, .slice ea7 (R.ev.length + 1) ec7, .slice ba R.blk.length bc, qs.set n { x with p := { x.p with t := to } }, hs'⟩, .int .i64 0]) (by simp [results, Try.results35, RefV.val, go_sem, u0, u1, u2, u3]) rfl ?_
    exact ⟨_, by rw [HF.out], by rw [HF.out]; exact h7.four k7 _ _ _ _, below_four hb7 (by omega) _ _ _ _, fun j hj => by
      rcases hj with hj | hj | hj | hj | ⟨z, hz, hj⟩ | ⟨z, hz, hj⟩
      · have e' : g = j := by simpa [Value.ownBlock] using hj
        exact .inr (by omega)
      · exact .inl (.inr (.inl hj))
      · rcases hev7 _ hj with h9 | h9
        · have := hev _ h9; exact .inr (by omega)
        · exact .inr (by omega)
      · exact .inl (.inr (.inr (.inr (.inl hj))))
      · rcases List.mem_or_eq_of_mem_set hz with hz | rfl
        · have := hqs z hz _ hj; exact .inr (by omega)
        · have := hqs x (List.mem_of_getElem? HX.out) _ hj; exact .inr (by omega)
      · exact .inl (.inr (.inr (.inr (.inr (.inr ⟨z, hz, hj⟩)))))⟩
end Go.Proofs.Ytnkcgalbaeppmaa
