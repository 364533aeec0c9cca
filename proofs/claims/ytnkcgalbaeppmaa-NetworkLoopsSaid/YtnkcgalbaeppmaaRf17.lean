/- The reference's Alter. -/
import Derived.Test.YtnkcgalbaeppmaaRf16
namespace Go.Proofs.Ytnkcgalbaeppmaa
open Go.RowKit
/-- A byte of a packet that was put in flight is turned. -/
theorem RefAt.setByte {w : World} {V : RefV} {R : RefM} (h : RefAt w V R) {i gb o : Nat} {x : RV} {m : RF} (hx : V.ps[i]? = some x) (hm : R.all[i]? = some m) (hba : x.p.ba = some ⟨gb, 0, none⟩) (hap : ApartR V.ps) (hh : ∀ p ∈ V.hs, p.blk ≠ some gb) (mask : Int) :
    RefAt (w.setCell ⟨gb, o, none⟩ (.int .u8 (bits BinOp.xor IntKind.u8 (m.pk.bs[o]?.getD 0) mask))) V { R with all := R.all.set i { m with pk := { m.pk with bs := flip m.pk.bs o mask } } } := by
  have hxm : ROwn w x m := h.allp.2 i x m hx hm
  have hbk : x.p.blk = some gb := by simp [PV.blk, hba, Value.ownBlock]
  obtain ⟨cg, hcg⟩ := hxm.p.block hbk
  have hA : ∀ k c T, w.heap[k]? = some (.cells c T (0, 0)) → T ≠ 5 → ¬ k = gb := fun k c T hc hT e => by subst e; exact hT (cells_inj hc hcg)
  generalize hv : (bits BinOp.xor IntKind.u8 (m.pk.bs[o]?.getD 0) mask) = v
  have hk : Kp (fun k => k = gb) w (w.setCell ⟨gb, o, none⟩ (.int .u8 v)) := (Kp.refl (fun k => k = gb) w).setCell (fun _ => rfl) _
  have hown := hxm.p.b
  rw [hba] at hown
  have hst := (hown.stored o (.int .u8 v)).1
  refine ⟨?_, ?_, ?_, ?_, ?_, ?_⟩
  · simp only [List.length_set]
    exact ownsRow_kp h.all hk (fun k h1 => by obtain ⟨c, hc⟩ := ownsRow_block h.all h1; exact hA k c 51 hc (by decide))
  · refine ⟨by simp [h.allp.1], fun j a c ha hc => ?_⟩
    by_cases hij : i = j
    · subst hij
      rw [hx] at ha; cases ha
      rw [List.getElem?_set] at hc
      simp only [if_true] at hc
      split at hc
      · cases hc
        refine ⟨⟨hxm.p.f, hxm.p.t, by rw [flip_length]; exact hxm.p.n, ?_⟩, hxm.src, hxm.gone⟩
        rw [hba]
        simp only [flip, hv, List.map_set]
        exact hst
      · cases hc
    · rw [List.getElem?_set_ne hij] at hc
      have := h.allp.2 j a c ha hc
      exact ⟨this.p.kp hk (fun k h1 e => by subst e; exact hap i j x a k hx ha hij hbk h1), this.src, this.gone⟩
  · exact ownsRow_kp h.hist hk (fun k h1 => by obtain ⟨c, hc⟩ := ownsRow_block h.hist h1; exact hA k c 40 hc (by decide))
  · exact h.histp.mono fun y q hy hq => hq.kp hk (fun k h1 e => by subst e; exact hh y hy h1)
  · exact ownsRow_kp h.ev hk (fun k h1 => by obtain ⟨c, hc⟩ := ownsRow_block h.ev h1; exact hA k c 61 hc (by decide))
  · exact ownsRow_kp h.blk hk (fun k h1 => by obtain ⟨c, hc⟩ := ownsRow_block h.blk h1; exact hA k c 95 hc (by decide))
set_option maxHeartbeats 1600000 in
set_option maxRecDepth 100000 in
theorem alterR_any (V : RefV) (R : RefM) (id off mask : Int) (w : World) (h : RefAt w V R) (hl : R.lim) :
    Calls Try.prog 34 #[V.val, .int .i64 id, .int .i64 off, .int .u8 mask] w (Ref2 V (R.alter id off mask) w) := by
  obtain ⟨aa, ac, ha, hc, ea, ec, ba, bc, h1, h2, h3, h4⟩ := h.forms
  obtain ⟨al, hi, ev, bl, ps, hs'⟩ := V
  simp only at h1 h2 h3 h4
  subst h1 h2 h3 h4
  simp only [RefV.val]
  have e1 := top1 w (.cells #[.slice aa R.all.length ac, .slice ha R.hist.length hc, .slice ea R.ev.length ec, .slice ba R.blk.length bc] 35) (.cells #[.slice none 0 0, .slice none 0 0, .slice none 0 0, .slice none 0 0] 35)
  have e2 := top0 w (.cells #[.slice aa R.all.length ac, .slice ha R.hist.length hc, .slice ea R.ev.length ec, .slice ba R.blk.length bc] 35) (.cells #[.slice none 0 0, .slice none 0 0, .slice none 0 0, .slice none 0 0] 35)
  have hb1 : Below w.heap.size w ((w.alloc (.cells #[.slice aa R.all.length ac, .slice ha R.hist.length hc, .slice ea R.ev.length ec, .slice ba R.blk.length bc] 35)).alloc (.cells #[.slice none 0 0, .slice none 0 0, .slice none 0 0, .slice none 0 0] 35)) := ((Below.refl _ _).alloc (Nat.le_refl _) _).alloc (by simp) _
  by_cases hm0 : mask = 0
  · have HF : Hid (R.alter id off mask = (R, 2)) := by simp [Hid, RefM.alter, hm0]
    have hm1 : (mask == 0) = true := by simpa using hm0
    clear hm0 e1 e2
    go_enter Try.func34, Try.ntmps34
    go_wp2_with fail
    refine bodyPost_ret (v := .tuple #[RefV.val ⟨.slice aa R.all.length ac, .slice ha R.hist.length hc, .slice ea R.ev.length ec, .slice ba R.blk.length bc, ps, hs'⟩, .int .i64 2]) (by simp [results, Try.results34, RefV.val, go_sem]) rfl ?_
    have hbZ : Below w.heap.size w ((w.alloc (.cells #[.slice aa R.all.length ac, .slice ha R.hist.length hc, .slice ea R.ev.length ec, .slice ba R.blk.length bc] 35)).alloc (.cells #[.slice aa R.all.length ac, .slice ha R.hist.length hc, .slice ea R.ev.length ec, .slice ba R.blk.length bc] 35)) := ((Below.refl _ _).alloc (Nat.le_refl _) _).alloc (by simp) _
    exact ⟨_, by rw [HF.out], by rw [HF.out]; exact h.below hbZ (Nat.le_refl _), hbZ, News.refl _ _⟩
  have hm1 : (mask == 0) = false := by simpa using hm0
  have HM0 := Lib.hid hm0
  clear hm0
  go_enter Try.func34, Try.ntmps34
  go_wp2_with fail
  generalize (w.alloc (.cells #[.slice aa R.all.length ac, .slice ha R.hist.length hc, .slice ea R.ev.length ec, .slice ba R.blk.length bc] 35)).alloc (.cells #[.slice none 0 0, .slice none 0 0, .slice none 0 0, .slice none 0 0] 35) = w1 at e1 e2 hb1 ⊢
  refine (flies_any _ R id w1 (h.below hb1 (Nat.le_refl _)) hl).mono ?_
  rintro e w3 ⟨rfl, hbl⟩
  have g1 := (hbl.block _ (lt_of_heap e1)).trans e1
  have g3 := (hbl.block _ (lt_of_heap e2)).trans e2
  have hb3 := hb1.trans (hbl.mono hb1.size)
  clear e1 e2 hb1 hbl
  obtain ⟨c0, c1, c2, c3, cf, cl⟩ := blk4 g1
  obtain ⟨u0, u1, u2, u3, uf, ul⟩ := blk4 g3
  cases hf : R.flies id
  · have HF : Hid (R.alter id off mask = (R, 9)) := by simp [Hid, RefM.alter, HM0.out, hf]
    clear hf
    go_wp2_with fail
    refine bodyPost_ret (v := .tuple #[RefV.val ⟨.slice aa R.all.length ac, .slice ha R.hist.length hc, .slice ea R.ev.length ec, .slice ba R.blk.length bc, ps, hs'⟩, .int .i64 9]) (by simp [results, Try.results34, RefV.val, go_sem, u0, u1, u2, u3]) rfl ?_
    exact ⟨_, by rw [HF.out], by rw [HF.out]; exact h.below (below_four hb3 (by omega) _ _ _ _) (Nat.le_refl _), below_four hb3 (by omega) _ _ _ _, News.refl _ _⟩
  obtain ⟨n, m, rfl, hg, M⟩ := flies_true hf
  have hm := M.at_
  have HM := Lib.hid hm
  have hn : n < R.all.length := (List.getElem?_eq_some_iff.1 hm).1
  have hla := hl.all
  have i0 : (0 : Int) ≤ (n : Int) := by omega
  have i1 : (n : Int) < (R.all.length : Int) := by omega
  have i2 : (R.all.length : Int) ≤ 50000 := by omega
  have HF0 := Lib.hid hf
  clear hf hg M hm
  have h3 := h.below hb3 (Nat.le_refl _)
  obtain ⟨x, hx, hxm⟩ := h3.allp.at HM.out
  have hall := h3.all
  simp only at hx hall
  obtain ⟨g, cap, hgv, _, lg⟩ := hall.form (by omega)
  injection hgv with hv1 _ hv2
  subst hv1 hv2
  obtain ⟨d0, d1, d2, d3, d4⟩ := all_cells hall hx
  have hxn := hxm.p.n
  have hmok := hl.allok m (List.mem_of_getElem? HM.out)
  have b1 : (x.p.bn : Int) ≤ 100 := by have := hmok.bs; omega
  clear hall hx
  by_cases hoff : 0 ≤ off ∧ off < m.pk.bs.length
  case neg =>
    have HF : Hid (R.alter n off mask = (R, 3)) := by
      have h1 := HF0.out
      have h2 := HM.out
      have h3 := HM0.out
      simp only [Hid, RefM.alter, h1, if_true, Int.toNat_natCast, h2, if_neg hoff, if_neg h3]
    by_cases ho : off < 0
    · clear hoff hxn
      go_wp2_with fail
      refine bodyPost_ret (v := .tuple #[RefV.val ⟨.slice (some ⟨g, 0, none⟩) R.all.length ac, .slice ha R.hist.length hc, .slice ea R.ev.length ec, .slice ba R.blk.length bc, ps, hs'⟩, .int .i64 3]) (by simp [results, Try.results34, RefV.val, go_sem, u0, u1, u2, u3]) rfl ?_
      exact ⟨_, by rw [HF.out], by rw [HF.out]; exact h.below (below_four hb3 (by omega) _ _ _ _) (Nat.le_refl _), below_four hb3 (by omega) _ _ _ _, News.refl _ _⟩
    · obtain ⟨o, rfl⟩ := Int.eq_ofNat_of_zero_le (show 0 ≤ off by omega)
      have o2 : x.p.bn ≤ o := by omega
      have o0 : (0 : Int) ≤ (o : Int) := by omega
      clear hoff ho hxn
      go_wp2_with fail
      refine bodyPost_ret (v := .tuple #[RefV.val ⟨.slice (some ⟨g, 0, none⟩) R.all.length ac, .slice ha R.hist.length hc, .slice ea R.ev.length ec, .slice ba R.blk.length bc, ps, hs'⟩, .int .i64 3]) (by simp [results, Try.results34, RefV.val, go_sem, u0, u1, u2, u3]) rfl ?_
      exact ⟨_, by rw [HF.out], by rw [HF.out]; exact h.below (below_four hb3 (by omega) _ _ _ _) (Nat.le_refl _), below_four hb3 (by omega) _ _ _ _, News.refl _ _⟩
  case pos =>
    have HF : Hid (R.alter n off mask = (R.turned n { m with pk := { m.pk with bs := flip m.pk.bs off.toNat mask } } 5, 0)) := by simp [Hid, RefM.alter, HF0.out, HM.out, HM0.out, hoff]
    obtain ⟨o, rfl⟩ := Int.eq_ofNat_of_zero_le hoff.1
    have o0 : (0 : Int) ≤ (o : Int) := by omega
    have o1 : (o : Int) < (x.p.bn : Int) := by omega
    have o3 : o < m.pk.bs.length := by omega
    clear hoff hxn
    go_wp2_with fail
    clear o1 b1 hxm d0 d1 d2 d3 d4
    refine (ownR_any _ R w3 h3 hl).mono ?_
    rintro e w4 ⟨g6, cap6, evv, qs, rfl, h4, hg, hev, hqs, hap, hbl⟩
    obtain ⟨ea2, ec2, hE, _⟩ := ownsRow_slice h4.ev
    simp only at hE
    subst hE
    simp only [RefV.val]
    have k1 := (hbl.block _ (lt_of_heap g1)).trans g1
    have k3 := (hbl.block _ (lt_of_heap g3)).trans g3
    have hb4 := hb3.trans (hbl.mono hb3.size)
    have hg4 : g6 < w4.heap.size := (h4.all.lt g6 rfl).2
    have hlw3 := lt_of_heap g3
    have hb3s := hb3.size
    have hsz : w3.heap.size ≤ w4.heap.size := hbl.size
    clear g1 g3 hb3 hbl c0 c1 c2 c3 cf cl u0 u1 u2 u3 uf ul h3
    go_wp2_with fail
    have hbx := (Below.refl w4.heap.size w4).alloc (Nat.le_refl _) (.cells #[.slice (some ⟨g6, 0, none⟩) R.all.length cap6, .slice ha R.hist.length hc, .slice ea2 R.ev.length ec2, .slice ba R.blk.length bc] 35)
    have h5 := h4.below hbx (Nat.le_refl _)
    have k5 := heap_alloc_new w4 (.cells #[.slice (some ⟨g6, 0, none⟩) R.all.length cap6, .slice ha R.hist.length hc, .slice ea2 R.ev.length ec2, .slice ba R.blk.length bc] 35)
    have q1 := (hbx.block _ (lt_of_heap k1)).trans k1
    have q3 := (hbx.block _ (lt_of_heap k3)).trans k3
    have hb5 := hb4.trans (hbx.mono hb4.size)
    have hevl : ∀ k, Value.ownBlock (.slice ea2 R.ev.length ec2) = some k → k < w4.heap.size := fun k hk => (h4.ev.lt k hk).2
    clear hbx h4 k1 k3 hb4
    generalize w4.heap.size = Y at k5 hg4 hevl hsz ⊢
    generalize w4.alloc (.cells #[.slice (some ⟨g6, 0, none⟩) R.all.length cap6, .slice ha R.hist.length hc, .slice ea2 R.ev.length ec2, .slice ba R.blk.length bc] 35) = w5 at h5 k5 q1 q3 hb5 ⊢
    have hall := h5.all
    simp only at hall
    obtain ⟨y, hy, hym⟩ := h5.allp.at HM.out
    simp only at hy
    obtain ⟨d0, d1, d2, d3, d4⟩ := all_cells hall hy
    have HY := Lib.hid hy
    have hyn := hym.p.n
    have hyb := hym.p.b
    obtain ⟨gb, cb, hgb, hgbl⟩ : ∃ gb cb, y.p.ba = some ⟨gb, 0, none⟩ ∧ y.p.bc = cb := by
      obtain ⟨gb, cb, hv, _, _⟩ := hyb.form (by omega)
      injection hv with h1 h2 h3
      exact ⟨gb, cb, h1, h3⟩
    have HG := Lib.hid hgb
    have hgw : w3.heap.size ≤ gb := hqs y (List.mem_of_getElem? hy) gb (by simp [PV.blk, hgb, Value.ownBlock])
    rw [hgb] at hyb d2
    have dd : w5.cell? ⟨gb, o, none⟩ = some (.int .u8 (m.pk.bs[o]?.getD 0)) := by
      rw [hyb.cellAt o (by omega), List.getElem?_map, List.getElem?_eq_getElem o3]; rfl
    have df : w5.frozen? ⟨gb, o, none⟩ = false := hyb.frozenAt o
    have o1 : (o : Int) < (y.p.bn : Int) := by omega
    have b1 : (y.p.bn : Int) ≤ 100 := by have := hmok.bs; omega
    have hgbw : gb < w5.heap.size := (hyb.lt gb rfl).2
    obtain ⟨c0, c1, c2, c3, cf, cl⟩ := blk4 k5
    have hgbY : gb ≠ Y := fun e => by
      obtain ⟨cc, hcc⟩ := ownsRow_block hyb (k := gb) rfl
      subst e
      exact absurd (cells_inj hcc k5) (by decide)
    clear hall hy hyn hyb hgb hgbl hym
    apply wp_region_early [0, 1, 2, 3, 4, 5, 6, 7, 8, 9, 10, 11, 12, 13, 14, 15, 16, 17, 18, 19] [] [20, 21] (fun w' => w'.cell? ⟨Y, 0, none⟩ = some (.slice (some ⟨g6, 0, none⟩) R.all.length cap6) ∧ w'.cell? ⟨g6, n * 5 + 2, none⟩ = some (.slice (some ⟨gb, 0, none⟩) y.p.bn y.p.bc) ∧ w'.cell? ⟨gb, o, none⟩ = some (.int .u8 (m.pk.bs[o]?.getD 0)))
    case hm => kernel_rfl
    case hB => kernel_rfl
    case hao => exact .nil
    case hlo => exact .cons rfl (.cons rfl .nil)
    case hS => exact ⟨c0, d2, dd⟩
    case hr =>
      iterate 20
        try simp only [Act.put, List.setIfInBounds_toArray, List.set_cons_succ, List.set_cons_zero]
        apply Reads.cons1 rfl rfl
        · intro w' hS
          obtain ⟨s0, s1, s2⟩ := hS
          go_simp
          try rfl
      exact Reads.nil
    intro W hW
    have n3 : W.heap[w.heap.size + 1]? = some (.cells #[.slice none 0 0, .slice none 0 0, .slice none 0 0, .slice none 0 0] 35) := by subst hW; exact q3
    have n5 : W.heap[Y]? = some (.cells #[.slice (some ⟨g6, 0, none⟩) R.all.length cap6, .slice ha R.hist.length hc, .slice ea2 R.ev.length ec2, .slice ba R.blk.length bc] 35) := by subst hW; exact k5
    have hb6 : Below w.heap.size w W := by subst hW; exact hb5.drew
    have h6 : RefAt W ⟨.slice (some ⟨g6, 0, none⟩) R.all.length cap6, .slice ha R.hist.length hc, .slice ea2 R.ev.length ec2, .slice ba R.blk.length bc, qs, hs'⟩ R := by subst hW; exact h5.same fun j _ => rfl
    have ddW : W.cell? ⟨gb, o, none⟩ = some (.int .u8 (m.pk.bs[o]?.getD 0)) := by subst hW; exact dd
    have dfW : W.frozen? ⟨gb, o, none⟩ = false := by subst hW; exact df
    have h7 := h6.setByte (o := o) HY.out HM.out HG.out hap (fun p hp e => by
      have := (h.histp.left hp).elim fun z hz => hz.2.lt e
      omega) mask
    have hEq : m.pk.bs[o]?.getD 0 = m.pk.bs[o] := by rw [List.getElem?_eq_getElem o3, Option.getD_some]
    rw [hEq] at h7 ddW
    have HEq := Lib.hid hEq
    clear hEq hW q3 k5 hb5 h5 dd df c0 c1 c2 c3 cf cl d0 d1 d2 d3 d4
    unfold wpTail
    try simp only [Act.put, List.setIfInBounds_toArray, List.set_cons_succ, List.set_cons_zero]
    go_wp2_with fail
    refine NoPanic.normal ?_
    have hk7 : Kp (fun j => j = gb) W (W.setCell ⟨gb, o, none⟩ (.int .u8 (bits BinOp.xor IntKind.u8 m.pk.bs[o] mask))) := (Kp.refl (fun j => j = gb) W).setCell (fun _ => rfl) _
    have m3 := (hk7.block _ (lt_of_heap n3) (by omega)).trans n3
    have m5 := (hk7.block _ (lt_of_heap n5) (Ne.symm hgbY)).trans n5
    have hb7 : Below w.heap.size w (W.setCell ⟨gb, o, none⟩ (.int .u8 (bits BinOp.xor IntKind.u8 m.pk.bs[o] mask))) := Below.kp hb6 hk7 (Nat.le_refl _) (fun j e => by omega)
    have hl7 := hl.set (y := { m with pk := { m.pk with bs := flip m.pk.bs o mask } }) HM.out ⟨hmok.fr, hmok.to, by rw [flip_length]; exact hmok.bs⟩ rfl
    clear n3 n5 hb6 h6 ddW dfW hk7
    generalize W.setCell ⟨gb, o, none⟩ (.int .u8 (bits BinOp.xor IntKind.u8 m.pk.bs[o] mask)) = w8 at h7 m3 m5 hb7 ⊢
    obtain ⟨c0, c1, c2, c3, cf, cl⟩ := blk4 m5
    go_wp2_with fail
    refine (notedR_any _ _ 5 n (-1) w8 h7 hl7).mono ?_
    rintro e w9 ⟨ev9, rfl, h9, hk9, hev9⟩
    obtain ⟨ea9, ec9, hE9, _⟩ := ownsRow_slice h9.ev
    simp only [List.length_append, List.length_cons, List.length_nil, Nat.zero_add] at hE9
    subst hE9
    simp only [RefV.val]
    have hw7s := hb7.size
    have k9 := (hk9.block _ (lt_of_heap m3) (fun e => by have := hev _ e; omega)).trans m3
    have hb9 : Below w.heap.size w w9 := Below.kp hb7 hk9 (Nat.le_refl _) (fun j e => by have := hev j e; omega)
    obtain ⟨u0, u1, u2, u3, uf, ul⟩ := blk4 k9
    clear h7 m3 m5 hb7 hk9 c0 c1 c2 c3 cf cl
    go_wp2_with fail
    refine bodyPost_ret (v := .tuple #[RefV.val ⟨.slice (some ⟨g6, 0, none⟩) R.all.length cap6, .slice ha R.hist.length hc, .slice ea9 (R.ev.length + 1) ec9, .slice ba R.blk.length bc, qs, hs'⟩, .int .i64 0]) (by simp [results, Try.results34, RefV.val, go_sem, u0, u1, u2, u3]) rfl ?_
    exact ⟨_, by rw [HF.out], by rw [HF.out]; exact h9.four k9 _ _ _ _, below_four hb9 (by omega) _ _ _ _, fun j hj => by
      rcases hj with hj | hj | hj | hj | ⟨z, hz, hj⟩ | ⟨z, hz, hj⟩
      · have e' : g6 = j := by simpa [Value.ownBlock] using hj
        exact .inr (by omega)
      · exact .inl (.inr (.inl hj))
      · rcases hev9 _ hj with h9 | h9
        · have := hev _ h9; exact .inr (by omega)
        · exact .inr (by omega)
      · exact .inl (.inr (.inr (.inr (.inl hj))))
      · have := hqs z hz _ hj; exact .inr (by omega)
      · exact .inl (.inr (.inr (.inr (.inr (.inr ⟨z, hz, hj⟩)))))⟩
end Go.Proofs.Ytnkcgalbaeppmaa
