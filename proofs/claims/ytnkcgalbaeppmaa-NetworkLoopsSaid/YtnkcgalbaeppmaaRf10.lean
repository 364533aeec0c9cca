/- The reference's Replay. -/
import Derived.Test.YtnkcgalbaeppmaaRf9
import Derived.Test.YtnkcgalbaeppmaaFloat
namespace Go.Proofs.Ytnkcgalbaeppmaa
open Go.RowKit
set_option maxHeartbeats 1600000 in
set_option maxRecDepth 100000 in
theorem replayR_any (V : RefV) (R : RefM) (ix : Int) (w : World) (h : RefAt w V R) (hl : R.lim) (hn : R.all.length < 50000) :
    Calls Try.prog 55 #[V.val, .int .i64 ix] w (Ref3 V (R.replay ix) w) := by
  obtain ⟨aa, ac, ha, hc, ea, ec, ba, bc, h1, h2, h3, h4⟩ := h.forms
  obtain ⟨al, hi, ev, bl, ps, hs'⟩ := V
  simp only at h1 h2 h3 h4
  subst h1 h2 h3 h4
  simp only [RefV.val]
  have e1 := top1 w (.cells #[.slice aa R.all.length ac, .slice ha R.hist.length hc, .slice ea R.ev.length ec, .slice ba R.blk.length bc] 35) (.cells #[.slice none 0 0, .slice none 0 0, .slice none 0 0, .slice none 0 0] 35)
  have e2 := top0 w (.cells #[.slice aa R.all.length ac, .slice ha R.hist.length hc, .slice ea R.ev.length ec, .slice ba R.blk.length bc] 35) (.cells #[.slice none 0 0, .slice none 0 0, .slice none 0 0, .slice none 0 0] 35)
  have hb1 : Below w.heap.size w ((w.alloc (.cells #[.slice aa R.all.length ac, .slice ha R.hist.length hc, .slice ea R.ev.length ec, .slice ba R.blk.length bc] 35)).alloc (.cells #[.slice none 0 0, .slice none 0 0, .slice none 0 0, .slice none 0 0] 35)) := ((Below.refl _ _).alloc (Nat.le_refl _) _).alloc (by simp) _
  have hbad : (ix < 0 ∨ R.hist.length ≤ ix) → ∀ V0, Ref3 V0 (R.replay ix) w = Ref3 V0 (R, 0, 9) w := fun hx V0 => by
    have : R.replay ix = (R, 0, 9) := by
      unfold RefM.replay
      split
      · rename_i h0
        have : R.hist.length ≤ ix.toNat := by omega
        rw [List.getElem?_eq_none this]
      · rfl
    rw [this]
  by_cases hx : 0 ≤ ix ∧ ix < R.hist.length
  · obtain ⟨j, rfl⟩ := Int.eq_ofNat_of_zero_le hx.1
    have j0 : (0 : Int) ≤ (j : Int) := by omega
    have j1 : (j : Int) < (R.hist.length : Int) := hx.2
    have j2 : (R.hist.length : Int) ≤ 1024 := by have := hl.hist; omega
    have hjl : j < R.hist.length := by omega
    obtain ⟨m, hm⟩ : ∃ m, R.hist[j]? = some m := ⟨_, List.getElem?_eq_getElem hjl⟩
    have hmok := hl.histok m (List.mem_of_getElem? hm)
    have HM := Lib.hid hm
    clear hx hbad hm
    go_enter Try.func55, Try.ntmps55
    go_wp2_with fail
    generalize (w.alloc (.cells #[.slice aa R.all.length ac, .slice ha R.hist.length hc, .slice ea R.ev.length ec, .slice ba R.blk.length bc] 35)).alloc (.cells #[.slice none 0 0, .slice none 0 0, .slice none 0 0, .slice none 0 0] 35) = w1 at e1 e2 hb1 ⊢
    refine (count_any _ R w1 (h.below hb1 (Nat.le_refl _)) hl).mono ?_
    rintro e w3 ⟨rfl, hbl⟩
    have g1 := (hbl.block _ (lt_of_heap e1)).trans e1
    have g3 := (hbl.block _ (lt_of_heap e2)).trans e2
    have hb3 := hb1.trans (hbl.mono hb1.size)
    clear e1 e2 hb1 hbl
    obtain ⟨c0, c1, c2, c3, cf, cl⟩ := blk4 g1
    obtain ⟨u0, u1, u2, u3, uf, ul⟩ := blk4 g3
    by_cases hfull : 64 ≤ R.count
    · have HF : Hid (R.replay j = (R, 0, 7)) := by simp [Hid, RefM.replay, HM.out, hfull]
      have hf' : (64 : Int) ≤ (R.count : Int) := by omega
      clear hfull
      go_wp2_with fail
      refine bodyPost_ret (v := .tuple #[RefV.val ⟨.slice aa R.all.length ac, .slice ha R.hist.length hc, .slice ea R.ev.length ec, .slice ba R.blk.length bc, ps, hs'⟩, .int .i64 0, .int .i64 7]) (by simp [results, Try.results55, RefV.val, go_sem, u0, u1, u2, u3]) rfl ?_
      exact ⟨_, by rw [HF.out], by rw [HF.out]; exact h.below (below_four hb3 (by omega) _ _ _ _) (Nat.le_refl _), below_four hb3 (by omega) _ _ _ _, News.refl _ _⟩
    · have HF : Hid (R.replay j = (R.launched 7 m j j, ((R.all.length : Nat) : Int), 0)) := by simp [Hid, RefM.replay, HM.out, hfull]
      have hf' : ¬ (64 : Int) ≤ (R.count : Int) := by omega
      clear hfull
      have h3 := h.below hb3 (Nat.le_refl _)
      obtain ⟨x, hx, hxm⟩ := h3.histp.at HM.out
      have hhi := h3.hist
      simp only at hhi hx
      obtain ⟨g, cap, hgv, _, lg⟩ := hhi.form (by omega)
      injection hgv with hv1 _ hv2
      subst hv1 hv2
      have hcl := hist_cells hhi hx
      have hsrc := hxm.src
      clear hx hhi
      go_wp2_with fail
      apply wp_region_float [0, 1, 2, 3, 4, 5, 6, 7] 8 12 [9, 10, 11] [13] [14] (fun w' => w'.heap[w.heap.size]? = some (.cells #[.slice aa R.all.length ac, .slice (some ⟨g, 0, none⟩) R.hist.length hc, .slice ea R.ev.length ec, .slice ba R.blk.length bc] 35) ∧ w'.cell? ⟨g, j * 3, none⟩ = some (.string x.f) ∧ w'.cell? ⟨g, j * 3 + 1, none⟩ = some (.string x.t) ∧ w'.cell? ⟨g, j * 3 + 2, none⟩ = some (.slice x.ba x.bn x.bc))
      case hm => kernel_rfl
      case hB => kernel_rfl
      case hoc => rfl
      case hox => rfl
      case hao => exact .cons rfl .nil
      case hlo => exact .cons rfl .nil
      case hS => exact ⟨g1, hcl⟩
      case hr =>
        iterate 8
          try simp only [Act.put, List.setIfInBounds_toArray, List.set_cons_succ, List.set_cons_zero]
          apply Reads.cons1 rfl rfl
          · intro w' hS
            obtain ⟨s0, s1, s2⟩ := hS.2
            obtain ⟨y0, y1, y2, y3, _, _⟩ := blk4 hS.1
            clear hS
            go_simp
            try rfl
        exact Reads.nil
      case hA =>
        intro W hW
        have n1 : W.heap[w.heap.size]? = some (.cells #[.slice aa R.all.length ac, .slice (some ⟨g, 0, none⟩) R.hist.length hc, .slice ea R.ev.length ec, .slice ba R.blk.length bc] 35) := by subst hW; exact g1
        have n3 : W.heap[w.heap.size + 1]? = some (.cells #[.slice none 0 0, .slice none 0 0, .slice none 0 0, .slice none 0 0] 35) := by subst hW; exact g3
        have hb4 : Below w.heap.size w W := by subst hW; exact hb3.drew
        have h4 : RefAt W ⟨.slice aa R.all.length ac, .slice (some ⟨g, 0, none⟩) R.hist.length hc, .slice ea R.ev.length ec, .slice ba R.blk.length bc, ps, hs'⟩ R := by subst hW; exact h3.same fun j _ => rfl
        have hx4 : PSrc W x m := by subst hW; exact ⟨hsrc.pin.drew, hsrc.nil⟩
        have hcW : W.cell? ⟨g, j * 3, none⟩ = some (.string x.f) ∧ W.cell? ⟨g, j * 3 + 1, none⟩ = some (.string x.t) ∧ W.cell? ⟨g, j * 3 + 2, none⟩ = some (.slice x.ba x.bn x.bc) := by subst hW; exact hcl
        have lgW : g < W.heap.size := World.block_lt_of_cell? W _ hcW.1
        clear hW c0 c1 c2 c3 cf cl u0 u1 u2 u3 uf ul
        try simp only [Act.put, List.setIfInBounds_toArray, List.set_cons_succ, List.set_cons_zero]
        go_wp2_with fail
        refine (launchedR_any _ R 7 j j x m W h4 hl hn hx4 hmok ⟨by omega, by omega⟩).mono ?_
        rintro e w4 ⟨⟨al4, hi4, ev4, bl4, ps4, hs4⟩, rfl, h5, hbl, hnw0⟩
        have hnw := hnw0.mono hb4.size
        clear hnw0
        obtain ⟨xa, xc, xb, xd, xe, xf, xg, xh, y1, y2, y3, y4⟩ := h5.forms
        simp only at y1 y2 y3 y4
        subst y1 y2 y3 y4
        simp only [RefV.val]
        have k1 := (hbl.block _ (lt_of_heap n1)).trans n1
        have k3 := (hbl.block _ (lt_of_heap n3)).trans n3
        have hb5 := hb4.trans (hbl.mono hb4.size)
        have hcl4 : w4.cell? ⟨g, j * 3, none⟩ = some (.string x.f) ∧ w4.cell? ⟨g, j * 3 + 1, none⟩ = some (.string x.t) ∧ w4.cell? ⟨g, j * 3 + 2, none⟩ = some (.slice x.ba x.bn x.bc) := ⟨(hbl.cell (p := ⟨g, j * 3, none⟩) lgW).trans hcW.1, (hbl.cell (p := ⟨g, j * 3 + 1, none⟩) lgW).trans hcW.2.1, (hbl.cell (p := ⟨g, j * 3 + 2, none⟩) lgW).trans hcW.2.2⟩
        generalize R.launched 7 m j j = R' at h5 HF hnw ⊢
        clear n1 n3 hb4 hbl h4 hx4
        go_wp2_with fail
        refine ⟨⟨k1, hcl4⟩, ?_⟩
        apply Exists.intro
        apply And.intro
        · iterate 3
            try simp only [Act.put, List.setIfInBounds_toArray, List.set_cons_succ, List.set_cons_zero]
            apply Reads.cons1 rfl rfl
            · intro w' hS
              clear hS
              go_simp
              try rfl
          exact Reads.nil
        have lgw4 : g < w4.heap.size := World.block_lt_of_cell? w4 _ hcl4.1
        have hkA := (Below.refl w4.heap.size w4).alloc (Nat.le_refl _) (.cells #[.slice none 0 0, .slice none 0 0, .slice none 0 0, .slice none 0 0] 35)
        obtain ⟨u0, u1, u2, u3, uf, ul⟩ := blk4 k3
        unfold wpTail
        try simp only [Act.put, List.setIfInBounds_toArray, List.set_cons_succ, List.set_cons_zero]
        go_wp2_with fail
        refine ⟨⟨(hkA.block _ (lt_of_heap k1)).trans k1, (hkA.cell (p := ⟨g, j * 3, none⟩) lgw4).trans hcl4.1, (hkA.cell (p := ⟨g, j * 3 + 1, none⟩) lgw4).trans hcl4.2.1, (hkA.cell (p := ⟨g, j * 3 + 2, none⟩) lgw4).trans hcl4.2.2⟩, ?_⟩
        unfold wpTail
        go_wp2_with fail
        have hkB := (Below.refl w4.heap.size w4).alloc (Nat.le_refl _) (.cells #[.slice xa R'.all.length xc, .slice xb R'.hist.length xd, .slice xe R'.ev.length xf, .slice xg R'.blk.length xh] 35)
        refine ⟨⟨(hkB.block _ (lt_of_heap k1)).trans k1, (hkB.cell (p := ⟨g, j * 3, none⟩) lgw4).trans hcl4.1, (hkB.cell (p := ⟨g, j * 3 + 1, none⟩) lgw4).trans hcl4.2.1, (hkB.cell (p := ⟨g, j * 3 + 2, none⟩) lgw4).trans hcl4.2.2⟩, ?_⟩
        unfold wpTail
        go_wp2_with fail
        refine NoPanic.normal ?_
        go_wp2_with fail
        refine bodyPost_ret (v := .tuple #[RefV.val ⟨.slice xa R'.all.length xc, .slice xb R'.hist.length xd, .slice xe R'.ev.length xf, .slice xg R'.blk.length xh, ps4, hs4⟩, .int .i64 R.all.length, .int .i64 0]) (by simp [results, Try.results55, RefV.val, go_sem, u0, u1, u2, u3, ul]) rfl ?_
        exact ⟨_, by rw [HF.out], by rw [HF.out]; exact (h5.four k3 _ _ _ _).below ((Below.refl _ _).alloc (Nat.le_refl _) _) (Nat.le_refl _), (below_four hb5 (B := w.heap.size + 1) (by omega) _ _ _ _).alloc (by have := hb5.size; simp [World.setCell]; omega) _, hnw⟩
      case hBB =>
        intro W hW
        have n1 : W.heap[w.heap.size]? = some (.cells #[.slice aa R.all.length ac, .slice (some ⟨g, 0, none⟩) R.hist.length hc, .slice ea R.ev.length ec, .slice ba R.blk.length bc] 35) := by subst hW; exact g1
        have n3 : W.heap[w.heap.size + 1]? = some (.cells #[.slice none 0 0, .slice none 0 0, .slice none 0 0, .slice none 0 0] 35) := by subst hW; exact g3
        have hb4 : Below w.heap.size w W := by subst hW; exact hb3.drew
        have h4 : RefAt W ⟨.slice aa R.all.length ac, .slice (some ⟨g, 0, none⟩) R.hist.length hc, .slice ea R.ev.length ec, .slice ba R.blk.length bc, ps, hs'⟩ R := by subst hW; exact h3.same fun j _ => rfl
        have hx4 : PSrc W x m := by subst hW; exact ⟨hsrc.pin.drew, hsrc.nil⟩
        have hcW : W.cell? ⟨g, j * 3, none⟩ = some (.string x.f) ∧ W.cell? ⟨g, j * 3 + 1, none⟩ = some (.string x.t) ∧ W.cell? ⟨g, j * 3 + 2, none⟩ = some (.slice x.ba x.bn x.bc) := by subst hW; exact hcl
        have lgW : g < W.heap.size := World.block_lt_of_cell? W _ hcW.1
        clear hW c0 c1 c2 c3 cf cl u0 u1 u2 u3 uf ul
        try simp only [Act.put, List.setIfInBounds_toArray, List.set_cons_succ, List.set_cons_zero]
        go_wp2_with fail
        have hkA := (Below.refl W.heap.size W).alloc (Nat.le_refl _) (.cells #[.slice none 0 0, .slice none 0 0, .slice none 0 0, .slice none 0 0] 35)
        have q1 := (hkA.block _ (lt_of_heap n1)).trans n1
        have q3 := (hkA.block _ (lt_of_heap n3)).trans n3
        have q5 := heap_alloc_new W (.cells #[.slice none 0 0, .slice none 0 0, .slice none 0 0, .slice none 0 0] 35)
        have hcQ : (W.alloc (.cells #[.slice none 0 0, .slice none 0 0, .slice none 0 0, .slice none 0 0] 35)).cell? ⟨g, j * 3, none⟩ = some (.string x.f) ∧ (W.alloc (.cells #[.slice none 0 0, .slice none 0 0, .slice none 0 0, .slice none 0 0] 35)).cell? ⟨g, j * 3 + 1, none⟩ = some (.string x.t) ∧ (W.alloc (.cells #[.slice none 0 0, .slice none 0 0, .slice none 0 0, .slice none 0 0] 35)).cell? ⟨g, j * 3 + 2, none⟩ = some (.slice x.ba x.bn x.bc) := ⟨(hkA.cell (p := ⟨g, j * 3, none⟩) lgW).trans hcW.1, (hkA.cell (p := ⟨g, j * 3 + 1, none⟩) lgW).trans hcW.2.1, (hkA.cell (p := ⟨g, j * 3 + 2, none⟩) lgW).trans hcW.2.2⟩
        refine ⟨⟨q1, hcQ⟩, ?_⟩
        have h4' := h4.below hkA (Nat.le_refl _)
        have hx4' : PSrc (W.alloc (.cells #[.slice none 0 0, .slice none 0 0, .slice none 0 0, .slice none 0 0] 35)) x m := ⟨hx4.pin.below hkA (Nat.le_refl _), hx4.nil⟩
        have hb4' := hb4.alloc (by have := hb4.size; omega) (.cells #[.slice none 0 0, .slice none 0 0, .slice none 0 0, .slice none 0 0] 35)
        have lB : w.heap.size + 1 < W.heap.size := lt_of_heap n3
        have lgC := lgW
        generalize W.heap.size = C at q5 lB lgC ⊢
        generalize (W.alloc (.cells #[.slice none 0 0, .slice none 0 0, .slice none 0 0, .slice none 0 0] 35)) = W1 at q1 q3 q5 hcQ h4' hx4' hb4' ⊢
        clear n1 n3 hb4 h4 hx4 hcW lgW hkA
        have lgQ : g < W1.heap.size := World.block_lt_of_cell? W1 _ hcQ.1
        go_wp2_with fail
        refine (launchedR_any _ R 7 j j x m W1 h4' hl hn hx4' hmok ⟨by omega, by omega⟩).mono ?_
        rintro e w4 ⟨⟨al4, hi4, ev4, bl4, ps4, hs4⟩, rfl, h5, hbl, hnw0⟩
        have hnw := hnw0.mono hb4'.size
        clear hnw0
        obtain ⟨xa, xc, xb, xd, xe, xf, xg, xh, y1, y2, y3, y4⟩ := h5.forms
        simp only at y1 y2 y3 y4
        subst y1 y2 y3 y4
        simp only [RefV.val]
        have k1 := (hbl.block _ (lt_of_heap q1)).trans q1
        have k3 := (hbl.block _ (lt_of_heap q3)).trans q3
        have k5 := (hbl.block _ (lt_of_heap q5)).trans q5
        have hb5 := hb4'.trans (hbl.mono hb4'.size)
        have hcl4 : w4.cell? ⟨g, j * 3, none⟩ = some (.string x.f) ∧ w4.cell? ⟨g, j * 3 + 1, none⟩ = some (.string x.t) ∧ w4.cell? ⟨g, j * 3 + 2, none⟩ = some (.slice x.ba x.bn x.bc) := ⟨(hbl.cell (p := ⟨g, j * 3, none⟩) lgQ).trans hcQ.1, (hbl.cell (p := ⟨g, j * 3 + 1, none⟩) lgQ).trans hcQ.2.1, (hbl.cell (p := ⟨g, j * 3 + 2, none⟩) lgQ).trans hcQ.2.2⟩
        generalize R.launched 7 m j j = R' at h5 HF hnw ⊢
        clear q1 q3 q5 hb4' hbl h4' hx4' hcQ
        go_wp2_with fail
        refine ⟨⟨k1, hcl4⟩, ?_⟩
        apply Exists.intro
        apply And.intro
        · iterate 3
            try simp only [Act.put, List.setIfInBounds_toArray, List.set_cons_succ, List.set_cons_zero]
            apply Reads.cons1 rfl rfl
            · intro w' hS
              clear hS
              go_simp
              try rfl
          exact Reads.nil
        obtain ⟨t0, t1, t2, t3, tf, tl⟩ := blk4 k5
        obtain ⟨u0, u1, u2, u3, uf, ul⟩ := blk4 k3
        unfold wpTail
        try simp only [Act.put, List.setIfInBounds_toArray, List.set_cons_succ, List.set_cons_zero]
        go_wp2_with fail
        have hkC := below_four (Below.refl C w4) (Nat.le_refl C) (.slice xa R'.all.length xc) (.slice xb R'.hist.length xd) (.slice xe R'.ev.length xf) (.slice xg R'.blk.length xh)
        refine ⟨⟨(hkC.block _ (by omega)).trans k1, (hkC.cell (p := ⟨g, j * 3, none⟩) lgC).trans hcl4.1, (hkC.cell (p := ⟨g, j * 3 + 1, none⟩) lgC).trans hcl4.2.1, (hkC.cell (p := ⟨g, j * 3 + 2, none⟩) lgC).trans hcl4.2.2⟩, ?_⟩
        have hneC : w.heap.size + 1 ≠ C := by omega
        have hneC' : C ≠ w.heap.size + 1 := by omega
        unfold wpTail
        go_wp2_with fail
        refine NoPanic.normal ?_
        go_wp2_with fail
        refine bodyPost_ret (v := .tuple #[RefV.val ⟨.slice xa R'.all.length xc, .slice xb R'.hist.length xd, .slice xe R'.ev.length xf, .slice xg R'.blk.length xh, ps4, hs4⟩, .int .i64 R.all.length, .int .i64 0]) (by simp [results, Try.results55, RefV.val, go_sem, u0, u1, u2, u3]) rfl ?_
        exact ⟨_, by rw [HF.out], by rw [HF.out]; exact (h5.four k5 _ _ _ _).four ((hkC.block _ lB).trans k3) _ _ _ _, below_four (below_four hb5 (B := C) (by omega) _ _ _ _) (B := w.heap.size + 1) (by omega) _ _ _ _, hnw⟩
  · have HB := Lib.hid (hbad (by omega))
    rw [HB.out]
    clear hbad HB
    by_cases h0 : ix < 0
    · clear hx
      go_enter Try.func55, Try.ntmps55
      go_wp2_with fail
      have e3 := top0 w (.cells #[.slice aa R.all.length ac, .slice ha R.hist.length hc, .slice ea R.ev.length ec, .slice ba R.blk.length bc] 35) (.cells #[.slice aa R.all.length ac, .slice ha R.hist.length hc, .slice ea R.ev.length ec, .slice ba R.blk.length bc] 35)
      have hb2 : Below w.heap.size w ((w.alloc (.cells #[.slice aa R.all.length ac, .slice ha R.hist.length hc, .slice ea R.ev.length ec, .slice ba R.blk.length bc] 35)).alloc (.cells #[.slice aa R.all.length ac, .slice ha R.hist.length hc, .slice ea R.ev.length ec, .slice ba R.blk.length bc] 35)) := ((Below.refl _ _).alloc (Nat.le_refl _) _).alloc (by simp) _
      generalize (w.alloc (.cells #[.slice aa R.all.length ac, .slice ha R.hist.length hc, .slice ea R.ev.length ec, .slice ba R.blk.length bc] 35)).alloc (.cells #[.slice aa R.all.length ac, .slice ha R.hist.length hc, .slice ea R.ev.length ec, .slice ba R.blk.length bc] 35) = w2 at e3 hb2 ⊢
      obtain ⟨u0, u1, u2, u3, uf, ul⟩ := blk4 e3
      refine bodyPost_ret (v := .tuple #[RefV.val ⟨.slice aa R.all.length ac, .slice ha R.hist.length hc, .slice ea R.ev.length ec, .slice ba R.blk.length bc, ps, hs'⟩, .int .i64 0, .int .i64 9]) (by simp [results, Try.results55, RefV.val, go_sem, u0, u1, u2, u3]) rfl ?_
      exact ⟨_, rfl, h.below hb2 (Nat.le_refl _), hb2, News.refl _ _⟩
    · have h1 : R.hist.length ≤ ix := by omega
      go_enter Try.func55, Try.ntmps55
      go_wp2_with fail
      have e3 := top0 w (.cells #[.slice aa R.all.length ac, .slice ha R.hist.length hc, .slice ea R.ev.length ec, .slice ba R.blk.length bc] 35) (.cells #[.slice aa R.all.length ac, .slice ha R.hist.length hc, .slice ea R.ev.length ec, .slice ba R.blk.length bc] 35)
      have hb2 : Below w.heap.size w ((w.alloc (.cells #[.slice aa R.all.length ac, .slice ha R.hist.length hc, .slice ea R.ev.length ec, .slice ba R.blk.length bc] 35)).alloc (.cells #[.slice aa R.all.length ac, .slice ha R.hist.length hc, .slice ea R.ev.length ec, .slice ba R.blk.length bc] 35)) := ((Below.refl _ _).alloc (Nat.le_refl _) _).alloc (by simp) _
      generalize (w.alloc (.cells #[.slice aa R.all.length ac, .slice ha R.hist.length hc, .slice ea R.ev.length ec, .slice ba R.blk.length bc] 35)).alloc (.cells #[.slice aa R.all.length ac, .slice ha R.hist.length hc, .slice ea R.ev.length ec, .slice ba R.blk.length bc] 35) = w2 at e3 hb2 ⊢
      obtain ⟨u0, u1, u2, u3, uf, ul⟩ := blk4 e3
      refine bodyPost_ret (v := .tuple #[RefV.val ⟨.slice aa R.all.length ac, .slice ha R.hist.length hc, .slice ea R.ev.length ec, .slice ba R.blk.length bc, ps, hs'⟩, .int .i64 0, .int .i64 9]) (by simp [results, Try.results55, RefV.val, go_sem, u0, u1, u2, u3]) rfl ?_
      exact ⟨_, rfl, h.below hb2 (Nat.le_refl _), hb2, News.refl _ _⟩
end Go.Proofs.Ytnkcgalbaeppmaa
