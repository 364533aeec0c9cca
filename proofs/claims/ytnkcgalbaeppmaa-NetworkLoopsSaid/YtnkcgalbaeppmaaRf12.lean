/- The reference's Send. -/
import Derived.Test.YtnkcgalbaeppmaaRf11
namespace Go.Proofs.Ytnkcgalbaeppmaa
open Go.RowKit
set_option maxHeartbeats 1600000 in
set_option maxRecDepth 100000 in
theorem sendR_any (V : RefV) (R : RefM) (p : PV) (m : Pk) (w : World) (h : RefAt w V R) (hl : R.lim) (hn : R.all.length < 50000) (hp : PSrc w p m) (hm : m.ok) :
    Calls Try.prog 57 #[V.val, p.val] w (Ref3 V (R.send m) w) := by
  obtain ⟨aa, ac, ha, hc, ea, ec, ba, bc, h1, h2, h3, h4⟩ := h.forms
  obtain ⟨al, hi, ev, bl, ps, hs'⟩ := V
  simp only at h1 h2 h3 h4
  subst h1 h2 h3 h4
  simp only [RefV.val, PV.val]
  have hb1 : Below w.heap.size w (((w.alloc (.cells #[.slice aa R.all.length ac, .slice ha R.hist.length hc, .slice ea R.ev.length ec, .slice ba R.blk.length bc] 35)).alloc (.cells #[.string p.f, .string p.t, .slice p.ba p.bn p.bc] 40)).alloc (.cells #[.slice none 0 0, .slice none 0 0, .slice none 0 0, .slice none 0 0] 35)) :=
    (((Below.refl _ _).alloc (Nat.le_refl _) _).alloc (by simp) _).alloc (by simp; omega) _
  have e1 : (((w.alloc (.cells #[.slice aa R.all.length ac, .slice ha R.hist.length hc, .slice ea R.ev.length ec, .slice ba R.blk.length bc] 35)).alloc (.cells #[.string p.f, .string p.t, .slice p.ba p.bn p.bc] 40)).alloc (.cells #[.slice none 0 0, .slice none 0 0, .slice none 0 0, .slice none 0 0] 35)).heap[w.heap.size]? = some (.cells #[.slice aa R.all.length ac, .slice ha R.hist.length hc, .slice ea R.ev.length ec, .slice ba R.blk.length bc] 35) := by
    rw [Below.heap_alloc _ _ _ (by simp; omega)]; exact top1 w _ _
  have e2 : (((w.alloc (.cells #[.slice aa R.all.length ac, .slice ha R.hist.length hc, .slice ea R.ev.length ec, .slice ba R.blk.length bc] 35)).alloc (.cells #[.string p.f, .string p.t, .slice p.ba p.bn p.bc] 40)).alloc (.cells #[.slice none 0 0, .slice none 0 0, .slice none 0 0, .slice none 0 0] 35)).heap[w.heap.size + 1]? = some (.cells #[.string p.f, .string p.t, .slice p.ba p.bn p.bc] 40) := by
    rw [Below.heap_alloc _ _ _ (by simp)]; exact top0 w _ _
  have e3 : (((w.alloc (.cells #[.slice aa R.all.length ac, .slice ha R.hist.length hc, .slice ea R.ev.length ec, .slice ba R.blk.length bc] 35)).alloc (.cells #[.string p.f, .string p.t, .slice p.ba p.bn p.bc] 40)).alloc (.cells #[.slice none 0 0, .slice none 0 0, .slice none 0 0, .slice none 0 0] 35)).heap[w.heap.size + 1 + 1]? = some (.cells #[.slice none 0 0, .slice none 0 0, .slice none 0 0, .slice none 0 0] 35) := by
    have := heap_alloc_new ((w.alloc (.cells #[.slice aa R.all.length ac, .slice ha R.hist.length hc, .slice ea R.ev.length ec, .slice ba R.blk.length bc] 35)).alloc (.cells #[.string p.f, .string p.t, .slice p.ba p.bn p.bc] 40)) (.cells #[.slice none 0 0, .slice none 0 0, .slice none 0 0, .slice none 0 0] 35)
    simpa using this
  go_enter Try.func57, Try.ntmps57
  go_wp2_with fail
  generalize ((w.alloc (.cells #[.slice aa R.all.length ac, .slice ha R.hist.length hc, .slice ea R.ev.length ec, .slice ba R.blk.length bc] 35)).alloc (.cells #[.string p.f, .string p.t, .slice p.ba p.bn p.bc] 40)).alloc (.cells #[.slice none 0 0, .slice none 0 0, .slice none 0 0, .slice none 0 0] 35) = w1 at hb1 e1 e2 e3 ⊢
  refine (validR_any p m w1 hp.pin.f hp.pin.t hp.pin.n hm).mono ?_
  rintro e w2 ⟨rfl, hbl⟩
  have f1 := (hbl.block _ (lt_of_heap e1)).trans e1
  have f2 := (hbl.block _ (lt_of_heap e2)).trans e2
  have f3 := (hbl.block _ (lt_of_heap e3)).trans e3
  have hb2 := hb1.trans (hbl.mono hb1.size)
  clear e1 e2 e3 hb1 hbl
  obtain ⟨c0, c1, c2, c3, cf, cl⟩ := blk4 f1
  obtain ⟨u0, u1, u2, u3, uf, ul⟩ := blk4 f3
  cases hv : validB m
  · have HF : Hid (R.send m = (R, 0, 2)) := by simp [Hid, RefM.send, hv]
    go_wp2_with fail
    refine bodyPost_ret (v := .tuple #[RefV.val ⟨.slice aa R.all.length ac, .slice ha R.hist.length hc, .slice ea R.ev.length ec, .slice ba R.blk.length bc, ps, hs'⟩, .int .i64 0, .int .i64 2]) (by simp [results, Try.results57, RefV.val, go_sem, u0, u1, u2, u3]) rfl ?_
    exact ⟨_, by rw [HF.out], by rw [HF.out]; exact h.below (below_four hb2 (by omega) _ _ _ _) (Nat.le_refl _), below_four hb2 (by omega) _ _ _ _, News.refl _ _⟩
  · have HV := Lib.hid hv
    clear hv
    go_wp2_with fail
    refine (count_any _ R w2 (h.below hb2 (Nat.le_refl _)) hl).mono ?_
    rintro e w3 ⟨rfl, hbl⟩
    have g1 := (hbl.block _ (lt_of_heap f1)).trans f1
    have g2 := (hbl.block _ (lt_of_heap f2)).trans f2
    have g3 := (hbl.block _ (lt_of_heap f3)).trans f3
    have hb3 := hb2.trans (hbl.mono hb2.size)
    clear f1 f2 f3 hb2 hbl c0 c1 c2 c3 cf cl u0 u1 u2 u3 uf ul
    obtain ⟨c0, c1, c2, c3, cf, cl⟩ := blk4 g1
    obtain ⟨p0, p1, p2, _, _, _, _⟩ := blk3 g2
    obtain ⟨u0, u1, u2, u3, uf, ul⟩ := blk4 g3
    have hlh := hl.hist
    have i2 : (R.hist.length : Int) ≤ 1024 := by omega
    by_cases hfull : 64 ≤ R.count ∨ 1024 ≤ R.hist.length
    · have HF : Hid (R.send m = (R, 0, 7)) := by simp [Hid, RefM.send, HV.out, hfull]
      rcases hfull with hfull | hfull
      · have hf' : (64 : Int) ≤ (R.count : Int) := by omega
        clear hfull
        go_wp2_with fail
        refine bodyPost_ret (v := .tuple #[RefV.val ⟨.slice aa R.all.length ac, .slice ha R.hist.length hc, .slice ea R.ev.length ec, .slice ba R.blk.length bc, ps, hs'⟩, .int .i64 0, .int .i64 7]) (by simp [results, Try.results57, RefV.val, go_sem, u0, u1, u2, u3]) rfl ?_
        exact ⟨_, by rw [HF.out], by rw [HF.out]; exact h.below (below_four hb3 (by omega) _ _ _ _) (Nat.le_refl _), below_four hb3 (by omega) _ _ _ _, News.refl _ _⟩
      · by_cases h64 : (64 : Int) ≤ (R.count : Int)
        · go_wp2_with fail
          refine bodyPost_ret (v := .tuple #[RefV.val ⟨.slice aa R.all.length ac, .slice ha R.hist.length hc, .slice ea R.ev.length ec, .slice ba R.blk.length bc, ps, hs'⟩, .int .i64 0, .int .i64 7]) (by simp [results, Try.results57, RefV.val, go_sem, u0, u1, u2, u3]) rfl ?_
          exact ⟨_, by rw [HF.out], by rw [HF.out]; exact h.below (below_four hb3 (by omega) _ _ _ _) (Nat.le_refl _), below_four hb3 (by omega) _ _ _ _, News.refl _ _⟩
        · have hf' : (1024 : Int) ≤ (R.hist.length : Int) := by omega
          clear hfull
          go_wp2_with fail
          refine bodyPost_ret (v := .tuple #[RefV.val ⟨.slice aa R.all.length ac, .slice ha R.hist.length hc, .slice ea R.ev.length ec, .slice ba R.blk.length bc, ps, hs'⟩, .int .i64 0, .int .i64 7]) (by simp [results, Try.results57, RefV.val, go_sem, u0, u1, u2, u3]) rfl ?_
          exact ⟨_, by rw [HF.out], by rw [HF.out]; exact h.below (below_four hb3 (by omega) _ _ _ _) (Nat.le_refl _), below_four hb3 (by omega) _ _ _ _, News.refl _ _⟩
    · have HF : Hid (R.send m = (({ R with hist := R.hist ++ [m] } : RefM).launched 1 m R.hist.length (-1), ((R.all.length : Nat) : Int), 0)) := by simp [Hid, RefM.send, HV.out, hfull]
      have hf' : ¬ (64 : Int) ≤ (R.count : Int) := by omega
      have hh' : ¬ (1024 : Int) ≤ (R.hist.length : Int) := by omega
      have hh2 : R.hist.length < 1024 := by omega
      clear hfull
      go_wp2_with fail
      have h3 := h.below hb3 (Nat.le_refl _)
      have hp3 : PSrc w3 p m := ⟨hp.pin.below hb3 (Nat.le_refl _), hp.nil⟩
      apply wp_region_early [0, 1, 3] [2] [4, 5, 6, 7, 8] (fun w' => w'.heap[w.heap.size]? = some (.cells #[.slice aa R.all.length ac, .slice ha R.hist.length hc, .slice ea R.ev.length ec, .slice ba R.blk.length bc] 35) ∧ w'.heap[w.heap.size + 1]? = some (.cells #[.string p.f, .string p.t, .slice p.ba p.bn p.bc] 40))
      case hm => kernel_rfl
      case hB => kernel_rfl
      case hao => exact .cons rfl .nil
      case hlo => exact .cons rfl (.cons rfl (.cons rfl (.cons rfl (.cons rfl .nil))))
      case hS => exact ⟨g1, g2⟩
      case hr =>
        iterate 3
          try simp only [Act.put, List.setIfInBounds_toArray, List.set_cons_succ, List.set_cons_zero]
          apply Reads.cons1 rfl rfl
          · intro w' hS
            obtain ⟨s0, s1, s2, s3, _, _⟩ := blk4 hS.1
            obtain ⟨p0, p1, p2, _, _, _, _⟩ := blk3 hS.2
            clear hS
            go_simp
            try rfl
        exact Reads.nil
      intro W hW
      have n1 : W.heap[w.heap.size]? = some (.cells #[.slice aa R.all.length ac, .slice ha R.hist.length hc, .slice ea R.ev.length ec, .slice ba R.blk.length bc] 35) := by subst hW; exact g1
      have n2 : W.heap[w.heap.size + 1]? = some (.cells #[.string p.f, .string p.t, .slice p.ba p.bn p.bc] 40) := by subst hW; exact g2
      have n3 : W.heap[w.heap.size + 1 + 1]? = some (.cells #[.slice none 0 0, .slice none 0 0, .slice none 0 0, .slice none 0 0] 35) := by subst hW; exact g3
      have hb4 : Below w.heap.size w W := by subst hW; exact hb3.drew
      have h4 : RefAt W ⟨.slice aa R.all.length ac, .slice ha R.hist.length hc, .slice ea R.ev.length ec, .slice ba R.blk.length bc, ps, hs'⟩ R := by subst hW; exact h3.same fun j _ => rfl
      have hp4 : PSrc W p m := by subst hW; exact ⟨hp3.pin.drew, hp3.nil⟩
      clear hW g1 g2 g3 hb3 h3 hp3 c0 c1 c2 c3 cf cl u0 u1 u2 u3 uf ul p0 p1 p2
      unfold wpTail
      try simp only [Act.put, List.setIfInBounds_toArray, List.set_cons_succ, List.set_cons_zero]
      have hH := h4.hist
      simp only at hH
      obtain ⟨_, _, hEv, _, _, hEn, hEs⟩ := ownsRow_slice hH
      injection hEv with y1 y2 y3
      subst y1 y3
      clear y2
      refine wpList_fresh rfl _ _ 26 rfl T26 rfl ha R.hist.length hc rfl hEn (hs'.flatMap PV.cells) ((flat_len PV.cells 3 PV.cells_len _).trans (by rw [h4.histp.1])) ?_ pk_one (by omega) ?_
      · intro ad had j u hu
        subst had
        obtain ⟨ge, rfl, _⟩ := hEs ad rfl
        exact hH.cells rfl j u hu
      intro hv w5 how5 hbl5
      obtain ⟨h5a, h5c, rfl, _⟩ := ownsRow_slice how5
      have o1 := (hbl5.block _ (lt_of_heap n1)).trans n1
      have o2 := (hbl5.block _ (lt_of_heap n2)).trans n2
      have o3 := (hbl5.block _ (lt_of_heap n3)).trans n3
      have hb5 := hb4.trans (hbl5.mono hb4.size)
      have h5 := h4.below hbl5 (Nat.le_refl _)
      have hp5 : PSrc w5 p m := ⟨hp4.pin.below hbl5 (Nat.le_refl _), hp4.nil⟩
      have hG := lt_of_heap n3
      have hrp := h4.lt
      generalize W.heap.size = G at how5 hG hrp
      clear n1 n2 n3 hb4 h4 hp4 hbl5 hEs hEn hH
      go_wp2_with fail
      refine ⟨⟨o1, o2⟩, ?_⟩
      unfold wpTail
      try simp only [Act.put, List.setIfInBounds_toArray, List.set_cons_succ, List.set_cons_zero]
      go_wp2_with fail
      refine (own_any p m w5 hp5 (by have := hp.pin.n; have := hm.bs; omega)).mono ?_
      rintro e w6 ⟨⟨qf, qt, qa, qn, qc⟩, rfl, hqo, hqn, hbl6⟩
      simp only [PV.val]
      have q1 := (hbl6.block _ (lt_of_heap o1)).trans o1
      have q2 := (hbl6.block _ (lt_of_heap o2)).trans o2
      have q3 := (hbl6.block _ (lt_of_heap o3)).trans o3
      have hb6 := hb5.trans (hbl6.mono hb5.size)
      have hsw5 := hb5.size
      have h6 := h5.below hbl6 (Nat.le_refl _)
      have hp6 : PSrc w6 p m := ⟨hp5.pin.below hbl6 (Nat.le_refl _), hp5.nil⟩
      have how6 := ownsRow_below how5 hbl6 (Nat.le_refl _)
      have hs5 : ∀ j, Value.ownBlock (.slice h5a R.hist.length h5c) = some j → G ≤ j ∧ j < w5.heap.size := fun j hj => how5.lt j hj
      clear o1 o2 o3 hb5 h5 hp5 how5 hbl6
      go_wp2_with (at_builtin; apply unwrap)
      refine wpList_push (v := .slice h5a R.hist.length h5c) rfl _ _ 26 rfl T26 rfl (ownsRow_base how6 (Nat.zero_le _)) #[.string qf, .string qt, .slice qa qn qc] rfl (by simp [Value.oneCell']) rfl (by omega) ?_
      intro g7 cap7 w7 hown hk7 hat hlt7
      have hgn : ∀ j, j < G → ¬ Value.ownBlock (.slice h5a R.hist.length h5c) = some j := fun j hj e => by have := (hs5 j e).1; omega
      have r1 := (hk7.block _ (lt_of_heap q1) (hgn _ (by omega))).trans q1
      have r2 := (hk7.block _ (lt_of_heap q2) (hgn _ (by omega))).trans q2
      have r3 := (hk7.block _ (lt_of_heap q3) (hgn _ (by omega))).trans q3
      have hb7 : Below w.heap.size w w7 := Below.kp hb6 hk7 (Nat.le_refl _) (fun j e => by have := (hs5 j e).1; omega)
      have h7 : RefAt w7 ⟨.slice aa R.all.length ac, .slice (some ⟨g7, 0, none⟩) (R.hist.length + 1) cap7, .slice ea R.ev.length ec, .slice ba R.blk.length bc, ps, hs' ++ [⟨qf, qt, qa, qn, qc⟩]⟩ { R with hist := R.hist ++ [m] } := by
        refine ⟨ownsRow_kp h6.all hk7 (fun j hj => hgn j (hrp j (.inl hj))), h6.allp.mono fun x _ hx hm => ⟨hm.p.kp hk7 (fun j hj => hgn j (hrp j (.inr (.inr (.inr (.inr (.inl ⟨x, hx, hj⟩))))))), hm.src, hm.gone⟩, ?_, ?_,
          ownsRow_kp h6.ev hk7 (fun j hj => hgn j (hrp j (.inr (.inr (.inl hj))))), ownsRow_kp h6.blk hk7 (fun j hj => hgn j (hrp j (.inr (.inr (.inr (.inl hj))))))⟩
        · have : (hs' ++ [(⟨qf, qt, qa, qn, qc⟩ : PV)]).flatMap PV.cells = hs'.flatMap PV.cells ++ [.string qf, .string qt, .slice qa qn qc] := by simp [PV.cells]
          rw [this]
          simp only [List.length_append, List.length_cons, List.length_nil]
          exact hown
        · exact (h6.histp.mono fun x _ hx hm => hm.kp hk7 (fun j hj => hgn j (hrp j (.inr (.inr (.inr (.inr (.inr ⟨x, hx, hj⟩)))))))).snoc (hqo.kp hk7 (fun j hj e => by have := hqn j hj; have := (hs5 j e).2; omega))
      have hsw6 := hb6.size
      have hnw7 : News ⟨.slice aa R.all.length ac, .slice ha R.hist.length hc, .slice ea R.ev.length ec, .slice ba R.blk.length bc, ps, hs'⟩ ⟨.slice aa R.all.length ac, .slice (some ⟨g7, 0, none⟩) (R.hist.length + 1) cap7, .slice ea R.ev.length ec, .slice ba R.blk.length bc, ps, hs' ++ [⟨qf, qt, qa, qn, qc⟩]⟩ w.heap.size := fun j hj => by
        rcases hj with hj | hj | hj | hj | ⟨x, hx, hj⟩ | ⟨x, hx, hj⟩
        · exact .inl (.inl hj)
        · have e' : g7 = j := by simpa [Value.ownBlock] using hj
          rcases hat with e | e
          · have := (hs5 _ e).1; exact .inr (by omega)
          · exact .inr (by omega)
        · exact .inl (.inr (.inr (.inl hj)))
        · exact .inl (.inr (.inr (.inr (.inl hj))))
        · exact .inl (.inr (.inr (.inr (.inr (.inl ⟨x, hx, hj⟩)))))
        · rcases List.mem_append.1 hx with hx | hx
          · exact .inl (.inr (.inr (.inr (.inr (.inr ⟨x, hx, hj⟩)))))
          · obtain rfl : x = ⟨qf, qt, qa, qn, qc⟩ := by simpa using hx
            have := hqn j hj; exact .inr (by omega)
      clear q1 q2 q3 hb6 h6 hp6 how6 hown hk7 hat
      obtain ⟨c0, c1, c2, c3, cf, cl⟩ := blk4 r1
      go_wp2_with fail
      refine NoPanic.normal ?_
      have hk8 : Kp (fun j => j = w.heap.size) w7 (w7.setCell ⟨w.heap.size, 1, none⟩ (.slice (some ⟨g7, 0, none⟩) (R.hist.length + 1) cap7)) := (Kp.refl (fun j => j = w.heap.size) w7).setCell (fun _ => rfl) _
      have s1 : (w7.setCell ⟨w.heap.size, 1, none⟩ (.slice (some ⟨g7, 0, none⟩) (R.hist.length + 1) cap7)).heap[w.heap.size]? = some (.cells #[.slice aa R.all.length ac, .slice (some ⟨g7, 0, none⟩) (R.hist.length + 1) cap7, .slice ea R.ev.length ec, .slice ba R.blk.length bc] 35) := by simp [World.setCell, Array.getElem?_modify, r1]
      have s2 := (hk8.block _ (lt_of_heap r2) (by omega)).trans r2
      have s3 := (hk8.block _ (lt_of_heap r3) (by omega)).trans r3
      have hb8 : Below w.heap.size w (w7.setCell ⟨w.heap.size, 1, none⟩ (.slice (some ⟨g7, 0, none⟩) (R.hist.length + 1) cap7)) := Below.kp hb7 hk8 (Nat.le_refl _) (fun j e => by omega)
      have h8 := h7.same (w' := w7.setCell ⟨w.heap.size, 1, none⟩ (.slice (some ⟨g7, 0, none⟩) (R.hist.length + 1) cap7)) fun j hj => hk8.block j (h7.lt j hj) (fun e => h7.notbox r1 (e ▸ hj))
      clear r1 r2 r3 hb7 h7 c0 c1 c2 c3 cf cl hk8
      generalize w7.setCell ⟨w.heap.size, 1, none⟩ (.slice (some ⟨g7, 0, none⟩) (R.hist.length + 1) cap7) = w8 at s1 s2 s3 hb8 h8 ⊢
      have hp8 : PSrc w8 p m := ⟨hp.pin.below hb8 (Nat.le_refl _), hp.nil⟩
      obtain ⟨c0, c1, c2, c3, cf, cl⟩ := blk4 s1
      obtain ⟨p0, p1, p2, _, _, _, _⟩ := blk3 s2
      have hl8 : ({ R with hist := R.hist ++ [m] } : RefM).lim := ⟨hl.all, by simp; omega, hl.ev, hl.blk, hl.allok, fun x hx => by
        rcases List.mem_append.1 hx with hx | hx
        · exact hl.histok x hx
        · obtain rfl : x = m := by simpa using hx
          exact hm, fun x hx => by have := hl.srcok x hx; simp; omega⟩
      go_wp2_with fail
      refine (launchedR_any _ { R with hist := R.hist ++ [m] } 1 R.hist.length (-1) p m w8 h8 hl8 hn hp8 hm ⟨by omega, by simp; omega⟩).mono ?_
      rintro e w9 ⟨⟨al4, hi4, ev4, bl4, ps4, hs4⟩, rfl, h9, hbl9, hnw0⟩
      have hnw := hnw7.trans (hnw0.mono hb8.size)
      clear hnw0 hnw7
      obtain ⟨xa, xc, xb, xd, xe, xf, xg, xh, y1, y2, y3, y4⟩ := h9.forms
      simp only at y1 y2 y3 y4
      subst y1 y2 y3 y4
      simp only [RefV.val]
      have k3 := (hbl9.block _ (lt_of_heap s3)).trans s3
      have hb9 := hb8.trans (hbl9.mono hb8.size)
      clear s1 s2 s3 hb8 hbl9 c0 c1 c2 c3 cf cl p0 p1 p2 h8 hp8
      generalize ({ R with hist := R.hist ++ [m] } : RefM).launched 1 m R.hist.length (-1) = R' at h9 HF hnw ⊢
      obtain ⟨u0, u1, u2, u3, uf, ul⟩ := blk4 k3
      have hne : w.heap.size + 1 + 1 ≠ w9.heap.size := by omega
      go_wp2_with fail
      refine bodyPost_ret (v := .tuple #[RefV.val ⟨.slice xa R'.all.length xc, .slice xb R'.hist.length xd, .slice xe R'.ev.length xf, .slice xg R'.blk.length xh, ps4, hs4⟩, .int .i64 R.all.length, .int .i64 0]) (by simp [results, Try.results57, RefV.val, go_sem, u0, u1, u2, u3, ul]) rfl ?_
      exact ⟨_, by rw [HF.out], by rw [HF.out]; exact (h9.four k3 _ _ _ _).below ((Below.refl _ _).alloc (Nat.le_refl _) _) (Nat.le_refl _), (below_four hb9 (B := w.heap.size + 1 + 1) (by omega) _ _ _ _).alloc (by have := hb9.size; simp [World.setCell]; omega) _, hnw⟩
end Go.Proofs.Ytnkcgalbaeppmaa
