/- The reference's Deliver. -/
import Derived.Test.YtnkcgalbaeppmaaRf15
namespace Go.Proofs.Ytnkcgalbaeppmaa
open Go.RowKit
/-- What the reference's Deliver leaves. -/
def RefD (V : RefV) (r : RefM × Pk × Int) (w : World) (e : Ending) (w' : World) : Prop :=
  ∃ V' p, e = .returned (.tuple #[RefV.val V', PV.val p, .int .i64 r.2.2]) ∧ RefAt w' V' r.1 ∧ PIn w' p r.2.1 ∧ Below w.heap.size w w' ∧ News V V' w.heap.size
theorem below_three {B0 B : Nat} {w0 w : World} (h : Below B0 w0 w) (hB : B0 ≤ B) (a b c : Value) : Below B0 w0 (((w.setCell ⟨B, 0, none⟩ a).setCell ⟨B, 1, none⟩ b).setCell ⟨B, 2, none⟩ c) :=
  ((h.setCell (p := ⟨B, 0, none⟩) hB a).setCell (p := ⟨B, 1, none⟩) hB b).setCell (p := ⟨B, 2, none⟩) hB c
theorem RefAt.notbox3 {w : World} {V : RefV} {R : RefM} (h : RefAt w V R) {B : Nat} {c : Array Value} (hn : ∀ k, V.hi.ownBlock = some k → k ≠ B) (hB : w.heap[B]? = some (.cells c 40 (0, 0))) : ¬ rp V B := fun hj => by
  rcases hj with hj | hj | hj | hj | ⟨x, hx, hj⟩ | ⟨x, hx, hj⟩
  · obtain ⟨c', hc⟩ := ownsRow_block h.all hj; exact absurd (cells_inj hc hB) (by decide)
  · exact hn _ hj rfl
  · obtain ⟨c', hc⟩ := ownsRow_block h.ev hj; exact absurd (cells_inj hc hB) (by decide)
  · obtain ⟨c', hc⟩ := ownsRow_block h.blk hj; exact absurd (cells_inj hc hB) (by decide)
  · obtain ⟨z, _, hz⟩ := h.allp.left hx; obtain ⟨c', hc⟩ := hz.p.block hj; exact absurd (cells_inj hc hB) (by decide)
  · obtain ⟨z, _, hz⟩ := h.histp.left hx; obtain ⟨c', hc⟩ := hz.block hj; exact absurd (cells_inj hc hB) (by decide)
theorem RefAt.three {w : World} {V : RefV} {R : RefM} (h : RefAt w V R) {B : Nat} {cs : Array Value} (hn : ∀ k, V.hi.ownBlock = some k → k ≠ B) (hB : w.heap[B]? = some (.cells cs 40 (0, 0))) (a b c : Value) : RefAt (((w.setCell ⟨B, 0, none⟩ a).setCell ⟨B, 1, none⟩ b).setCell ⟨B, 2, none⟩ c) V R := by
  have hk : Kp (fun j => j = B) w (((w.setCell ⟨B, 0, none⟩ a).setCell ⟨B, 1, none⟩ b).setCell ⟨B, 2, none⟩ c) := (((Kp.refl (fun j => j = B) w).setCell (fun _ => rfl) _).setCell (fun _ => rfl) _).setCell (fun _ => rfl) _
  exact h.same fun j hj => hk.block j (h.lt j hj) (fun e => h.notbox3 hn hB (e ▸ hj))
theorem top3 (w : World) (o p q : Obj) : (((w.alloc o).alloc p).alloc q).heap[w.heap.size]? = some o ∧ (((w.alloc o).alloc p).alloc q).heap[w.heap.size + 1]? = some p ∧ (((w.alloc o).alloc p).alloc q).heap[w.heap.size + 1 + 1]? = some q := by
  refine ⟨?_, ?_, ?_⟩
  · rw [Below.heap_alloc _ _ _ (by simp; omega)]; exact top1 w _ _
  · rw [Below.heap_alloc _ _ _ (by simp)]; exact top0 w _ _
  · have := heap_alloc_new ((w.alloc o).alloc p) q
    simpa using this
set_option maxHeartbeats 1600000 in
set_option maxRecDepth 100000 in
theorem deliverR_any (V : RefV) (R : RefM) (id : Int) (w : World) (h : RefAt w V R) (hl : R.lim) :
    Calls Try.prog 32 #[V.val, .int .i64 id] w (RefD V (R.deliver id) w) := by
  obtain ⟨aa, ac, ha, hc, ea, ec, ba, bc, h1, h2, h3, h4⟩ := h.forms
  obtain ⟨al, hi, ev, bl, ps, hs'⟩ := V
  simp only at h1 h2 h3 h4
  subst h1 h2 h3 h4
  simp only [RefV.val]
  obtain ⟨e1, e2, e3⟩ := top3 w (.cells #[.slice aa R.all.length ac, .slice ha R.hist.length hc, .slice ea R.ev.length ec, .slice ba R.blk.length bc] 35) (.cells #[.slice none 0 0, .slice none 0 0, .slice none 0 0, .slice none 0 0] 35) (.cells #[.string { data := #[] }, .string { data := #[] }, .slice none 0 0] 40)
  have hb1 : Below w.heap.size w (((w.alloc (.cells #[.slice aa R.all.length ac, .slice ha R.hist.length hc, .slice ea R.ev.length ec, .slice ba R.blk.length bc] 35)).alloc (.cells #[.slice none 0 0, .slice none 0 0, .slice none 0 0, .slice none 0 0] 35)).alloc (.cells #[.string { data := #[] }, .string { data := #[] }, .slice none 0 0] 40)) := (((Below.refl _ _).alloc (Nat.le_refl _) _).alloc (by simp) _).alloc (by simp; omega) _
  have hhl : ∀ k, Value.ownBlock (.slice ha R.hist.length hc) = some k → k < w.heap.size := fun k hk => (h.hist.lt k hk).2
  go_enter Try.func32, Try.ntmps32
  go_wp2_with fail
  generalize ((w.alloc (.cells #[.slice aa R.all.length ac, .slice ha R.hist.length hc, .slice ea R.ev.length ec, .slice ba R.blk.length bc] 35)).alloc (.cells #[.slice none 0 0, .slice none 0 0, .slice none 0 0, .slice none 0 0] 35)).alloc (.cells #[.string { data := #[] }, .string { data := #[] }, .slice none 0 0] 40) = w1 at e1 e2 e3 hb1 ⊢
  refine (flies_any _ R id w1 (h.below hb1 (Nat.le_refl _)) hl).mono ?_
  rintro e w3 ⟨rfl, hbl⟩
  have g1 := (hbl.block _ (lt_of_heap e1)).trans e1
  have g2 := (hbl.block _ (lt_of_heap e2)).trans e2
  have g3 := (hbl.block _ (lt_of_heap e3)).trans e3
  have hb3 := hb1.trans (hbl.mono hb1.size)
  clear e1 e2 e3 hb1 hbl
  obtain ⟨c0, c1, c2, c3, cf, cl⟩ := blk4 g1
  obtain ⟨u0, u1, u2, u3, uf, ul⟩ := blk4 g2
  obtain ⟨v0, v1, v2, vf0, vf1, vf2, vl⟩ := blk3 g3
  cases hf : R.flies id
  · have HF : Hid (R.deliver id = (R, Pk.zero, 9)) := by simp [Hid, RefM.deliver, hf]
    clear hf
    go_wp2_with fail
    refine bodyPost_ret (v := .tuple #[RefV.val ⟨.slice aa R.all.length ac, .slice ha R.hist.length hc, .slice ea R.ev.length ec, .slice ba R.blk.length bc, ps, hs'⟩, PV.val ⟨{ data := #[] }, { data := #[] }, none, 0, 0⟩, .int .i64 9]) (by simp [results, Try.results32, RefV.val, PV.val, go_sem, u0, u1, u2, u3, v0, v1, v2]) rfl ?_
    exact ⟨_, _, by rw [HF.out], by rw [HF.out]; exact h.below (below_three (below_four hb3 (by omega) _ _ _ _) (by omega) _ _ _) (Nat.le_refl _), by rw [HF.out]; exact PIn.zero _, below_three (below_four hb3 (by omega) _ _ _ _) (by omega) _ _ _, News.refl _ _⟩
  · obtain ⟨n, m, rfl, hg, M⟩ := flies_true hf
    have hm := M.at_
    have HM := Lib.hid hm
    have hn : n < R.all.length := (List.getElem?_eq_some_iff.1 hm).1
    have hla := hl.all
    have i0 : (0 : Int) ≤ (n : Int) := by omega
    have i1 : (n : Int) < (R.all.length : Int) := by omega
    have i2 : (R.all.length : Int) ≤ 50000 := by omega
    have HF0 := Lib.hid hf
    clear hf hg M hm
    have h3 := h.below hb3 (Nat.le_refl _)
    obtain ⟨x, hx, hxm⟩ := h3.allp.at HM.out
    have hall := h3.all
    simp only at hx hall
    obtain ⟨g, cap, hgv, _, lg⟩ := hall.form (by omega)
    injection hgv with hv1 _ hv2
    subst hv1 hv2
    obtain ⟨d0, d1, d2, d3, d4⟩ := all_cells hall hx
    have hxp := hxm.p
    have hx0 : PIn w x.p m.pk := (h.allp.2 n x m hx HM.out).p.pin
    rw [hxp.f] at d0
    rw [hxp.t] at d1
    clear hall hx
    go_wp2_with fail
    have e4 := heap_alloc_new w3 (.cells #[.string m.pk.fr, .string m.pk.to, .slice x.p.ba x.p.bn x.p.bc] 40)
    have hbx := (Below.refl w3.heap.size w3).alloc (Nat.le_refl _) (.cells #[.string m.pk.fr, .string m.pk.to, .slice x.p.ba x.p.bn x.p.bc] 40)
    have k1 := (hbx.block _ (lt_of_heap g1)).trans g1
    have k2 := (hbx.block _ (lt_of_heap g2)).trans g2
    have k3 := (hbx.block _ (lt_of_heap g3)).trans g3
    have hb4 := hb3.trans (hbx.mono hb3.size)
    have hl3 := lt_of_heap g3
    have hS3 : w3.heap.size < (w3.alloc (.cells #[.string m.pk.fr, .string m.pk.to, .slice x.p.ba x.p.bn x.p.bc] 40)).heap.size := by simp
    generalize w3.heap.size = X at e4 hbx hl3 hS3 ⊢
    generalize w3.alloc (.cells #[.string m.pk.fr, .string m.pk.to, .slice x.p.ba x.p.bn x.p.bc] 40) = w4 at e4 hbx k1 k2 k3 hb4 hS3 ⊢
    clear c0 c1 c2 c3 cf cl u0 u1 u2 u3 uf ul v0 v1 v2 vf0 vf1 vf2 vl hbx g1 g2 g3 h3 d0 d1 d2 d3 d4 hxm lg hb3
    refine (blockedR_any _ R m.pk.fr m.pk.to w4 (h.below hb4 (Nat.le_refl _)) hl).mono ?_
    rintro e w5 ⟨rfl, hbl⟩
    have q1 := (hbl.block _ (lt_of_heap k1)).trans k1
    have q2 := (hbl.block _ (lt_of_heap k2)).trans k2
    have q3 := (hbl.block _ (lt_of_heap k3)).trans k3
    have q4 := (hbl.block _ (lt_of_heap e4)).trans e4
    have hb5 := hb4.trans (hbl.mono hb4.size)
    clear k1 k2 k3 e4 hb4 hbl
    obtain ⟨c0, c1, c2, c3, cf, cl⟩ := blk4 q1
    obtain ⟨u0, u1, u2, u3, uf, ul⟩ := blk4 q2
    obtain ⟨v0, v1, v2, vf0, vf1, vf2, vl⟩ := blk3 q3
    have hX := lt_of_heap q4
    cases hbk : memM (m.pk.fr, m.pk.to) R.blk
    case true =>
      have HF : Hid (R.deliver n = (R, Pk.zero, 8)) := by simp [Hid, RefM.deliver, HF0.out, HM.out, hbk]
      clear hbk
      go_wp2_with fail
      refine bodyPost_ret (v := .tuple #[RefV.val ⟨.slice (some ⟨g, 0, none⟩) R.all.length ac, .slice ha R.hist.length hc, .slice ea R.ev.length ec, .slice ba R.blk.length bc, ps, hs'⟩, PV.val ⟨{ data := #[] }, { data := #[] }, none, 0, 0⟩, .int .i64 8]) (by simp [results, Try.results32, RefV.val, PV.val, go_sem, u0, u1, u2, u3, v0, v1, v2]) rfl ?_
      exact ⟨_, _, by rw [HF.out], by rw [HF.out]; exact h.below (below_three (below_four hb5 (by omega) _ _ _ _) (by omega) _ _ _) (Nat.le_refl _), by rw [HF.out]; exact PIn.zero _, below_three (below_four hb5 (by omega) _ _ _ _) (by omega) _ _ _, News.refl _ _⟩
    have HF : Hid (R.deliver n = (R.gone n m 2, m.pk, 0)) := by simp [Hid, RefM.deliver, HF0.out, HM.out, hbk]
    clear hbk u0 u1 u2 u3 uf ul v0 v1 v2 vf0 vf1 vf2 vl
    go_wp2_with fail
    refine (ownR_any _ R w5 (h.below hb5 (Nat.le_refl _)) hl).mono ?_
    rintro e w6 ⟨g6, cap6, evv, qs, rfl, h6, hg, hev, hqs, hap, hbl⟩
    obtain ⟨ea2, ec2, hE, _⟩ := ownsRow_slice h6.ev
    simp only at hE
    subst hE
    simp only [RefV.val]
    have r1 := (hbl.block _ (lt_of_heap q1)).trans q1
    have r2 := (hbl.block _ (lt_of_heap q2)).trans q2
    have r3 := (hbl.block _ (lt_of_heap q3)).trans q3
    have r4 := (hbl.block _ (lt_of_heap q4)).trans q4
    have hb6 := hb5.trans (hbl.mono hb5.size)
    have hg6 : g6 < w6.heap.size := (h6.all.lt g6 rfl).2
    have hw5 := lt_of_heap q4
    clear q1 q2 q3 q4 hb5 hbl c0 c1 c2 c3 cf cl
    have hall := h6.all
    simp only at hall
    obtain ⟨y, hy, hym⟩ := h6.allp.at HM.out
    simp only at hy
    obtain ⟨d0, d1, d2, d3, d4⟩ := all_cells hall hy
    have df := hall.frozenAt (n * 5 + 4)
    have HY := Lib.hid hy
    have hne : w6.heap.size ≠ g6 := by omega
    have hne' : g6 ≠ w6.heap.size := by omega
    clear hall hy
    go_wp2_with fail
    have hevl : ∀ k, Value.ownBlock (.slice ea2 R.ev.length ec2) = some k → k < w6.heap.size := fun k hk => (h6.ev.lt k hk).2
    have h7 := h6.setAll (j := 4) (u := .bool true) (y := { y with gone := true }) (m' := { m with gone := true }) rfl HY.out HM.out (by decide) rfl rfl (fun W hW => ⟨hW.p, hW.src, rfl⟩)
    have hb6s := hb6.size
    have hb7 := hb6.setCell (p := ⟨g6, n * 5 + 4, none⟩) (by simp only; omega) (.bool true)
    have s2 := (Below.heap_setCell w6 ⟨g6, n * 5 + 4, none⟩ (.bool true) _ (by simp only; omega)).trans r2
    have s3 := (Below.heap_setCell w6 ⟨g6, n * 5 + 4, none⟩ (.bool true) _ (by simp only; omega)).trans r3
    have s4 := (Below.heap_setCell w6 ⟨g6, n * 5 + 4, none⟩ (.bool true) _ (by simp only; omega)).trans r4
    have hl7 := hl.set (y := { m with gone := true }) HM.out (hl.allok m (List.mem_of_getElem? HM.out)) rfl
    have hz7 : (w6.setCell ⟨g6, n * 5 + 4, none⟩ (.bool true)).heap.size = w6.heap.size := by simp [World.setCell]
    clear r1 r2 r3 r4 hb6 h6 d0 d1 d2 d3 d4 df hym hne hne'
    rw [← hz7] at hg6 hevl ⊢
    generalize w6.setCell ⟨g6, n * 5 + 4, none⟩ (.bool true) = w7 at h7 hb7 s2 s3 s4 hg6 hevl ⊢
    clear hz7
    have hbx := (Below.refl w7.heap.size w7).alloc (Nat.le_refl _) (.cells #[.slice (some ⟨g6, 0, none⟩) R.all.length cap6, .slice ha R.hist.length hc, .slice ea2 R.ev.length ec2, .slice ba R.blk.length bc] 35)
    have h8 := h7.below hbx (Nat.le_refl _)
    have t2 := (hbx.block _ (lt_of_heap s2)).trans s2
    have t3 := (hbx.block _ (lt_of_heap s3)).trans s3
    have t4 := (hbx.block _ (lt_of_heap s4)).trans s4
    have t5 := heap_alloc_new w7 (.cells #[.slice (some ⟨g6, 0, none⟩) R.all.length cap6, .slice ha R.hist.length hc, .slice ea2 R.ev.length ec2, .slice ba R.blk.length bc] 35)
    have hb8 := hb7.trans (hbx.mono hb7.size)
    have hl7' := lt_of_heap s4
    clear hbx h7 s2 s3 s4 hb7
    generalize w7.heap.size = Y at t5 hg6 hevl hl7' ⊢
    generalize w7.alloc (.cells #[.slice (some ⟨g6, 0, none⟩) R.all.length cap6, .slice ha R.hist.length hc, .slice ea2 R.ev.length ec2, .slice ba R.blk.length bc] 35) = w8 at h8 t2 t3 t4 t5 hb8 ⊢
    apply wp_region_early [0, 1, 3] [2, 4] [5, 6] (fun w' => w'.heap[Y]? = some (.cells #[.slice (some ⟨g6, 0, none⟩) R.all.length cap6, .slice ha R.hist.length hc, .slice ea2 R.ev.length ec2, .slice ba R.blk.length bc] 35) ∧ w'.heap[X]? = some (.cells #[.string m.pk.fr, .string m.pk.to, .slice x.p.ba x.p.bn x.p.bc] 40))
    case hm => kernel_rfl
    case hB => kernel_rfl
    case hao => exact .cons rfl (.cons rfl .nil)
    case hlo => exact .cons rfl (.cons rfl .nil)
    case hS => exact ⟨t5, t4⟩
    case hr =>
      iterate 3
        try simp only [Act.put, List.setIfInBounds_toArray, List.set_cons_succ, List.set_cons_zero]
        apply Reads.cons1 rfl rfl
        · intro w' hS
          obtain ⟨s0, s1, s2, s3, _, _⟩ := blk4 hS.1
          obtain ⟨p0, p1, p2, _, _, _, _⟩ := blk3 hS.2
          clear hS
          go_simp
          try rfl
      exact Reads.nil
    intro W hW
    have n2 : W.heap[w.heap.size + 1]? = some (.cells #[.slice none 0 0, .slice none 0 0, .slice none 0 0, .slice none 0 0] 35) := by subst hW; exact t2
    have n3 : W.heap[w.heap.size + 1 + 1]? = some (.cells #[.string { data := #[] }, .string { data := #[] }, .slice none 0 0] 40) := by subst hW; exact t3
    have n4 : W.heap[X]? = some (.cells #[.string m.pk.fr, .string m.pk.to, .slice x.p.ba x.p.bn x.p.bc] 40) := by subst hW; exact t4
    have n5 : W.heap[Y]? = some (.cells #[.slice (some ⟨g6, 0, none⟩) R.all.length cap6, .slice ha R.hist.length hc, .slice ea2 R.ev.length ec2, .slice ba R.blk.length bc] 35) := by subst hW; exact t5
    have hb9 : Below w.heap.size w W := by subst hW; exact hb8.drew
    have h9 : RefAt W ⟨.slice (some ⟨g6, 0, none⟩) R.all.length cap6, .slice ha R.hist.length hc, .slice ea2 R.ev.length ec2, .slice ba R.blk.length bc, qs.set n { y with gone := true }, hs'⟩ { R with all := R.all.set n { m with gone := true } } := by subst hW; exact h8.same fun j _ => rfl
    clear hW t2 t3 t4 t5 hb8 h8
    unfold wpTail
    try simp only [Act.put, List.setIfInBounds_toArray, List.set_cons_succ, List.set_cons_zero]
    go_wp2_with fail
    refine (notedR_any _ _ 2 n (-1) W h9 hl7).mono ?_
    rintro e w10 ⟨ev10, rfl, h10, hk10, hev10⟩
    obtain ⟨ea10, ec10, hE10, _⟩ := ownsRow_slice h10.ev
    simp only [List.length_append, List.length_cons, List.length_nil, Nat.zero_add] at hE10
    subst hE10
    simp only [RefV.val]
    have hevg := hev
    have hw9s := hb9.size
    have m2 := (hk10.block _ (lt_of_heap n2) (fun e => by have := hev _ e; omega)).trans n2
    have m3 := (hk10.block _ (lt_of_heap n3) (fun e => by have := hev _ e; omega)).trans n3
    have m4 := (hk10.block _ (lt_of_heap n4) (fun e => by have := hev _ e; omega)).trans n4
    have m5 := (hk10.block _ (lt_of_heap n5) (fun e => by have := hevl _ e; omega)).trans n5
    have hb10 : Below w.heap.size w w10 := Below.kp hb9 hk10 (Nat.le_refl _) (fun j e => by have := hev j e; omega)
    clear n2 n3 n4 n5 hb9 h9 hk10
    obtain ⟨u0, u1, u2, u3, uf, ul⟩ := blk4 m2
    obtain ⟨v0, v1, v2, vf0, vf1, vf2, vl⟩ := blk3 m3
    go_wp2_with fail
    unfold wpTail
    try simp only [Act.put, List.setIfInBounds_toArray, List.set_cons_succ, List.set_cons_zero]
    go_wp2_with fail
    have hk4 : Kp (fun j => j = w.heap.size + 1) w10 ((((w10.setCell ⟨w.heap.size + 1, 0, none⟩ (.slice (some ⟨g6, 0, none⟩) R.all.length cap6)).setCell ⟨w.heap.size + 1, 1, none⟩ (.slice ha R.hist.length hc)).setCell ⟨w.heap.size + 1, 2, none⟩ (.slice ea10 (R.ev.length + 1) ec10)).setCell ⟨w.heap.size + 1, 3, none⟩ (.slice ba R.blk.length bc)) := ((((Kp.refl (fun j => j = w.heap.size + 1) w10).setCell (fun _ => rfl) _).setCell (fun _ => rfl) _).setCell (fun _ => rfl) _).setCell (fun _ => rfl) _
    refine ⟨⟨(hk4.block _ (lt_of_heap m5) (by omega)).trans m5, (hk4.block _ (lt_of_heap m4) (by omega)).trans m4⟩, ?_⟩
    unfold wpTail
    go_wp2_with fail
    refine NoPanic.normal ?_
    go_wp2_with fail
    refine bodyPost_ret (v := .tuple #[RefV.val ⟨.slice (some ⟨g6, 0, none⟩) R.all.length cap6, .slice ha R.hist.length hc, .slice ea10 (R.ev.length + 1) ec10, .slice ba R.blk.length bc, qs.set n { y with gone := true }, hs'⟩, PV.val ⟨m.pk.fr, m.pk.to, x.p.ba, x.p.bn, x.p.bc⟩, .int .i64 0]) (by simp [results, Try.results32, RefV.val, PV.val, go_sem, u0, u1, u2, u3, v0, v1, v2]) rfl ?_
    have hbZ := below_three (below_four hb10 (B := w.heap.size + 1) (by omega) (.slice (some ⟨g6, 0, none⟩) R.all.length cap6) (.slice ha R.hist.length hc) (.slice ea10 (R.ev.length + 1) ec10) (.slice ba R.blk.length bc)) (B := w.heap.size + 1 + 1) (by omega) (.string m.pk.fr) (.string m.pk.to) (.slice x.p.ba x.p.bn x.p.bc)
    have hx1 := hx0.below hbZ (Nat.le_refl _)
    refine ⟨_, ⟨m.pk.fr, m.pk.to, x.p.ba, x.p.bn, x.p.bc⟩, by rw [HF.out], ?_, ?_, hbZ, fun j hj => by
      rcases hj with hj | hj | hj | hj | ⟨z, hz, hj⟩ | ⟨z, hz, hj⟩
      · have e' : g6 = j := by simpa [Value.ownBlock] using hj
        exact .inr (by omega)
      · exact .inl (.inr (.inl hj))
      · rcases hev10 _ hj with h9 | h9
        · have := hev _ h9; exact .inr (by omega)
        · exact .inr (by omega)
      · exact .inl (.inr (.inr (.inr (.inl hj))))
      · rcases List.mem_or_eq_of_mem_set hz with hz | rfl
        · have := hqs z hz _ hj; exact .inr (by omega)
        · have := hqs y (List.mem_of_getElem? HY.out) _ hj; exact .inr (by omega)
      · exact .inl (.inr (.inr (.inr (.inr (.inr ⟨z, hz, hj⟩)))))⟩
    · rw [HF.out]
      exact (h10.four m2 _ _ _ _).three (fun k hk e => by have := hhl k hk; omega) ((hk4.block _ (lt_of_heap m3) (by omega)).trans m3) _ _ _
    · rw [HF.out]
      exact ⟨rfl, rfl, hx1.n, hx1.b⟩
end Go.Proofs.Ytnkcgalbaeppmaa
