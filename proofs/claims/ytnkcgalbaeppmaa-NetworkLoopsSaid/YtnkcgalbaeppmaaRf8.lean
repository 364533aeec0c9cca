/- The reference's launched. -/
import Derived.Test.YtnkcgalbaeppmaaRf7
namespace Go.Proofs.Ytnkcgalbaeppmaa
open Go.RowKit
/-- Each block is an old one or a new one. -/
def News (V V' : RefV) (B : Nat) : Prop := ∀ k, rp V' k → rp V k ∨ B ≤ k
theorem News.refl (V : RefV) (B : Nat) : News V V B := fun _ hk => .inl hk
theorem News.mono {V V' : RefV} {B C : Nat} (h : News V V' C) (hB : B ≤ C) : News V V' B := fun k hk => (h k hk).imp id (fun e => Nat.le_trans hB e)
theorem News.trans {V V' V'' : RefV} {B : Nat} (h : News V V' B) (h' : News V' V'' B) : News V V'' B := fun k hk => (h' k hk).elim (fun e => h k e) .inr
/-- What a reference's call that hands back a network and a number leaves. -/
def LaunR (V : RefV) (R' : RefM) (n : Int) (w : World) (e : Ending) (w' : World) : Prop :=
  ∃ V', e = .returned (.tuple #[RefV.val V', .int .i64 n]) ∧ RefAt w' V' R' ∧ Below w.heap.size w w' ∧ News V V' w.heap.size
theorem lim_all {R : RefM} (h : R.lim) {x : RF} (h1 : R.all.length < 50000) (hx : x.pk.ok) (hs : -1 ≤ x.src ∧ x.src < (R.hist.length : Int)) : ({ R with all := R.all ++ [x] } : RefM).lim := by
  refine ⟨by simp; omega, h.hist, h.ev, h.blk, fun m hm => ?_, h.histok, fun m hm => ?_⟩
  · rcases List.mem_append.1 hm with hm | hm
    · exact h.allok m hm
    · obtain rfl : m = x := by simpa using hm
      exact hx
  · rcases List.mem_append.1 hm with hm | hm
    · exact h.srcok m hm
    · obtain rfl : m = x := by simpa using hm
      exact hs
set_option maxHeartbeats 1600000 in
set_option maxRecDepth 100000 in
theorem launchedR_any (V : RefV) (R : RefM) (kind src fr : Int) (p : PV) (m : Pk) (w : World) (h : RefAt w V R) (hl : R.lim) (hn : R.all.length < 50000) (hp : PSrc w p m) (hm : m.ok) (hs : -1 ≤ src ∧ src < (R.hist.length : Int)) :
    Calls Try.prog 69 #[V.val, .int .i64 kind, p.val, .int .i64 src, .int .i64 fr] w (LaunR V (R.launched kind m src fr) R.all.length w) := by
  obtain ⟨aa, ac, ha, hc, ea, ec, ba, bc, h1, h2, h3, h4⟩ := h.forms
  obtain ⟨al, hi, ev, bl, ps, hs'⟩ := V
  simp only at h1 h2 h3 h4
  subst h1 h2 h3 h4
  simp only [RefV.val, PV.val]
  have hb1 : Below w.heap.size w (((w.alloc (.cells #[.slice aa R.all.length ac, .slice ha R.hist.length hc, .slice ea R.ev.length ec, .slice ba R.blk.length bc] 35)).alloc (.cells #[.string p.f, .string p.t, .slice p.ba p.bn p.bc] 40)).alloc (.cells #[.slice none 0 0, .slice none 0 0, .slice none 0 0, .slice none 0 0] 35)) :=
    (((Below.refl _ _).alloc (Nat.le_refl _) _).alloc (by simp) _).alloc (by simp; omega) _
  have e1 : (((w.alloc (.cells #[.slice aa R.all.length ac, .slice ha R.hist.length hc, .slice ea R.ev.length ec, .slice ba R.blk.length bc] 35)).alloc (.cells #[.string p.f, .string p.t, .slice p.ba p.bn p.bc] 40)).alloc (.cells #[.slice none 0 0, .slice none 0 0, .slice none 0 0, .slice none 0 0] 35)).heap[w.heap.size]? = some (.cells #[.slice aa R.all.length ac, .slice ha R.hist.length hc, .slice ea R.ev.length ec, .slice ba R.blk.length bc] 35) := by
    rw [Below.heap_alloc _ _ _ (by simp; omega)]; exact top1 w _ _
  have e2 : (((w.alloc (.cells #[.slice aa R.all.length ac, .slice ha R.hist.length hc, .slice ea R.ev.length ec, .slice ba R.blk.length bc] 35)).alloc (.cells #[.string p.f, .string p.t, .slice p.ba p.bn p.bc] 40)).alloc (.cells #[.slice none 0 0, .slice none 0 0, .slice none 0 0, .slice none 0 0] 35)).heap[w.heap.size + 1]? = some (.cells #[.string p.f, .string p.t, .slice p.ba p.bn p.bc] 40) := by
    rw [Below.heap_alloc _ _ _ (by simp)]; exact top0 w _ _
  have e3 : (((w.alloc (.cells #[.slice aa R.all.length ac, .slice ha R.hist.length hc, .slice ea R.ev.length ec, .slice ba R.blk.length bc] 35)).alloc (.cells #[.string p.f, .string p.t, .slice p.ba p.bn p.bc] 40)).alloc (.cells #[.slice none 0 0, .slice none 0 0, .slice none 0 0, .slice none 0 0] 35)).heap[w.heap.size + 1 + 1]? = some (.cells #[.slice none 0 0, .slice none 0 0, .slice none 0 0, .slice none 0 0] 35) := by
    have := heap_alloc_new ((w.alloc (.cells #[.slice aa R.all.length ac, .slice ha R.hist.length hc, .slice ea R.ev.length ec, .slice ba R.blk.length bc] 35)).alloc (.cells #[.string p.f, .string p.t, .slice p.ba p.bn p.bc] 40)) (.cells #[.slice none 0 0, .slice none 0 0, .slice none 0 0, .slice none 0 0] 35)
    simpa using this
  go_enter Try.func69, Try.ntmps69
  go_wp2_with fail
  generalize ((w.alloc (.cells #[.slice aa R.all.length ac, .slice ha R.hist.length hc, .slice ea R.ev.length ec, .slice ba R.blk.length bc] 35)).alloc (.cells #[.string p.f, .string p.t, .slice p.ba p.bn p.bc] 40)).alloc (.cells #[.slice none 0 0, .slice none 0 0, .slice none 0 0, .slice none 0 0] 35) = w1 at hb1 e1 e2 e3 ⊢
  have h1 := h.below hb1 (Nat.le_refl _)
  refine (ownR_any _ R w1 h1 hl).mono ?_
  rintro e w2 ⟨g, cap, evv, qs, rfl, h2, hg, hev, hqs, hap, hb2⟩
  obtain ⟨ea2, ec2, hE, _⟩ := ownsRow_slice h2.ev
  simp only at hE
  subst hE
  simp only [RefV.val]
  have f1 := (hb2.block _ (lt_of_heap e1)).trans e1
  have f2 := (hb2.block _ (lt_of_heap e2)).trans e2
  have f3 := (hb2.block _ (lt_of_heap e3)).trans e3
  have hbb := hb1.trans (hb2.mono hb1.size)
  have hw1 : w.heap.size + 1 + 1 < w1.heap.size := lt_of_heap e3
  obtain ⟨c0, c1, c2, c3, cf, cl⟩ := blk4 f1
  clear e1 e2 e3 h1 hb1 hb2
  go_wp2_with fail
  have hk3 : Kp (fun j => j = w.heap.size) w2 ((((w2.setCell ⟨w.heap.size, 0, none⟩ (.slice (some ⟨g, 0, none⟩) R.all.length cap)).setCell ⟨w.heap.size, 1, none⟩ (.slice ha R.hist.length hc)).setCell ⟨w.heap.size, 2, none⟩ (.slice ea2 R.ev.length ec2)).setCell ⟨w.heap.size, 3, none⟩ (.slice ba R.blk.length bc)) := ((((Kp.refl (fun j => j = w.heap.size) w2).setCell (fun _ => rfl) _).setCell (fun _ => rfl) _).setCell (fun _ => rfl) _).setCell (fun _ => rfl) _
  have m1 : ((((w2.setCell ⟨w.heap.size, 0, none⟩ (.slice (some ⟨g, 0, none⟩) R.all.length cap)).setCell ⟨w.heap.size, 1, none⟩ (.slice ha R.hist.length hc)).setCell ⟨w.heap.size, 2, none⟩ (.slice ea2 R.ev.length ec2)).setCell ⟨w.heap.size, 3, none⟩ (.slice ba R.blk.length bc)).heap[w.heap.size]? = some (.cells #[.slice (some ⟨g, 0, none⟩) R.all.length cap, .slice ha R.hist.length hc, .slice ea2 R.ev.length ec2, .slice ba R.blk.length bc] 35) := by simp [World.setCell, Array.getElem?_modify, f1]
  have m2 := (hk3.block _ (lt_of_heap f2) (by omega)).trans f2
  have m3 := (hk3.block _ (lt_of_heap f3) (by omega)).trans f3
  have hb3 : Below w.heap.size w ((((w2.setCell ⟨w.heap.size, 0, none⟩ (.slice (some ⟨g, 0, none⟩) R.all.length cap)).setCell ⟨w.heap.size, 1, none⟩ (.slice ha R.hist.length hc)).setCell ⟨w.heap.size, 2, none⟩ (.slice ea2 R.ev.length ec2)).setCell ⟨w.heap.size, 3, none⟩ (.slice ba R.blk.length bc)) := Below.kp hbb hk3 (Nat.le_refl _) (fun j e => by omega)
  have h3 : RefAt ((((w2.setCell ⟨w.heap.size, 0, none⟩ (.slice (some ⟨g, 0, none⟩) R.all.length cap)).setCell ⟨w.heap.size, 1, none⟩ (.slice ha R.hist.length hc)).setCell ⟨w.heap.size, 2, none⟩ (.slice ea2 R.ev.length ec2)).setCell ⟨w.heap.size, 3, none⟩ (.slice ba R.blk.length bc)) ⟨.slice (some ⟨g, 0, none⟩) R.all.length cap, .slice ha R.hist.length hc, .slice ea2 R.ev.length ec2, .slice ba R.blk.length bc, qs, hs'⟩ R := h2.same fun j hj => hk3.block j (h2.lt j hj) (fun e => by
    subst e
    rcases hj with hj | hj | hj | hj | ⟨x, hx, hj⟩ | ⟨x, hx, hj⟩
    · have e' : g = w.heap.size := by simpa [Value.ownBlock] using hj
      omega
    · have := (h.hist.lt _ hj).2; omega
    · have := hev _ hj; omega
    · have := (h.blk.lt _ hj).2; omega
    · have := hqs x hx _ hj; omega
    · obtain ⟨z, _, hz⟩ := h.histp.left hx; have := hz.lt hj; omega)
  have hpp : PSrc ((((w2.setCell ⟨w.heap.size, 0, none⟩ (.slice (some ⟨g, 0, none⟩) R.all.length cap)).setCell ⟨w.heap.size, 1, none⟩ (.slice ha R.hist.length hc)).setCell ⟨w.heap.size, 2, none⟩ (.slice ea2 R.ev.length ec2)).setCell ⟨w.heap.size, 3, none⟩ (.slice ba R.blk.length bc)) p m := ⟨hp.pin.below hb3 (Nat.le_refl _), hp.nil⟩
  have hsz3 : ((((w2.setCell ⟨w.heap.size, 0, none⟩ (.slice (some ⟨g, 0, none⟩) R.all.length cap)).setCell ⟨w.heap.size, 1, none⟩ (.slice ha R.hist.length hc)).setCell ⟨w.heap.size, 2, none⟩ (.slice ea2 R.ev.length ec2)).setCell ⟨w.heap.size, 3, none⟩ (.slice ba R.blk.length bc)).heap.size = w2.heap.size := by simp [World.setCell]
  clear f1 f2 f3 hbb hk3 c0 c1 c2 c3 cf h2
  generalize (((w2.setCell ⟨w.heap.size, 0, none⟩ (.slice (some ⟨g, 0, none⟩) R.all.length cap)).setCell ⟨w.heap.size, 1, none⟩ (.slice ha R.hist.length hc)).setCell ⟨w.heap.size, 2, none⟩ (.slice ea2 R.ev.length ec2)).setCell ⟨w.heap.size, 3, none⟩ (.slice ba R.blk.length bc) = w3 at m1 m2 m3 hb3 h3 hpp hsz3 ⊢
  have hqw : ∀ x ∈ qs, ∀ j, x.p.blk = some j → j < w3.heap.size := fun x hx j hj => by obtain ⟨z, _, hz⟩ := h3.allp.left hx; exact hz.p.lt hj
  apply wp_region_early [0, 1, 2, 4] [3, 5, 6] [7, 8, 9] (fun w' => w'.heap[w.heap.size]? = some (.cells #[.slice (some ⟨g, 0, none⟩) R.all.length cap, .slice ha R.hist.length hc, .slice ea2 R.ev.length ec2, .slice ba R.blk.length bc] 35) ∧ w'.heap[w.heap.size + 1]? = some (.cells #[.string p.f, .string p.t, .slice p.ba p.bn p.bc] 40))
  case hm => kernel_rfl
  case hB => kernel_rfl
  case hao => exact .cons rfl (.cons rfl (.cons rfl .nil))
  case hlo => exact .cons rfl (.cons rfl (.cons rfl .nil))
  case hS => exact ⟨m1, m2⟩
  case hr =>
    iterate 4
      apply Reads.cons1 rfl rfl
      · intro w' hS
        obtain ⟨s0, s1, s2, s3, _, _⟩ := blk4 hS.1
        obtain ⟨p0, p1, p2, _, _, _, _⟩ := blk3 hS.2
        clear hS
        go_simp
        try rfl
    exact Reads.nil
  intro W hW
  have n1 : W.heap[w.heap.size]? = some (.cells #[.slice (some ⟨g, 0, none⟩) R.all.length cap, .slice ha R.hist.length hc, .slice ea2 R.ev.length ec2, .slice ba R.blk.length bc] 35) := by subst hW; exact m1
  have n2 : W.heap[w.heap.size + 1]? = some (.cells #[.string p.f, .string p.t, .slice p.ba p.bn p.bc] 40) := by subst hW; exact m2
  have n3 : W.heap[w.heap.size + 1 + 1]? = some (.cells #[.slice none 0 0, .slice none 0 0, .slice none 0 0, .slice none 0 0] 35) := by subst hW; exact m3
  have hb4 : Below w.heap.size w W := by subst hW; exact hb3.drew
  have h4 : RefAt W ⟨.slice (some ⟨g, 0, none⟩) R.all.length cap, .slice ha R.hist.length hc, .slice ea2 R.ev.length ec2, .slice ba R.blk.length bc, qs, hs'⟩ R := by subst hW; exact h3.same fun j _ => rfl
  have hp4 : PSrc W p m := by subst hW; exact ⟨hpp.pin.drew, hpp.nil⟩
  have hqw4 : ∀ x ∈ qs, ∀ j, x.p.blk = some j → j < W.heap.size := by subst hW; exact hqw
  have hW2 : w2.heap.size ≤ W.heap.size := by subst hW; simp; omega
  clear hW m1 m2 m3 hb3 h3 hpp hqw
  unfold wpTail
  simp only [Act.put, List.setIfInBounds_toArray, List.set_cons_succ, List.set_cons_zero]
  go_wp2_with fail
  refine (own_any p m W hp4 (by have := hp.pin.n; have := hm.bs; omega)).mono ?_
  rintro e w5 ⟨⟨qf, qt, qa, qn, qc⟩, rfl, hqo, hqn, hbl5⟩
  simp only [PV.val]
  have o1 := (hbl5.block _ (lt_of_heap n1)).trans n1
  have o2 := (hbl5.block _ (lt_of_heap n2)).trans n2
  have o3 := (hbl5.block _ (lt_of_heap n3)).trans n3
  have hb5 := hb4.trans (hbl5.mono hb4.size)
  have h5 := h4.below hbl5 (Nat.le_refl _)
  have hgW : g < W.heap.size := (h4.all.lt g rfl).2
  clear n1 n2 n3 hb4 hbl5 h4 hp4
  go_wp2_with fail
  refine ⟨⟨o1, o2⟩, ?_⟩
  unfold wpTail
  go_wp2_with fail
  refine ⟨⟨o1, o2⟩, ?_⟩
  unfold wpTail
  go_wp2_with fail
  refine ⟨⟨(Below.heap_alloc _ _ _ (lt_of_heap o1)).trans o1, (Below.heap_alloc _ _ _ (lt_of_heap o2)).trans o2⟩, ?_⟩
  unfold wpTail
  refine wpList_push (v := .slice (some ⟨g, 0, none⟩) R.all.length cap) rfl _ _ 32 rfl T32 rfl h5.all #[.string qf, .string qt, .slice qa qn qc, .int .i64 src, .bool false] rfl (by simp [Value.oneCell']) rfl (by omega) ?_
  intro g6 cap6 w6 hown hk6 hat hlt6
  have hgn : ∀ j c T, w5.heap[j]? = some (.cells c T (0, 0)) → T ≠ 51 → ¬ Value.ownBlock (.slice (some ⟨g, 0, none⟩) R.all.length cap) = some j := fun j c T hc hT e => by
    obtain ⟨c', hc'⟩ := ownsRow_block h5.all e
    exact hT (cells_inj hc hc')
  have r1 := (hk6.block _ (lt_of_heap o1) (hgn _ _ _ o1 (by decide))).trans o1
  have r3 := (hk6.block _ (lt_of_heap o3) (hgn _ _ _ o3 (by decide))).trans o3
  have hgb : ∀ j, Value.ownBlock (.slice (some ⟨g, 0, none⟩) R.all.length cap) = some j → w.heap.size ≤ j := fun j e => by
    have e' : g = j := by simpa [Value.ownBlock] using e
    omega
  have hb6 : Below w.heap.size w w6 := Below.kp hb5 hk6 (Nat.le_refl _) hgb
  have h6 : RefAt w6 ⟨.slice (some ⟨g6, 0, none⟩) (R.all.length + 1) cap6, .slice ha R.hist.length hc, .slice ea2 R.ev.length ec2, .slice ba R.blk.length bc, qs ++ [⟨⟨qf, qt, qa, qn, qc⟩, src, false⟩], hs'⟩ { R with all := R.all ++ [⟨m, src, false⟩] } := by
    refine ⟨?_, ?_, ?_, ?_, ?_, ?_⟩
    · have : (qs ++ [(⟨⟨qf, qt, qa, qn, qc⟩, src, false⟩ : RV)]).flatMap RV.cells = qs.flatMap RV.cells ++ [.string qf, .string qt, .slice qa qn qc, .int .i64 src, .bool false] := by simp [RV.cells, PV.cells]
      rw [this]
      simp only [List.length_append, List.length_cons, List.length_nil]
      exact hown
    · exact (h5.allp.mono fun y z hy hz => (⟨hz.p.kp hk6 (fun j hj => by obtain ⟨c, hc⟩ := hz.p.block hj; exact hgn j c 5 hc (by decide)), hz.src, hz.gone⟩ : ROwn w6 y z)).snoc ⟨hqo.kp hk6 (fun j hj => by obtain ⟨c, hc⟩ := hqo.block hj; exact hgn j c 5 hc (by decide)), rfl, rfl⟩
    · exact ownsRow_kp h5.hist hk6 (fun j hj => by obtain ⟨c, hc⟩ := ownsRow_block h5.hist hj; exact hgn j c 40 hc (by decide))
    · exact h5.histp.mono fun y z hy hz => hz.kp hk6 (fun j hj => by obtain ⟨c, hc⟩ := hz.block hj; exact hgn j c 5 hc (by decide))
    · exact ownsRow_kp h5.ev hk6 (fun j hj => by obtain ⟨c, hc⟩ := ownsRow_block h5.ev hj; exact hgn j c 61 hc (by decide))
    · exact ownsRow_kp h5.blk hk6 (fun j hj => by obtain ⟨c, hc⟩ := ownsRow_block h5.blk hj; exact hgn j c 95 hc (by decide))
  have hg6 : w.heap.size + 1 + 1 < g6 := by
    rcases hat with e | e
    · have e' : g = g6 := by simpa [Value.ownBlock] using e
      omega
    · have := lt_of_heap o3; omega
  obtain ⟨c0, c1, c2, c3, cf, cl6⟩ := blk4 r1
  have hqn6 : ∀ j, PV.blk ⟨qf, qt, qa, qn, qc⟩ = some j → w.heap.size + 1 + 1 < j := fun j hj => by have h1 : W.heap.size ≤ j := hqn j hj; omega
  clear o1 o2 o3 hb5 h5 hown hk6 hat hgn
  go_wp2_with fail
  refine NoPanic.normal ?_
  have hk7 : Kp (fun j => j = w.heap.size) w6 (w6.setCell ⟨w.heap.size, 0, none⟩ (.slice (some ⟨g6, 0, none⟩) (R.all.length + 1) cap6)) := (Kp.refl (fun j => j = w.heap.size) w6).setCell (fun _ => rfl) _
  have s1 : (w6.setCell ⟨w.heap.size, 0, none⟩ (.slice (some ⟨g6, 0, none⟩) (R.all.length + 1) cap6)).heap[w.heap.size]? = some (.cells #[.slice (some ⟨g6, 0, none⟩) (R.all.length + 1) cap6, .slice ha R.hist.length hc, .slice ea2 R.ev.length ec2, .slice ba R.blk.length bc] 35) := by simp [World.setCell, Array.getElem?_modify, r1]
  have s3 := (hk7.block _ (lt_of_heap r3) (by omega)).trans r3
  have hb7 : Below w.heap.size w (w6.setCell ⟨w.heap.size, 0, none⟩ (.slice (some ⟨g6, 0, none⟩) (R.all.length + 1) cap6)) := Below.kp hb6 hk7 (Nat.le_refl _) (fun j e => by omega)
  have h7 : RefAt (w6.setCell ⟨w.heap.size, 0, none⟩ (.slice (some ⟨g6, 0, none⟩) (R.all.length + 1) cap6)) ⟨.slice (some ⟨g6, 0, none⟩) (R.all.length + 1) cap6, .slice ha R.hist.length hc, .slice ea2 R.ev.length ec2, .slice ba R.blk.length bc, qs ++ [⟨⟨qf, qt, qa, qn, qc⟩, src, false⟩], hs'⟩ { R with all := R.all ++ [⟨m, src, false⟩] } := h6.same fun j hj => hk7.block j (h6.lt j hj) (fun e => by
    subst e
    rcases hj with hj | hj | hj | hj | ⟨x, hx, hj⟩ | ⟨x, hx, hj⟩
    · have e' : g6 = w.heap.size := by simpa [Value.ownBlock] using hj
      omega
    · have := (h.hist.lt _ hj).2; omega
    · have := hev _ hj; omega
    · have := (h.blk.lt _ hj).2; omega
    · rcases List.mem_append.1 hx with hx | hx
      · have := hqs x hx _ hj; omega
      · obtain rfl : x = ⟨⟨qf, qt, qa, qn, qc⟩, src, false⟩ := by simpa using hx
        have := hqn6 _ hj; omega
    · obtain ⟨z, _, hz⟩ := h.histp.left hx; have := hz.lt hj; omega)
  clear r1 r3 hb6 h6 c0 c1 c2 c3 cf hk7
  generalize w6.setCell ⟨w.heap.size, 0, none⟩ (.slice (some ⟨g6, 0, none⟩) (R.all.length + 1) cap6) = w7 at s1 s3 hb7 h7 ⊢
  obtain ⟨c0, c1, c2, c3, cf, cl7⟩ := blk4 s1
  go_wp2_with fail
  refine (notedR_any _ _ kind R.all.length fr w7 h7 (lim_all hl hn hm hs)).mono ?_
  rintro e w8 ⟨ev8, rfl, h8, hk8, hev8⟩
  obtain ⟨ea8, ec8, hE8, _⟩ := ownsRow_slice h8.ev
  simp only [List.length_append, List.length_cons, List.length_nil, Nat.zero_add] at hE8
  subst hE8
  simp only [RefV.val]
  have hevw : ∀ j, Value.ownBlock (.slice ea2 R.ev.length ec2) = some j → w1.heap.size ≤ j := hev
  have t3 := (hk8.block _ (lt_of_heap s3) (fun e => by have := hevw _ e; omega)).trans s3
  have hb8 : Below w.heap.size w w8 := Below.kp hb7 hk8 (Nat.le_refl _) (fun j e => by have := hevw j e; omega)
  obtain ⟨u0, u1, u2, u3, uf, ul⟩ := blk4 t3
  have hl7 := lt_of_heap s3
  clear c0 c1 c2 c3 cf cl7 s1 s3 hb7 h7 hk8
  go_wp2_with fail
  have hkZ : Kp (fun j => j = w.heap.size + 1 + 1) w8 ((((w8.setCell ⟨w.heap.size + 1 + 1, 0, none⟩ (.slice (some ⟨g6, 0, none⟩) (R.all.length + 1) cap6)).setCell ⟨w.heap.size + 1 + 1, 1, none⟩ (.slice ha R.hist.length hc)).setCell ⟨w.heap.size + 1 + 1, 2, none⟩ (.slice ea8 (R.ev.length + 1) ec8)).setCell ⟨w.heap.size + 1 + 1, 3, none⟩ (.slice ba R.blk.length bc)) := ((((Kp.refl (fun j => j = w.heap.size + 1 + 1) w8).setCell (fun _ => rfl) _).setCell (fun _ => rfl) _).setCell (fun _ => rfl) _).setCell (fun _ => rfl) _
  refine bodyPost_ret (v := .tuple #[RefV.val ⟨.slice (some ⟨g6, 0, none⟩) (R.all.length + 1) cap6, .slice ha R.hist.length hc, .slice ea8 (R.ev.length + 1) ec8, .slice ba R.blk.length bc, qs ++ [⟨⟨qf, qt, qa, qn, qc⟩, src, false⟩], hs'⟩, .int .i64 R.all.length]) (by simp [results, Try.results69, RefV.val, go_sem, u0, u1, u2, u3]) rfl ?_
  refine ⟨_, rfl, h8.same fun j hj => hkZ.block j (h8.lt j hj) (fun e => ?_), Below.kp hb8 hkZ (Nat.le_refl _) (fun j e => by omega), fun j hj => by
    rcases hj with hj | hj | hj | hj | ⟨x, hx, hj⟩ | ⟨x, hx, hj⟩
    · have e' : g6 = j := by simpa [Value.ownBlock] using hj
      exact .inr (by omega)
    · exact .inl (.inr (.inl hj))
    · rcases hev8 _ hj with h9 | h9
      · have := hevw _ h9; exact .inr (by omega)
      · exact .inr (by omega)
    · exact .inl (.inr (.inr (.inr (.inl hj))))
    · rcases List.mem_append.1 hx with hx | hx
      · have := hqs x hx _ hj; exact .inr (by omega)
      · obtain rfl : x = ⟨⟨qf, qt, qa, qn, qc⟩, src, false⟩ := by simpa using hx
        have := hqn6 _ hj; exact .inr (by omega)
    · exact .inl (.inr (.inr (.inr (.inr (.inr ⟨x, hx, hj⟩)))))⟩
  subst e
  rcases hj with hj | hj | hj | hj | ⟨x, hx, hj⟩ | ⟨x, hx, hj⟩
  · have e' : g6 = w.heap.size + 1 + 1 := by simpa [Value.ownBlock] using hj
    omega
  · have := (h.hist.lt _ hj).2; omega
  · rcases hev8 _ hj with h9 | h9
    · have := hevw _ h9; omega
    · omega
  · have := (h.blk.lt _ hj).2; omega
  · rcases List.mem_append.1 hx with hx | hx
    · have := hqs x hx _ hj; omega
    · obtain rfl : x = ⟨⟨qf, qt, qa, qn, qc⟩, src, false⟩ := by simpa using hx
      have := hqn6 _ hj; omega
  · obtain ⟨z, _, hz⟩ := h.histp.left hx; have := hz.lt hj; omega
end Go.Proofs.Ytnkcgalbaeppmaa
