/- The network's method Send. -/
import Derived.Test.YtnkcgalbaeppmaaPub3
import Derived.ScopeJumps
import Derived.WalkMore
namespace Go.Proofs.Ytnkcgalbaeppmaa
open Go.RowKit

/-- A packet comes into the history. -/
theorem rep_pushHist {w w' : World} {b : Nat} {N : NetM} {D : ND} (h : RepOk w b N D) {g cap : Nat} {q : PV} {m : Pk} (hb : NetBlk w' b (.slice (some ⟨g, 0, none⟩) (N.hist.length + 1) cap) D.fv N.next D.mv D.ev)
    (hf : w'.ownsRow 0 40 3 (.slice (some ⟨g, 0, none⟩) (N.hist.length + 1) cap) (N.hist.length + 1) (D.hs.flatMap PV.cells ++ q.cells)) (hq : POwn w' q m) (hqb : ∀ k, q.blk = some k → w.heap.size ≤ k)
    (hat : D.hv.ownBlock = some g ∨ w.heap.size ≤ g) (hk : Kp (fun k => k = b ∨ D.hv.ownBlock = some k) w w') :
    RepOk w' b { N with hist := N.hist ++ [m] } { D with hv := .slice (some ⟨g, 0, none⟩) (N.hist.length + 1) cap, hs := D.hs ++ [q] } ∧
      Turns D { D with hv := .slice (some ⟨g, 0, none⟩) (N.hist.length + 1) cap, hs := D.hs ++ [q] } b w w' := by
  have hS : ∀ k, (k = b ∨ D.hv.ownBlock = some k) → ∃ cur T, w.heap[k]? = some (.cells cur T (0, 0)) ∧ T ∈ [31, 40] := by
    rintro k (rfl | hk)
    · exact ⟨_, 31, h.blk, by simp⟩
    · obtain ⟨c, hc⟩ := h.hblk hk; exact ⟨c, 40, hc, by simp⟩
  have hA := h.apartT hS
  refine ⟨⟨hb, ?_, ?_, ?_, ?_, ?_, ?_, h.apart, ?_⟩, ⟨hk.mono ?_, ?_, ?_⟩⟩
  · have : (D.hs ++ [q]).flatMap PV.cells = D.hs.flatMap PV.cells ++ q.cells := by simp
    simp only [this, List.length_append, List.length_cons, List.length_nil, Nat.zero_add]
    exact hf
  · exact (h.histp.mono fun x y hx hm => hm.kp hk (fun k h1 => by obtain ⟨c, hc⟩ := hm.block h1; exact hA k c 5 hc (by decide))).snoc hq
  · exact ownsRow_kp h.fl hk (fun k h1 => by obtain ⟨c, hc⟩ := h.fblk h1; exact hA k c 86 hc (by decide))
  · exact h.flp.mono fun x y hx hm => ⟨hm.p.kp hk (fun k h1 => by obtain ⟨c, hc⟩ := hm.p.block h1; exact hA k c 5 hc (by decide)), hm.id, hm.src⟩
  · exact ownsRow_kp h.ev hk (fun k h1 => by obtain ⟨c, hc⟩ := h.eblk h1; exact hA k c 61 hc (by decide))
  · exact h.map.same fun k h1 => hk.block k (h.map.lt k h1) (h.apartM hS k h1)
  · intro x hx p hp k h1 h2
    rcases List.mem_append.1 hp with hp | hp
    · exact h.apart2 x hx p hp k h1 h2
    · obtain rfl : p = q := by simpa using hp
      have h3 := hqb k h2
      obtain ⟨m', _, hm'⟩ := h.flp.left hx
      have := hm'.p.lt h1
      omega
  · rintro k _ (rfl | h1)
    · exact .inl rfl
    · exact .inr (.inl h1)
  · rintro k (rfl | h1 | h1 | h1 | h1 | h1)
    · exact .inl (.inl rfl)
    · have : g = k := by simpa [Value.ownBlock] using h1
      subst this
      exact hat.imp (fun h2 => .inr (.inl h2)) (fun h2 => h2)
    · exact .inl (.inr (.inr (.inl h1)))
    · exact .inl (.inr (.inr (.inr (.inl h1))))
    · exact .inl (.inr (.inr (.inr (.inr (.inl h1)))))
    · exact .inl (.inr (.inr (.inr (.inr (.inr h1)))))
  · rintro k ⟨p, hp, h1⟩
    rcases List.mem_append.1 hp with hp | hp
    · exact .inl ⟨p, hp, h1⟩
    · obtain rfl : p = q := by simpa using hp
      exact .inr (hqb k h1)

/-- Send. -/
def NetM.send (N : NetM) (m : Pk) : NetM × Int × Int :=
  if validB m then if 64 ≤ N.fl.length ∨ 1024 ≤ N.hist.length then (N, 0, 7) else (({ N with hist := N.hist ++ [m] } : NetM).put m N.hist.length 1 (-1), N.next, 0) else (N, 0, 2)

theorem lim_hist {N : NetM} (h : N.lim) {m : Pk} (hm : m.ok) (hfull : N.hist.length < 1024) : ({ N with hist := N.hist ++ [m] } : NetM).lim :=
  ⟨by simp; omega, h.fl, h.ev, h.next0, h.next1,
    (fun x hx => (List.mem_append.1 hx).elim (h.histok x) (fun hx => by obtain rfl : x = m := by simpa using hx
                                                                        exact hm)), h.flok,
    fun x hx => by have := h.srcok x hx; exact ⟨this.1, by simp; omega⟩⟩

set_option maxHeartbeats 1600000 in
set_option maxRecDepth 100000 in
theorem send_any (b : Nat) (N : NetM) (D : ND) (p : PV) (m : Pk) (w : World) (c : Nat) (h : RepOk w b N D) (hl : N.lim) (hf : N.few c) (hc : c ≤ 40000) (hp : PIn w p m) (hpb : ∀ k, p.blk = some k → ¬ fp D b k) (hm : m.ok) :
    Calls Try.prog 19 #[.pointer (some ⟨b, 0, none⟩), p.val] w (Two3 b D w (N.send m)) := by
  have hbn : p.bn ≤ 100000 := by have := hm.bs; have := hp.n; omega
  have hb0 : Below w.heap.size w (w.alloc (.cells #[.string p.f, .string p.t, .slice p.ba p.bn p.bc] 40)) := (Below.refl _ _).alloc (Nat.le_refl _) _
  have hhl : (N.hist.length : Int) ≤ 1024 := by have := hl.hist; omega
  cases hv : validB m
  · have HF : Hid (N.send m = (N, 0, 2)) := by simp [Hid, NetM.send, hv]
    have HV := Lib.hid hv
    clear hv
    simp only [PV.val]
    go_enter Try.func19, Try.ntmps19
    go_wp2_with fail
    refine wp_scope_jumps 0 (fun a' w' => a'.defers = [] ∧ a'.tmps.size = 46 ∧ a'.tmps.getD 5 undef = .int .i64 2 ∧ RepOk w' b N D ∧ Below w.heap.size w w') (fun _ _ => 0) rfl ?_ ?_
    · go_wp2_with fail
      refine (valid_any p m _ hp.f hp.t hp.n hm).mono ?_
      rintro e w1 ⟨rfl, hb⟩
      have hv := HV.out
      have hb1 := hb0.trans (hb.mono hb0.size)
      have h1 := h.below hb1 (Nat.le_refl _)
      clear hp hpb h hb hb0
      go_wp2_with fail
      refine wp_goto ?_
      exact ⟨rfl, rfl, rfl, rfl, h1, hb1⟩
    · rintro ⟨t, d⟩ w1 ⟨rfl, hsz, h5, h1, hb1⟩
      simp only at hsz h5
      clear h hp hpb
      go_wp2_with fail
      show bodyPost _ _ _ .ret _ _
      go_ret2
      exact ⟨by rw [HF.out]; simp [hsz], D, by rw [HF.out]; exact h1, Turns.of_below hb1⟩
  · have HV := Lib.hid hv
    have hbw : b < w.heap.size := h.blk.lt
    have hvlt : ∀ k, D.hv.ownBlock = some k → k < w.heap.size := fun k hk => (h.hist.lt k hk).2
    obtain ⟨ha, hcap, hhv, hh1, hh2, hh3, hh4⟩ := ownsRow_slice h.hist
    by_cases hfull : 64 ≤ N.fl.length ∨ 1024 ≤ N.hist.length
    · have HF : Hid (N.send m = (N, 0, 7)) := by simp [Hid, NetM.send, hv, hfull]
      clear hv
      simp only [PV.val]
      go_enter Try.func19, Try.ntmps19
      go_wp2_with fail
      refine wp_scope_jumps 0 (fun a' w' => a'.defers = [] ∧ a'.tmps.size = 46 ∧ a'.tmps.getD 5 undef = .int .i64 7 ∧ RepOk w' b N D ∧ Below w.heap.size w w') (fun _ _ => 0) rfl ?_ ?_
      · by_cases hU : 64 ≤ N.fl.length
        · have HU : Hid (decide (64 ≤ N.fl.length) = true) := by simpa [Hid] using hU
          clear hU hfull
          go_wp2_with fail
          refine (valid_any p m _ hp.f hp.t hp.n hm).mono ?_
          rintro e w1 ⟨rfl, hb⟩
          have hv := HV.out
          have hb1 := hb0.trans (hb.mono hb0.size)
          have h1 := h.below hb1 (Nat.le_refl _)
          clear hp hpb h hb hb0
          go_wp2_with fail
          refine (full_rep b N D _ h1 hl).mono ?_
          rintro e w2 ⟨rfl, rfl⟩
          have hu := HU.out
          go_wp2_with fail
          refine wp_goto ?_
          exact ⟨rfl, rfl, rfl, rfl, h1, hb1⟩
        · have HU : Hid (decide (64 ≤ N.fl.length) = false) := by simpa [Hid] using hU
          have hL : (1024 : Int) ≤ (N.hist.length : Int) := by omega
          have hL2 : 1024 ≤ N.hist.length := by omega
          clear hU hfull
          go_wp2_with fail
          refine (valid_any p m _ hp.f hp.t hp.n hm).mono ?_
          rintro e w1 ⟨rfl, hb⟩
          have hv := HV.out
          have hb1 := hb0.trans (hb.mono hb0.size)
          have h1 := h.below hb1 (Nat.le_refl _)
          clear hp hpb h hb hb0
          go_wp2_with fail
          refine (full_rep b N D _ h1 hl).mono ?_
          rintro e w2 ⟨rfl, rfl⟩
          have hu := HU.out
          have hbk := h1.blk
          rw [hhv] at hbk
          have c0 := hbk.c0
          clear hbk hhv
          go_wp2_with fail
          refine wp_goto ?_
          exact ⟨rfl, rfl, rfl, rfl, h1, hb1⟩
      · rintro ⟨t, d⟩ w1 ⟨rfl, hsz, h5, h1, hb1⟩
        simp only at hsz h5
        clear h hp hpb
        go_wp2_with fail
        show bodyPost _ _ _ .ret _ _
        go_ret2
        exact ⟨by rw [HF.out]; simp [hsz], D, by rw [HF.out]; exact h1, Turns.of_below hb1⟩
    · have HF : Hid (N.send m = (({ N with hist := N.hist ++ [m] } : NetM).put m N.hist.length 1 (-1), N.next, 0)) := by simp [Hid, NetM.send, hv, hfull]
      have HU : Hid (decide (64 ≤ N.fl.length) = false) := by simp [Hid]; omega
      have hL : (N.hist.length : Int) < 1024 := by omega
      have hL2 : N.hist.length < 1024 := by omega
      have hL3 : N.fl.length < 64 := by omega
      clear hv hfull
      simp only [PV.val]
      go_enter Try.func19, Try.ntmps19
      go_wp2_with fail
      refine wp_scope_jumps 0 (fun a' w' => False) (fun _ _ => 0) rfl ?_ (fun _ _ h => h.elim)
      go_wp2_with fail
      refine (valid_any p m _ hp.f hp.t hp.n hm).mono ?_
      rintro e w1 ⟨rfl, hb⟩
      have hv := HV.out
      have hb1 := hb0.trans (hb.mono hb0.size)
      have h1 := h.below hb1 (Nat.le_refl _)
      have hp1 := hp.below hb1 (Nat.le_refl _)
      have hB1 := (hb.block w.heap.size (by simp)).trans (heap_alloc_new w _)
      clear hp h hb
      go_wp2_with fail
      refine (full_rep b N D _ h1 hl).mono ?_
      rintro e w2 ⟨rfl, rfl⟩
      have hu := HU.out
      have hbk := h1.blk
      rw [hhv] at hbk
      have c0 := hbk.c0
      have HH := Lib.hid hhv
      have hlt0 : ∀ k, D.hv.ownBlock = some k → k < w.heap.size := hvlt
      have hbB : b < w.heap.size := hbw
      clear hbk hhv hvlt
      go_wp2_with fail
      clear c0 hu hv
      obtain ⟨B, hBe⟩ : ∃ B, B = w.heap.size := ⟨_, rfl⟩
      rw [← hBe] at hB1 hlt0 hbB ⊢
      have HB := Lib.hid hBe
      clear hBe
      have hbS := h1.blk
      apply wp_region_early [0, 1, 2, 3, 4, 5] [6, 7, 8] [9, 10, 11] (fun w' => NetBlk w' b D.hv D.fv N.next D.mv D.ev ∧ w'.heap[B]? = some (.cells #[.string p.f, .string p.t, .slice p.ba p.bn p.bc] 40))
      case hm => kernel_rfl
      case hB => kernel_rfl
      case hao => exact .cons rfl (.cons rfl (.cons rfl .nil))
      case hlo => exact .cons rfl (.cons rfl (.cons rfl .nil))
      case hS => exact ⟨hbS, hB1⟩
      case hr =>
        iterate 6
          apply Reads.cons1 rfl rfl
          · intro w' hS
            have s0 := hS.1.c0
            obtain ⟨p0, p1, p2, _, _, _, _⟩ := blk3 hS.2
            clear hS
            go_simp
            try rfl
        exact Reads.nil
      intro W hW
      have h2 : RepOk W b N D := by subst hW; exact h1.below ((Below.refl w1.heap.size w1).drew) (Nat.le_refl _)
      have hp2 : PIn W p m := by subst hW; exact hp1.drew
      have t1 : Turns D D b w W := by subst hW; exact Turns.of_below hb1.drew
      have hB2 : W.heap[B]? = some (.cells #[.string p.f, .string p.t, .slice p.ba p.bn p.bc] 40) := by subst hW; exact hB1
      clear hW h1 hp1 hB1 hb1 hb0 hbS
      unfold wpTail
      simp only [Act.put, List.setIfInBounds_toArray, List.set_cons_succ, List.set_cons_zero]
      go_wp2_with fail
      refine (clone_any p m W hp2 hbn).mono ?_
      rintro e W2 ⟨⟨qf, qt, qa, qn, qc⟩, rfl, hq, hqb, hbl⟩
      simp only [PV.val]
      have h3 := h2.below hbl (Nat.le_refl _)
      have hp3 := hp2.below hbl (Nat.le_refl _)
      have hB3 := (hbl.block B (lt_of_heap hB2)).trans hB2
      have t2 : Turns D D b w W2 := t1.below hbl
      have hqb2 : ∀ k, PV.blk ⟨qf, qt, qa, qn, qc⟩ = some k → W.heap.size ≤ k := hqb
      go_wp2_with fail
      refine ⟨⟨h3.blk, hB3⟩, ?_⟩
      unfold wpTail
      go_wp2_with fail
      refine ⟨⟨h3.blk.same (Below.heap_alloc _ _ _ h3.blk.lt), (Below.heap_alloc _ _ _ (lt_of_heap hB3)).trans hB3⟩, ?_⟩
      unfold wpTail
      refine wpList_push rfl _ _ 26 rfl T26 rfl h3.hist #[.string qf, .string qt, .slice qa qn qc] rfl (by simp [Value.oneCell']) rfl (by omega) ?_
      intro g cap W3 hown hk hat hlt
      have hk0 : Kp (fun k => k = b ∨ D.hv.ownBlock = some k) W2 W3 := hk.mono (fun _ _ h => .inr h)
      have hb3 : NetBlk W3 b D.hv D.fv N.next D.mv D.ev := h3.blk.kp hk (fun e => h3.hv31 e rfl)
      have hB4 := (hk.block B (lt_of_heap hB3) (fun e => by have := hlt0 _ e; omega)).trans hB3
      have hq3 : POwn W3 ⟨qf, qt, qa, qn, qc⟩ m := hq.kp hk (fun k hk e => by
        obtain ⟨c1, h1⟩ := hq.block hk
        exact ownsRow_ne h3.hist h1 (by decide) e)
      have hkb : Kp (fun k => k = b ∨ D.hv.ownBlock = some k) W2 W3 := hk0
      have hat2 : D.hv.ownBlock = some g ∨ W2.heap.size ≤ g := hat
      have hp4 : PIn W3 p m := hp3.kp hk0 (fun k h4 e => hpb k h4 (e.elim (fun e => .inl (.inl e)) (fun e => .inl (.inr (.inl e)))))
      refine wpList_nil ⟨⟨hb3, hB4⟩, ?_⟩
      unfold wpTail
      have d1 := hb3.fz 0
      have d2 := hb3.c0
      have d3 : b < W3.heap.size := hb3.lt
      go_wp2
      refine NoPanic.normal ?_
      obtain ⟨h5, t5⟩ := rep_pushHist (w' := W3.setCell ⟨b, 0, none⟩ (.slice (some ⟨g, 0, none⟩) (N.hist.length + 1) cap)) h2 (hb3.set0 _) (own_setCell hown (ownsRow_ne hown (k := b) hb3 (by decide)) _)
        (⟨hq3.f, hq3.t, hq3.n, own_setCell hq3.b (ownsRow_ne hq3.b (k := b) hb3 (by decide)) _⟩ : POwn _ ⟨qf, qt, qa, qn, qc⟩ m) hqb2 (hat2.imp (fun e => e) (fun e => Nat.le_trans hbl.size e))
        ((Kp.of_below hbl).trans (hkb.setCell (fun _ => .inl rfl) _) (fun _ _ e => e))
      have hp5 : PIn (W3.setCell ⟨b, 0, none⟩ (.slice (some ⟨g, 0, none⟩) (N.hist.length + 1) cap)) p m := hp4.kp ((Kp.refl (fun k => k = b) W3).setCell (fun _ => rfl) _) (fun k h4 e => hpb k h4 (.inl (.inl e)))
      have hB5 : (W3.setCell ⟨b, 0, none⟩ (.slice (some ⟨g, 0, none⟩) (N.hist.length + 1) cap)).heap[B]? = some (.cells #[.string p.f, .string p.t, .slice p.ba p.bn p.bc] 40) := (Below.heap_setCell _ _ _ _ (fun e => by simp at e; omega)).trans hB4
      have hhv5 : (({ D with hv := .slice (some ⟨g, 0, none⟩) (N.hist.length + 1) cap, hs := D.hs ++ [⟨qf, qt, qa, qn, qc⟩] } : ND)).hv = .slice (some ⟨g, 0, none⟩) (N.hist.length + 1) cap := rfl
      have t6 := t1.trans t5
      have hpb5 : ∀ k, p.blk = some k → k ≠ b := fun k h4 e => hpb k h4 (.inl (.inl e))
      revert h5 t6 hp5 hB5 hhv5
      generalize W3.setCell ⟨b, 0, none⟩ (.slice (some ⟨g, 0, none⟩) (N.hist.length + 1) cap) = W5
      generalize ({ D with hv := .slice (some ⟨g, 0, none⟩) (N.hist.length + 1) cap, hs := D.hs ++ [⟨qf, qt, qa, qn, qc⟩] } : ND) = D5
      intro h5 hp5 hB5 hhv5 t6
      have hb5 := h5.blk
      rw [hhv5] at hb5
      have e0 := hb5.c0
      have e1 := blk3 hB5
      have l1 : (N.hist.length : Int) + 1 ≤ 1024 := by omega
      clear hhv5 hb5 t5 hp4 hp3 hp2 h3 h2 t1 t2 hB2 hB3 hB4 hb3 hq hq3 hown hk hk0 hkb hat hat2 d1 d2 d3 hpb hbl hqb hqb2 hlt hL2
      go_wp2_with fail
      apply wp_region_early [0, 1, 2, 3, 4, 5, 6, 7] [] [8, 9] (fun w' => w'.cell? ⟨b, 0, none⟩ = some (.slice (some ⟨g, 0, none⟩) (N.hist.length + 1) cap) ∧ w'.cell? ⟨B, 0, none⟩ = some (.string p.f) ∧ w'.cell? ⟨B, 1, none⟩ = some (.string p.t) ∧ w'.cell? ⟨B, 2, none⟩ = some (.slice p.ba p.bn p.bc))
      case hm => kernel_rfl
      case hB => kernel_rfl
      case hao => exact .nil
      case hlo => exact .cons rfl (.cons rfl .nil)
      case hS => exact ⟨e0, e1.1, e1.2.1, e1.2.2.1⟩
      case hr =>
        iterate 8
          apply Reads.cons1 rfl rfl
          · intro w' hS
            obtain ⟨s0, s1, s2, s3⟩ := hS
            go_simp
            try rfl
        exact Reads.nil
      intro W hW
      have h7 : RepOk W b { N with hist := N.hist ++ [m] } D5 := by subst hW; exact h5.below ((Below.refl W5.heap.size W5).drew) (Nat.le_refl _)
      have hp7 : PIn W p m := by subst hW; exact hp5.drew
      have t7 : Turns D D5 b w W := by subst hW; exact t6.below (Below.refl _ _).drew
      clear hW h5 hp5 t6 hB5 e0 e1
      unfold wpTail
      simp only [Act.put, List.setIfInBounds_toArray, List.set_cons_succ, List.set_cons_zero]
      go_wp2_with fail
      refine (launch_rep b _ D5 p m N.hist.length W h7 (lim_hist hl hm (by omega)) hp7 hpb5 hbn).mono ?_
      rintro e w2 ⟨rfl, D8, h8, t8⟩
      go_wp2_with fail
      refine NoPanic.normal ?_
      go_wp2_with fail
      refine (note_rep b _ D8 1 N.next (-1) w2 h8 (lim_push (lim_hist hl hm (by omega)) ⟨hf.next, hf.ev⟩ hc hm (by omega) (by simp; omega) hL3)).mono ?_
      rintro e w3 ⟨rfl, D9, h9, t9⟩
      go_wp2_with fail
      show bodyPost _ _ _ .ret _ _
      go_ret2
      exact ⟨by rw [HF.out]; rfl, D9, by rw [HF.out]; exact h9, (t7.trans t8).trans t9⟩
end Go.Proofs.Ytnkcgalbaeppmaa
