/- Copy. -/
import Derived.Test.YtnkcgalbaeppmaaCp1
namespace Go.Proofs.Ytnkcgalbaeppmaa
open Go.RowKit
def CopyPost (N : NetM) (D : ND) (w : World) (e : Ending) (w' : World) : Prop :=
  ∃ (o : Nat) (D' : ND), e = .returned (.pointer (some ⟨o, 0, none⟩)) ∧ RepOk w' o N D' ∧ (∀ k, wr D' o k → w.heap.size ≤ k) ∧ D'.hs = D.hs ∧ Below w.heap.size w w'
theorem copy_nil (w : World) : Calls Try.prog 29 #[.pointer none] w fun e w' => e = .returned (.pointer none) ∧ w' = w := by
  go_enter Try.func29, Try.ntmps29
  go_wp2_with fail
  go_ret
  exact ⟨rfl, rfl⟩
/-- What of a copy is laid ahead of its packets in flight. -/
structure CpAt (w : World) (B : Nat) (N : NetM) (D : ND) (hv mv eV : Value) : Prop where
  hist : w.ownsRow 0 40 3 hv N.hist.length (D.hs.flatMap PV.cells)
  ev : w.ownsRow 0 61 3 eV N.ev.length (N.ev.flatMap EvM.cells)
  map : MapAt w mv N.blk
  bh : ∀ k, Value.ownBlock hv = some k → B ≤ k
  be : ∀ k, eV.ownBlock = some k → B ≤ k
  bm : ∀ k, mapBlk mv = some k → B ≤ k
theorem CpAt.kp {w w' : World} {B : Nat} {N : NetM} {D : ND} {hv mv ev : Value} (h : CpAt w B N D hv mv ev) {S : Nat → Prop} (hk : Kp S w w') (hS : ∀ k, S k → ∃ cur T, w.heap[k]? = some (.cells cur T (0, 0)) ∧ T ∈ [31, 86]) : CpAt w' B N D hv mv ev := by
  have hA : ∀ k cur T, w.heap[k]? = some (.cells cur T (0, 0)) → T ∉ [31, 86] → ¬ S k := fun k cur T hk hT hs => by
    obtain ⟨c, T', h1, h2⟩ := hS k hs
    exact hT (cells_inj hk h1 ▸ h2)
  exact ⟨ownsRow_kp h.hist hk (fun k h1 => by obtain ⟨c, hc⟩ := ownsRow_block h.hist h1; exact hA k c 40 hc (by decide)),
    ownsRow_kp h.ev hk (fun k h1 => by obtain ⟨c, hc⟩ := ownsRow_block h.ev h1; exact hA k c 61 hc (by decide)),
    h.map.same fun k h1 => hk.block k (h.map.lt k h1) (fun hs => by obtain ⟨c, T', h2, _⟩ := hS k hs; exact h.map.ne h2 h1), h.bh, h.be, h.bm⟩

set_option maxHeartbeats 1600000 in
set_option maxRecDepth 100000 in
theorem copy_any (w : World) (b : Nat) (N : NetM) (D : ND) (h : RepOk w b N D) (hl : N.lim) : Calls Try.prog 29 #[.pointer (some ⟨b, 0, none⟩)] w (CopyPost N D w) := by
  obtain ⟨fa, fc, hfv, _⟩ := ownsRow_slice h.fl
  have lb := h.blk.lt
  have hN := h.blk
  rw [hfv] at hN
  go_enter Try.func29, Try.ntmps29
  go_wp2_with fail
  apply wp_region_early [0, 1, 2, 3, 4, 5, 6, 7, 9, 10, 11, 12] [8, 13] [14, 15, 16] (fun w' => NetBlk w' b D.hv (.slice fa N.fl.length fc) N.next D.mv D.ev)
  case hm => kernel_rfl
  case hB => kernel_rfl
  case hao => exact .cons rfl (.cons rfl .nil)
  case hlo => exact .cons rfl (.cons rfl (.cons rfl .nil))
  case hS => exact hN
  case hr =>
    iterate 12
      apply Reads.cons1 rfl rfl
      · intro w' hS
        have s2 := hS.c2
        have s3 := hS.c3
        have s4 := hS.c4
        clear hS
        go_simp
        try rfl
    exact Reads.nil
  intro W hW
  have hb0 : Below w.heap.size w W := by subst hW; exact (Below.refl _ w).drew
  have h0 := h.below hb0 (Nat.le_refl _)
  clear hW
  have hN0 := h0.blk
  rw [hfv] at hN0
  unfold wpTail
  simp only [Act.put, List.setIfInBounds_toArray, List.set_cons_succ, List.set_cons_zero]
  go_wp2_with fail
  refine (mclone_any D.mv N.blk W h0.map).mono ?_
  rintro e w1 ⟨mr, rfl, hm1, bm1, hbl1⟩
  have hN1 := hN0.same (hbl1.block b hN0.lt)
  have hb1 := hb0.trans (hbl1.mono hb0.size)
  have bm : ∀ k, mapBlk (.map mr) = some k → w.heap.size ≤ k := fun k hk => Nat.le_trans hb0.size (bm1 k hk)
  go_wp2_with fail
  refine ⟨hN1, ?_⟩
  unfold wpTail
  go_wp2_with fail
  have hev1 := (h.below hb1 (Nat.le_refl _)).ev
  refine (sclone_ev D.ev _ _ w1 hev1 (by have := hl.ev; omega) ev_one).mono ?_
  rintro e w2 ⟨ev', rfl, hev2, hbl2⟩
  have hN2 := hN1.same (hbl2.block b hN1.lt)
  have hb2 := hb1.trans (hbl2.mono hb1.size)
  have hm2 : MapAt w2 (.map mr) N.blk := hm1.same fun k hk => hbl2.block k (hm1.lt k hk)
  obtain ⟨ea, ec, rfl, _⟩ := ownsRow_slice hev2
  have be : ∀ k, (Value.slice ea N.ev.length ec).ownBlock = some k → w.heap.size ≤ k := fun k hk => Nat.le_trans hb1.size ((hev2.lt k hk).1)
  go_wp2_with fail
  refine ⟨hN2, ?_⟩
  unfold wpTail
  go_wp2_with fail
  refine NoPanic.normal ?_
  have hO3 : NetBlk (w2.alloc (.cells #[.slice none 0 0, .slice none 0 0, .int .i64 N.next, .map mr, .slice ea N.ev.length ec] 31)) w2.heap.size (.slice none 0 0) (.slice none 0 0) N.next (.map mr) (.slice ea N.ev.length ec) := heap_alloc_new _ _
  have hb3 : Below w.heap.size w (w2.alloc (.cells #[.slice none 0 0, .slice none 0 0, .int .i64 N.next, .map mr, .slice ea N.ev.length ec] 31)) := hb2.alloc hb2.size _
  have hN3 := hN2.same (Below.heap_alloc w2 (.cells #[.slice none 0 0, .slice none 0 0, .int .i64 N.next, .map mr, .slice ea N.ev.length ec] 31) b hN2.lt)
  have hm3 := hm2.same (fun k hk => Below.heap_alloc w2 (.cells #[.slice none 0 0, .slice none 0 0, .int .i64 N.next, .map mr, .slice ea N.ev.length ec] 31) k (hm2.lt k hk))
  have hev3 := (ownsRow_base (B := 0) hev2 (Nat.zero_le _)).alloc (.cells #[.slice none 0 0, .slice none 0 0, .int .i64 N.next, .map mr, .slice ea N.ev.length ec] 31)
  have hwo : w.heap.size ≤ w2.heap.size := hb2.size
  have cN0 := hN3.c0
  clear hm1 bm1 hbl1 hN hb0 h0 hN0 hN1 hb1 hev1 hev2 hbl2 hN2 hb2 hm2
  go_wp2_with fail
  generalize w2.alloc (.cells #[.slice none 0 0, .slice none 0 0, .int .i64 N.next, .map mr, .slice ea N.ev.length ec] 31) = w3 at hO3 hb3 hN3 hm3 hev3 cN0 ⊢
  refine (sclone_pk D.hv _ _ w3 (h.below hb3 (Nat.le_refl _)).hist (by have := hl.hist; omega) pk_one).mono ?_
  rintro e w4 ⟨hv', rfl, hh4, hbl4⟩
  have hO4 := hO3.same (hbl4.block _ hO3.lt)
  have hN4 := hN3.same (hbl4.block _ hN3.lt)
  have hb4 := hb3.trans (hbl4.mono hb3.size)
  have hm4 : MapAt w4 (.map mr) N.blk := hm3.same fun k hk => hbl4.block k (hm3.lt k hk)
  have hev4 := ownsRow_below hev3 hbl4 (Nat.le_refl _)
  obtain ⟨ha, hc, rfl, _⟩ := ownsRow_slice hh4
  have bh : ∀ k, (Value.slice ha N.hist.length hc).ownBlock = some k → w.heap.size ≤ k := fun k hk => Nat.le_trans hb3.size ((hh4.lt k hk).1)
  have d0 := hO4.c0
  have df := hO4.fz 0
  have dl := hO4.lt
  have c1 := hN4.c1
  have lb4 := hN4.lt
  have hne : b ≠ w2.heap.size := fun e => by omega
  clear hO3 hN3 hb3 hm3 hev3 hbl4 cN0
  go_wp2_with fail
  have hO5 : NetBlk (w4.setCell ⟨w2.heap.size, 0, none⟩ (.slice ha N.hist.length hc)) w2.heap.size (.slice ha N.hist.length hc) (.slice none 0 0) N.next (.map mr) (.slice ea N.ev.length ec) := hO4.set0 _
  have hC4 : CpAt w4 w.heap.size N D (.slice ha N.hist.length hc) (.map mr) (.slice ea N.ev.length ec) := ⟨ownsRow_base hh4 (Nat.zero_le _), hev4, hm4, bh, be, bm⟩
  have hC5 : CpAt (w4.setCell ⟨w2.heap.size, 0, none⟩ (.slice ha N.hist.length hc)) w.heap.size N D (.slice ha N.hist.length hc) (.map mr) (.slice ea N.ev.length ec) :=
    hC4.kp ((Kp.refl (fun k => k = w2.heap.size) w4).setCell (fun _ => rfl) _) (fun k hk => by subst hk; exact ⟨_, 31, hO4, by simp⟩)
  have hb5 : Below w.heap.size w (w4.setCell ⟨w2.heap.size, 0, none⟩ (.slice ha N.hist.length hc)) := hb4.setCell hwo _
  clear hC4 hO4 hN4 hb4 hm4 hev4 hh4 bh be bm d0 df dl c1 lb4 hne
  generalize w4.setCell ⟨w2.heap.size, 0, none⟩ (.slice ha N.hist.length hc) = w5 at hO5 hC5 hb5 ⊢
  generalize w2.heap.size = O at hwo hO5 hC5 hb5 ⊢
  have hfl := hl.fl
  go_loopw [5, 37] (fun _ i wr => ∃ (k : Nat) (v : Value) (qs : List FV), k ≤ N.fl.length ∧ i = .int .i64 k ∧ NetBlk wr O (.slice ha N.hist.length hc) v N.next (.map mr) (.slice ea N.ev.length ec) ∧ FlAt wr w.heap.size v (N.fl.take k) qs ∧ CpAt wr w.heap.size N D (.slice ha N.hist.length hc) (.map mr) (.slice ea N.ev.length ec) ∧ Below w.heap.size w wr) (fun _ i _ => N.fl.length - (intOf i).toNat)
  case atStart => exact ⟨0, _, [], Nat.zero_le _, rfl, hO5, FlAt.nil _ _, hC5, hb5⟩
  case round =>
    obtain ⟨k, v, qs, hk, rfl, hO, hfa, hC, hb⟩ := hrel
    by_cases hlt : k < N.fl.length
    · obtain ⟨m, hm⟩ : ∃ m, N.fl[k]? = some m := ⟨_, List.getElem?_eq_getElem hlt⟩
      obtain ⟨x, hx, hxm⟩ := h.flp.at hm
      obtain ⟨g, cap, hg, _, hlg⟩ := h.fl.form (by omega)
      rw [hfv] at hg
      injection hg with hg1 _ hg2
      subst hg1 hg2
      have hown := h.fl
      rw [hfv] at hown
      obtain ⟨d0, d1, d2, d3, d4⟩ := fly_cells (ownsRow_below hown hb (Nat.le_refl _)) hx
      have hok := hl.flok m (List.mem_of_getElem? hm)
      have hpi : PIn wr x.p m.pk := (hxm.p.below hb (Nat.le_refl _)).pin
      have lO := hO.lt
      have i0 : (0 : Int) ≤ (k : Int) := by omega
      have i1 : (k : Int) < (N.fl.length : Int) := by omega
      have i2 : (N.fl.length : Int) ≤ 64 := by omega
      have lg2 : g < wr.heap.size := by have := hb.size; omega
      have HT := Lib.hid (show N.fl.take (k + 1) = N.fl.take k ++ [m] by rw [List.take_add_one, hm]; rfl)
      have HL := Lib.hid (show (N.fl.take k).length = k by simp; omega)
      have hxi := hxm.id
      have hxs := hxm.src
      clear hm hx hxm hown hfv h hO5 hC5 hb5
      go_wp2_with fail
      have hkA := (Kp.refl (fun _ => False) wr).alloc (.cells #[.string x.p.f, .string x.p.t, .slice x.p.ba x.p.bn x.p.bc, .int .i64 m.id, .int .i64 m.src] 86)
      have bA := (Below.refl wr.heap.size wr).alloc (Nat.le_refl _) (.cells #[.string x.p.f, .string x.p.t, .slice x.p.ba x.p.bn x.p.bc, .int .i64 m.id, .int .i64 m.src] 86)
      have eA := heap_alloc_new wr (.cells #[.string x.p.f, .string x.p.t, .slice x.p.ba x.p.bn x.p.bc, .int .i64 m.id, .int .i64 m.src] 86)
      have hpA := hpi.below bA (Nat.le_refl _)
      have fA := hfa.below bA (Nat.le_refl _)
      have hOA := hO.same (bA.block O lO)
      have hCA := hC.kp hkA (fun k hk => hk.elim)
      have hbA := hb.trans (bA.mono hb.size)
      have hvl : ∀ k, (v.ownBlock = some k ∨ ∃ x ∈ qs, x.p.blk = some k) → k < wr.heap.size := fun k hk => hfa.lt hk
      have hBsz := hb.size
      clear d0 d1 d2 d3 d4 hkA bA hpi hO hfa hC hb
      refine (clone_any x.p m.pk _ hpA (by have := hpA.n; have := hok.bs; omega)).mono ?_
      rintro e w6 ⟨⟨qf, qt, qa, qn, qc⟩, rfl, hq, hqb, hbl⟩
      simp only [PV.val]
      have hqb' : ∀ k, PV.blk ⟨qf, qt, qa, qn, qc⟩ = some k → wr.heap.size + 1 ≤ k := fun k hk => by have := hqb k hk; simpa using this
      have e6 := (hbl.block _ (lt_of_heap eA)).trans eA
      have f6 := fA.below hbl (Nat.le_refl _)
      have hO6 := hOA.same (hbl.block O hOA.lt)
      have hC6 := hCA.kp (Kp.of_below (S := fun _ => False) hbl) (fun k hk => hk.elim)
      have hb6 := hbA.trans (hbl.mono hbA.size)
      obtain ⟨p0, p1, p2, p3, p4, pf, pl⟩ := blk5 e6
      clear eA hpA fA hOA hCA hbA hqb hbl
      go_wp2_with fail
      generalize hW7 : ((w6.setCell ⟨wr.heap.size, 0, none⟩ (.string qf)).setCell ⟨wr.heap.size, 1, none⟩ (.string qt)).setCell ⟨wr.heap.size, 2, none⟩ (.slice qa qn qc) = w7
      have hk7 : Kp (fun k => k = wr.heap.size) w6 w7 := by subst hW7; exact (((Kp.refl (fun k => k = wr.heap.size) w6).setCell (fun _ => rfl) _).setCell (fun _ => rfl) _).setCell (fun _ => rfl) _
      have hb7 : Below w.heap.size w w7 := by subst hW7; exact ((hb6.setCell hBsz _).setCell hBsz _).setCell hBsz _
      have e7 : w7.heap[wr.heap.size]? = some (.cells #[.string qf, .string qt, .slice qa qn qc, .int .i64 m.id, .int .i64 m.src] 86) := by subst hW7; simp [World.setCell, Array.getElem?_modify, e6]
      have f7 : FlAt w7 w.heap.size v (N.fl.take k) qs := f6.same fun k hk => hk7.block k (f6.lt hk) (by have := hvl k hk; omega)
      have q7 := hq.kp hk7 (fun k hk => by have := hqb' k hk; omega)
      have hO7 := hO6.same (hk7.block O hO6.lt (by omega))
      have hC7 := hC6.kp hk7 (fun k hk => by subst hk; exact ⟨_, 86, e6, by simp⟩)
      clear p0 p1 p2 p3 p4 pf pl hW7 e6 f6 hO6 hC6 hb6 hk7 hq
      apply wp_region_early [0, 1, 2, 3, 4, 5] [6, 7] [8, 9, 10] (fun w' => NetBlk w' O (.slice ha N.hist.length hc) v N.next (.map mr) (.slice ea N.ev.length ec) ∧ w'.heap[wr.heap.size]? = some (.cells #[.string qf, .string qt, .slice qa qn qc, .int .i64 m.id, .int .i64 m.src] 86))
      case hm => kernel_rfl
      case hB => kernel_rfl
      case hao => exact .cons rfl (.cons rfl .nil)
      case hlo => exact .cons rfl (.cons rfl (.cons rfl .nil))
      case hS => exact ⟨hO7, e7⟩
      case hr =>
        iterate 6
          apply Reads.cons1 rfl rfl
          · intro w' hS
            have s1 := hS.1.c1
            obtain ⟨p0, p1, p2, p3, p4, _, _⟩ := blk5 hS.2
            clear hS
            go_simp
            try rfl
        exact Reads.nil
      intro W8 hW8
      have f8 : FlAt W8 w.heap.size v (N.fl.take k) qs := by subst hW8; exact f7.same fun k hk => rfl
      have q8 : POwn W8 ⟨qf, qt, qa, qn, qc⟩ m.pk := by subst hW8; exact q7.drew
      have hO8 : NetBlk W8 O (.slice ha N.hist.length hc) v N.next (.map mr) (.slice ea N.ev.length ec) := by subst hW8; exact hO7
      have hC8 : CpAt W8 w.heap.size N D (.slice ha N.hist.length hc) (.map mr) (.slice ea N.ev.length ec) := by subst hW8; exact hC7.kp ((Kp.refl (fun _ => False) w7).drew) (fun k hk => hk.elim)
      have e8 : W8.heap[wr.heap.size]? = some (.cells #[.string qf, .string qt, .slice qa qn qc, .int .i64 m.id, .int .i64 m.src] 86) := by subst hW8; exact e7
      have hb8 : Below w.heap.size w W8 := by subst hW8; exact hb7.drew
      clear hW8 f7 q7 hO7 hC7 e7 hb7
      unfold wpTail
      simp only [Act.put, List.setIfInBounds_toArray, List.set_cons_succ, List.set_cons_zero]
      go_wp2_with fail
      refine ⟨⟨hO8.same (Below.heap_alloc _ _ _ hO8.lt), (Below.heap_alloc _ _ _ (lt_of_heap e8)).trans e8⟩, ?_⟩
      unfold wpTail
      refine wpList_push rfl _ _ 27 rfl T27 rfl f8.own #[.string qf, .string qt, .slice qa qn qc, .int .i64 m.id, .int .i64 m.src] rfl (by simp [Value.oneCell']) rfl (by have := HL.out; omega) ?_
      intro g' cap' w9 hown hk9 hat hlt9
      have hne := ownsRow_ne f8.own hO8 (by decide)
      have hO9 := hO8.same (hk9.block O hO8.lt hne)
      have e9 := (hk9.block wr.heap.size (lt_of_heap e8) (fun e => by have := hvl _ (.inl e); omega)).trans e8
      have hC9 := hC8.kp hk9 (fun k hk => by obtain ⟨c, hc⟩ := ownsRow_block f8.own hk; exact ⟨c, 86, hc, by simp⟩)
      have hg9 : w.heap.size ≤ g' := hat.elim (fun e => f8.vb _ e) (fun e => Nat.le_trans hb8.size e)
      have f9 := FlAt.push (W0 := wr.heap.size) (m := m) f8 q8 (fun k hk => by have := hqb' k hk; omega) (fun x hx k hk => hvl k (.inr ⟨x, hx, hk⟩)) hBsz hown hk9 (fun k hk => by cases hk; exact hg9)
      have hb9 : Below w.heap.size w w9 := Below.kp hb8 hk9 (Nat.le_refl _) (fun k hk => f8.vb k hk)
      rw [HL.out] at f9 ⊢
      have t1 := hO9.c1
      have t2 := hO9.fz 1
      have t3 := hO9.lt
      refine wpList_nil ⟨⟨hO9, e9⟩, ?_⟩
      unfold wpTail
      clear f8 q8 hO8 hC8 e8 hb8 hne hown hk9 hat e9
      go_wp2_with fail
      refine NoPanic.normal ?_
      go_wp2_with fail
      go_roundw
      case rel =>
        refine ⟨k + 1, _, qs ++ [⟨⟨qf, qt, qa, qn, qc⟩, m.id, m.src⟩], by omega, by go_num, hO9.set1 _, ?_, ?_, hb9.setCell hwo _⟩
        · rw [HT.out]
          exact f9.far hO9 (by decide) (by decide) _ _
        · exact hC9.kp ((Kp.refl (fun k => k = O) w9).setCell (fun _ => rfl) _) (fun k hk => by subst hk; exact ⟨_, 31, hO9, by simp⟩)
      case measure => simp [intOf]; omega
    · obtain rfl : k = N.fl.length := by omega
      go_wp2_with fail
      go_ret
      rw [List.take_of_length_le (Nat.le_refl _)] at hfa
      refine ⟨O, ⟨.slice ha N.hist.length hc, v, .map mr, .slice ea N.ev.length ec, D.hs, qs⟩, rfl, ⟨hO, hC.hist, h.histp.mono fun x y hx hm => hm.below hb (Nat.le_refl _), hfa.own, hfa.p, hC.ev, hC.map, hfa.apart, ?_⟩, ?_, rfl, hb⟩
      · intro x hx p hp k h1 h2
        obtain ⟨m', _, hm'⟩ := h.histp.left hp
        have h3 := hm'.lt h2
        have h4 := hfa.qb x hx k h1
        omega
      · rintro k (rfl | h1 | h1 | h1 | h1 | ⟨x, hx, h1⟩)
        · exact hwo
        · exact hC.bh k h1
        · exact hfa.vb k h1
        · exact hC.be k h1
        · exact hC.bm k h1
        · exact hfa.qb x hx k h1
end Go.Proofs.Ytnkcgalbaeppmaa
