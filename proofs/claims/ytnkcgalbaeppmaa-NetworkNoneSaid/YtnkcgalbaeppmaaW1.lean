/- Walks of the program's small functions: note, clone, launch, take, find. -/
import Derived.Test.YtnkcgalbaeppmaaProg
import Derived.Test.YtnkcgalbaeppmaaBase
import Derived.Test.YtnkcgalbaeppmaaShelf
import Derived.Test.YtnkcgalbaeppmaaEarly
import Derived.Deep.RegionHeld3
import Derived.BigQuiet
import Derived.Deep.QuietTactic
namespace Go.Proofs.Ytnkcgalbaeppmaa
open Go.RowKit

theorem Try.info61 : (Try.prog.info? 61).map (fun i => (i.zero, i.size, i.bytes)) = some (some (.agg #[.int .i64 0, .int .i64 0, .int .i64 0]), 3, 24) := by kernel_rfl
theorem Try.info40 : (Try.prog.info? 40).map (fun i => (i.zero, i.size, i.bytes)) = some (some (.agg #[.string ByteArray.empty, .string ByteArray.empty, .slice none 0 0]), 3, 56) := by kernel_rfl
theorem Try.info86 : (Try.prog.info? 86).map (fun i => (i.zero, i.size, i.bytes)) = some (some (.agg #[.string ByteArray.empty, .string ByteArray.empty, .slice none 0 0, .int .i64 0, .int .i64 0]), 5, 72) := by kernel_rfl
theorem Try.info5 : (Try.prog.info? 5).map (fun i => (i.zero, i.size, i.bytes)) = some (some (.int .u8 0), 1, 1) := by kernel_rfl

/-- The block of a network. -/
def NetBlk (w : World) (b : Nat) (hv fv : Value) (nx : Int) (mv ev : Value) : Prop := w.heap[b]? = some (.cells #[hv, fv, .int .i64 nx, mv, ev] 31 (0, 0))

section
variable {w : World} {b : Nat} {hv fv mv ev : Value} {nx : Int}
theorem NetBlk.c0 (h : NetBlk w b hv fv nx mv ev) : w.cell? ⟨b, 0, none⟩ = some hv := by unfold NetBlk at h; simp [World.cell?, h]
theorem NetBlk.c1 (h : NetBlk w b hv fv nx mv ev) : w.cell? ⟨b, 1, none⟩ = some fv := by unfold NetBlk at h; simp [World.cell?, h]
theorem NetBlk.c2 (h : NetBlk w b hv fv nx mv ev) : w.cell? ⟨b, 2, none⟩ = some (.int .i64 nx) := by unfold NetBlk at h; simp [World.cell?, h]
theorem NetBlk.c3 (h : NetBlk w b hv fv nx mv ev) : w.cell? ⟨b, 3, none⟩ = some mv := by unfold NetBlk at h; simp [World.cell?, h]
theorem NetBlk.c4 (h : NetBlk w b hv fv nx mv ev) : w.cell? ⟨b, 4, none⟩ = some ev := by unfold NetBlk at h; simp [World.cell?, h]
theorem NetBlk.fz (h : NetBlk w b hv fv nx mv ev) (i : Nat) : w.frozen? ⟨b, i, none⟩ = false := by unfold NetBlk at h; simp [World.frozen?, h]
theorem NetBlk.lt (h : NetBlk w b hv fv nx mv ev) : b < w.heap.size := lt_of_heap h
theorem NetBlk.same {w' : World} (h : NetBlk w b hv fv nx mv ev) (hs : w'.heap[b]? = w.heap[b]?) : NetBlk w' b hv fv nx mv ev := hs.trans h
theorem NetBlk.kp {w' : World} {S : Nat → Prop} (h : NetBlk w b hv fv nx mv ev) (hs : Kp S w w') (hn : ¬ S b) : NetBlk w' b hv fv nx mv ev := (hs.block b h.lt hn).trans h
theorem NetBlk.far (h : NetBlk w b hv fv nx mv ev) {p : Addr} (hp : b ≠ p.block) (u : Value) : NetBlk (w.setCell p u) b hv fv nx mv ev := h.same (Below.heap_setCell _ _ _ _ hp)
theorem NetBlk.set4 (h : NetBlk w b hv fv nx mv ev) (v : Value) : NetBlk (w.setCell ⟨b, 4, none⟩ v) b hv fv nx mv v := by
  unfold NetBlk at *; simp [World.setCell, Array.getElem?_modify, h]
theorem NetBlk.set3 (h : NetBlk w b hv fv nx mv ev) (v : Value) : NetBlk (w.setCell ⟨b, 3, none⟩ v) b hv fv nx v ev := by
  unfold NetBlk at *; simp [World.setCell, Array.getElem?_modify, h]
theorem NetBlk.set2 (h : NetBlk w b hv fv nx mv ev) (v : Int) : NetBlk (w.setCell ⟨b, 2, none⟩ (.int .i64 v)) b hv fv v mv ev := by
  unfold NetBlk at *; simp [World.setCell, Array.getElem?_modify, h]
theorem NetBlk.set1 (h : NetBlk w b hv fv nx mv ev) (v : Value) : NetBlk (w.setCell ⟨b, 1, none⟩ v) b hv v nx mv ev := by
  unfold NetBlk at *; simp [World.setCell, Array.getElem?_modify, h]
theorem NetBlk.set0 (h : NetBlk w b hv fv nx mv ev) (v : Value) : NetBlk (w.setCell ⟨b, 0, none⟩ v) b v fv nx mv ev := by
  unfold NetBlk at *; simp [World.setCell, Array.getElem?_modify, h]
end

theorem T29 : SlT Try.prog 29 61 (.agg #[.int .i64 0, .int .i64 0, .int .i64 0]) 3 24 := ⟨Try.underlying29, Try.info61, rfl, by decide, by decide⟩
theorem T26 : SlT Try.prog 26 40 (.agg #[.string ByteArray.empty, .string ByteArray.empty, .slice none 0 0]) 3 56 := ⟨Try.underlying26, Try.info40, rfl, by decide, by decide⟩
theorem T27 : SlT Try.prog 27 86 (.agg #[.string ByteArray.empty, .string ByteArray.empty, .slice none 0 0, .int .i64 0, .int .i64 0]) 5 72 := ⟨Try.underlying27, Try.info86, rfl, by decide, by decide⟩
theorem T38 : SlT Try.prog 38 5 (.int .u8 0) 1 1 := ⟨Try.underlying38, Try.info5, rfl, by decide, by decide⟩


def NotePost (b : Nat) (hv fv mv ev : Value) (nx : Int) (n : Nat) (xs : List Value) (w : World) (e : Ending) (w' : World) : Prop :=
  ∃ ev', e = .returned (.tuple #[]) ∧ NetBlk w' b hv fv nx mv ev' ∧ w'.ownsRow 0 61 3 ev' (n + 1) xs ∧ Kp (fun k => k = b ∨ ev.ownBlock = some k) w w' ∧ (∀ k, ev'.ownBlock = some k → ev.ownBlock = some k ∨ w.heap.size ≤ k)
set_option maxHeartbeats 400000 in
theorem note_any (b : Nat) (hv fv mv ev : Value) (nx kind id fr : Int) (n : Nat) (xs : List Value) (w : World) (hb : NetBlk w b hv fv nx mv ev) (he : w.ownsRow 0 61 3 ev n xs) (hn : n ≤ 100000) :
    Calls Try.prog 48 #[.pointer (some ⟨b, 0, none⟩), .int .i64 kind, .int .i64 id, .int .i64 fr] w (NotePost b hv fv mv ev nx n (xs ++ [.int .i64 kind, .int .i64 id, .int .i64 fr]) w) := by
  have c4 := hb.c4
  have lb := hb.lt
  have hne : ev.ownBlock ≠ some b := ownsRow_ne he hb (by decide)
  go_enter Try.func48, Try.ntmps48
  go_wp2_with (at_builtin; apply unwrap)
  refine wpList_push rfl _ _ 29 rfl T29 rfl he #[.int .i64 kind, .int .i64 id, .int .i64 fr] rfl (by simp [Value.oneCell']) rfl hn ?_
  intro g cap w1 hown hk hat hlt
  have hb1 : NetBlk w1 b hv fv nx mv ev := hb.kp hk hne
  have d4 := hb1.c4
  have f4 := hb1.fz 4
  have hkp : Kp (fun k => k = b ∨ ev.ownBlock = some k) w w1 := hk.mono fun _ _ h => .inr h
  clear he hb c4 hk hne
  go_wp2
  go_end0
  exact ⟨_, rfl, hb1.set4 _, own_setCell hown (ownsRow_ne hown (k := b) hb1 (by decide)) _, hkp.setCell (fun _ => .inl rfl) _, fun k hk => by cases hk; exact hat⟩

def BClonePost (n : Nat) (xs : List Int) (w : World) (e : Ending) (w' : World) : Prop :=
  ∃ a c, e = .returned (.slice a n c) ∧ w'.ownsRow w.heap.size 5 1 (.slice a n c) n (xs.map (Value.int .u8)) ∧ Below w.heap.size w w'
theorem bclone_any (p : Option Addr) (n c : Nat) (xs : List Int) (w : World) (hx : xs.length = n) (hn : n ≤ 100000) (hb : Lib.BytesIn w p n xs) :
    Calls Try.prog 65 #[.slice p n c] w (BClonePost n xs w) := by
  rcases p with _ | a
  · have h0 : n = 0 := by
      rcases Nat.eq_zero_or_pos n with h | h
      · exact h
      · obtain ⟨_, _, h1, _⟩ := hb h; cases h1
    subst h0
    obtain rfl : xs = [] := List.eq_nil_of_length_eq_zero hx
    refine (Try.bytes_Clone_nil 0 c w).mono ?_
    rintro e w' ⟨rfl, rfl⟩
    exact ⟨none, 0, rfl, World.ownsRow_nil _ _ _ _, Below.refl _ _⟩
  · refine (Try.bytes_Clone_at a n c xs w hx (by omega) (fun i hi => ?_)).mono ?_
    · obtain ⟨b, o, ha, hc⟩ := hb (by omega)
      cases ha
      rw [Go.WideShapes.add_plain]; exact hc i hi
    · rintro e w' ⟨v', rfl, hown, _, hbl⟩
      obtain ⟨a', cap, rfl, _⟩ := ownsRow_slice hown
      exact ⟨a', cap, rfl, hown, hbl⟩

def ClonePost (m : Pk) (w : World) (e : Ending) (w' : World) : Prop :=
  ∃ q : PV, e = .returned q.val ∧ POwn w' q m ∧ (∀ k, q.blk = some k → w.heap.size ≤ k) ∧ Below w.heap.size w w'
set_option maxHeartbeats 400000 in
theorem clone_any (p : PV) (m : Pk) (w : World) (hp : PIn w p m) (hm : p.bn ≤ 100000) :
    Calls Try.prog 39 #[p.val] w (ClonePost m w) := by
  obtain ⟨f, t, ba, bn, bc⟩ := p
  obtain ⟨rfl, rfl, hn, hb⟩ := hp
  simp only at hn hb hm
  simp only [PV.val]
  go_enter Try.func39, Try.ntmps39
  go_wp2_with fail
  have hb2 : Below w.heap.size w ((w.alloc (.cells #[.string m.fr, .string m.to, .slice ba bn bc] 40)).alloc (.cells #[.string { data := #[] }, .string { data := #[] }, .slice none 0 0] 40)) := ((Below.refl _ _).alloc (Nat.le_refl _) _).alloc (by simp) _
  refine (bclone_any ba bn bc m.bs _ hn hm (BytesIn.below hb hb2 (Nat.le_refl _))).mono ?_
  rintro e w' ⟨a, c, rfl, hown, hbl⟩
  have e0 := (hbl.block w.heap.size (by simp; omega)).trans (top1 w _ _)
  have e1 := (hbl.block (w.heap.size + 1) (by simp)).trans (top0 w _ _)
  obtain ⟨p0, p1, p2, q0, q1, q2, ql⟩ := blk3 e0
  obtain ⟨r0, r1, r2, s0, s1, s2, sl⟩ := blk3 e1
  have hb3 := hb2.trans (hbl.mono (by simp; omega))
  have hg : ∀ k, Value.ownBlock (.slice a bn c) = some k → w.heap.size + 2 ≤ k := fun k hk => by have := (hown.lt k hk).1; simp at this; omega
  have own0 := ownsRow_base (B := 0) hown (Nat.zero_le _)
  clear hbl hb2 e0 e1 hown hb
  go_wp2
  refine bodyPost_ret (v := PV.val ⟨m.fr, m.to, a, bn, c⟩) (by simp [results, Try.results39, PV.val, go_sem, p0, p1, p2, r0, r1, r2]) rfl ?_
  refine ⟨⟨m.fr, m.to, a, bn, c⟩, rfl, ⟨rfl, rfl, hn, ?_⟩, fun k hk => by have := hg k hk; omega, ?_⟩
  · have h0 : Value.ownBlock (.slice a bn c) ≠ some w.heap.size := fun e => by have := hg _ e; omega
    have h1 : Value.ownBlock (.slice a bn c) ≠ some (w.heap.size + 1) := fun e => by have := hg _ e; omega
    exact own_setCell (own_setCell (own_setCell (own_setCell own0 h0 _) h1 _) h1 _) h1 _
  · exact (((hb3.setCell (by simp) _).setCell (by simp) _).setCell (by simp) _).setCell (by simp) _
def LaunchPost (b : Nat) (hv fv mv ev : Value) (nx src : Int) (n : Nat) (xs : List Value) (m : Pk) (w : World) (e : Ending) (w' : World) : Prop :=
  ∃ (g cap : Nat) (q : PV), e = .returned (.int .i64 nx) ∧ NetBlk w' b hv (.slice (some ⟨g, 0, none⟩) (n + 1) cap) (nx + 1) mv ev ∧
    w'.ownsRow 0 86 5 (.slice (some ⟨g, 0, none⟩) (n + 1) cap) (n + 1) (xs ++ (q.cells ++ [.int .i64 nx, .int .i64 src])) ∧ POwn w' q m ∧ (∀ k, q.blk = some k → w.heap.size ≤ k) ∧
    (fv.ownBlock = some g ∨ w.heap.size ≤ g) ∧ Kp (fun k => k = b ∨ fv.ownBlock = some k) w w'

set_option maxHeartbeats 400000 in
set_option maxRecDepth 100000 in
theorem launch_any (b : Nat) (hv fv mv ev : Value) (nx src : Int) (n : Nat) (xs : List Value) (p : PV) (m : Pk) (w : World) (hb : NetBlk w b hv fv nx mv ev) (hf : w.ownsRow 0 86 5 fv n xs) (hn : n ≤ 100000)
    (hp : PIn w p m) (hpb : ∀ k, p.blk = some k → k ≠ b) (hm : p.bn ≤ 100000) (hx0 : 0 ≤ nx) (hx1 : nx ≤ 100000) :
    Calls Try.prog 47 #[.pointer (some ⟨b, 0, none⟩), p.val, .int .i64 src] w (LaunchPost b hv fv mv ev nx src n xs m w) := by
  have c2 := hb.c2
  have f2 := hb.fz 2
  have lb := hb.lt
  have hne : fv.ownBlock ≠ some b := ownsRow_ne hf hb (by decide)
  simp only [PV.val]
  go_enter Try.func47, Try.ntmps47
  go_wp2_with fail
  generalize hW : (w.setCell ⟨b, 2, none⟩ (.int .i64 (nx + 1))).alloc (.cells #[.string p.f, .string p.t, .slice p.ba p.bn p.bc] 40) = W
  have hb1 : NetBlk W b hv fv (nx + 1) mv ev := by subst hW; exact (hb.set2 _).same (Below.heap_alloc _ _ _ (by simpa [World.setCell] using lb))
  have hf1 : W.ownsRow 0 86 5 fv n xs := by subst hW; exact (own_setCell hf hne _).alloc _
  have hB1 : W.heap[w.heap.size]? = some (.cells #[.string p.f, .string p.t, .slice p.ba p.bn p.bc] 40) := by
    subst hW; have := heap_alloc_new (w.setCell ⟨b, 2, none⟩ (.int .i64 (nx + 1))) (.cells #[.string p.f, .string p.t, .slice p.ba p.bn p.bc] 40); simpa [World.setCell] using this
  have hk1' : Kp (fun k => k = b) w W := by subst hW; exact ((Kp.refl (fun k => k = b) w).setCell (fun _ => rfl) _).alloc _
  have hk1 : Kp (fun k => k = b ∨ fv.ownBlock = some k) w W := hk1'.mono (fun _ _ h => .inl h)
  have hd1 : PIn W p m := hp.kp hk1' hpb
  obtain ⟨B, hBe⟩ : ∃ B, B = w.heap.size := ⟨_, rfl⟩
  rw [← hBe] at hB1 lb ⊢
  have HB := Lib.hid hBe
  clear c2 f2 hW hb hf hk1' hp hBe
  apply wp_region_early [0, 1, 2, 3, 4, 5, 7, 8] [6, 9, 10, 11] [12, 13, 14] (fun w' => NetBlk w' b hv fv (nx + 1) mv ev ∧ w'.heap[B]? = some (.cells #[.string p.f, .string p.t, .slice p.ba p.bn p.bc] 40))
  case hm => kernel_rfl
  case hB => kernel_rfl
  case hao => exact .cons rfl (.cons rfl (.cons rfl (.cons rfl .nil)))
  case hlo => exact .cons rfl (.cons rfl (.cons rfl .nil))
  case hS => exact ⟨hb1, hB1⟩
  case hr =>
    iterate 8
      apply Reads.cons1 rfl rfl
      · intro w' hS
        have s1 := hS.1.c1
        obtain ⟨p0, p1, p2, _, _, _, _⟩ := blk3 hS.2
        clear hS
        go_simp
        try rfl
    exact Reads.nil
  intro W1 hW1
  replace hd1 : PIn W1 p m := hW1 ▸ hd1.drew
  replace hb1 : NetBlk W1 b hv fv (nx + 1) mv ev := hW1 ▸ hb1
  replace hf1 : W1.ownsRow 0 86 5 fv n xs := hW1 ▸ hf1
  replace hk1 : Kp (fun k => k = b ∨ fv.ownBlock = some k) w W1 := hW1 ▸ hk1.drew
  replace hB1 : W1.heap[B]? = some (.cells #[.string p.f, .string p.t, .slice p.ba p.bn p.bc] 40) := hW1 ▸ hB1
  clear hW1
  unfold wpTail
  go_wp2_with fail
  refine (clone_any p m W1 hd1 hm).mono ?_
  rintro e W2 ⟨⟨qf, qt, qa, qn, qc⟩, rfl, hq, hqb, hbl⟩
  simp only [PV.val]
  have hb2 : NetBlk W2 b hv fv (nx + 1) mv ev := hb1.same (hbl.block b hb1.lt)
  have hB2 := (hbl.block B (lt_of_heap hB1)).trans hB1
  have hf2 := ownsRow_below hf1 hbl (Nat.le_refl _)
  have hk2 := hk1.below hbl hk1.size
  have hqb2 : ∀ k, PV.blk ⟨qf, qt, qa, qn, qc⟩ = some k → w.heap.size ≤ k := fun k hk => Nat.le_trans hk1.size (hqb k hk)
  clear hb1 hB1 hf1 hk1 hd1 hbl hqb
  go_wp2_with fail
  refine ⟨⟨hb2, hB2⟩, ?_⟩
  unfold wpTail
  go_wp2_with fail
  refine ⟨⟨hb2, hB2⟩, ?_⟩
  unfold wpTail
  go_wp2_with fail
  refine ⟨⟨hb2.same (Below.heap_alloc _ _ _ hb2.lt), (Below.heap_alloc _ _ _ (lt_of_heap hB2)).trans hB2⟩, ?_⟩
  unfold wpTail
  refine wpList_push rfl _ _ 27 rfl T27 rfl hf2 #[.string qf, .string qt, .slice qa qn qc, .int .i64 nx, .int .i64 src] rfl (by simp [Value.oneCell']) rfl hn ?_
  intro g cap W3 hown hk hat hlt
  have hb3 : NetBlk W3 b hv fv (nx + 1) mv ev := hb2.kp hk hne
  have hB3 : W3.heap[B]? = _ := (hk.block B (lt_of_heap hB2) (ownsRow_ne hf2 hB2 (by decide))).trans hB2
  have hq3 : POwn W3 ⟨qf, qt, qa, qn, qc⟩ m := hq.kp hk (fun k hk e => by
    obtain ⟨c1, h1⟩ := ownsRow_block hq.b hk
    exact ownsRow_ne hf2 h1 (by decide) e)
  have hk3 : Kp (fun k => k = b ∨ fv.ownBlock = some k) w W3 := hk2.trans hk (fun k _ h => .inr h)
  refine wpList_nil ⟨⟨hb3, hB3⟩, ?_⟩
  unfold wpTail
  have d1 := hb3.fz 1
  have d2 := hb3.c1
  have d3 : b < W3.heap.size := hb3.lt
  have hat' : fv.ownBlock = some g ∨ w.heap.size ≤ g := hat.imp id (fun h => Nat.le_trans hk2.size h)
  clear hq hb2 hB2 hf2 hk hk2 hat hB3
  go_wp2
  refine NoPanic.normal ?_
  go_wp2
  go_ret
  exact ⟨g, cap, ⟨qf, qt, qa, qn, qc⟩, rfl, hb3.set1 _, own_setCell hown (ownsRow_ne hown (k := b) hb3 (by decide)) _, ⟨hq3.f, hq3.t, hq3.n, own_setCell hq3.b (ownsRow_ne hq3.b (k := b) hb3 (by decide)) _⟩, hqb2, hat', hk3.setCell (fun _ => .inl rfl) _⟩

end Go.Proofs.Ytnkcgalbaeppmaa
