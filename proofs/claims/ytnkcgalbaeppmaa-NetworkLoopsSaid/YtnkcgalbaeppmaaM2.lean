/- Texts joined into one: W1 W2 W3 W4 W5. -/
import Derived.Test.YtnkcgalbaeppmaaProg
import Derived.Test.YtnkcgalbaeppmaaM1
import Derived.Deep.RegionHeld3
import Derived.BigQuiet
import Derived.Deep.QuietTactic
/- Walks of the program's small functions: note, clone, launch, take, find. -/
namespace Go.Proofs.Ytnkcgalbaeppmaa
open Go.RowKit

theorem Try.info61 : (Try.prog.info? 61).map (fun i => (i.zero, i.size, i.bytes)) = some (some (.agg #[.int .i64 0, .int .i64 0, .int .i64 0]), 3, 24) := by kernel_rfl
theorem Try.info40 : (Try.prog.info? 40).map (fun i => (i.zero, i.size, i.bytes)) = some (some (.agg #[.string ByteArray.empty, .string ByteArray.empty, .slice none 0 0]), 3, 56) := by kernel_rfl
theorem Try.info86 : (Try.prog.info? 86).map (fun i => (i.zero, i.size, i.bytes)) = some (some (.agg #[.string ByteArray.empty, .string ByteArray.empty, .slice none 0 0, .int .i64 0, .int .i64 0]), 5, 72) := by kernel_rfl
theorem Try.info5 : (Try.prog.info? 5).map (fun i => (i.zero, i.size, i.bytes)) = some (some (.int .u8 0), 1, 1) := by kernel_rfl

/-- The block of a network. -/
def NetBlk (w : World) (b : Nat) (hv fv : Value) (nx : Int) (mv ev : Value) : Prop := w.heap[b]? = some (.cells #[hv, fv, .int .i64 nx, mv, ev] 31 (0, 0))

section
variable {w : World} {b : Nat} {hv fv mv ev : Value} {nx : Int}
theorem NetBlk.c0 (h : NetBlk w b hv fv nx mv ev) : w.cell? ⟨b, 0, none⟩ = some hv := by unfold NetBlk at h; simp [World.cell?, h]
theorem NetBlk.c1 (h : NetBlk w b hv fv nx mv ev) : w.cell? ⟨b, 1, none⟩ = some fv := by unfold NetBlk at h; simp [World.cell?, h]
theorem NetBlk.c2 (h : NetBlk w b hv fv nx mv ev) : w.cell? ⟨b, 2, none⟩ = some (.int .i64 nx) := by unfold NetBlk at h; simp [World.cell?, h]
theorem NetBlk.c3 (h : NetBlk w b hv fv nx mv ev) : w.cell? ⟨b, 3, none⟩ = some mv := by unfold NetBlk at h; simp [World.cell?, h]
theorem NetBlk.c4 (h : NetBlk w b hv fv nx mv ev) : w.cell? ⟨b, 4, none⟩ = some ev := by unfold NetBlk at h; simp [World.cell?, h]
theorem NetBlk.fz (h : NetBlk w b hv fv nx mv ev) (i : Nat) : w.frozen? ⟨b, i, none⟩ = false := by unfold NetBlk at h; simp [World.frozen?, h]
theorem NetBlk.lt (h : NetBlk w b hv fv nx mv ev) : b < w.heap.size := lt_of_heap h
theorem NetBlk.same {w' : World} (h : NetBlk w b hv fv nx mv ev) (hs : w'.heap[b]? = w.heap[b]?) : NetBlk w' b hv fv nx mv ev := hs.trans h
theorem NetBlk.kp {w' : World} {S : Nat → Prop} (h : NetBlk w b hv fv nx mv ev) (hs : Kp S w w') (hn : ¬ S b) : NetBlk w' b hv fv nx mv ev := (hs.block b h.lt hn).trans h
theorem NetBlk.far (h : NetBlk w b hv fv nx mv ev) {p : Addr} (hp : b ≠ p.block) (u : Value) : NetBlk (w.setCell p u) b hv fv nx mv ev := h.same (Below.heap_setCell _ _ _ _ hp)
theorem NetBlk.set4 (h : NetBlk w b hv fv nx mv ev) (v : Value) : NetBlk (w.setCell ⟨b, 4, none⟩ v) b hv fv nx mv v := by
  unfold NetBlk at *; simp [World.setCell, Array.getElem?_modify, h]
theorem NetBlk.set3 (h : NetBlk w b hv fv nx mv ev) (v : Value) : NetBlk (w.setCell ⟨b, 3, none⟩ v) b hv fv nx v ev := by
  unfold NetBlk at *; simp [World.setCell, Array.getElem?_modify, h]
theorem NetBlk.set2 (h : NetBlk w b hv fv nx mv ev) (v : Int) : NetBlk (w.setCell ⟨b, 2, none⟩ (.int .i64 v)) b hv fv v mv ev := by
  unfold NetBlk at *; simp [World.setCell, Array.getElem?_modify, h]
theorem NetBlk.set1 (h : NetBlk w b hv fv nx mv ev) (v : Value) : NetBlk (w.setCell ⟨b, 1, none⟩ v) b hv v nx mv ev := by
  unfold NetBlk at *; simp [World.setCell, Array.getElem?_modify, h]
theorem NetBlk.set0 (h : NetBlk w b hv fv nx mv ev) (v : Value) : NetBlk (w.setCell ⟨b, 0, none⟩ v) b v fv nx mv ev := by
  unfold NetBlk at *; simp [World.setCell, Array.getElem?_modify, h]
end

theorem T29 : SlT Try.prog 29 61 (.agg #[.int .i64 0, .int .i64 0, .int .i64 0]) 3 24 := ⟨Try.underlying29, Try.info61, rfl, by decide, by decide⟩
theorem T26 : SlT Try.prog 26 40 (.agg #[.string ByteArray.empty, .string ByteArray.empty, .slice none 0 0]) 3 56 := ⟨Try.underlying26, Try.info40, rfl, by decide, by decide⟩
theorem T27 : SlT Try.prog 27 86 (.agg #[.string ByteArray.empty, .string ByteArray.empty, .slice none 0 0, .int .i64 0, .int .i64 0]) 5 72 := ⟨Try.underlying27, Try.info86, rfl, by decide, by decide⟩
theorem T38 : SlT Try.prog 38 5 (.int .u8 0) 1 1 := ⟨Try.underlying38, Try.info5, rfl, by decide, by decide⟩


def NotePost (b : Nat) (hv fv mv ev : Value) (nx : Int) (n : Nat) (xs : List Value) (w : World) (e : Ending) (w' : World) : Prop :=
  ∃ ev', e = .returned (.tuple #[]) ∧ NetBlk w' b hv fv nx mv ev' ∧ w'.ownsRow 0 61 3 ev' (n + 1) xs ∧ Kp (fun k => k = b ∨ ev.ownBlock = some k) w w' ∧ (∀ k, ev'.ownBlock = some k → ev.ownBlock = some k ∨ w.heap.size ≤ k)
set_option maxHeartbeats 400000 in
theorem note_any (b : Nat) (hv fv mv ev : Value) (nx kind id fr : Int) (n : Nat) (xs : List Value) (w : World) (hb : NetBlk w b hv fv nx mv ev) (he : w.ownsRow 0 61 3 ev n xs) (hn : n ≤ 100000) :
    Calls Try.prog 48 #[.pointer (some ⟨b, 0, none⟩), .int .i64 kind, .int .i64 id, .int .i64 fr] w (NotePost b hv fv mv ev nx n (xs ++ [.int .i64 kind, .int .i64 id, .int .i64 fr]) w) := by
  have c4 := hb.c4
  have lb := hb.lt
  have hne : ev.ownBlock ≠ some b := ownsRow_ne he hb (by decide)
  go_enter Try.func48, Try.ntmps48
  go_wp2_with (at_builtin; apply unwrap)
  refine wpList_push rfl _ _ 29 rfl T29 rfl he #[.int .i64 kind, .int .i64 id, .int .i64 fr] rfl (by simp [Value.oneCell']) rfl hn ?_
  intro g cap w1 hown hk hat hlt
  have hb1 : NetBlk w1 b hv fv nx mv ev := hb.kp hk hne
  have d4 := hb1.c4
  have f4 := hb1.fz 4
  have hkp : Kp (fun k => k = b ∨ ev.ownBlock = some k) w w1 := hk.mono fun _ _ h => .inr h
  clear he hb c4 hk hne
  go_wp2
  go_end0
  exact ⟨_, rfl, hb1.set4 _, own_setCell hown (ownsRow_ne hown (k := b) hb1 (by decide)) _, hkp.setCell (fun _ => .inl rfl) _, fun k hk => by cases hk; exact hat⟩

def BClonePost (n : Nat) (xs : List Int) (w : World) (e : Ending) (w' : World) : Prop :=
  ∃ a c, e = .returned (.slice a n c) ∧ w'.ownsRow w.heap.size 5 1 (.slice a n c) n (xs.map (Value.int .u8)) ∧ Below w.heap.size w w'
theorem bclone_any (p : Option Addr) (n c : Nat) (xs : List Int) (w : World) (hx : xs.length = n) (hn : n ≤ 100000) (hb : Lib.BytesIn w p n xs) :
    Calls Try.prog 65 #[.slice p n c] w (BClonePost n xs w) := by
  rcases p with _ | a
  · have h0 : n = 0 := by
      rcases Nat.eq_zero_or_pos n with h | h
      · exact h
      · obtain ⟨_, _, h1, _⟩ := hb h; cases h1
    subst h0
    obtain rfl : xs = [] := List.eq_nil_of_length_eq_zero hx
    refine (Try.bytes_Clone_nil 0 c w).mono ?_
    rintro e w' ⟨rfl, rfl⟩
    exact ⟨none, 0, rfl, World.ownsRow_nil _ _ _ _, Below.refl _ _⟩
  · refine (Try.bytes_Clone_at a n c xs w hx (by omega) (fun i hi => ?_)).mono ?_
    · obtain ⟨b, o, ha, hc⟩ := hb (by omega)
      cases ha
      rw [Go.WideShapes.add_plain]; exact hc i hi
    · rintro e w' ⟨v', rfl, hown, _, hbl⟩
      obtain ⟨a', cap, rfl, _⟩ := ownsRow_slice hown
      exact ⟨a', cap, rfl, hown, hbl⟩

def ClonePost (m : Pk) (w : World) (e : Ending) (w' : World) : Prop :=
  ∃ q : PV, e = .returned q.val ∧ POwn w' q m ∧ (∀ k, q.blk = some k → w.heap.size ≤ k) ∧ Below w.heap.size w w'
set_option maxHeartbeats 400000 in
theorem clone_any (p : PV) (m : Pk) (w : World) (hp : PIn w p m) (hm : p.bn ≤ 100000) :
    Calls Try.prog 39 #[p.val] w (ClonePost m w) := by
  obtain ⟨f, t, ba, bn, bc⟩ := p
  obtain ⟨rfl, rfl, hn, hb⟩ := hp
  simp only at hn hb hm
  simp only [PV.val]
  go_enter Try.func39, Try.ntmps39
  go_wp2_with fail
  have hb2 : Below w.heap.size w ((w.alloc (.cells #[.string m.fr, .string m.to, .slice ba bn bc] 40)).alloc (.cells #[.string { data := #[] }, .string { data := #[] }, .slice none 0 0] 40)) := ((Below.refl _ _).alloc (Nat.le_refl _) _).alloc (by simp) _
  refine (bclone_any ba bn bc m.bs _ hn hm (BytesIn.below hb hb2 (Nat.le_refl _))).mono ?_
  rintro e w' ⟨a, c, rfl, hown, hbl⟩
  have e0 := (hbl.block w.heap.size (by simp; omega)).trans (top1 w _ _)
  have e1 := (hbl.block (w.heap.size + 1) (by simp)).trans (top0 w _ _)
  obtain ⟨p0, p1, p2, q0, q1, q2, ql⟩ := blk3 e0
  obtain ⟨r0, r1, r2, s0, s1, s2, sl⟩ := blk3 e1
  have hb3 := hb2.trans (hbl.mono (by simp; omega))
  have hg : ∀ k, Value.ownBlock (.slice a bn c) = some k → w.heap.size + 2 ≤ k := fun k hk => by have := (hown.lt k hk).1; simp at this; omega
  have own0 := ownsRow_base (B := 0) hown (Nat.zero_le _)
  clear hbl hb2 e0 e1 hown hb
  go_wp2
  refine bodyPost_ret (v := PV.val ⟨m.fr, m.to, a, bn, c⟩) (by simp [results, Try.results39, PV.val, go_sem, r0, r1, r2]) rfl ?_
  refine ⟨⟨m.fr, m.to, a, bn, c⟩, rfl, ⟨rfl, rfl, hn, ?_⟩, fun k hk => by have := hg k hk; omega, ?_⟩
  · have h0 : Value.ownBlock (.slice a bn c) ≠ some w.heap.size := fun e => by have := hg _ e; omega
    have h1 : Value.ownBlock (.slice a bn c) ≠ some (w.heap.size + 1) := fun e => by have := hg _ e; omega
    exact own_setCell (own_setCell (own_setCell (own_setCell own0 h0 _) h1 _) h1 _) h1 _
  · exact (((hb3.setCell (by simp) _).setCell (by simp) _).setCell (by simp) _).setCell (by simp) _
def LaunchPost (b : Nat) (hv fv mv ev : Value) (nx src : Int) (n : Nat) (xs : List Value) (m : Pk) (w : World) (e : Ending) (w' : World) : Prop :=
  ∃ (g cap : Nat) (q : PV), e = .returned (.int .i64 nx) ∧ NetBlk w' b hv (.slice (some ⟨g, 0, none⟩) (n + 1) cap) (nx + 1) mv ev ∧
    w'.ownsRow 0 86 5 (.slice (some ⟨g, 0, none⟩) (n + 1) cap) (n + 1) (xs ++ (q.cells ++ [.int .i64 nx, .int .i64 src])) ∧ POwn w' q m ∧ (∀ k, q.blk = some k → w.heap.size ≤ k) ∧
    (fv.ownBlock = some g ∨ w.heap.size ≤ g) ∧ Kp (fun k => k = b ∨ fv.ownBlock = some k) w w'

set_option maxHeartbeats 400000 in
set_option maxRecDepth 100000 in
theorem launch_any (b : Nat) (hv fv mv ev : Value) (nx src : Int) (n : Nat) (xs : List Value) (p : PV) (m : Pk) (w : World) (hb : NetBlk w b hv fv nx mv ev) (hf : w.ownsRow 0 86 5 fv n xs) (hn : n ≤ 100000)
    (hp : PIn w p m) (hpb : ∀ k, p.blk = some k → k ≠ b) (hm : p.bn ≤ 100000) (hx0 : 0 ≤ nx) (hx1 : nx ≤ 100000) :
    Calls Try.prog 47 #[.pointer (some ⟨b, 0, none⟩), p.val, .int .i64 src] w (LaunchPost b hv fv mv ev nx src n xs m w) := by
  have c2 := hb.c2
  have f2 := hb.fz 2
  have lb := hb.lt
  have hne : fv.ownBlock ≠ some b := ownsRow_ne hf hb (by decide)
  simp only [PV.val]
  go_enter Try.func47, Try.ntmps47
  go_wp2_with fail
  generalize hW : (w.setCell ⟨b, 2, none⟩ (.int .i64 (nx + 1))).alloc (.cells #[.string p.f, .string p.t, .slice p.ba p.bn p.bc] 40) = W
  have hb1 : NetBlk W b hv fv (nx + 1) mv ev := by subst hW; exact (hb.set2 _).same (Below.heap_alloc _ _ _ (by simpa [World.setCell] using lb))
  have hf1 : W.ownsRow 0 86 5 fv n xs := by subst hW; exact (own_setCell hf hne _).alloc _
  have hB1 : W.heap[w.heap.size]? = some (.cells #[.string p.f, .string p.t, .slice p.ba p.bn p.bc] 40) := by
    subst hW; have := heap_alloc_new (w.setCell ⟨b, 2, none⟩ (.int .i64 (nx + 1))) (.cells #[.string p.f, .string p.t, .slice p.ba p.bn p.bc] 40); simpa [World.setCell] using this
  have hk1' : Kp (fun k => k = b) w W := by subst hW; exact ((Kp.refl (fun k => k = b) w).setCell (fun _ => rfl) _).alloc _
  have hk1 : Kp (fun k => k = b ∨ fv.ownBlock = some k) w W := hk1'.mono (fun _ _ h => .inl h)
  have hd1 : PIn W p m := hp.kp hk1' hpb
  obtain ⟨B, hBe⟩ : ∃ B, B = w.heap.size := ⟨_, rfl⟩
  rw [← hBe] at hB1 lb ⊢
  have HB := Lib.hid hBe
  clear c2 f2 hW hb hf hk1' hp hBe
  apply wp_region_early [0, 1, 2, 3, 4, 5, 7, 8] [6, 9, 10, 11] [12, 13, 14] (fun w' => NetBlk w' b hv fv (nx + 1) mv ev ∧ w'.heap[B]? = some (.cells #[.string p.f, .string p.t, .slice p.ba p.bn p.bc] 40))
  case hm => kernel_rfl
  case hB => kernel_rfl
  case hao => exact .cons rfl (.cons rfl (.cons rfl (.cons rfl .nil)))
  case hlo => exact .cons rfl (.cons rfl (.cons rfl .nil))
  case hS => exact ⟨hb1, hB1⟩
  case hr =>
    iterate 8
      apply Reads.cons1 rfl rfl
      · intro w' hS
        have s1 := hS.1.c1
        obtain ⟨p0, p1, p2, _, _, _, _⟩ := blk3 hS.2
        clear hS
        go_simp
        try rfl
    exact Reads.nil
  intro W1 hW1
  replace hd1 : PIn W1 p m := hW1 ▸ hd1.drew
  replace hb1 : NetBlk W1 b hv fv (nx + 1) mv ev := hW1 ▸ hb1
  replace hf1 : W1.ownsRow 0 86 5 fv n xs := hW1 ▸ hf1
  replace hk1 : Kp (fun k => k = b ∨ fv.ownBlock = some k) w W1 := hW1 ▸ hk1.drew
  replace hB1 : W1.heap[B]? = some (.cells #[.string p.f, .string p.t, .slice p.ba p.bn p.bc] 40) := hW1 ▸ hB1
  clear hW1
  unfold wpTail
  go_wp2_with fail
  refine (clone_any p m W1 hd1 hm).mono ?_
  rintro e W2 ⟨⟨qf, qt, qa, qn, qc⟩, rfl, hq, hqb, hbl⟩
  simp only [PV.val]
  have hb2 : NetBlk W2 b hv fv (nx + 1) mv ev := hb1.same (hbl.block b hb1.lt)
  have hB2 := (hbl.block B (lt_of_heap hB1)).trans hB1
  have hf2 := ownsRow_below hf1 hbl (Nat.le_refl _)
  have hk2 := hk1.below hbl hk1.size
  have hqb2 : ∀ k, PV.blk ⟨qf, qt, qa, qn, qc⟩ = some k → w.heap.size ≤ k := fun k hk => Nat.le_trans hk1.size (hqb k hk)
  clear hb1 hB1 hf1 hk1 hd1 hbl hqb
  go_wp2_with fail
  refine ⟨⟨hb2, hB2⟩, ?_⟩
  unfold wpTail
  go_wp2_with fail
  refine ⟨⟨hb2, hB2⟩, ?_⟩
  unfold wpTail
  go_wp2_with fail
  refine ⟨⟨hb2.same (Below.heap_alloc _ _ _ hb2.lt), (Below.heap_alloc _ _ _ (lt_of_heap hB2)).trans hB2⟩, ?_⟩
  unfold wpTail
  refine wpList_push rfl _ _ 27 rfl T27 rfl hf2 #[.string qf, .string qt, .slice qa qn qc, .int .i64 nx, .int .i64 src] rfl (by simp [Value.oneCell']) rfl hn ?_
  intro g cap W3 hown hk hat hlt
  have hb3 : NetBlk W3 b hv fv (nx + 1) mv ev := hb2.kp hk hne
  have hB3 : W3.heap[B]? = _ := (hk.block B (lt_of_heap hB2) (ownsRow_ne hf2 hB2 (by decide))).trans hB2
  have hq3 : POwn W3 ⟨qf, qt, qa, qn, qc⟩ m := hq.kp hk (fun k hk e => by
    obtain ⟨c1, h1⟩ := ownsRow_block hq.b hk
    exact ownsRow_ne hf2 h1 (by decide) e)
  have hk3 : Kp (fun k => k = b ∨ fv.ownBlock = some k) w W3 := hk2.trans hk (fun k _ h => .inr h)
  refine wpList_nil ⟨⟨hb3, hB3⟩, ?_⟩
  unfold wpTail
  have d1 := hb3.fz 1
  have d2 := hb3.c1
  have d3 : b < W3.heap.size := hb3.lt
  have hat' : fv.ownBlock = some g ∨ w.heap.size ≤ g := hat.imp id (fun h => Nat.le_trans hk2.size h)
  clear hq hb2 hB2 hf2 hk hk2 hat hB3
  go_wp2
  refine NoPanic.normal ?_
  go_wp2
  go_ret
  exact ⟨g, cap, ⟨qf, qt, qa, qn, qc⟩, rfl, hb3.set1 _, own_setCell hown (ownsRow_ne hown (k := b) hb3 (by decide)) _, ⟨hq3.f, hq3.t, hq3.n, own_setCell hq3.b (ownsRow_ne hq3.b (k := b) hb3 (by decide)) _⟩, hqb2, hat', hk3.setCell (fun _ => .inl rfl) _⟩

end Go.Proofs.Ytnkcgalbaeppmaa
/- Walks of the program's small functions: the place of a packet in flight. -/
namespace Go.Proofs.Ytnkcgalbaeppmaa
open Go.RowKit

def FVal (x : FV) : Value := .agg #[.string x.p.f, .string x.p.t, .slice x.p.ba x.p.bn x.p.bc, .int .i64 x.id, .int .i64 x.src]

set_option maxHeartbeats 400000 in
theorem find1_any (x : FV) (id0 : Int) (c : Nat) (w : World) (hc : w.cell? ⟨c, 0, none⟩ = some (.int .i64 id0)) :
    Calls Try.prog 63 #[FVal x, .pointer (some ⟨c, 0, none⟩)] w fun e w' => e = .returned (.bool (x.id == id0)) ∧ Below w.heap.size w w' := by
  have hcl := World.block_lt_of_cell? w _ hc
  simp only at hcl
  unfold FVal
  go_enter Try.func63, Try.ntmps63
  go_wp2
  go_ret
  exact ⟨rfl, (Below.refl _ _).alloc (Nat.le_refl _) _⟩

theorem fly_cells {w : World} {B g n cap : Nat} {fs : List FV} (h : w.ownsRow B 86 5 (.slice (some ⟨g, 0, none⟩) n cap) n (fs.flatMap FV.cells)) {k : Nat} {x : FV} (hx : fs[k]? = some x) :
    w.cell? ⟨g, k * 5, none⟩ = some (.string x.p.f) ∧ w.cell? ⟨g, k * 5 + 1, none⟩ = some (.string x.p.t) ∧ w.cell? ⟨g, k * 5 + 2, none⟩ = some (.slice x.p.ba x.p.bn x.p.bc) ∧ w.cell? ⟨g, k * 5 + 3, none⟩ = some (.int .i64 x.id) ∧ w.cell? ⟨g, k * 5 + 4, none⟩ = some (.int .i64 x.src) := by
  have h0 := own_cell FV.cells_len h hx (j := 0) (by decide)
  have h1 := own_cell FV.cells_len h hx (j := 1) (by decide)
  have h2 := own_cell FV.cells_len h hx (j := 2) (by decide)
  have h3 := own_cell FV.cells_len h hx (j := 3) (by decide)
  have h4 := own_cell FV.cells_len h hx (j := 4) (by decide)
  exact ⟨h0, h1, h2, h3, h4⟩

set_option maxHeartbeats 800000 in
theorem indexFunc_any (fv : Value) (n : Nat) (fs : List FV) (id0 : Int) (c : Nat) (w : World) (hc : w.cell? ⟨c, 0, none⟩ = some (.int .i64 id0)) (hf : w.ownsRow 0 86 5 fv n (fs.flatMap FV.cells)) (hn : n ≤ 100000) :
    Calls Try.prog 62 #[fv, .func (.func 63) #[] #[.pointer (some ⟨c, 0, none⟩)]] w fun e w' => e = .returned (.int .i64 (idx id0 fs 0)) ∧ Below w.heap.size w w' := by
  have hl := own_len FV.cells_len (by decide) hf
  have hcl := World.block_lt_of_cell? w _ hc
  simp only at hcl
  rcases hf.2 with ⟨rfl, rfl⟩ | ⟨g, cap, cur, rfl, hb0, hg, hnc, hcm, hcs, htake⟩
  · obtain rfl : fs = [] := List.eq_nil_of_length_eq_zero hl
    go_enter Try.func62, Try.ntmps62
    go_wp2_with fail
    go_loopw [5, 8] (fun _ i wr => i = .int .i64 0 ∧ Below w.heap.size w wr) (fun _ _ _ => 0)
    case atStart => exact ⟨rfl, Below.refl _ _⟩
    case round =>
      obtain ⟨rfl, hb⟩ := hrel
      go_wp2_with fail
      go_ret
      exact ⟨rfl, hb⟩
  · have hgl := lt_of_heap hg
    clear htake hcs hg hnc hb0
    go_enter Try.func62, Try.ntmps62
    go_wp2_with fail
    go_loopw [5, 8] (fun _ i wr => ∃ k : Nat, k ≤ n ∧ i = .int .i64 k ∧ Hid (idx id0 fs 0 = idx id0 (fs.drop k) k) ∧ Below w.heap.size w wr) (fun _ i _ => n - (intOf i).toNat)
    case atStart => exact ⟨0, Nat.zero_le _, rfl, by simp [Hid], Below.refl _ _⟩
    case round =>
      obtain ⟨k, hk, rfl, hi, hb⟩ := hrel
      by_cases hlt : k < n
      · obtain ⟨x, hx⟩ : ∃ x, fs[k]? = some x := ⟨fs[k]'(by omega), by simp⟩
        obtain ⟨c0, c1, c2, c3, c4⟩ := fly_cells (ownsRow_below hf hb (Nat.le_refl _)) hx
        have dc := (hb.cell (p := ⟨c, 0, none⟩) hcl).trans hc
        have Hd := Lib.hid (drop_eq hx)
        clear hf hc hx
        go_wp2_with fail
        refine (find1_any x id0 c _ dc).mono ?_
        rintro e w1 ⟨rfl, hbl⟩
        have hb1 := hb.trans (hbl.mono hb.size)
        clear hb hbl c0 c1 c2 c3 c4 dc
        by_cases hid : x.id = id0
        · have hdec : (x.id == id0) = true := by simpa using hid
          have Hid1 := Lib.hid hid
          clear hid
          go_wp2_with fail
          go_ret
          exact ⟨ret_int (by rw [hi.out, Hd.out, idx, if_pos Hid1.out]), hb1⟩
        · have hdec : (x.id == id0) = false := by simpa using hid
          go_wp2_with fail
          go_roundw
          case rel => exact ⟨k + 1, by omega, by go_num, by show _ = _; rw [hi.out, Hd.out, idx, if_neg hid], hb1⟩
          case measure => simp [intOf]; omega
      · obtain rfl : k = n := by omega
        go_wp2_with fail
        go_ret
        exact ⟨ret_int (by rw [hi.out, List.drop_of_length_le (by omega), idx]), hb⟩
end Go.Proofs.Ytnkcgalbaeppmaa
/- Walks of the program's small functions: find, full, validHost, valid, equal. -/
namespace Go.Proofs.Ytnkcgalbaeppmaa
open Go.RowKit

set_option maxHeartbeats 400000 in
theorem find_any (b : Nat) (hv fv mv ev : Value) (nx id : Int) (n : Nat) (fs : List FV) (w : World) (hb : NetBlk w b hv fv nx mv ev) (hf : w.ownsRow 0 86 5 fv n (fs.flatMap FV.cells)) (hn : n ≤ 100000) :
    Calls Try.prog 37 #[.pointer (some ⟨b, 0, none⟩), .int .i64 id] w fun e w' => e = .returned (.int .i64 (idx id fs 0)) ∧ Below w.heap.size w w' := by
  have c1 := hb.c1
  have lb := hb.lt
  go_enter Try.func37, Try.ntmps37
  go_wp2_with fail
  have h1 : (w.alloc (.cells #[.int .i64 id] 3)).cell? ⟨w.heap.size, 0, none⟩ = some (.int .i64 id) := (blk1 (heap_alloc_new w _)).1
  refine (indexFunc_any fv n fs id w.heap.size _ h1 (hf.alloc _) hn).mono ?_
  rintro e w1 ⟨rfl, hbl⟩
  have hbl2 : Below w.heap.size w w1 := ((Below.refl _ _).alloc (Nat.le_refl _) _).trans (hbl.mono (by simp))
  clear hbl h1 hf hb c1
  go_wp2_with fail
  go_ret
  exact ⟨rfl, hbl2⟩

theorem full_any (b : Nat) (hv mv ev : Value) (a : Option Addr) (n c : Nat) (nx : Int) (w : World) (hb : NetBlk w b hv (.slice a n c) nx mv ev) (_hn : n ≤ 100000) :
    Calls Try.prog 46 #[.pointer (some ⟨b, 0, none⟩)] w fun e w' => e = .returned (.bool (decide (64 ≤ (n : Int)))) ∧ w = w' := by
  have c1 := hb.c1
  go_enter Try.func46, Try.ntmps46
  go_wp2
  go_ret
  exact ⟨rfl, rfl⟩

def hostB (s : ByteArray) : Bool := decide (1 ≤ s.size) && decide (s.size ≤ 32)
theorem validHost_any (s : ByteArray) (w : World) (hs : s.size ≤ 100) :
    Calls Try.prog 50 #[.string s] w fun e w' => e = .returned (.bool (hostB s)) ∧ w = w' := by
  by_cases h1 : 1 ≤ s.size
  · have h1' : (1 : Int) ≤ (s.size : Int) := by omega
    have hH : hostB s = decide ((s.size : Int) ≤ 32) := by simp [hostB, h1]; omega
    have HH := Lib.hid hH
    clear hH
    go_enter Try.func50, Try.ntmps50
    go_wp2
    go_ret
    exact ⟨ret_bool HH.out.symm, rfl⟩
  · have h1' : (s.size : Int) < 1 := by omega
    have hH : hostB s = false := by simp [hostB]; omega
    have HH := Lib.hid hH
    clear hH
    go_enter Try.func50, Try.ntmps50
    go_wp2
    go_ret
    exact ⟨ret_bool HH.out.symm, rfl⟩

def validB (m : Pk) : Bool := hostB m.fr && hostB m.to && decide (m.bs.length ≤ 65536)
set_option maxHeartbeats 400000 in
theorem valid_any (p : PV) (m : Pk) (w : World) (hf : p.f = m.fr) (ht : p.t = m.to) (hn : m.bs.length = p.bn) (hm : m.ok) :
    Calls Try.prog 45 #[p.val] w fun e w' => e = .returned (.bool (validB m)) ∧ Below w.heap.size w w' := by
  obtain ⟨f, t, ba, bn, bc⟩ := p
  simp only at hf ht hn
  subst hf ht
  obtain ⟨k1, k2, k3⟩ := hm
  have k4 : bn ≤ 100 := by omega
  have hv : validB m = (hostB m.fr && hostB m.to) := by simp [validB]; omega
  have HV := Lib.hid hv
  clear hv
  simp only [PV.val]
  by_cases h1 : hostB m.fr = true
  · by_cases h2 : hostB m.to = true
    · have HV2 : Hid (validB m = true) := by show _ = _; rw [HV.out, h1, h2]; rfl
      go_enter Try.func45, Try.ntmps45
      go_wp2_with fail
      refine (validHost_any m.fr _ k1).mono ?_
      rintro e w1 ⟨rfl, rfl⟩
      go_wp2_with fail
      refine (validHost_any m.to _ k2).mono ?_
      rintro e w1 ⟨rfl, rfl⟩
      go_wp2_with fail
      go_ret
      exact ⟨ret_bool (by rw [HV2.out]; simp; omega), (Below.refl _ _).alloc (Nat.le_refl _) _⟩
    · have h2' : hostB m.to = false := by simpa using h2
      have HV2 : Hid (validB m = false) := by show _ = _; rw [HV.out, h2']; simp
      clear h2
      go_enter Try.func45, Try.ntmps45
      go_wp2_with fail
      refine (validHost_any m.fr _ k1).mono ?_
      rintro e w1 ⟨rfl, rfl⟩
      go_wp2_with fail
      refine (validHost_any m.to _ k2).mono ?_
      rintro e w1 ⟨rfl, rfl⟩
      go_wp2_with fail
      go_ret
      exact ⟨ret_bool (by rw [HV2.out]), (Below.refl _ _).alloc (Nat.le_refl _) _⟩
  · have h1' : hostB m.fr = false := by simpa using h1
    have HV2 : Hid (validB m = false) := by show _ = _; rw [HV.out, h1']; simp
    clear h1
    go_enter Try.func45, Try.ntmps45
    go_wp2_with fail
    refine (validHost_any m.fr _ k1).mono ?_
    rintro e w1 ⟨rfl, rfl⟩
    go_wp2_with fail
    go_ret
    exact ⟨ret_bool (by rw [HV2.out]), (Below.refl _ _).alloc (Nat.le_refl _) _⟩

def sameB (m m' : Pk) : Bool := (m.fr.toList == m'.fr.toList) && (m.to.toList == m'.to.toList) && (Lib.bytesOf m.bs == Lib.bytesOf m'.bs)
set_option maxHeartbeats 400000 in
theorem equal_any (p q : PV) (m m' : Pk) (w : World) (hp : PIn w p m) (hq : PIn w q m') :
    Calls Try.prog 38 #[p.val, q.val] w fun e w' => e = .returned (.bool (sameB m m')) ∧ Below w.heap.size w w' := by
  obtain ⟨f, t, ba, bn, bc⟩ := p
  obtain ⟨f', t', ba', bn', bc'⟩ := q
  obtain ⟨rfl, rfl, hn, hb⟩ := hp
  obtain ⟨rfl, rfl, hn', hb'⟩ := hq
  simp only at hn hb hn' hb'
  simp only [PV.val]
  have hv : sameB m m' = ((m.fr.toList == m'.fr.toList) && (m.to.toList == m'.to.toList) && (Lib.bytesOf m.bs == Lib.bytesOf m'.bs)) := rfl
  have HV := Lib.hid hv
  clear hv
  have hbl : Below w.heap.size w ((w.alloc (.cells #[.string m.fr, .string m.to, .slice ba bn bc] 40)).alloc (.cells #[.string m'.fr, .string m'.to, .slice ba' bn' bc'] 40)) := ((Below.refl _ _).alloc (Nat.le_refl _) _).alloc (by simp) _
  by_cases h1 : (m.fr.toList == m'.fr.toList) = true
  · by_cases h2 : (m.to.toList == m'.to.toList) = true
    · have HV2 : Hid (sameB m m' = (Lib.bytesOf m.bs == Lib.bytesOf m'.bs)) := by show _ = _; rw [HV.out, h1, h2]; rfl
      go_enter Try.func38, Try.ntmps38
      go_wp2_with fail
      refine (Try.bytes_Equal_all ba ba' bn bc bn' bc' m.bs m'.bs _ hn hn' (BytesIn.below hb hbl (Nat.le_refl _)) (BytesIn.below hb' hbl (Nat.le_refl _))).mono ?_
      rintro e w1 ⟨rfl, rfl⟩
      go_wp2_with fail
      go_ret
      exact ⟨ret_bool HV2.out.symm, hbl⟩
    · have h2' : (m.to.toList == m'.to.toList) = false := by simpa using h2
      have HV2 : Hid (sameB m m' = false) := by show _ = _; rw [HV.out, h2']; simp
      clear h2
      go_enter Try.func38, Try.ntmps38
      go_wp2_with fail
      go_ret
      exact ⟨ret_bool HV2.out.symm, hbl⟩
  · have h1' : (m.fr.toList == m'.fr.toList) = false := by simpa using h1
    have HV2 : Hid (sameB m m' = false) := by show _ = _; rw [HV.out, h1']; simp
    clear h1
    go_enter Try.func38, Try.ntmps38
    go_wp2_with fail
    go_ret
    exact ⟨ret_bool HV2.out.symm, hbl⟩
end Go.Proofs.Ytnkcgalbaeppmaa
/- The walk of slices.Delete at packets in flight. -/
namespace Go.Proofs.Ytnkcgalbaeppmaa
open Go.RowKit

def DelPost (g n cap : Nat) (xs : List Value) (w : World) (e : Ending) (w' : World) : Prop :=
  e = .returned (.slice (some ⟨g, 0, none⟩) (n - 1) cap) ∧ w'.ownsRow 0 86 5 (.slice (some ⟨g, 0, none⟩) (n - 1) cap) (n - 1) xs ∧ Kp (fun k => k = g) w w'

/-- What append(s[:i], s[i+1:]...) makes of a row of n elements of five cells. -/
theorem run_delete (g n cap i : Nat) (ad : Addr) (c : Nat) (cur : Array Value) (w : World) (hg : w.heap[g]? = some (.cells cur 86 (0, 0))) (hi : i < n) (hnc : n ≤ cap) (hcs : cur.size = cap * 5)
    (h1 : ∀ u ∈ cur.toList.take (n * 5), u.oneCell' = true) (had : i + 1 < n → ad = ⟨g, (i + 1) * 5, none⟩) :
    (Builtin.append_ #[27, 27] 27 #[.slice (some ⟨g, 0, none⟩) i cap, .slice (some ad) (n - (i + 1)) c]).run Try.prog w =
      .ok (.slice (some ⟨g, 0, none⟩) (n - 1) cap) (w.setRow g (cur.toList.take (i * 5) ++ (cur.toList.take (n * 5)).drop ((i + 1) * 5) ++ cur.toList.drop ((n - 1) * 5)).toArray) := by
  obtain ⟨i0, hi0, hz0, hz1, hz2⟩ := info_parts Try.info86
  have hlen : ((cur.toList.take (n * 5)).drop ((i + 1) * 5)).length = (n - (i + 1)) * 5 := by simp; omega
  have hr := run_append_room (P := Try.prog) w 27 27 86 i0 Try.underlying27 hi0 g i cap cur hg ad (n - (i + 1)) c ((cur.toList.take (n * 5)).drop ((i + 1) * 5)) (by rw [hz1]; exact hlen) (fun j u hj => ?_)
    (fun u hu => h1 u (List.mem_of_mem_drop hu)) (by omega) (by rw [hz1, hlen]; omega)
  · rw [hr, hz1, hlen]
    rw [show i + (n - (i + 1)) = n - 1 by omega, show i * 5 + (n - (i + 1)) * 5 = (n - 1) * 5 by omega]
  · have hjl : j < (n - (i + 1)) * 5 := by rw [← hlen]; exact (List.getElem?_eq_some_iff.1 hj).1
    rw [had (by omega), Go.WideShapes.add_plain, cell_of_row w g _ cur 86 (0, 0) hg]
    rw [List.getElem?_drop, List.getElem?_take] at hj
    rw [if_pos (by omega)] at hj
    simpa using hj

def Z5 : List Value := [.string ByteArray.empty, .string ByteArray.empty, .slice none 0 0, .int .i64 0, .int .i64 0]
theorem run_clear1 (g o m c : Nat) (hm : m = 1) (cur : Array Value) (w : World) (hg : w.heap[g]? = some (.cells cur 86 (0, 0))) (ho : o + 5 ≤ cur.size) (ty : TypeId) :
    (Builtin.clear_ #[27] ty #[.slice (some ⟨g, o, none⟩) m c]).run Try.prog w = .ok (.tuple #[]) (w.setRow g (cur.toList.take o ++ Z5 ++ cur.toList.drop (o + 5)).toArray) := by
  subst hm
  obtain ⟨i0, hi0, hz0, hz1, hz2⟩ := info_parts Try.info86
  have hz : (zeroValue 86).run Try.prog w = .ok (.agg Z5.toArray) w := by simp [zeroValue, typeInfo, hi0, hz0, Z5]
  have hst := run_storeCells_at Try.prog g o 86 Z5 0 cur w hg (by simpa [Z5] using ho) (by simp [Value.oneCell', Z5])
  have hzc : (Builtin.zeroCells Z5.toArray 1).toList = Z5 := by
    simp [Builtin.zeroCells, Z5, Array.range]
  have h5 : Z5.length = 5 := rfl
  simp only [Nat.add_zero, h5] at hst
  simp [Builtin.clear_, run_underlying Try.underlying27, hz, Value.cells, hzc, hst]

theorem row_after (fs : List FV) (cur : Array Value) (n cap i : Nat) (hi : i < n) (hnc : n ≤ cap) (hcs : cur.size = cap * 5) (htk : fs.flatMap FV.cells = cur.toList.take (n * 5)) (l : List Value)
    (hl : l = cur.toList.take (i * 5) ++ (cur.toList.take (n * 5)).drop ((i + 1) * 5) ++ cur.toList.drop ((n - 1) * 5)) :
    (l.toArray.toList.take ((n - 1) * 5) ++ Z5 ++ l.toArray.toList.drop ((n - 1) * 5 + 5)).toArray.size = cap * 5 ∧
    (l.toArray.toList.take ((n - 1) * 5) ++ Z5 ++ l.toArray.toList.drop ((n - 1) * 5 + 5)).toArray.toList.take ((n - 1) * 5) = (fs.eraseIdx i).flatMap FV.cells := by
  have h5 : Z5.length = 5 := rfl
  have hlc : cur.toList.length = cap * 5 := by simpa using hcs
  have hAB : (cur.toList.take (i * 5) ++ (cur.toList.take (n * 5)).drop ((i + 1) * 5)).length = (n - 1) * 5 := by simp; omega
  have hll : l.length = cap * 5 := by rw [hl]; simp; omega
  constructor
  · simp [h5]; omega
  · have e1 : l.take ((n - 1) * 5) = cur.toList.take (i * 5) ++ (cur.toList.take (n * 5)).drop ((i + 1) * 5) := by
      rw [hl, ← hAB, List.take_left]
    have hll' : (l.take ((n - 1) * 5)).length = (n - 1) * 5 := by rw [e1, hAB]
    simp only [List.append_assoc]
    rw [List.take_left' hll']
    rw [e1, flat_erase FV.cells 5 FV.cells_len, htk, List.take_take, Nat.min_eq_left (by omega)]

set_option maxHeartbeats 800000 in
theorem delete_any (g n cap i : Nat) (fs : List FV) (w : World) (hf : w.ownsRow 0 86 5 (.slice (some ⟨g, 0, none⟩) n cap) n (fs.flatMap FV.cells)) (hi : i < n) (hn : n ≤ 100000) :
    Calls Try.prog 66 #[.slice (some ⟨g, 0, none⟩) n cap, .int .i64 i, .int .i64 (i + 1)] w (DelPost g n cap ((fs.eraseIdx i).flatMap FV.cells) w) := by
  have hlf := own_len FV.cells_len (by decide) hf
  have HL := Lib.hid hlf
  clear hlf
  have i0 : (0 : Int) ≤ (i : Int) := by omega
  have i1 : (i : Int) < (n : Int) := by omega
  have i2 : (i : Int) + 1 ≤ (n : Int) := by omega
  obtain ⟨cur, hg, hnc, hcm, hcs, htk⟩ : ∃ cur, w.heap[g]? = some (.cells cur 86 (0, 0)) ∧ n ≤ cap ∧ cap ≤ maxLen ∧ cur.size = cap * 5 ∧ cur.toList.take (n * 5) = fs.flatMap FV.cells := by
    rcases hf.2 with ⟨h, _⟩ | ⟨g', cap', cur, h, _, h1, h2, h3, h4, h5⟩
    · cases h
    · cases h; exact ⟨cur, h1, h2, h3, h4, h5⟩
  have h1 : ∀ u ∈ cur.toList.take (n * 5), u.oneCell' = true := by
    rw [htk]; intro u hu
    obtain ⟨x, _, hx⟩ := List.mem_flatMap.1 hu
    simp [FV.cells, PV.cells] at hx
    rcases hx with rfl | rfl | rfl | rfl | rfl <;> rfl
  unfold maxLen at hcm
  have j0 : (n : Int) ≤ (cap : Int) := by omega
  have j1 : (cap : Int) ≤ 9223372036854775807 := by omega
  have j2 : i ≤ cap := by omega
  have j3 : i + 1 ≤ n := by omega
  have j4 : (1 : Int) ≤ (n : Int) := by omega
  have j5 : n - 1 ≤ n := by omega
  have j6 : n ≤ cap := by omega
  have e1 : ((i : Int) == (i : Int) + 1) = false := by simp; omega
  have HR : Hid (∀ ad c, (i + 1 < n → ad = ⟨g, (i + 1) * 5, none⟩) → (Builtin.append_ #[27, 27] 27 #[.slice (some ⟨g, 0, none⟩) i cap, .slice (some ad) (n - (i + 1)) c]).run Try.prog w.drew =
      .ok (.slice (some ⟨g, 0, none⟩) (n - 1) cap) (w.drew.setRow g (cur.toList.take (i * 5) ++ (cur.toList.take (n * 5)).drop ((i + 1) * 5) ++ cur.toList.drop ((n - 1) * 5)).toArray)) :=
    fun ad c had => run_delete g n cap i ad c cur w.drew hg hi hnc hcs h1 had
  have HF : Hid (fs.flatMap FV.cells = cur.toList.take (n * 5)) := htk.symm
  have HC : Hid (cur.size = cap * 5) := hcs
  have HG : Hid (w.heap[g]? = some (.cells cur 86 (0, 0))) := hg
  clear h1 htk hcs hg hf
  by_cases hce : cap = i + 1
  · obtain rfl : n = i + 1 := by omega
    subst hce
    have j7 : (i : Int) ≤ (i : Int) + 1 := by omega
    clear j0 j3 j6 hnc
    have HR2 := HR.out ⟨g, 0, none⟩ 0 (by omega)
    rw [show i + 1 - (i + 1) = 0 by omega, show i + 1 - 1 = i by omega] at HR2
    replace HR2 := Lib.hid HR2
    go_enter Try.func66, Try.ntmps66
    go_wp2_with fail
    apply wp_region_early [0, 1, 2, 3, 4, 5] [6] [7] (fun _ => True)
    case hm => kernel_rfl
    case hB => kernel_rfl
    case hao => exact .cons rfl .nil
    case hlo => exact .cons rfl .nil
    case hS => trivial
    case hr =>
      iterate 6
        apply Reads.cons1 rfl rfl
        · intro w' _
          go_simp
          try rfl
      exact Reads.nil
    intro W hW
    unfold wpTail
    subst hW
    simp only [Act.put, List.setIfInBounds_toArray, List.set_cons_succ, List.set_cons_zero]
    refine wpList_append_run rfl _ _ _ _ rfl (v1 := .slice (some ⟨g, 0, none⟩) i (i + 1)) (v2 := .slice (some ⟨g, 0, none⟩) 0 0) rfl rfl HR2.out ?_
    have HG2 := Lib.hid (setRow_heap w.drew g cur (cur.toList.take (i * 5) ++ (cur.toList.take ((i + 1) * 5)).drop ((i + 1) * 5) ++ cur.toList.drop (i * 5)).toArray 86 (0, 0) HG.out)
    revert HG2
    generalize hW : w.drew.setRow g (cur.toList.take (i * 5) ++ (cur.toList.take ((i + 1) * 5)).drop ((i + 1) * 5) ++ cur.toList.drop (i * 5)).toArray = W
    intro HG2
    have HK : Kp (fun k => k = g) w W := by subst hW; exact ⟨rfl, rfl, rfl, by simp, fun k _ hk => (setRow_other w.drew g k _ hk)⟩
    clear hW HR HR2
    refine wpList_nil ⟨trivial, ?_⟩
    unfold wpTail
    go_wp2
    refine NoPanic.normal ?_
    go_wp2_with (with_reducible apply stop_builtin .clear)
    have hlen : ((cur.toList.take (i * 5) ++ (cur.toList.take ((i + 1) * 5)).drop ((i + 1) * 5) ++ cur.toList.drop (i * 5)).toArray).size = (i + 1) * 5 := by
      have := HC.out; simp; omega
    refine wpList_clear_run rfl (.tmp 31) 27 rfl rfl (run_clear1 g (i * 5) _ _ (by omega) _ W HG2.out (by rw [hlen]; omega) _) ?_
    have hfin := row_after fs cur (i + 1) (i + 1) i hi (Nat.le_refl _) HC.out HF.out _ rfl
    rw [show i + 1 - 1 = i by omega] at hfin
    revert hfin
    generalize (List.take (i * 5) (cur.toList.take (i * 5) ++ (cur.toList.take ((i + 1) * 5)).drop ((i + 1) * 5) ++ cur.toList.drop (i * 5)).toArray.toList ++ Z5 ++ List.drop (i * 5 + 5) (cur.toList.take (i * 5) ++ (cur.toList.take ((i + 1) * 5)).drop ((i + 1) * 5) ++ cur.toList.drop (i * 5)).toArray.toList).toArray = X
    intro hfin
    have hW2 := setRow_heap W g _ X 86 (0, 0) HG2.out
    have HP : Hid (DelPost g (i + 1) (i + 1) ((fs.eraseIdx i).flatMap FV.cells) w (.returned (.slice (some ⟨g, 0, none⟩) i (i + 1))) (W.setRow g X)) :=
      ⟨rfl, ⟨by rw [flat_len FV.cells 5 FV.cells_len, List.length_eraseIdx_of_lt (by rw [HL.out]; exact hi), HL.out], .inr ⟨g, (i + 1), _, rfl, Nat.zero_le _, hW2, by omega, hcm, hfin.1, hfin.2⟩⟩,
        HK.trans (c := W.setRow g X) (S' := fun k => k = g) ⟨rfl, rfl, rfl, by simp, fun k _ hk => setRow_other W g k X hk⟩ (fun _ _ h => h)⟩
    revert HP
    generalize W.setRow g X = W2
    intro HP
    clear hfin hW2 HG2 HK hlen HF HC
    go_wp2
    go_ret
    exact HP.out
  · go_enter Try.func66, Try.ntmps66
    go_wp2_with fail
    apply wp_region_early [0, 1, 2, 3, 4, 5] [6] [7] (fun _ => True)
    case hm => kernel_rfl
    case hB => kernel_rfl
    case hao => exact .cons rfl .nil
    case hlo => exact .cons rfl .nil
    case hS => trivial
    case hr =>
      iterate 6
        apply Reads.cons1 rfl rfl
        · intro w' _
          go_simp
          try rfl
      exact Reads.nil
    intro W hW
    unfold wpTail
    subst hW
    simp only [Act.put, List.setIfInBounds_toArray, List.set_cons_succ, List.set_cons_zero]
    refine wpList_append_run rfl _ _ _ _ rfl (v1 := .slice (some ⟨g, 0, none⟩) i cap) (v2 := .slice (some ⟨g, (i + 1) * 5, none⟩) (n - (i + 1)) (cap - (i + 1))) rfl rfl (HR.out _ _ (fun _ => rfl)) ?_
    have HG2 := Lib.hid (setRow_heap w.drew g cur (cur.toList.take (i * 5) ++ (cur.toList.take (n * 5)).drop ((i + 1) * 5) ++ cur.toList.drop ((n - 1) * 5)).toArray 86 (0, 0) HG.out)
    revert HG2
    generalize hW : w.drew.setRow g (cur.toList.take (i * 5) ++ (cur.toList.take (n * 5)).drop ((i + 1) * 5) ++ cur.toList.drop ((n - 1) * 5)).toArray = W
    intro HG2
    have HK : Kp (fun k => k = g) w W := by subst hW; exact ⟨rfl, rfl, rfl, by simp, fun k _ hk => (setRow_other w.drew g k _ hk)⟩
    clear hW HR
    refine wpList_nil ⟨trivial, ?_⟩
    unfold wpTail
    go_wp2
    refine NoPanic.normal ?_
    go_wp2_with (with_reducible apply stop_builtin .clear)
    have hlen : ((cur.toList.take (i * 5) ++ (cur.toList.take (n * 5)).drop ((i + 1) * 5) ++ cur.toList.drop ((n - 1) * 5)).toArray).size = cap * 5 := by
      have := HC.out; simp; omega
    refine wpList_clear_run rfl (.tmp 31) 27 rfl rfl (run_clear1 g ((n - 1) * 5) _ _ (by omega) _ W HG2.out (by rw [hlen]; omega) _) ?_
    have hfin := row_after fs cur n cap i hi hnc HC.out HF.out _ rfl
    revert hfin
    generalize (List.take ((n - 1) * 5) (cur.toList.take (i * 5) ++ (cur.toList.take (n * 5)).drop ((i + 1) * 5) ++ cur.toList.drop ((n - 1) * 5)).toArray.toList ++ Z5 ++ List.drop ((n - 1) * 5 + 5) (cur.toList.take (i * 5) ++ (cur.toList.take (n * 5)).drop ((i + 1) * 5) ++ cur.toList.drop ((n - 1) * 5)).toArray.toList).toArray = X
    intro hfin
    have hW2 := setRow_heap W g _ X 86 (0, 0) HG2.out
    have HP : Hid (DelPost g n cap ((fs.eraseIdx i).flatMap FV.cells) w (.returned (.slice (some ⟨g, 0, none⟩) (n - 1) cap)) (W.setRow g X)) :=
      ⟨rfl, ⟨by rw [flat_len FV.cells 5 FV.cells_len, List.length_eraseIdx_of_lt (by rw [HL.out]; exact hi), HL.out], .inr ⟨g, cap, _, rfl, Nat.zero_le _, hW2, by omega, hcm, hfin.1, hfin.2⟩⟩,
        HK.trans (c := W.setRow g X) (S' := fun k => k = g) ⟨rfl, rfl, rfl, by simp, fun k _ hk => setRow_other W g k X hk⟩ (fun _ _ h => h)⟩
    revert HP
    generalize W.setRow g X = W2
    intro HP
    clear hfin hW2 HG2 HK hlen HF HC
    go_wp2
    go_ret
    exact HP.out
end Go.Proofs.Ytnkcgalbaeppmaa
/- The walk of take. -/
namespace Go.Proofs.Ytnkcgalbaeppmaa
open Go.RowKit

def TakePost (b : Nat) (hv mv ev : Value) (nx : Int) (g n cap : Nat) (xs : List Value) (x : FV) (w : World) (e : Ending) (w' : World) : Prop :=
  e = .returned x.p.val ∧ NetBlk w' b hv (.slice (some ⟨g, 0, none⟩) (n - 1) cap) nx mv ev ∧ w'.ownsRow 0 86 5 (.slice (some ⟨g, 0, none⟩) (n - 1) cap) (n - 1) xs ∧ Kp (fun k => k = b ∨ k = g) w w'
set_option maxHeartbeats 800000 in
theorem take_any (b : Nat) (hv mv ev : Value) (nx : Int) (g n cap i : Nat) (fs : List FV) (x : FV) (w : World) (hb : NetBlk w b hv (.slice (some ⟨g, 0, none⟩) n cap) nx mv ev)
    (hf : w.ownsRow 0 86 5 (.slice (some ⟨g, 0, none⟩) n cap) n (fs.flatMap FV.cells)) (hx : fs[i]? = some x) (hi : i < n) (hn : n ≤ 100000) :
    Calls Try.prog 49 #[.pointer (some ⟨b, 0, none⟩), .int .i64 i] w (TakePost b hv mv ev nx g n cap ((fs.eraseIdx i).flatMap FV.cells) x w) := by
  have c1 := hb.c1
  have lb := hb.lt
  obtain ⟨d0, d1, d2, d3, d4⟩ := fly_cells hf hx
  have lg : g < w.heap.size := World.block_lt_of_cell? w _ d0
  have hgb : g ≠ b := fun e => ownsRow_ne hf hb (by decide) (by rw [e]; rfl)
  have i0 : (0 : Int) ≤ (i : Int) := by omega
  have i1 : (i : Int) < (n : Int) := by omega
  go_enter Try.func49, Try.ntmps49
  go_wp2_with fail
  have hk0 : Kp (fun k => k = b ∨ k = g) w ((w.alloc (.cells #[.string { data := #[] }, .string { data := #[] }, .slice none 0 0] 40)).alloc (.cells #[.string x.p.f, .string x.p.t, .slice x.p.ba x.p.bn x.p.bc] 40)) := ((Kp.refl _ w).alloc _).alloc _
  refine (delete_any g n cap i fs _ ((hf.alloc _).alloc _) hi hn).mono ?_
  rintro e w1 ⟨rfl, hown, hk⟩
  have e0 := (hk.block w.heap.size (by simp; omega) (by omega)).trans (top1 w _ _)
  have e1 := (hk.block (w.heap.size + 1) (by simp) (by omega)).trans (top0 w _ _)
  have hb1 : NetBlk w1 b hv (.slice (some ⟨g, 0, none⟩) n cap) nx mv ev := by
    refine (hk.block b (by simp; omega) (Ne.symm hgb)).trans ?_
    exact (Below.heap_alloc _ _ _ (by simp; omega)).trans ((Below.heap_alloc _ _ _ lb).trans hb)
  have hk1 : Kp (fun k => k = b ∨ k = g) w w1 := hk0.trans hk (fun k _ h => .inr h)
  obtain ⟨p0, p1, p2, q0, q1, q2, ql⟩ := blk3 e0
  obtain ⟨r0, r1, r2, s0, s1, s2, sl⟩ := blk3 e1
  have t1 := hb1.fz 1
  have t2 := hb1.c1
  have t3 := hb1.lt
  have hne1 : w.heap.size ≠ b := by omega
  have hne2 : w.heap.size + 1 ≠ b := by omega
  have hne3 : ¬ b = w.heap.size := by omega
  have hne4 : ¬ b = w.heap.size + 1 := by omega
  clear hk0 hk e0 e1 c1 d0 d1 d2 d3 d4 hb hf hx
  go_wp2_with fail
  refine bodyPost_ret (v := x.p.val) (by simp [results, Try.results49, PV.val, go_sem, p0, p1, p2]) rfl ?_
  refine ⟨rfl, ?_, ?_, ?_⟩
  · exact (((hb1.set1 _).far hne3 _).far hne3 _).far hne3 _
  · have g1 : Value.ownBlock (.slice (some ⟨g, 0, none⟩) (n - 1) cap) ≠ some b := fun e => hgb (by simpa [Value.ownBlock] using e)
    have g2 : Value.ownBlock (.slice (some ⟨g, 0, none⟩) (n - 1) cap) ≠ some w.heap.size := fun e => by simp [Value.ownBlock] at e; omega
    exact own_setCell (own_setCell (own_setCell (own_setCell hown g1 _) g2 _) g2 _) g2 _
  · exact (((hk1.setCell (fun _ => .inl rfl) _).setCell (by simp) _).setCell (by simp) _).setCell (by simp) _
end Go.Proofs.Ytnkcgalbaeppmaa
