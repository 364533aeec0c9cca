/- Flight: the list that the iterator holds. -/
import Derived.Test.YtnkcgalbaeppmaaEv1
namespace Go.Proofs.Ytnkcgalbaeppmaa
open Go.RowKit
/-- A list of packets in flight in memory of its own. -/
structure FlAt (w : World) (B0 : Nat) (v : Value) (fs : List FlM) (qs : List FV) : Prop where
  own : w.ownsRow 0 86 5 v fs.length (qs.flatMap FV.cells)
  p : Both (FOwn w) qs fs
  vb : ∀ k, v.ownBlock = some k → B0 ≤ k
  qb : ∀ x ∈ qs, ∀ k, x.p.blk = some k → B0 ≤ k
  apart : ∀ (i j : Nat) (x y : FV) (k : Nat), qs[i]? = some x → qs[j]? = some y → i ≠ j → x.p.blk = some k → y.p.blk ≠ some k
theorem FlAt.nil (w : World) (B0 : Nat) : FlAt w B0 (.slice none 0 0) [] [] := ⟨World.ownsRow_nil _ _ _ _, Both.nil, fun k hk => by simp [Value.ownBlock] at hk, fun x hx => by simp at hx, fun i j x y k hx => by simp at hx⟩
theorem FlAt.qlt {w : World} {B0 : Nat} {v : Value} {fs : List FlM} {qs : List FV} (h : FlAt w B0 v fs qs) {x : FV} (hx : x ∈ qs) {k : Nat} (hk : x.p.blk = some k) : k < w.heap.size := by
  obtain ⟨m, _, hm⟩ := h.p.left hx; exact hm.p.lt hk
theorem FlAt.q5 {w : World} {B0 : Nat} {v : Value} {fs : List FlM} {qs : List FV} (h : FlAt w B0 v fs qs) {x : FV} (hx : x ∈ qs) {k : Nat} (hk : x.p.blk = some k) : ∃ cur, w.heap[k]? = some (.cells cur 5 (0, 0)) := by
  obtain ⟨m, _, hm⟩ := h.p.left hx; exact hm.p.block hk
theorem FlAt.same {w w' : World} {B0 : Nat} {v : Value} {fs : List FlM} {qs : List FV} (h : FlAt w B0 v fs qs) (hs : ∀ k, (v.ownBlock = some k ∨ ∃ x ∈ qs, x.p.blk = some k) → w'.heap[k]? = w.heap[k]?) : FlAt w' B0 v fs qs :=
  ⟨ownsRow_same h.own fun k hk => hs k (.inl hk), h.p.mono fun x y hx hm => ⟨hm.p.same fun k hk => hs k (.inr ⟨x, hx, hk⟩), hm.id, hm.src⟩, h.vb, h.qb, h.apart⟩
theorem FlAt.lt {w : World} {B0 : Nat} {v : Value} {fs : List FlM} {qs : List FV} (h : FlAt w B0 v fs qs) {k : Nat} (hk : v.ownBlock = some k ∨ ∃ x ∈ qs, x.p.blk = some k) : k < w.heap.size :=
  hk.elim (fun hk => (h.own.lt k hk).2) (fun ⟨_, hx, hk⟩ => h.qlt hx hk)
theorem FlAt.below {w w' : World} {B0 : Nat} {v : Value} {fs : List FlM} {qs : List FV} (h : FlAt w B0 v fs qs) {B : Nat} (hb : Below B w w') (hB : w.heap.size ≤ B) : FlAt w' B0 v fs qs :=
  h.same fun k hk => hb.block k (Nat.lt_of_lt_of_le (h.lt hk) hB)
theorem FlAt.far {w : World} {B0 : Nat} {v : Value} {fs : List FlM} {qs : List FV} (h : FlAt w B0 v fs qs) {b : Nat} {c : Array Value} {T : TypeId} (hb : w.heap[b]? = some (.cells c T (0, 0))) (h5 : T ≠ 5) (h86 : T ≠ 86) (o : Nat) (u : Value) : FlAt (w.setCell ⟨b, o, none⟩ u) B0 v fs qs :=
  h.same fun k hk => Below.heap_setCell _ _ _ _ (fun e => by
    simp only at e
    subst e
    rcases hk with hk | ⟨x, hx, hk⟩
    · obtain ⟨c', hc⟩ := ownsRow_block h.own hk; exact h86 (cells_inj hb hc)
    · obtain ⟨c', hc⟩ := h.q5 hx hk; exact h5 (cells_inj hb hc))
/-- One more. -/
theorem FlAt.push {w w1 : World} {B0 W0 : Nat} {v v' : Value} {fs : List FlM} {qs : List FV} (h : FlAt w B0 v fs qs) {q : PV} {m : FlM} (hq : POwn w q m.pk) (hqb : ∀ k, q.blk = some k → W0 ≤ k) (hold : ∀ x ∈ qs, ∀ k, x.p.blk = some k → k < W0) (hB : B0 ≤ W0)
    (hown : w1.ownsRow 0 86 5 v' (fs.length + 1) (qs.flatMap FV.cells ++ (FV.cells ⟨q, m.id, m.src⟩))) (hk : Kp (fun k => v.ownBlock = some k) w w1) (hv : ∀ k, v'.ownBlock = some k → B0 ≤ k) :
    FlAt w1 B0 v' (fs ++ [m]) (qs ++ [⟨q, m.id, m.src⟩]) := by
  have h5 : ∀ k c, w.heap[k]? = some (.cells c 5 (0, 0)) → ¬ v.ownBlock = some k := fun k c hc e => by
    obtain ⟨c', hc'⟩ := ownsRow_block h.own e; exact absurd (cells_inj hc hc') (by decide)
  refine ⟨?_, ?_, hv, ?_, ?_⟩
  · have : (qs ++ [(⟨q, m.id, m.src⟩ : FV)]).flatMap FV.cells = qs.flatMap FV.cells ++ FV.cells ⟨q, m.id, m.src⟩ := by simp
    rw [this]; simpa using hown
  · refine (h.p.mono fun x y hx hm => (⟨hm.p.kp hk (fun k h1 => by obtain ⟨c, hc⟩ := hm.p.block h1; exact h5 k c hc), hm.id, hm.src⟩ : FOwn w1 x y)).snoc ⟨hq.kp hk (fun k h1 => by obtain ⟨c, hc⟩ := hq.block h1; exact h5 k c hc), rfl, rfl⟩
  · intro x hx k hk
    rcases List.mem_append.1 hx with hx | hx
    · exact h.qb x hx k hk
    · obtain rfl : x = ⟨q, m.id, m.src⟩ := by simpa using hx
      exact Nat.le_trans hB (hqb k hk)
  · intro i j x y k hx hy hij h1 h2
    rcases Nat.lt_or_ge i qs.length with hi | hi <;> rcases Nat.lt_or_ge j qs.length with hj | hj
    · rw [List.getElem?_append_left hi] at hx
      rw [List.getElem?_append_left hj] at hy
      exact h.apart i j x y k hx hy hij h1 h2
    · rw [List.getElem?_append_left hi] at hx
      rw [List.getElem?_append_right hj] at hy
      have h3 := hold x (List.mem_of_getElem? hx) k h1
      have : y = ⟨q, m.id, m.src⟩ := by
        have := List.mem_of_getElem? hy; simpa using this
      subst this
      have := hqb k h2; omega
    · rw [List.getElem?_append_right hi] at hx
      rw [List.getElem?_append_left hj] at hy
      have h3 := hold y (List.mem_of_getElem? hy) k h2
      have : x = ⟨q, m.id, m.src⟩ := by
        have := List.mem_of_getElem? hx; simpa using this
      subst this
      have := hqb k h1; omega
    · have h4 : i < (qs ++ [(⟨q, m.id, m.src⟩ : FV)]).length := (List.getElem?_eq_some_iff.1 hx).1
      have h5 : j < (qs ++ [(⟨q, m.id, m.src⟩ : FV)]).length := (List.getElem?_eq_some_iff.1 hy).1
      simp at h4 h5; omega

/-- Flight's value. -/
def FlPost (fs : List FlM) (w : World) (en : Ending) (w' : World) : Prop :=
  ∃ (B : Nat) (v : Value) (qs : List FV), en = .returned (.func (.func 40) #[] #[.pointer (some ⟨B, 0, none⟩)]) ∧ w'.heap[B]? = some (.cells #[v] 27 (0, 0)) ∧ w.heap.size ≤ B ∧ FlAt w' w.heap.size v fs qs ∧ Below w.heap.size w w'
theorem flight_nil (w : World) : Calls Try.prog 14 #[.pointer none] w (FlPost [] w) := by
  go_enter Try.func14, Try.ntmps14
  go_wp2_with fail
  go_ret
  exact ⟨w.heap.size, _, [], rfl, heap_alloc_new _ _, Nat.le_refl _, FlAt.nil _ _, (Below.refl _ w).alloc (Nat.le_refl _) _⟩
set_option maxHeartbeats 800000 in
theorem flight_any (w : World) (b : Nat) (N : NetM) (D : ND) (h : RepOk w b N D) (hl : N.lim) : Calls Try.prog 14 #[.pointer (some ⟨b, 0, none⟩)] w (FlPost N.fl w) := by
  have c1 := h.blk.c1
  have lb := h.blk.lt
  have hl1 := h.flp.1
  have hfl := hl.fl
  have hflok := hl.flok
  rcases h.fl.2 with ⟨hfv, hn⟩ | ⟨g, cap, cur, hfv, _⟩
  · rw [hfv] at c1
    have hn0 : N.fl = [] := List.eq_nil_of_length_eq_zero hn
    clear h hl
    go_enter Try.func14, Try.ntmps14
    go_wp2_with fail
    go_loopw [5, 13] (fun _ i wr => i = .int .i64 0 ∧ wr = w.alloc (.cells #[.slice none 0 0] 27)) (fun _ _ _ => 0)
    case atStart => exact ⟨rfl, rfl⟩
    case round =>
      obtain ⟨rfl, rfl⟩ := hrel
      go_wp2_with fail
      go_ret
      exact ⟨w.heap.size, _, [], rfl, heap_alloc_new _ _, Nat.le_refl _, by rw [hn0]; exact FlAt.nil _ _, (Below.refl _ w).alloc (Nat.le_refl _) _⟩
  · rw [hfv] at c1
    have hown := h.fl
    rw [hfv] at hown
    have hflp := h.flp
    clear h hl
    have hlg : g < w.heap.size := (hown.lt g rfl).2
    go_enter Try.func14, Try.ntmps14
    go_wp2_with fail
    go_loopw [5, 13] (fun _ i wr => ∃ (k : Nat) (v : Value) (qs : List FV), k ≤ N.fl.length ∧ i = .int .i64 k ∧ wr.heap[w.heap.size]? = some (.cells #[v] 27 (0, 0)) ∧ FlAt wr w.heap.size v (N.fl.take k) qs ∧ Below w.heap.size w wr) (fun _ i _ => N.fl.length - (intOf i).toNat)
    case atStart => exact ⟨0, _, [], Nat.zero_le _, rfl, heap_alloc_new _ _, FlAt.nil _ _, (Below.refl _ w).alloc (Nat.le_refl _) _⟩
    case round =>
      obtain ⟨k, v, qs, hk, rfl, hbx, hfa, hb⟩ := hrel
      by_cases hlt : k < N.fl.length
      · obtain ⟨m, hm⟩ : ∃ m, N.fl[k]? = some m := ⟨_, List.getElem?_eq_getElem hlt⟩
        obtain ⟨x, hx, hxm⟩ := hflp.at hm
        obtain ⟨d0, d1, d2, d3, d4⟩ := fly_cells (ownsRow_below hown hb (Nat.le_refl _)) hx
        have hok := hflok m (List.mem_of_getElem? hm)
        have hpi : PIn wr x.p m.pk := (hxm.p.below hb (Nat.le_refl _)).pin
        have lB := lt_of_heap hbx
        have i0 : (0 : Int) ≤ (k : Int) := by omega
        have i1 : (k : Int) < (N.fl.length : Int) := by omega
        have i2 : (N.fl.length : Int) ≤ 64 := by omega
        have HT := Lib.hid (show N.fl.take (k + 1) = N.fl.take k ++ [m] by rw [List.take_add_one, hm]; rfl)
        have HL := Lib.hid (show (N.fl.take k).length = k by simp; omega)
        have hxi := hxm.id
        have hxs := hxm.src
        clear hm hx hxm hown hflp
        go_wp2_with fail
        have hA : Below w.heap.size w (wr.alloc (.cells #[.string x.p.f, .string x.p.t, .slice x.p.ba x.p.bn x.p.bc, .int .i64 m.id, .int .i64 m.src] 86)) := hb.alloc hb.size _
        have hpA := hpi.below ((Below.refl wr.heap.size wr).alloc (Nat.le_refl _) (.cells #[.string x.p.f, .string x.p.t, .slice x.p.ba x.p.bn x.p.bc, .int .i64 m.id, .int .i64 m.src] 86)) (Nat.le_refl _)
        have eA := heap_alloc_new wr (.cells #[.string x.p.f, .string x.p.t, .slice x.p.ba x.p.bn x.p.bc, .int .i64 m.id, .int .i64 m.src] 86)
        have fA := hfa.below ((Below.refl wr.heap.size wr).alloc (Nat.le_refl _) (.cells #[.string x.p.f, .string x.p.t, .slice x.p.ba x.p.bn x.p.bc, .int .i64 m.id, .int .i64 m.src] 86)) (Nat.le_refl _)
        have bA := (Below.heap_alloc wr (.cells #[.string x.p.f, .string x.p.t, .slice x.p.ba x.p.bn x.p.bc, .int .i64 m.id, .int .i64 m.src] 86) _ lB).trans hbx
        refine (clone_any x.p m.pk _ hpA (by have := hpi.n; have := hok.bs; omega)).mono ?_
        rintro e w2 ⟨⟨qf, qt, qa, qn, qc⟩, rfl, hq, hqb, hbl⟩
        have e2 := (hbl.block _ (lt_of_heap eA)).trans eA
        have b2 := (hbl.block _ (lt_of_heap bA)).trans bA
        have f2 := fA.below hbl (Nat.le_refl _)
        have h2 := hA.trans (hbl.mono hA.size)
        obtain ⟨p0, p1, p2, p3, p4, pf, pl⟩ := blk5 e2
        have bc := (blk1 b2).1
        have hvl : ∀ k, (v.ownBlock = some k ∨ ∃ x ∈ qs, x.p.blk = some k) → k < wr.heap.size := fun k hk => hfa.lt hk
        have hBsz := hb.size
        have hqb' : ∀ k, PV.blk ⟨qf, qt, qa, qn, qc⟩ = some k → wr.heap.size + 1 ≤ k := fun k hk => by have := hqb k hk; simpa using this
        clear fA bA eA hpA hA hbl d0 d1 d2 d3 d4 hpi hfa hbx hb hqb
        simp only [PV.val]
        go_wp2_with (at_builtin; apply unwrap)
        clear p0 p1 p2 p3 p4 bc
        generalize hW3 : ((w2.setCell ⟨wr.heap.size, 0, none⟩ (.string qf)).setCell ⟨wr.heap.size, 1, none⟩ (.string qt)).setCell ⟨wr.heap.size, 2, none⟩ (.slice qa qn qc) = w3
        have hk3 : Kp (fun k => k = wr.heap.size) w2 w3 := by subst hW3; exact (((Kp.refl (fun k => k = wr.heap.size) w2).setCell (fun _ => rfl) _).setCell (fun _ => rfl) _).setCell (fun _ => rfl) _
        have hz3 : w3.heap.size = w2.heap.size := by subst hW3; simp [World.setCell]
        have h3 : Below w.heap.size w w3 := by subst hW3; exact ((h2.setCell hBsz _).setCell hBsz _).setCell hBsz _
        have f3 : FlAt w3 w.heap.size v (N.fl.take k) qs := f2.same fun k hk => hk3.block k (f2.lt hk) (by have := hvl k hk; omega)
        have q3 := hq.kp hk3 (fun k hk => by have := hqb' k hk; omega)
        have b3 : w3.heap[w.heap.size]? = _ := (hk3.block w.heap.size (lt_of_heap b2) (by omega)).trans b2
        rw [← hz3]
        clear hW3 hk3 h2 f2 hq b2 e2 pf
        have hne := ownsRow_ne f3.own b3 (by decide)
        refine wpList_push rfl _ _ 27 rfl T27 rfl f3.own #[.string qf, .string qt, .slice qa qn qc, .int .i64 m.id, .int .i64 m.src] rfl (by simp [Value.oneCell']) rfl (by have := HL.out; omega) ?_
        intro g' cap' w4 hown hk4 hat hlt4
        have b4 : w4.heap[w.heap.size]? = _ := (hk4.block w.heap.size (lt_of_heap b3) hne).trans b3
        have hg4 : w.heap.size ≤ g' := hat.elim (fun e => f3.vb _ e) (fun e => Nat.le_trans h3.size e)
        have f4 := FlAt.push (W0 := wr.heap.size) (m := m) f3 q3 (fun k hk => by have := hqb' k hk; omega) (fun x hx k hk => hvl k (.inr ⟨x, hx, hk⟩)) hBsz hown hk4 (fun k hk => by cases hk; exact hg4)
        have h4 : Below w.heap.size w w4 := Below.kp h3 hk4 (Nat.le_refl _) (fun k hk => f3.vb k hk)
        obtain ⟨b5, b6, _⟩ := blk1 b4
        clear f3 q3 b3 hne hown hk4 hat h3
        go_wp2_with fail
        go_roundw
        case rel => 
          rw [HL.out] at f4
          refine ⟨k + 1, _, qs ++ [⟨⟨qf, qt, qa, qn, qc⟩, m.id, m.src⟩], by omega, by go_num, by simp [World.setCell, Array.getElem?_modify, b4]; rfl, ?_, h4.setCell (Nat.le_refl _) _⟩
          rw [HT.out]
          exact f4.far b4 (by decide) (by decide) _ _
        case measure => simp [intOf]; omega
      · obtain rfl : k = N.fl.length := by omega
        go_wp2_with fail
        go_ret
        exact ⟨w.heap.size, _, qs, rfl, hbx, Nat.le_refl _, by rw [List.take_of_length_le (Nat.le_refl _)] at hfa; exact hfa, hb⟩
end Go.Proofs.Ytnkcgalbaeppmaa
