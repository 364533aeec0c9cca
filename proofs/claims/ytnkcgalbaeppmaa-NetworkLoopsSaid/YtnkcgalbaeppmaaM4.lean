/- Texts joined into one: Ev1 Ev2 Cp1 Cp2. -/
import Derived.Test.YtnkcgalbaeppmaaM3
import Derived.Shelf.SlMaps.Clone
/- slices.Clone at events and packets; Events and History. -/
namespace Go.Proofs.Ytnkcgalbaeppmaa
open Go.RowKit
def SClonePost (e : TypeId) (size n : Nat) (xs : List Value) (w : World) (en : Ending) (w' : World) : Prop :=
  ∃ v, en = .returned v ∧ w'.ownsRow w.heap.size e size v n xs ∧ Below w.heap.size w w'
set_option maxHeartbeats 400000 in
set_option maxRecDepth 100000 in
theorem sclone_ev (v : Value) (n : Nat) (xs : List Value) (w : World) (h : w.ownsRow 0 61 3 v n xs) (hn : n ≤ 100000) (h1 : ∀ u ∈ xs, u.oneCell' = true) :
    Calls Try.prog 43 #[v] w (SClonePost 61 3 n xs w) := by
  have q29 : ∀ (w : World) (a : Option Addr) (n c n' c' : Nat), (binOp .eql 29 (.slice a n c) (.slice none n' c')).run Try.prog w = .ok (.bool a.isNone) w := fun w a n c n' c' => Lib.run_eql_slice_nil w _ _ a n c n' c' Try.underlying29
  have u29 : ∀ w, Sem.run Try.prog (underlying 29) w = .ok (TypeDesc.slice 61) w := run_underlying Try.underlying29
  obtain ⟨i0, hi, hz0, hz1, hz2⟩ := info_parts T29.info
  have hl := h.1
  rcases h.2 with ⟨rfl, rfl⟩ | ⟨g, cap, cur, rfl, _, hg, hnc, hcm, hcs, htk⟩
  · go_enter Try.func43, Try.ntmps43
    go_wp2_with fail
    go_ret
    obtain rfl : xs = [] := List.eq_nil_of_length_eq_zero (by simpa using hl)
    exact ⟨_, rfl, World.ownsRow_nil _ _ _ _, Below.refl _ _⟩
  · have A : Aside (∀ j u, xs[j]? = some u → w.cell? ((⟨g, 0, none⟩ : Addr).add j) = some u) := fun j u hu => h.cells (g := g) rfl j u hu
    clear h htk hg
    go_enter Try.func43, Try.ntmps43
    go_wp2_with (at_builtin; refine wpList_append_own _ rfl _ _ 29 rfl w.heap.size 61 i0 (.agg #[.int .i64 0, .int .i64 0, .int .i64 0]) 3 24 Try.underlying29 hi hz0 hz1 hz2 rfl (by decide) _ _ _ rfl (World.ownsRow_made w #[] 0 (Nat.le_refl _) (Nat.zero_le _) rfl) ⟨g, 0, none⟩ n cap xs rfl ?qc1 ?qc2 ?qc3 ?qc4 ?qc5 ?qc6 ?_)
    case qc1 => exact hl
    case qc2 => intro j u hj; exact Lib.cell?_alloc_some _ (A.out j u hj)
    case qc3 => exact h1
    case qc4 => unfold maxLen; omega
    case qc5 => omega
    case qc6 => simp
    intro v' w1 hown hgrow hnil
    go_wp2
    go_ret
    exact ⟨v', rfl, by simpa using hown, ((Below.refl _ w).alloc (Nat.le_refl _) _).grown hgrow (by simp) (by intro k hk; simp [Value.ownBlock] at hk; omega)⟩
set_option maxHeartbeats 400000 in
set_option maxRecDepth 100000 in
theorem sclone_pk (v : Value) (n : Nat) (xs : List Value) (w : World) (h : w.ownsRow 0 40 3 v n xs) (hn : n ≤ 100000) (h1 : ∀ u ∈ xs, u.oneCell' = true) :
    Calls Try.prog 41 #[v] w (SClonePost 40 3 n xs w) := by
  have q26 : ∀ (w : World) (a : Option Addr) (n c n' c' : Nat), (binOp .eql 26 (.slice a n c) (.slice none n' c')).run Try.prog w = .ok (.bool a.isNone) w := fun w a n c n' c' => Lib.run_eql_slice_nil w _ _ a n c n' c' Try.underlying26
  have u26 : ∀ w, Sem.run Try.prog (underlying 26) w = .ok (TypeDesc.slice 40) w := run_underlying Try.underlying26
  obtain ⟨i0, hi, hz0, hz1, hz2⟩ := info_parts T26.info
  have hl := h.1
  rcases h.2 with ⟨rfl, rfl⟩ | ⟨g, cap, cur, rfl, _, hg, hnc, hcm, hcs, htk⟩
  · go_enter Try.func41, Try.ntmps41
    go_wp2_with fail
    go_ret
    obtain rfl : xs = [] := List.eq_nil_of_length_eq_zero (by simpa using hl)
    exact ⟨_, rfl, World.ownsRow_nil _ _ _ _, Below.refl _ _⟩
  · have A : Aside (∀ j u, xs[j]? = some u → w.cell? ((⟨g, 0, none⟩ : Addr).add j) = some u) := fun j u hu => h.cells (g := g) rfl j u hu
    clear h htk hg
    go_enter Try.func41, Try.ntmps41
    go_wp2_with (at_builtin; refine wpList_append_own _ rfl _ _ 26 rfl w.heap.size 40 i0 (.agg #[.string ByteArray.empty, .string ByteArray.empty, .slice none 0 0]) 3 56 Try.underlying26 hi hz0 hz1 hz2 rfl (by decide) _ _ _ rfl (World.ownsRow_made w #[] 0 (Nat.le_refl _) (Nat.zero_le _) rfl) ⟨g, 0, none⟩ n cap xs rfl ?qc1 ?qc2 ?qc3 ?qc4 ?qc5 ?qc6 ?_)
    case qc1 => exact hl
    case qc2 => intro j u hj; exact Lib.cell?_alloc_some _ (A.out j u hj)
    case qc3 => exact h1
    case qc4 => unfold maxLen; omega
    case qc5 => omega
    case qc6 => simp
    intro v' w1 hown hgrow hnil
    go_wp2
    go_ret
    exact ⟨v', rfl, by simpa using hown, ((Below.refl _ w).alloc (Nat.le_refl _) _).grown hgrow (by simp) (by intro k hk; simp [Value.ownBlock] at hk; omega)⟩

/-- An iterator's value: a closure of function g over a box in which a slice lies. -/
def SeqPost (g : Nat) (T e : TypeId) (n : Nat) (xs : List Value) (w : World) (en : Ending) (w' : World) : Prop :=
  ∃ (B : Nat) (v : Value), en = .returned (.func (.func g) #[] #[.pointer (some ⟨B, 0, none⟩)]) ∧ w'.heap[B]? = some (.cells #[v] T (0, 0)) ∧ w.heap.size ≤ B ∧ w'.ownsRow w.heap.size e 3 v n xs ∧ Below w.heap.size w w'
theorem events_nil (w : World) : Calls Try.prog 16 #[.pointer none] w (SeqPost 44 29 61 0 [] w) := by
  go_enter Try.func16, Try.ntmps16
  go_wp2_with fail
  go_ret
  exact ⟨w.heap.size, _, rfl, heap_alloc_new _ _, Nat.le_refl _, World.ownsRow_nil _ _ _ _, (Below.refl _ w).alloc (Nat.le_refl _) _⟩
theorem ev_one {l : List EvM} : ∀ u ∈ l.flatMap EvM.cells, u.oneCell' = true := fun u hu => by
  obtain ⟨x, _, hx⟩ := List.mem_flatMap.1 hu
  simp [EvM.cells] at hx
  rcases hx with rfl | rfl | rfl <;> rfl
theorem pk_one {l : List PV} : ∀ u ∈ l.flatMap PV.cells, u.oneCell' = true := fun u hu => by
  obtain ⟨x, _, hx⟩ := List.mem_flatMap.1 hu
  simp [PV.cells] at hx
  rcases hx with rfl | rfl | rfl <;> rfl
theorem events_any (w : World) (b : Nat) (N : NetM) (D : ND) (h : RepOk w b N D) (hl : N.lim) : Calls Try.prog 16 #[.pointer (some ⟨b, 0, none⟩)] w (SeqPost 44 29 61 N.ev.length (N.ev.flatMap EvM.cells) w) := by
  have c4 := h.blk.c4
  have lb := h.blk.lt
  have hev := h.ev.alloc (.cells #[.slice none 0 0] 29)
  have hb := hl.ev
  clear h
  go_enter Try.func16, Try.ntmps16
  go_wp2_with fail
  refine (sclone_ev D.ev _ _ _ hev (by omega) ev_one).mono ?_
  rintro e w1 ⟨v, rfl, hown, hbl⟩
  have e1 := (hbl.block w.heap.size (by simp)).trans (heap_alloc_new w _)
  have l1 : w.heap.size < w1.heap.size := lt_of_heap e1
  have p1 : w1.cell? ⟨w.heap.size, 0, none⟩ = some (.slice none 0 0) := by simp [World.cell?, e1]
  have p2 : w1.frozen? ⟨w.heap.size, 0, none⟩ = false := by simp [World.frozen?, e1]
  obtain ⟨a, c, rfl, _⟩ := ownsRow_slice hown
  have hne : Value.ownBlock (.slice a N.ev.length c) ≠ some w.heap.size := fun e => by have := (hown.lt _ e).1; simp at this; omega
  have hw := ((Below.refl w.heap.size w).alloc (Nat.le_refl _) (.cells #[.slice none 0 0] 29)).trans (hbl.mono (by simp))
  clear hev hbl
  go_wp2_with fail
  go_ret
  exact ⟨w.heap.size, _, rfl, by simp [World.setCell, Array.getElem?_modify, e1], Nat.le_refl _, own_setCell (ownsRow_base hown (by simp)) hne _, hw.setCell (Nat.le_refl _) _⟩
theorem history_nil (w : World) : Calls Try.prog 15 #[.pointer none] w (SeqPost 42 26 40 0 [] w) := by
  go_enter Try.func15, Try.ntmps15
  go_wp2_with fail
  go_ret
  exact ⟨w.heap.size, _, rfl, heap_alloc_new _ _, Nat.le_refl _, World.ownsRow_nil _ _ _ _, (Below.refl _ w).alloc (Nat.le_refl _) _⟩
theorem history_any (w : World) (b : Nat) (N : NetM) (D : ND) (h : RepOk w b N D) (hl : N.lim) : Calls Try.prog 15 #[.pointer (some ⟨b, 0, none⟩)] w (SeqPost 42 26 40 N.hist.length (D.hs.flatMap PV.cells) w) := by
  have c4 := h.blk.c0
  have lb := h.blk.lt
  have hev := h.hist.alloc (.cells #[.slice none 0 0] 26)
  have hb := hl.hist
  clear h
  go_enter Try.func15, Try.ntmps15
  go_wp2_with fail
  refine (sclone_pk D.hv _ _ _ hev (by omega) pk_one).mono ?_
  rintro e w1 ⟨v, rfl, hown, hbl⟩
  have e1 := (hbl.block w.heap.size (by simp)).trans (heap_alloc_new w _)
  have l1 : w.heap.size < w1.heap.size := lt_of_heap e1
  have p1 : w1.cell? ⟨w.heap.size, 0, none⟩ = some (.slice none 0 0) := by simp [World.cell?, e1]
  have p2 : w1.frozen? ⟨w.heap.size, 0, none⟩ = false := by simp [World.frozen?, e1]
  obtain ⟨a, c, rfl, _⟩ := ownsRow_slice hown
  have hne : Value.ownBlock (.slice a N.hist.length c) ≠ some w.heap.size := fun e => by have := (hown.lt _ e).1; simp at this; omega
  have hw := ((Below.refl w.heap.size w).alloc (Nat.le_refl _) (.cells #[.slice none 0 0] 26)).trans (hbl.mono (by simp))
  clear hev hbl
  go_wp2_with fail
  go_ret
  exact ⟨w.heap.size, _, rfl, by simp [World.setCell, Array.getElem?_modify, e1], Nat.le_refl _, own_setCell (ownsRow_base hown (by simp)) hne _, hw.setCell (Nat.le_refl _) _⟩
end Go.Proofs.Ytnkcgalbaeppmaa
/- Flight: the list that the iterator holds. -/
namespace Go.Proofs.Ytnkcgalbaeppmaa
open Go.RowKit
/-- A list of packets in flight in memory of its own. -/
structure FlAt (w : World) (B0 : Nat) (v : Value) (fs : List FlM) (qs : List FV) : Prop where
  own : w.ownsRow 0 86 5 v fs.length (qs.flatMap FV.cells)
  p : Both (FOwn w) qs fs
  vb : ∀ k, v.ownBlock = some k → B0 ≤ k
  qb : ∀ x ∈ qs, ∀ k, x.p.blk = some k → B0 ≤ k
  apart : ∀ (i j : Nat) (x y : FV) (k : Nat), qs[i]? = some x → qs[j]? = some y → i ≠ j → x.p.blk = some k → y.p.blk ≠ some k
theorem FlAt.nil (w : World) (B0 : Nat) : FlAt w B0 (.slice none 0 0) [] [] := ⟨World.ownsRow_nil _ _ _ _, Both.nil, fun k hk => by simp [Value.ownBlock] at hk, fun x hx => by simp at hx, fun i j x y k hx => by simp at hx⟩
theorem FlAt.qlt {w : World} {B0 : Nat} {v : Value} {fs : List FlM} {qs : List FV} (h : FlAt w B0 v fs qs) {x : FV} (hx : x ∈ qs) {k : Nat} (hk : x.p.blk = some k) : k < w.heap.size := by
  obtain ⟨m, _, hm⟩ := h.p.left hx; exact hm.p.lt hk
theorem FlAt.q5 {w : World} {B0 : Nat} {v : Value} {fs : List FlM} {qs : List FV} (h : FlAt w B0 v fs qs) {x : FV} (hx : x ∈ qs) {k : Nat} (hk : x.p.blk = some k) : ∃ cur, w.heap[k]? = some (.cells cur 5 (0, 0)) := by
  obtain ⟨m, _, hm⟩ := h.p.left hx; exact hm.p.block hk
theorem FlAt.same {w w' : World} {B0 : Nat} {v : Value} {fs : List FlM} {qs : List FV} (h : FlAt w B0 v fs qs) (hs : ∀ k, (v.ownBlock = some k ∨ ∃ x ∈ qs, x.p.blk = some k) → w'.heap[k]? = w.heap[k]?) : FlAt w' B0 v fs qs :=
  ⟨ownsRow_same h.own fun k hk => hs k (.inl hk), h.p.mono fun x _y hx hm => ⟨hm.p.same fun k hk => hs k (.inr ⟨x, hx, hk⟩), hm.id, hm.src⟩, h.vb, h.qb, h.apart⟩
theorem FlAt.lt {w : World} {B0 : Nat} {v : Value} {fs : List FlM} {qs : List FV} (h : FlAt w B0 v fs qs) {k : Nat} (hk : v.ownBlock = some k ∨ ∃ x ∈ qs, x.p.blk = some k) : k < w.heap.size :=
  hk.elim (fun hk => (h.own.lt k hk).2) (fun ⟨_, hx, hk⟩ => h.qlt hx hk)
theorem FlAt.below {w w' : World} {B0 : Nat} {v : Value} {fs : List FlM} {qs : List FV} (h : FlAt w B0 v fs qs) {B : Nat} (hb : Below B w w') (hB : w.heap.size ≤ B) : FlAt w' B0 v fs qs :=
  h.same fun k hk => hb.block k (Nat.lt_of_lt_of_le (h.lt hk) hB)
theorem FlAt.far {w : World} {B0 : Nat} {v : Value} {fs : List FlM} {qs : List FV} (h : FlAt w B0 v fs qs) {b : Nat} {c : Array Value} {T : TypeId} (hb : w.heap[b]? = some (.cells c T (0, 0))) (h5 : T ≠ 5) (h86 : T ≠ 86) (o : Nat) (u : Value) : FlAt (w.setCell ⟨b, o, none⟩ u) B0 v fs qs :=
  h.same fun k hk => Below.heap_setCell _ _ _ _ (fun e => by
    simp only at e
    subst e
    rcases hk with hk | ⟨x, hx, hk⟩
    · obtain ⟨c', hc⟩ := ownsRow_block h.own hk; exact h86 (cells_inj hb hc)
    · obtain ⟨c', hc⟩ := h.q5 hx hk; exact h5 (cells_inj hb hc))
/-- One more. -/
theorem FlAt.push {w w1 : World} {B0 W0 : Nat} {v v' : Value} {fs : List FlM} {qs : List FV} (h : FlAt w B0 v fs qs) {q : PV} {m : FlM} (hq : POwn w q m.pk) (hqb : ∀ k, q.blk = some k → W0 ≤ k) (hold : ∀ x ∈ qs, ∀ k, x.p.blk = some k → k < W0) (hB : B0 ≤ W0)
    (hown : w1.ownsRow 0 86 5 v' (fs.length + 1) (qs.flatMap FV.cells ++ (FV.cells ⟨q, m.id, m.src⟩))) (hk : Kp (fun k => v.ownBlock = some k) w w1) (hv : ∀ k, v'.ownBlock = some k → B0 ≤ k) :
    FlAt w1 B0 v' (fs ++ [m]) (qs ++ [⟨q, m.id, m.src⟩]) := by
  have h5 : ∀ k c, w.heap[k]? = some (.cells c 5 (0, 0)) → ¬ v.ownBlock = some k := fun k c hc e => by
    obtain ⟨c', hc'⟩ := ownsRow_block h.own e; exact absurd (cells_inj hc hc') (by decide)
  refine ⟨?_, ?_, hv, ?_, ?_⟩
  · have : (qs ++ [(⟨q, m.id, m.src⟩ : FV)]).flatMap FV.cells = qs.flatMap FV.cells ++ FV.cells ⟨q, m.id, m.src⟩ := by simp
    rw [this]; simpa using hown
  · refine (h.p.mono fun x y hx hm => (⟨hm.p.kp hk (fun k h1 => by obtain ⟨c, hc⟩ := hm.p.block h1; exact h5 k c hc), hm.id, hm.src⟩ : FOwn w1 x y)).snoc ⟨hq.kp hk (fun k h1 => by obtain ⟨c, hc⟩ := hq.block h1; exact h5 k c hc), rfl, rfl⟩
  · intro x hx k hk
    rcases List.mem_append.1 hx with hx | hx
    · exact h.qb x hx k hk
    · obtain rfl : x = ⟨q, m.id, m.src⟩ := by simpa using hx
      exact Nat.le_trans hB (hqb k hk)
  · intro i j x y k hx hy hij h1 h2
    rcases Nat.lt_or_ge i qs.length with hi | hi <;> rcases Nat.lt_or_ge j qs.length with hj | hj
    · rw [List.getElem?_append_left hi] at hx
      rw [List.getElem?_append_left hj] at hy
      exact h.apart i j x y k hx hy hij h1 h2
    · rw [List.getElem?_append_left hi] at hx
      rw [List.getElem?_append_right hj] at hy
      have h3 := hold x (List.mem_of_getElem? hx) k h1
      have : y = ⟨q, m.id, m.src⟩ := by
        have := List.mem_of_getElem? hy; simpa using this
      subst this
      have := hqb k h2; omega
    · rw [List.getElem?_append_right hi] at hx
      rw [List.getElem?_append_left hj] at hy
      have h3 := hold y (List.mem_of_getElem? hy) k h2
      have : x = ⟨q, m.id, m.src⟩ := by
        have := List.mem_of_getElem? hx; simpa using this
      subst this
      have := hqb k h1; omega
    · have h4 : i < (qs ++ [(⟨q, m.id, m.src⟩ : FV)]).length := (List.getElem?_eq_some_iff.1 hx).1
      have h5 : j < (qs ++ [(⟨q, m.id, m.src⟩ : FV)]).length := (List.getElem?_eq_some_iff.1 hy).1
      simp at h4 h5; omega

/-- Flight's value. -/
def FlPost (fs : List FlM) (w : World) (en : Ending) (w' : World) : Prop :=
  ∃ (B : Nat) (v : Value) (qs : List FV), en = .returned (.func (.func 40) #[] #[.pointer (some ⟨B, 0, none⟩)]) ∧ w'.heap[B]? = some (.cells #[v] 27 (0, 0)) ∧ w.heap.size ≤ B ∧ FlAt w' w.heap.size v fs qs ∧ Below w.heap.size w w'
theorem flight_nil (w : World) : Calls Try.prog 14 #[.pointer none] w (FlPost [] w) := by
  go_enter Try.func14, Try.ntmps14
  go_wp2_with fail
  go_ret
  exact ⟨w.heap.size, _, [], rfl, heap_alloc_new _ _, Nat.le_refl _, FlAt.nil _ _, (Below.refl _ w).alloc (Nat.le_refl _) _⟩
set_option maxHeartbeats 800000 in
theorem flight_any (w : World) (b : Nat) (N : NetM) (D : ND) (h : RepOk w b N D) (hl : N.lim) : Calls Try.prog 14 #[.pointer (some ⟨b, 0, none⟩)] w (FlPost N.fl w) := by
  have c1 := h.blk.c1
  have lb := h.blk.lt
  have hl1 := h.flp.1
  have hfl := hl.fl
  have hflok := hl.flok
  rcases h.fl.2 with ⟨hfv, hn⟩ | ⟨g, cap, cur, hfv, _⟩
  · rw [hfv] at c1
    have hn0 : N.fl = [] := List.eq_nil_of_length_eq_zero hn
    clear h hl
    go_enter Try.func14, Try.ntmps14
    go_wp2_with fail
    go_loopw [5, 13] (fun _ i wr => i = .int .i64 0 ∧ wr = w.alloc (.cells #[.slice none 0 0] 27)) (fun _ _ _ => 0)
    case atStart => exact ⟨rfl, rfl⟩
    case round =>
      obtain ⟨rfl, rfl⟩ := hrel
      go_wp2_with fail
      go_ret
      exact ⟨w.heap.size, _, [], rfl, heap_alloc_new _ _, Nat.le_refl _, by rw [hn0]; exact FlAt.nil _ _, (Below.refl _ w).alloc (Nat.le_refl _) _⟩
  · rw [hfv] at c1
    have hown := h.fl
    rw [hfv] at hown
    have hflp := h.flp
    clear h hl
    have hlg : g < w.heap.size := (hown.lt g rfl).2
    go_enter Try.func14, Try.ntmps14
    go_wp2_with fail
    go_loopw [5, 13] (fun _ i wr => ∃ (k : Nat) (v : Value) (qs : List FV), k ≤ N.fl.length ∧ i = .int .i64 k ∧ wr.heap[w.heap.size]? = some (.cells #[v] 27 (0, 0)) ∧ FlAt wr w.heap.size v (N.fl.take k) qs ∧ Below w.heap.size w wr) (fun _ i _ => N.fl.length - (intOf i).toNat)
    case atStart => exact ⟨0, _, [], Nat.zero_le _, rfl, heap_alloc_new _ _, FlAt.nil _ _, (Below.refl _ w).alloc (Nat.le_refl _) _⟩
    case round =>
      obtain ⟨k, v, qs, hk, rfl, hbx, hfa, hb⟩ := hrel
      by_cases hlt : k < N.fl.length
      · obtain ⟨m, hm⟩ : ∃ m, N.fl[k]? = some m := ⟨_, List.getElem?_eq_getElem hlt⟩
        obtain ⟨x, hx, hxm⟩ := hflp.at hm
        obtain ⟨d0, d1, d2, d3, d4⟩ := fly_cells (ownsRow_below hown hb (Nat.le_refl _)) hx
        have hok := hflok m (List.mem_of_getElem? hm)
        have hpi : PIn wr x.p m.pk := (hxm.p.below hb (Nat.le_refl _)).pin
        have lB := lt_of_heap hbx
        have i0 : (0 : Int) ≤ (k : Int) := by omega
        have i1 : (k : Int) < (N.fl.length : Int) := by omega
        have i2 : (N.fl.length : Int) ≤ 64 := by omega
        have HT := Lib.hid (show N.fl.take (k + 1) = N.fl.take k ++ [m] by rw [List.take_add_one, hm]; rfl)
        have HL := Lib.hid (show (N.fl.take k).length = k by simp; omega)
        have hxi := hxm.id
        have hxs := hxm.src
        clear hm hx hxm hown hflp
        go_wp2_with fail
        have hA : Below w.heap.size w (wr.alloc (.cells #[.string x.p.f, .string x.p.t, .slice x.p.ba x.p.bn x.p.bc, .int .i64 m.id, .int .i64 m.src] 86)) := hb.alloc hb.size _
        have hpA := hpi.below ((Below.refl wr.heap.size wr).alloc (Nat.le_refl _) (.cells #[.string x.p.f, .string x.p.t, .slice x.p.ba x.p.bn x.p.bc, .int .i64 m.id, .int .i64 m.src] 86)) (Nat.le_refl _)
        have eA := heap_alloc_new wr (.cells #[.string x.p.f, .string x.p.t, .slice x.p.ba x.p.bn x.p.bc, .int .i64 m.id, .int .i64 m.src] 86)
        have fA := hfa.below ((Below.refl wr.heap.size wr).alloc (Nat.le_refl _) (.cells #[.string x.p.f, .string x.p.t, .slice x.p.ba x.p.bn x.p.bc, .int .i64 m.id, .int .i64 m.src] 86)) (Nat.le_refl _)
        have bA := (Below.heap_alloc wr (.cells #[.string x.p.f, .string x.p.t, .slice x.p.ba x.p.bn x.p.bc, .int .i64 m.id, .int .i64 m.src] 86) _ lB).trans hbx
        refine (clone_any x.p m.pk _ hpA (by have := hpi.n; have := hok.bs; omega)).mono ?_
        rintro e w2 ⟨⟨qf, qt, qa, qn, qc⟩, rfl, hq, hqb, hbl⟩
        have e2 := (hbl.block _ (lt_of_heap eA)).trans eA
        have b2 := (hbl.block _ (lt_of_heap bA)).trans bA
        have f2 := fA.below hbl (Nat.le_refl _)
        have h2 := hA.trans (hbl.mono hA.size)
        obtain ⟨p0, p1, p2, p3, p4, pf, pl⟩ := blk5 e2
        have bc := (blk1 b2).1
        have hvl : ∀ k, (v.ownBlock = some k ∨ ∃ x ∈ qs, x.p.blk = some k) → k < wr.heap.size := fun k hk => hfa.lt hk
        have hBsz := hb.size
        have hqb' : ∀ k, PV.blk ⟨qf, qt, qa, qn, qc⟩ = some k → wr.heap.size + 1 ≤ k := fun k hk => by have := hqb k hk; simpa using this
        clear fA bA eA hpA hA hbl d0 d1 d2 d3 d4 hpi hfa hbx hb hqb
        simp only [PV.val]
        go_wp2_with (at_builtin; apply unwrap)
        clear p0 p1 p2 p3 p4 bc
        generalize hW3 : ((w2.setCell ⟨wr.heap.size, 0, none⟩ (.string qf)).setCell ⟨wr.heap.size, 1, none⟩ (.string qt)).setCell ⟨wr.heap.size, 2, none⟩ (.slice qa qn qc) = w3
        have hk3 : Kp (fun k => k = wr.heap.size) w2 w3 := by subst hW3; exact (((Kp.refl (fun k => k = wr.heap.size) w2).setCell (fun _ => rfl) _).setCell (fun _ => rfl) _).setCell (fun _ => rfl) _
        have hz3 : w3.heap.size = w2.heap.size := by subst hW3; simp [World.setCell]
        have h3 : Below w.heap.size w w3 := by subst hW3; exact ((h2.setCell hBsz _).setCell hBsz _).setCell hBsz _
        have f3 : FlAt w3 w.heap.size v (N.fl.take k) qs := f2.same fun k hk => hk3.block k (f2.lt hk) (by have := hvl k hk; omega)
        have q3 := hq.kp hk3 (fun k hk => by have := hqb' k hk; omega)
        have b3 : w3.heap[w.heap.size]? = _ := (hk3.block w.heap.size (lt_of_heap b2) (by omega)).trans b2
        rw [← hz3]
        clear hW3 hk3 h2 f2 hq b2 e2 pf
        have hne := ownsRow_ne f3.own b3 (by decide)
        refine wpList_push rfl _ _ 27 rfl T27 rfl f3.own #[.string qf, .string qt, .slice qa qn qc, .int .i64 m.id, .int .i64 m.src] rfl (by simp [Value.oneCell']) rfl (by have := HL.out; omega) ?_
        intro g' cap' w4 hown hk4 hat hlt4
        have b4 : w4.heap[w.heap.size]? = _ := (hk4.block w.heap.size (lt_of_heap b3) hne).trans b3
        have hg4 : w.heap.size ≤ g' := hat.elim (fun e => f3.vb _ e) (fun e => Nat.le_trans h3.size e)
        have f4 := FlAt.push (W0 := wr.heap.size) (m := m) f3 q3 (fun k hk => by have := hqb' k hk; omega) (fun x hx k hk => hvl k (.inr ⟨x, hx, hk⟩)) hBsz hown hk4 (fun k hk => by cases hk; exact hg4)
        have h4 : Below w.heap.size w w4 := Below.kp h3 hk4 (Nat.le_refl _) (fun k hk => f3.vb k hk)
        obtain ⟨b5, b6, _⟩ := blk1 b4
        clear f3 q3 b3 hne hown hk4 hat h3
        go_wp2_with fail
        go_roundw
        case rel => 
          rw [HL.out] at f4
          refine ⟨k + 1, _, qs ++ [⟨⟨qf, qt, qa, qn, qc⟩, m.id, m.src⟩], by omega, by go_num, by simp [World.setCell, Array.getElem?_modify, b4]; rfl, ?_, h4.setCell (Nat.le_refl _) _⟩
          rw [HT.out]
          exact f4.far b4 (by decide) (by decide) _ _
        case measure => simp [intOf]; omega
      · obtain rfl : k = N.fl.length := by omega
        go_wp2_with fail
        go_ret
        exact ⟨w.heap.size, _, qs, rfl, hbx, Nat.le_refl _, by rw [List.take_of_length_le (Nat.le_refl _)] at hfa; exact hfa, hb⟩
end Go.Proofs.Ytnkcgalbaeppmaa
/- maps.Clone. -/
namespace Go.Proofs.Ytnkcgalbaeppmaa
open Go.RowKit
def MClonePost (M : List Pr) (w : World) (e : Ending) (w' : World) : Prop :=
  ∃ r, e = .returned (.map r) ∧ MapAt w' (.map r) M ∧ (∀ k, r = some k → w.heap.size ≤ k) ∧ Below w.heap.size w w'
set_option maxHeartbeats 400000 in
set_option maxRecDepth 100000 in
theorem mclone_any (mv : Value) (M : List Pr) (w : World) (h : MapAt w mv M) : Calls Try.prog 51 #[mv] w (MClonePost M w) := by
  have hq := fun w p => run_eql_map_nil_sl (P := Try.prog) w 28 _ _ p u28
  rcases h with ⟨rfl, rfl⟩ | ⟨r, es, clock, rfl, hr, hk, hv⟩
  · go_enter Try.func51, Try.ntmps51
    go_wp2_with fail
    go_ret
    exact ⟨none, rfl, .inl ⟨rfl, rfl⟩, (fun k hk => by cases hk), Below.refl _ _⟩
  · have hk' := Lib.hid hk
    have hv' := Lib.hid hv
    clear hk hv
    go_enter Try.func51, Try.ntmps51
    go_wp2_with fail
    rw [run_callFunc_extern Try.func67 (by kernel_rfl) (by kernel_rfl) (by kernel_rfl) (e := Extern.MapsClone.clone) (by kernel_rfl), run_maps_clone_sl w 28 hr]
    simp only [Result.andThen]
    rw [Oper.upon_value]
    go_wp2_with fail
    rw [run_typeAssert_map_sl _ 28 20 _ _ _ u28]
    simp only [Result.andThen]
    rw [Oper.upon_value]
    go_wp2_with fail
    go_ret
    exact ⟨_, rfl, .inr ⟨w.heap.size, es, clock, rfl, heap_alloc_new _ _, hk'.out, hv'.out⟩, (fun k hk => by cases hk; exact Nat.le_refl _), (Below.refl _ w).alloc (Nat.le_refl _) _⟩
end Go.Proofs.Ytnkcgalbaeppmaa
/- Copy. -/
namespace Go.Proofs.Ytnkcgalbaeppmaa
open Go.RowKit
def CopyPost (N : NetM) (D : ND) (w : World) (e : Ending) (w' : World) : Prop :=
  ∃ (o : Nat) (D' : ND), e = .returned (.pointer (some ⟨o, 0, none⟩)) ∧ RepOk w' o N D' ∧ (∀ k, wr D' o k → w.heap.size ≤ k) ∧ D'.hs = D.hs ∧ Below w.heap.size w w'
theorem copy_nil (w : World) : Calls Try.prog 29 #[.pointer none] w fun e w' => e = .returned (.pointer none) ∧ w' = w := by
  go_enter Try.func29, Try.ntmps29
  go_wp2_with fail
  go_ret
  exact ⟨rfl, rfl⟩
/-- What of a copy is laid ahead of its packets in flight. -/
structure CpAt (w : World) (B : Nat) (N : NetM) (D : ND) (hv mv eV : Value) : Prop where
  hist : w.ownsRow 0 40 3 hv N.hist.length (D.hs.flatMap PV.cells)
  ev : w.ownsRow 0 61 3 eV N.ev.length (N.ev.flatMap EvM.cells)
  map : MapAt w mv N.blk
  bh : ∀ k, Value.ownBlock hv = some k → B ≤ k
  be : ∀ k, eV.ownBlock = some k → B ≤ k
  bm : ∀ k, mapBlk mv = some k → B ≤ k
theorem CpAt.kp {w w' : World} {B : Nat} {N : NetM} {D : ND} {hv mv ev : Value} (h : CpAt w B N D hv mv ev) {S : Nat → Prop} (hk : Kp S w w') (hS : ∀ k, S k → ∃ cur T, w.heap[k]? = some (.cells cur T (0, 0)) ∧ T ∈ [31, 86]) : CpAt w' B N D hv mv ev := by
  have hA : ∀ k cur T, w.heap[k]? = some (.cells cur T (0, 0)) → T ∉ [31, 86] → ¬ S k := fun k cur T hk hT hs => by
    obtain ⟨c, T', h1, h2⟩ := hS k hs
    exact hT (cells_inj hk h1 ▸ h2)
  exact ⟨ownsRow_kp h.hist hk (fun k h1 => by obtain ⟨c, hc⟩ := ownsRow_block h.hist h1; exact hA k c 40 hc (by decide)),
    ownsRow_kp h.ev hk (fun k h1 => by obtain ⟨c, hc⟩ := ownsRow_block h.ev h1; exact hA k c 61 hc (by decide)),
    h.map.same fun k h1 => hk.block k (h.map.lt k h1) (fun hs => by obtain ⟨c, T', h2, _⟩ := hS k hs; exact h.map.ne h2 h1), h.bh, h.be, h.bm⟩

set_option maxHeartbeats 1600000 in
set_option maxRecDepth 100000 in
theorem copy_any (w : World) (b : Nat) (N : NetM) (D : ND) (h : RepOk w b N D) (hl : N.lim) : Calls Try.prog 29 #[.pointer (some ⟨b, 0, none⟩)] w (CopyPost N D w) := by
  obtain ⟨fa, fc, hfv, _⟩ := ownsRow_slice h.fl
  have lb := h.blk.lt
  have hN := h.blk
  rw [hfv] at hN
  go_enter Try.func29, Try.ntmps29
  go_wp2_with fail
  apply wp_region_early [0, 1, 2, 3, 4, 5, 6, 7, 9, 10, 11, 12] [8, 13] [14, 15, 16] (fun w' => NetBlk w' b D.hv (.slice fa N.fl.length fc) N.next D.mv D.ev)
  case hm => kernel_rfl
  case hB => kernel_rfl
  case hao => exact .cons rfl (.cons rfl .nil)
  case hlo => exact .cons rfl (.cons rfl (.cons rfl .nil))
  case hS => exact hN
  case hr =>
    iterate 12
      apply Reads.cons1 rfl rfl
      · intro w' hS
        have s2 := hS.c2
        have s3 := hS.c3
        have s4 := hS.c4
        clear hS
        go_simp
        try rfl
    exact Reads.nil
  intro W hW
  have hb0 : Below w.heap.size w W := by subst hW; exact (Below.refl _ w).drew
  have h0 := h.below hb0 (Nat.le_refl _)
  clear hW
  have hN0 := h0.blk
  rw [hfv] at hN0
  unfold wpTail
  simp only [Act.put, List.setIfInBounds_toArray, List.set_cons_succ, List.set_cons_zero]
  go_wp2_with fail
  refine (mclone_any D.mv N.blk W h0.map).mono ?_
  rintro e w1 ⟨mr, rfl, hm1, bm1, hbl1⟩
  have hN1 := hN0.same (hbl1.block b hN0.lt)
  have hb1 := hb0.trans (hbl1.mono hb0.size)
  have bm : ∀ k, mapBlk (.map mr) = some k → w.heap.size ≤ k := fun k hk => Nat.le_trans hb0.size (bm1 k hk)
  go_wp2_with fail
  refine ⟨hN1, ?_⟩
  unfold wpTail
  go_wp2_with fail
  have hev1 := (h.below hb1 (Nat.le_refl _)).ev
  refine (sclone_ev D.ev _ _ w1 hev1 (by have := hl.ev; omega) ev_one).mono ?_
  rintro e w2 ⟨ev', rfl, hev2, hbl2⟩
  have hN2 := hN1.same (hbl2.block b hN1.lt)
  have hb2 := hb1.trans (hbl2.mono hb1.size)
  have hm2 : MapAt w2 (.map mr) N.blk := hm1.same fun k hk => hbl2.block k (hm1.lt k hk)
  obtain ⟨ea, ec, rfl, _⟩ := ownsRow_slice hev2
  have be : ∀ k, (Value.slice ea N.ev.length ec).ownBlock = some k → w.heap.size ≤ k := fun k hk => Nat.le_trans hb1.size ((hev2.lt k hk).1)
  go_wp2_with fail
  refine ⟨hN2, ?_⟩
  unfold wpTail
  go_wp2_with fail
  refine NoPanic.normal ?_
  have hO3 : NetBlk (w2.alloc (.cells #[.slice none 0 0, .slice none 0 0, .int .i64 N.next, .map mr, .slice ea N.ev.length ec] 31)) w2.heap.size (.slice none 0 0) (.slice none 0 0) N.next (.map mr) (.slice ea N.ev.length ec) := heap_alloc_new _ _
  have hb3 : Below w.heap.size w (w2.alloc (.cells #[.slice none 0 0, .slice none 0 0, .int .i64 N.next, .map mr, .slice ea N.ev.length ec] 31)) := hb2.alloc hb2.size _
  have hN3 := hN2.same (Below.heap_alloc w2 (.cells #[.slice none 0 0, .slice none 0 0, .int .i64 N.next, .map mr, .slice ea N.ev.length ec] 31) b hN2.lt)
  have hm3 := hm2.same (fun k hk => Below.heap_alloc w2 (.cells #[.slice none 0 0, .slice none 0 0, .int .i64 N.next, .map mr, .slice ea N.ev.length ec] 31) k (hm2.lt k hk))
  have hev3 := (ownsRow_base (B := 0) hev2 (Nat.zero_le _)).alloc (.cells #[.slice none 0 0, .slice none 0 0, .int .i64 N.next, .map mr, .slice ea N.ev.length ec] 31)
  have hwo : w.heap.size ≤ w2.heap.size := hb2.size
  have cN0 := hN3.c0
  clear hm1 bm1 hbl1 hN hb0 h0 hN0 hN1 hb1 hev1 hev2 hbl2 hN2 hb2 hm2
  go_wp2_with fail
  generalize w2.alloc (.cells #[.slice none 0 0, .slice none 0 0, .int .i64 N.next, .map mr, .slice ea N.ev.length ec] 31) = w3 at hO3 hb3 hN3 hm3 hev3 cN0 ⊢
  refine (sclone_pk D.hv _ _ w3 (h.below hb3 (Nat.le_refl _)).hist (by have := hl.hist; omega) pk_one).mono ?_
  rintro e w4 ⟨hv', rfl, hh4, hbl4⟩
  have hO4 := hO3.same (hbl4.block _ hO3.lt)
  have hN4 := hN3.same (hbl4.block _ hN3.lt)
  have hb4 := hb3.trans (hbl4.mono hb3.size)
  have hm4 : MapAt w4 (.map mr) N.blk := hm3.same fun k hk => hbl4.block k (hm3.lt k hk)
  have hev4 := ownsRow_below hev3 hbl4 (Nat.le_refl _)
  obtain ⟨ha, hc, rfl, _⟩ := ownsRow_slice hh4
  have bh : ∀ k, (Value.slice ha N.hist.length hc).ownBlock = some k → w.heap.size ≤ k := fun k hk => Nat.le_trans hb3.size ((hh4.lt k hk).1)
  have d0 := hO4.c0
  have df := hO4.fz 0
  have dl := hO4.lt
  have c1 := hN4.c1
  have lb4 := hN4.lt
  have hne : b ≠ w2.heap.size := fun e => by omega
  clear hO3 hN3 hb3 hm3 hev3 hbl4 cN0
  go_wp2_with fail
  have hO5 : NetBlk (w4.setCell ⟨w2.heap.size, 0, none⟩ (.slice ha N.hist.length hc)) w2.heap.size (.slice ha N.hist.length hc) (.slice none 0 0) N.next (.map mr) (.slice ea N.ev.length ec) := hO4.set0 _
  have hC4 : CpAt w4 w.heap.size N D (.slice ha N.hist.length hc) (.map mr) (.slice ea N.ev.length ec) := ⟨ownsRow_base hh4 (Nat.zero_le _), hev4, hm4, bh, be, bm⟩
  have hC5 : CpAt (w4.setCell ⟨w2.heap.size, 0, none⟩ (.slice ha N.hist.length hc)) w.heap.size N D (.slice ha N.hist.length hc) (.map mr) (.slice ea N.ev.length ec) :=
    hC4.kp ((Kp.refl (fun k => k = w2.heap.size) w4).setCell (fun _ => rfl) _) (fun k hk => by subst hk; exact ⟨_, 31, hO4, by simp⟩)
  have hb5 : Below w.heap.size w (w4.setCell ⟨w2.heap.size, 0, none⟩ (.slice ha N.hist.length hc)) := hb4.setCell hwo _
  clear hC4 hO4 hN4 hb4 hm4 hev4 hh4 bh be bm d0 df dl c1 lb4 hne
  generalize w4.setCell ⟨w2.heap.size, 0, none⟩ (.slice ha N.hist.length hc) = w5 at hO5 hC5 hb5 ⊢
  generalize w2.heap.size = O at hwo hO5 hC5 hb5 ⊢
  have hfl := hl.fl
  go_loopw [5, 37] (fun _ i wr => ∃ (k : Nat) (v : Value) (qs : List FV), k ≤ N.fl.length ∧ i = .int .i64 k ∧ NetBlk wr O (.slice ha N.hist.length hc) v N.next (.map mr) (.slice ea N.ev.length ec) ∧ FlAt wr w.heap.size v (N.fl.take k) qs ∧ CpAt wr w.heap.size N D (.slice ha N.hist.length hc) (.map mr) (.slice ea N.ev.length ec) ∧ Below w.heap.size w wr) (fun _ i _ => N.fl.length - (intOf i).toNat)
  case atStart => exact ⟨0, _, [], Nat.zero_le _, rfl, hO5, FlAt.nil _ _, hC5, hb5⟩
  case round =>
    obtain ⟨k, v, qs, hk, rfl, hO, hfa, hC, hb⟩ := hrel
    by_cases hlt : k < N.fl.length
    · obtain ⟨m, hm⟩ : ∃ m, N.fl[k]? = some m := ⟨_, List.getElem?_eq_getElem hlt⟩
      obtain ⟨x, hx, hxm⟩ := h.flp.at hm
      obtain ⟨g, cap, hg, _, hlg⟩ := h.fl.form (by omega)
      rw [hfv] at hg
      injection hg with hg1 _ hg2
      subst hg1 hg2
      have hown := h.fl
      rw [hfv] at hown
      obtain ⟨d0, d1, d2, d3, d4⟩ := fly_cells (ownsRow_below hown hb (Nat.le_refl _)) hx
      have hok := hl.flok m (List.mem_of_getElem? hm)
      have hpi : PIn wr x.p m.pk := (hxm.p.below hb (Nat.le_refl _)).pin
      have lO := hO.lt
      have i0 : (0 : Int) ≤ (k : Int) := by omega
      have i1 : (k : Int) < (N.fl.length : Int) := by omega
      have i2 : (N.fl.length : Int) ≤ 64 := by omega
      have lg2 : g < wr.heap.size := by have := hb.size; omega
      have HT := Lib.hid (show N.fl.take (k + 1) = N.fl.take k ++ [m] by rw [List.take_add_one, hm]; rfl)
      have HL := Lib.hid (show (N.fl.take k).length = k by simp; omega)
      have hxi := hxm.id
      have hxs := hxm.src
      clear hm hx hxm hown hfv h hO5 hC5 hb5
      go_wp2_with fail
      have hkA := (Kp.refl (fun _ => False) wr).alloc (.cells #[.string x.p.f, .string x.p.t, .slice x.p.ba x.p.bn x.p.bc, .int .i64 m.id, .int .i64 m.src] 86)
      have bA := (Below.refl wr.heap.size wr).alloc (Nat.le_refl _) (.cells #[.string x.p.f, .string x.p.t, .slice x.p.ba x.p.bn x.p.bc, .int .i64 m.id, .int .i64 m.src] 86)
      have eA := heap_alloc_new wr (.cells #[.string x.p.f, .string x.p.t, .slice x.p.ba x.p.bn x.p.bc, .int .i64 m.id, .int .i64 m.src] 86)
      have hpA := hpi.below bA (Nat.le_refl _)
      have fA := hfa.below bA (Nat.le_refl _)
      have hOA := hO.same (bA.block O lO)
      have hCA := hC.kp hkA (fun k hk => hk.elim)
      have hbA := hb.trans (bA.mono hb.size)
      have hvl : ∀ k, (v.ownBlock = some k ∨ ∃ x ∈ qs, x.p.blk = some k) → k < wr.heap.size := fun k hk => hfa.lt hk
      have hBsz := hb.size
      clear d0 d1 d2 d3 d4 hkA bA hpi hO hfa hC hb
      refine (clone_any x.p m.pk _ hpA (by have := hpA.n; have := hok.bs; omega)).mono ?_
      rintro e w6 ⟨⟨qf, qt, qa, qn, qc⟩, rfl, hq, hqb, hbl⟩
      simp only [PV.val]
      have hqb' : ∀ k, PV.blk ⟨qf, qt, qa, qn, qc⟩ = some k → wr.heap.size + 1 ≤ k := fun k hk => by have := hqb k hk; simpa using this
      have e6 := (hbl.block _ (lt_of_heap eA)).trans eA
      have f6 := fA.below hbl (Nat.le_refl _)
      have hO6 := hOA.same (hbl.block O hOA.lt)
      have hC6 := hCA.kp (Kp.of_below (S := fun _ => False) hbl) (fun k hk => hk.elim)
      have hb6 := hbA.trans (hbl.mono hbA.size)
      obtain ⟨p0, p1, p2, p3, p4, pf, pl⟩ := blk5 e6
      clear eA hpA fA hOA hCA hbA hqb hbl
      go_wp2_with fail
      generalize hW7 : ((w6.setCell ⟨wr.heap.size, 0, none⟩ (.string qf)).setCell ⟨wr.heap.size, 1, none⟩ (.string qt)).setCell ⟨wr.heap.size, 2, none⟩ (.slice qa qn qc) = w7
      have hk7 : Kp (fun k => k = wr.heap.size) w6 w7 := by subst hW7; exact (((Kp.refl (fun k => k = wr.heap.size) w6).setCell (fun _ => rfl) _).setCell (fun _ => rfl) _).setCell (fun _ => rfl) _
      have hb7 : Below w.heap.size w w7 := by subst hW7; exact ((hb6.setCell hBsz _).setCell hBsz _).setCell hBsz _
      have e7 : w7.heap[wr.heap.size]? = some (.cells #[.string qf, .string qt, .slice qa qn qc, .int .i64 m.id, .int .i64 m.src] 86) := by subst hW7; simp [World.setCell, Array.getElem?_modify, e6]
      have f7 : FlAt w7 w.heap.size v (N.fl.take k) qs := f6.same fun k hk => hk7.block k (f6.lt hk) (by have := hvl k hk; omega)
      have q7 := hq.kp hk7 (fun k hk => by have := hqb' k hk; omega)
      have hO7 := hO6.same (hk7.block O hO6.lt (by omega))
      have hC7 := hC6.kp hk7 (fun k hk => by subst hk; exact ⟨_, 86, e6, by simp⟩)
      clear p0 p1 p2 p3 p4 pf pl hW7 e6 f6 hO6 hC6 hb6 hk7 hq
      apply wp_region_early [0, 1, 2, 3, 4, 5] [6, 7] [8, 9, 10] (fun w' => NetBlk w' O (.slice ha N.hist.length hc) v N.next (.map mr) (.slice ea N.ev.length ec) ∧ w'.heap[wr.heap.size]? = some (.cells #[.string qf, .string qt, .slice qa qn qc, .int .i64 m.id, .int .i64 m.src] 86))
      case hm => kernel_rfl
      case hB => kernel_rfl
      case hao => exact .cons rfl (.cons rfl .nil)
      case hlo => exact .cons rfl (.cons rfl (.cons rfl .nil))
      case hS => exact ⟨hO7, e7⟩
      case hr =>
        iterate 6
          apply Reads.cons1 rfl rfl
          · intro w' hS
            have s1 := hS.1.c1
            obtain ⟨p0, p1, p2, p3, p4, _, _⟩ := blk5 hS.2
            clear hS
            go_simp
            try rfl
        exact Reads.nil
      intro W8 hW8
      have f8 : FlAt W8 w.heap.size v (N.fl.take k) qs := by subst hW8; exact f7.same fun k hk => rfl
      have q8 : POwn W8 ⟨qf, qt, qa, qn, qc⟩ m.pk := by subst hW8; exact q7.drew
      have hO8 : NetBlk W8 O (.slice ha N.hist.length hc) v N.next (.map mr) (.slice ea N.ev.length ec) := by subst hW8; exact hO7
      have hC8 : CpAt W8 w.heap.size N D (.slice ha N.hist.length hc) (.map mr) (.slice ea N.ev.length ec) := by subst hW8; exact hC7.kp ((Kp.refl (fun _ => False) w7).drew) (fun k hk => hk.elim)
      have e8 : W8.heap[wr.heap.size]? = some (.cells #[.string qf, .string qt, .slice qa qn qc, .int .i64 m.id, .int .i64 m.src] 86) := by subst hW8; exact e7
      have hb8 : Below w.heap.size w W8 := by subst hW8; exact hb7.drew
      clear hW8 f7 q7 hO7 hC7 e7 hb7
      unfold wpTail
      simp only [Act.put, List.setIfInBounds_toArray, List.set_cons_succ, List.set_cons_zero]
      go_wp2_with fail
      refine ⟨⟨hO8.same (Below.heap_alloc _ _ _ hO8.lt), (Below.heap_alloc _ _ _ (lt_of_heap e8)).trans e8⟩, ?_⟩
      unfold wpTail
      refine wpList_push rfl _ _ 27 rfl T27 rfl f8.own #[.string qf, .string qt, .slice qa qn qc, .int .i64 m.id, .int .i64 m.src] rfl (by simp [Value.oneCell']) rfl (by have := HL.out; omega) ?_
      intro g' cap' w9 hown hk9 hat hlt9
      have hne := ownsRow_ne f8.own hO8 (by decide)
      have hO9 := hO8.same (hk9.block O hO8.lt hne)
      have e9 := (hk9.block wr.heap.size (lt_of_heap e8) (fun e => by have := hvl _ (.inl e); omega)).trans e8
      have hC9 := hC8.kp hk9 (fun k hk => by obtain ⟨c, hc⟩ := ownsRow_block f8.own hk; exact ⟨c, 86, hc, by simp⟩)
      have hg9 : w.heap.size ≤ g' := hat.elim (fun e => f8.vb _ e) (fun e => Nat.le_trans hb8.size e)
      have f9 := FlAt.push (W0 := wr.heap.size) (m := m) f8 q8 (fun k hk => by have := hqb' k hk; omega) (fun x hx k hk => hvl k (.inr ⟨x, hx, hk⟩)) hBsz hown hk9 (fun k hk => by cases hk; exact hg9)
      have hb9 : Below w.heap.size w w9 := Below.kp hb8 hk9 (Nat.le_refl _) (fun k hk => f8.vb k hk)
      rw [HL.out] at f9 ⊢
      have t1 := hO9.c1
      have t2 := hO9.fz 1
      have t3 := hO9.lt
      refine wpList_nil ⟨⟨hO9, e9⟩, ?_⟩
      unfold wpTail
      clear f8 q8 hO8 hC8 e8 hb8 hne hown hk9 hat e9
      go_wp2_with fail
      refine NoPanic.normal ?_
      go_wp2_with fail
      go_roundw
      case rel =>
        refine ⟨k + 1, _, qs ++ [⟨⟨qf, qt, qa, qn, qc⟩, m.id, m.src⟩], by omega, by go_num, hO9.set1 _, ?_, ?_, hb9.setCell hwo _⟩
        · rw [HT.out]
          exact f9.far hO9 (by decide) (by decide) _ _
        · exact hC9.kp ((Kp.refl (fun k => k = O) w9).setCell (fun _ => rfl) _) (fun k hk => by subst hk; exact ⟨_, 31, hO9, by simp⟩)
      case measure => simp [intOf]; omega
    · obtain rfl : k = N.fl.length := by omega
      go_wp2_with fail
      go_ret
      rw [List.take_of_length_le (Nat.le_refl _)] at hfa
      refine ⟨O, ⟨.slice ha N.hist.length hc, v, .map mr, .slice ea N.ev.length ec, D.hs, qs⟩, rfl, ⟨hO, hC.hist, h.histp.mono fun x y hx hm => hm.below hb (Nat.le_refl _), hfa.own, hfa.p, hC.ev, hC.map, hfa.apart, ?_⟩, ?_, rfl, hb⟩
      · intro x hx p hp k h1 h2
        obtain ⟨m', _, hm'⟩ := h.histp.left hp
        have h3 := hm'.lt h2
        have h4 := hfa.qb x hx k h1
        omega
      · rintro k (rfl | h1 | h1 | h1 | h1 | ⟨x, hx, h1⟩)
        · exact hwo
        · exact hC.bh k h1
        · exact hfa.vb k h1
        · exact hC.be k h1
        · exact hC.bm k h1
        · exact hfa.qb x hx k h1
end Go.Proofs.Ytnkcgalbaeppmaa
