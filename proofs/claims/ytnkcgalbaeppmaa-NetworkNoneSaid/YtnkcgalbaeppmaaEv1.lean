/- slices.Clone at events and packets; Events and History. -/
import Derived.Test.YtnkcgalbaeppmaaPub3
namespace Go.Proofs.Ytnkcgalbaeppmaa
open Go.RowKit
def SClonePost (e : TypeId) (size n : Nat) (xs : List Value) (w : World) (en : Ending) (w' : World) : Prop :=
  ∃ v, en = .returned v ∧ w'.ownsRow w.heap.size e size v n xs ∧ Below w.heap.size w w'
set_option maxHeartbeats 400000 in
set_option maxRecDepth 100000 in
theorem sclone_ev (v : Value) (n : Nat) (xs : List Value) (w : World) (h : w.ownsRow 0 61 3 v n xs) (hn : n ≤ 100000) (h1 : ∀ u ∈ xs, u.oneCell' = true) :
    Calls Try.prog 43 #[v] w (SClonePost 61 3 n xs w) := by
  have q29 : ∀ (w : World) (a : Option Addr) (n c n' c' : Nat), (binOp .eql 29 (.slice a n c) (.slice none n' c')).run Try.prog w = .ok (.bool a.isNone) w := fun w a n c n' c' => Lib.run_eql_slice_nil w _ _ a n c n' c' Try.underlying29
  have u29 : ∀ w, Sem.run Try.prog (underlying 29) w = .ok (TypeDesc.slice 61) w := run_underlying Try.underlying29
  obtain ⟨i0, hi, hz0, hz1, hz2⟩ := info_parts T29.info
  have hl := h.1
  rcases h.2 with ⟨rfl, rfl⟩ | ⟨g, cap, cur, rfl, _, hg, hnc, hcm, hcs, htk⟩
  · go_enter Try.func43, Try.ntmps43
    go_wp2_with fail
    go_ret
    obtain rfl : xs = [] := List.eq_nil_of_length_eq_zero (by simpa using hl)
    exact ⟨_, rfl, World.ownsRow_nil _ _ _ _, Below.refl _ _⟩
  · have A : Aside (∀ j u, xs[j]? = some u → w.cell? ((⟨g, 0, none⟩ : Addr).add j) = some u) := fun j u hu => h.cells (g := g) rfl j u hu
    clear h htk hg
    go_enter Try.func43, Try.ntmps43
    go_wp2_with (at_builtin; refine wpList_append_own _ rfl _ _ 29 rfl w.heap.size 61 i0 (.agg #[.int .i64 0, .int .i64 0, .int .i64 0]) 3 24 Try.underlying29 hi hz0 hz1 hz2 rfl (by decide) _ _ _ rfl (World.ownsRow_made w #[] 0 (Nat.le_refl _) (Nat.zero_le _) rfl) ⟨g, 0, none⟩ n cap xs rfl ?qc1 ?qc2 ?qc3 ?qc4 ?qc5 ?qc6 ?_)
    case qc1 => exact hl
    case qc2 => intro j u hj; exact Lib.cell?_alloc_some _ (A.out j u hj)
    case qc3 => exact h1
    case qc4 => unfold maxLen; omega
    case qc5 => omega
    case qc6 => simp
    intro v' w1 hown hgrow hnil
    go_wp2
    go_ret
    exact ⟨v', rfl, by simpa using hown, ((Below.refl _ w).alloc (Nat.le_refl _) _).grown hgrow (by simp) (by intro k hk; simp [Value.ownBlock] at hk; omega)⟩
set_option maxHeartbeats 400000 in
set_option maxRecDepth 100000 in
theorem sclone_pk (v : Value) (n : Nat) (xs : List Value) (w : World) (h : w.ownsRow 0 40 3 v n xs) (hn : n ≤ 100000) (h1 : ∀ u ∈ xs, u.oneCell' = true) :
    Calls Try.prog 41 #[v] w (SClonePost 40 3 n xs w) := by
  have q26 : ∀ (w : World) (a : Option Addr) (n c n' c' : Nat), (binOp .eql 26 (.slice a n c) (.slice none n' c')).run Try.prog w = .ok (.bool a.isNone) w := fun w a n c n' c' => Lib.run_eql_slice_nil w _ _ a n c n' c' Try.underlying26
  have u26 : ∀ w, Sem.run Try.prog (underlying 26) w = .ok (TypeDesc.slice 40) w := run_underlying Try.underlying26
  obtain ⟨i0, hi, hz0, hz1, hz2⟩ := info_parts T26.info
  have hl := h.1
  rcases h.2 with ⟨rfl, rfl⟩ | ⟨g, cap, cur, rfl, _, hg, hnc, hcm, hcs, htk⟩
  · go_enter Try.func41, Try.ntmps41
    go_wp2_with fail
    go_ret
    obtain rfl : xs = [] := List.eq_nil_of_length_eq_zero (by simpa using hl)
    exact ⟨_, rfl, World.ownsRow_nil _ _ _ _, Below.refl _ _⟩
  · have A : Aside (∀ j u, xs[j]? = some u → w.cell? ((⟨g, 0, none⟩ : Addr).add j) = some u) := fun j u hu => h.cells (g := g) rfl j u hu
    clear h htk hg
    go_enter Try.func41, Try.ntmps41
    go_wp2_with (at_builtin; refine wpList_append_own _ rfl _ _ 26 rfl w.heap.size 40 i0 (.agg #[.string ByteArray.empty, .string ByteArray.empty, .slice none 0 0]) 3 56 Try.underlying26 hi hz0 hz1 hz2 rfl (by decide) _ _ _ rfl (World.ownsRow_made w #[] 0 (Nat.le_refl _) (Nat.zero_le _) rfl) ⟨g, 0, none⟩ n cap xs rfl ?qc1 ?qc2 ?qc3 ?qc4 ?qc5 ?qc6 ?_)
    case qc1 => exact hl
    case qc2 => intro j u hj; exact Lib.cell?_alloc_some _ (A.out j u hj)
    case qc3 => exact h1
    case qc4 => unfold maxLen; omega
    case qc5 => omega
    case qc6 => simp
    intro v' w1 hown hgrow hnil
    go_wp2
    go_ret
    exact ⟨v', rfl, by simpa using hown, ((Below.refl _ w).alloc (Nat.le_refl _) _).grown hgrow (by simp) (by intro k hk; simp [Value.ownBlock] at hk; omega)⟩

/-- An iterator's value: a closure of function g over a box in which a slice lies. -/
def SeqPost (g : Nat) (T e : TypeId) (n : Nat) (xs : List Value) (w : World) (en : Ending) (w' : World) : Prop :=
  ∃ (B : Nat) (v : Value), en = .returned (.func (.func g) #[] #[.pointer (some ⟨B, 0, none⟩)]) ∧ w'.heap[B]? = some (.cells #[v] T (0, 0)) ∧ w.heap.size ≤ B ∧ w'.ownsRow w.heap.size e 3 v n xs ∧ Below w.heap.size w w'
theorem events_nil (w : World) : Calls Try.prog 16 #[.pointer none] w (SeqPost 44 29 61 0 [] w) := by
  go_enter Try.func16, Try.ntmps16
  go_wp2_with fail
  go_ret
  exact ⟨w.heap.size, _, rfl, heap_alloc_new _ _, Nat.le_refl _, World.ownsRow_nil _ _ _ _, (Below.refl _ w).alloc (Nat.le_refl _) _⟩
theorem ev_one {l : List EvM} : ∀ u ∈ l.flatMap EvM.cells, u.oneCell' = true := fun u hu => by
  obtain ⟨x, _, hx⟩ := List.mem_flatMap.1 hu
  simp [EvM.cells] at hx
  rcases hx with rfl | rfl | rfl <;> rfl
theorem pk_one {l : List PV} : ∀ u ∈ l.flatMap PV.cells, u.oneCell' = true := fun u hu => by
  obtain ⟨x, _, hx⟩ := List.mem_flatMap.1 hu
  simp [PV.cells] at hx
  rcases hx with rfl | rfl | rfl <;> rfl
theorem events_any (w : World) (b : Nat) (N : NetM) (D : ND) (h : RepOk w b N D) (hl : N.lim) : Calls Try.prog 16 #[.pointer (some ⟨b, 0, none⟩)] w (SeqPost 44 29 61 N.ev.length (N.ev.flatMap EvM.cells) w) := by
  have c4 := h.blk.c4
  have lb := h.blk.lt
  have hev := h.ev.alloc (.cells #[.slice none 0 0] 29)
  have hb := hl.ev
  clear h
  go_enter Try.func16, Try.ntmps16
  go_wp2_with fail
  refine (sclone_ev D.ev _ _ _ hev (by omega) ev_one).mono ?_
  rintro e w1 ⟨v, rfl, hown, hbl⟩
  have e1 := (hbl.block w.heap.size (by simp)).trans (heap_alloc_new w _)
  have l1 : w.heap.size < w1.heap.size := lt_of_heap e1
  have p1 : w1.cell? ⟨w.heap.size, 0, none⟩ = some (.slice none 0 0) := by simp [World.cell?, e1]
  have p2 : w1.frozen? ⟨w.heap.size, 0, none⟩ = false := by simp [World.frozen?, e1]
  obtain ⟨a, c, rfl, _⟩ := ownsRow_slice hown
  have hne : Value.ownBlock (.slice a N.ev.length c) ≠ some w.heap.size := fun e => by have := (hown.lt _ e).1; simp at this; omega
  have hw := ((Below.refl w.heap.size w).alloc (Nat.le_refl _) (.cells #[.slice none 0 0] 29)).trans (hbl.mono (by simp))
  clear hev hbl
  go_wp2_with fail
  go_ret
  exact ⟨w.heap.size, _, rfl, by simp [World.setCell, Array.getElem?_modify, e1], Nat.le_refl _, own_setCell (ownsRow_base hown (by simp)) hne _, hw.setCell (Nat.le_refl _) _⟩
theorem history_nil (w : World) : Calls Try.prog 15 #[.pointer none] w (SeqPost 42 26 40 0 [] w) := by
  go_enter Try.func15, Try.ntmps15
  go_wp2_with fail
  go_ret
  exact ⟨w.heap.size, _, rfl, heap_alloc_new _ _, Nat.le_refl _, World.ownsRow_nil _ _ _ _, (Below.refl _ w).alloc (Nat.le_refl _) _⟩
theorem history_any (w : World) (b : Nat) (N : NetM) (D : ND) (h : RepOk w b N D) (hl : N.lim) : Calls Try.prog 15 #[.pointer (some ⟨b, 0, none⟩)] w (SeqPost 42 26 40 N.hist.length (D.hs.flatMap PV.cells) w) := by
  have c4 := h.blk.c0
  have lb := h.blk.lt
  have hev := h.hist.alloc (.cells #[.slice none 0 0] 26)
  have hb := hl.hist
  clear h
  go_enter Try.func15, Try.ntmps15
  go_wp2_with fail
  refine (sclone_pk D.hv _ _ _ hev (by omega) pk_one).mono ?_
  rintro e w1 ⟨v, rfl, hown, hbl⟩
  have e1 := (hbl.block w.heap.size (by simp)).trans (heap_alloc_new w _)
  have l1 : w.heap.size < w1.heap.size := lt_of_heap e1
  have p1 : w1.cell? ⟨w.heap.size, 0, none⟩ = some (.slice none 0 0) := by simp [World.cell?, e1]
  have p2 : w1.frozen? ⟨w.heap.size, 0, none⟩ = false := by simp [World.frozen?, e1]
  obtain ⟨a, c, rfl, _⟩ := ownsRow_slice hown
  have hne : Value.ownBlock (.slice a N.hist.length c) ≠ some w.heap.size := fun e => by have := (hown.lt _ e).1; simp at this; omega
  have hw := ((Below.refl w.heap.size w).alloc (Nat.le_refl _) (.cells #[.slice none 0 0] 26)).trans (hbl.mono (by simp))
  clear hev hbl
  go_wp2_with fail
  go_ret
  exact ⟨w.heap.size, _, rfl, by simp [World.setCell, Array.getElem?_modify, e1], Nat.le_refl _, own_setCell (ownsRow_base hown (by simp)) hne _, hw.setCell (Nat.le_refl _) _⟩
end Go.Proofs.Ytnkcgalbaeppmaa
