/- The small functions' contracts, said of a network in memory. -/
import Derived.Test.YtnkcgalbaeppmaaRep
namespace Go.Proofs.Ytnkcgalbaeppmaa
open Go.RowKit

section
variable {w : World} {b : Nat} {N : NetM} {D : ND}
theorem RepOk.hv31 (h : RepOk w b N D) {k : Nat} (hk : D.hv.ownBlock = some k) : k ≠ b := fun e => ownsRow_ne h.hist h.blk (by decide) (e ▸ hk)
theorem RepOk.fv31 (h : RepOk w b N D) {k : Nat} (hk : D.fv.ownBlock = some k) : k ≠ b := fun e => ownsRow_ne h.fl h.blk (by decide) (e ▸ hk)
theorem RepOk.ev31 (h : RepOk w b N D) {k : Nat} (hk : D.ev.ownBlock = some k) : k ≠ b := fun e => ownsRow_ne h.ev h.blk (by decide) (e ▸ hk)
theorem RepOk.mv31 (h : RepOk w b N D) {k : Nat} (hk : mapBlk D.mv = some k) : k ≠ b := fun e => h.map.ne h.blk (e ▸ hk)
theorem RepOk.fs5 (h : RepOk w b N D) {x : FV} (hx : x ∈ D.fs) {k : Nat} (hk : x.p.blk = some k) : ∃ cur, w.heap[k]? = some (.cells cur 5 (0, 0)) := by
  obtain ⟨m, _, hm⟩ := h.flp.left hx; exact hm.p.block hk
theorem RepOk.hs5 (h : RepOk w b N D) {x : PV} (hx : x ∈ D.hs) {k : Nat} (hk : x.blk = some k) : ∃ cur, w.heap[k]? = some (.cells cur 5 (0, 0)) := by
  obtain ⟨m, _, hm⟩ := h.histp.left hx; exact hm.block hk
theorem cells_inj {w : World} {k : Nat} {c c' : Array Value} {T T' : TypeId} {f f' : Nat × Nat} (h : w.heap[k]? = some (.cells c T f)) (h' : w.heap[k]? = some (.cells c' T' f')) : T = T' := by
  rw [h] at h'; cases h'; rfl
theorem RepOk.hblk (h : RepOk w b N D) {k : Nat} (hk : D.hv.ownBlock = some k) : ∃ cur, w.heap[k]? = some (.cells cur 40 (0, 0)) := ownsRow_block h.hist hk
theorem RepOk.fblk (h : RepOk w b N D) {k : Nat} (hk : D.fv.ownBlock = some k) : ∃ cur, w.heap[k]? = some (.cells cur 86 (0, 0)) := ownsRow_block h.fl hk
theorem RepOk.eblk (h : RepOk w b N D) {k : Nat} (hk : D.ev.ownBlock = some k) : ∃ cur, w.heap[k]? = some (.cells cur 61 (0, 0)) := ownsRow_block h.ev hk

/-- A block of cells of type T is none of the network's blocks of another type. -/
theorem RepOk.apartT (h : RepOk w b N D) {S : Nat → Prop} {Ts : List TypeId} (hS : ∀ k, S k → ∃ cur T, w.heap[k]? = some (.cells cur T (0, 0)) ∧ T ∈ Ts) :
    ∀ k cur T, w.heap[k]? = some (.cells cur T (0, 0)) → T ∉ Ts → ¬ S k := fun k cur T hk hT hs => by
  obtain ⟨c, T', h1, h2⟩ := hS k hs
  exact hT (cells_inj hk h1 ▸ h2)
theorem RepOk.apartM (h : RepOk w b N D) {S : Nat → Prop} {Ts : List TypeId} (hS : ∀ k, S k → ∃ cur T, w.heap[k]? = some (.cells cur T (0, 0)) ∧ T ∈ Ts) : ∀ k, mapBlk D.mv = some k → ¬ S k := fun k hk hs => by
  obtain ⟨c, T', h1, _⟩ := hS k hs
  exact h.map.ne h1 hk
end

def NoteRep (b : Nat) (N : NetM) (D : ND) (w : World) (x : EvM) (e : Ending) (w' : World) : Prop :=
  e = .returned (.tuple #[]) ∧ ∃ D', RepOk w' b { N with ev := N.ev ++ [x] } D' ∧ Turns D D' b w w'
theorem note_rep (b : Nat) (N : NetM) (D : ND) (kind id fr : Int) (w : World) (h : RepOk w b N D) (hl : N.lim) :
    Calls Try.prog 48 #[.pointer (some ⟨b, 0, none⟩), .int .i64 kind, .int .i64 id, .int .i64 fr] w (NoteRep b N D w ⟨kind, id, fr⟩) := by
  refine (note_any b D.hv D.fv D.mv D.ev N.next kind id fr _ _ w h.blk h.ev (by have := hl.ev; omega)).mono ?_
  rintro e w' ⟨ev', rfl, hb, he, hk, hat⟩
  have hS : ∀ k, (k = b ∨ D.ev.ownBlock = some k) → ∃ cur T, w.heap[k]? = some (.cells cur T (0, 0)) ∧ T ∈ [31, 61] := by
    rintro k (rfl | hk)
    · exact ⟨_, 31, h.blk, by simp⟩
    · obtain ⟨c, hc⟩ := h.eblk hk; exact ⟨c, 61, hc, by simp⟩
  have hA := h.apartT hS
  refine ⟨rfl, { D with ev := ev' }, ⟨hb, ?_, ?_, ?_, ?_, ?_, ?_, h.apart, h.apart2⟩, ⟨hk.mono ?_, ?_, fun k hk => .inl hk⟩⟩
  · exact ownsRow_kp h.hist hk (fun k h1 => by obtain ⟨c, hc⟩ := h.hblk h1; exact hA k c 40 hc (by decide))
  · exact h.histp.mono fun x y hx hm => hm.kp hk (fun k h1 => by obtain ⟨c, hc⟩ := hm.block h1; exact hA k c 5 hc (by decide))
  · exact ownsRow_kp h.fl hk (fun k h1 => by obtain ⟨c, hc⟩ := h.fblk h1; exact hA k c 86 hc (by decide))
  · exact h.flp.mono fun x y hx hm => ⟨hm.p.kp hk (fun k h1 => by obtain ⟨c, hc⟩ := hm.p.block h1; exact hA k c 5 hc (by decide)), hm.id, hm.src⟩
  · have : (N.ev ++ [(⟨kind, id, fr⟩ : EvM)]).flatMap EvM.cells = N.ev.flatMap EvM.cells ++ [.int .i64 kind, .int .i64 id, .int .i64 fr] := by simp [EvM.cells]
    rw [this]
    simpa using he
  · exact h.map.same fun k h1 => hk.block k (h.map.lt k h1) (h.apartM hS k h1)
  · rintro k _ (rfl | h1)
    · exact .inl rfl
    · exact .inr (.inr (.inr (.inl h1)))
  · rintro k (rfl | h1 | h1 | h1 | h1 | h1)
    · exact .inl (.inl rfl)
    · exact .inl (.inr (.inl h1))
    · exact .inl (.inr (.inr (.inl h1)))
    · exact (hat k h1).imp (fun h2 => .inr (.inr (.inr (.inl h2)))) (fun h2 => h2)
    · exact .inl (.inr (.inr (.inr (.inr (.inl h1)))))
    · exact .inl (.inr (.inr (.inr (.inr (.inr h1)))))

def LaunchRep (b : Nat) (N : NetM) (D : ND) (w : World) (m : Pk) (src : Int) (e : Ending) (w' : World) : Prop :=
  e = .returned (.int .i64 N.next) ∧ ∃ D', RepOk w' b { N with fl := N.fl ++ [⟨m, N.next, src⟩], next := N.next + 1 } D' ∧ Turns D D' b w w'
theorem launch_rep (b : Nat) (N : NetM) (D : ND) (p : PV) (m : Pk) (src : Int) (w : World) (h : RepOk w b N D) (hl : N.lim) (hp : PIn w p m) (hpb : ∀ k, p.blk = some k → k ≠ b) (hm : p.bn ≤ 100000) :
    Calls Try.prog 47 #[.pointer (some ⟨b, 0, none⟩), p.val, .int .i64 src] w (LaunchRep b N D w m src) := by
  refine (launch_any b D.hv D.fv D.mv D.ev N.next src _ _ p m w h.blk h.fl (by have := hl.fl; omega) hp hpb hm hl.next0 (by have := hl.next1; omega)).mono ?_
  rintro e w' ⟨g, cap, q, rfl, hb, hf, hq, hqb, hat, hk⟩
  have hS : ∀ k, (k = b ∨ D.fv.ownBlock = some k) → ∃ cur T, w.heap[k]? = some (.cells cur T (0, 0)) ∧ T ∈ [31, 86] := by
    rintro k (rfl | hk)
    · exact ⟨_, 31, h.blk, by simp⟩
    · obtain ⟨c, hc⟩ := h.fblk hk; exact ⟨c, 86, hc, by simp⟩
  have hA := h.apartT hS
  refine ⟨rfl, { D with fv := .slice (some ⟨g, 0, none⟩) (N.fl.length + 1) cap, fs := D.fs ++ [⟨q, N.next, src⟩] }, ⟨hb, ?_, ?_, ?_, ?_, ?_, ?_, ?_, ?_⟩, ⟨hk.mono ?_, ?_, fun k hk => .inl hk⟩⟩
  · exact ownsRow_kp h.hist hk (fun k h1 => by obtain ⟨c, hc⟩ := h.hblk h1; exact hA k c 40 hc (by decide))
  · exact h.histp.mono fun x y hx hm => hm.kp hk (fun k h1 => by obtain ⟨c, hc⟩ := hm.block h1; exact hA k c 5 hc (by decide))
  · have : (D.fs ++ [(⟨q, N.next, src⟩ : FV)]).flatMap FV.cells = D.fs.flatMap FV.cells ++ (q.cells ++ [.int .i64 N.next, .int .i64 src]) := by simp [FV.cells]
    simp only [this, List.length_append, List.length_cons, List.length_nil, Nat.zero_add]
    exact hf
  · exact (h.flp.mono fun x y hx hm => (⟨hm.p.kp hk (fun k h1 => by obtain ⟨c, hc⟩ := hm.p.block h1; exact hA k c 5 hc (by decide)), hm.id, hm.src⟩ : FOwn w' x y)).snoc ⟨hq, rfl, rfl⟩
  · exact ownsRow_kp h.ev hk (fun k h1 => by obtain ⟨c, hc⟩ := h.eblk h1; exact hA k c 61 hc (by decide))
  · exact h.map.same fun k h1 => hk.block k (h.map.lt k h1) (h.apartM hS k h1)
  · intro i j x y k hx hy hij h1 h2
    have hlt : ∀ z ∈ D.fs, ∀ k, z.p.blk = some k → k < w.heap.size := fun z hz k hk => by obtain ⟨m, _, hm⟩ := h.flp.left hz; exact hm.p.lt hk
    rcases Nat.lt_or_ge i D.fs.length with hi | hi <;> rcases Nat.lt_or_ge j D.fs.length with hj | hj
    · rw [List.getElem?_append_left hi] at hx
      rw [List.getElem?_append_left hj] at hy
      exact h.apart i j x y k hx hy hij h1 h2
    · rw [List.getElem?_append_left hi] at hx
      rw [List.getElem?_append_right hj] at hy
      have h3 := hlt x (List.mem_of_getElem? hx) k h1
      have : y = ⟨q, N.next, src⟩ := by
        have := List.mem_of_getElem? hy; simpa using this
      subst this
      have := hqb k h2; omega
    · rw [List.getElem?_append_right hi] at hx
      rw [List.getElem?_append_left hj] at hy
      have h3 := hlt y (List.mem_of_getElem? hy) k h2
      have : x = ⟨q, N.next, src⟩ := by
        have := List.mem_of_getElem? hx; simpa using this
      subst this
      have := hqb k h1; omega
    · have h4 : i < (D.fs ++ [(⟨q, N.next, src⟩ : FV)]).length := (List.getElem?_eq_some_iff.1 hx).1
      have h5 : j < (D.fs ++ [(⟨q, N.next, src⟩ : FV)]).length := (List.getElem?_eq_some_iff.1 hy).1
      simp at h4 h5; omega
  · intro x hx p' hp' k h1 h2
    rcases List.mem_append.1 hx with hx | hx
    · exact h.apart2 x hx p' hp' k h1 h2
    · obtain rfl : x = ⟨q, N.next, src⟩ := by simpa using hx
      have h3 := hqb k h1
      obtain ⟨m', _, hm'⟩ := h.histp.left hp'
      have := hm'.lt h2
      omega
  · rintro k _ (rfl | h1)
    · exact .inl rfl
    · exact .inr (.inr (.inl h1))
  · rintro k (rfl | h1 | h1 | h1 | h1 | ⟨x, hx, h1⟩)
    · exact .inl (.inl rfl)
    · exact .inl (.inr (.inl h1))
    · have : g = k := by simpa [Value.ownBlock] using h1
      subst this
      exact hat.imp (fun h2 => .inr (.inr (.inl h2))) id
    · exact .inl (.inr (.inr (.inr (.inl h1))))
    · exact .inl (.inr (.inr (.inr (.inr (.inl h1)))))
    · rcases List.mem_append.1 hx with hx | hx
      · exact .inl (.inr (.inr (.inr (.inr (.inr ⟨x, hx, h1⟩)))))
      · obtain rfl : x = ⟨q, N.next, src⟩ := by simpa using hx
        exact .inr (hqb k h1)

def TakeRep (b : Nat) (N : NetM) (D : ND) (w : World) (i : Nat) (p : PV) (e : Ending) (w' : World) : Prop :=
  e = .returned p.val ∧ ∃ D', RepOk w' b { N with fl := N.fl.eraseIdx i } D' ∧ Turns D D' b w w' ∧ (∀ k, p.blk = some k → ¬ fp D' b k) ∧ Kp (fun k => ∃ cur T, w.heap[k]? = some (.cells cur T (0, 0)) ∧ T ∈ [31, 86]) w w'
theorem take_rep (b : Nat) (N : NetM) (D : ND) (i : Nat) (x : FV) (w : World) (h : RepOk w b N D) (hl : N.lim) (hx : D.fs[i]? = some x) :
    Calls Try.prog 49 #[.pointer (some ⟨b, 0, none⟩), .int .i64 i] w (TakeRep b N D w i x.p) := by
  have hi : i < N.fl.length := by rw [← h.flp.1]; exact (List.getElem?_eq_some_iff.1 hx).1
  obtain ⟨g, cap, hfv, _, hg⟩ := h.fl.form (by omega)
  have hbk := h.blk
  have hfl := h.fl
  rw [hfv] at hbk hfl
  refine (take_any b D.hv D.mv D.ev N.next g _ cap i D.fs x w hbk hfl hx hi (by have := hl.fl; omega)).mono ?_
  rintro e w' ⟨rfl, hb, hf, hk⟩
  have hgg : D.fv.ownBlock = some g := by rw [hfv]; rfl
  have hS : ∀ k, (k = b ∨ k = g) → ∃ cur T, w.heap[k]? = some (.cells cur T (0, 0)) ∧ T ∈ [31, 86] := by
    rintro k (rfl | rfl)
    · exact ⟨_, 31, h.blk, by simp⟩
    · obtain ⟨c, hc⟩ := h.fblk hgg; exact ⟨c, 86, hc, by simp⟩
  have hA := h.apartT hS
  have hmem : ∀ y, y ∈ D.fs.eraseIdx i → y ∈ D.fs := fun y hy => List.mem_of_mem_eraseIdx hy
  refine ⟨rfl, { D with fv := .slice (some ⟨g, 0, none⟩) (N.fl.length - 1) cap, fs := D.fs.eraseIdx i }, ⟨hb, ?_, ?_, ?_, ?_, ?_, ?_, ?_, ?_⟩, ⟨hk.mono ?_, ?_, fun k hk => .inl hk⟩, ?_, hk.mono fun k _ h1 => hS k h1⟩
  · exact ownsRow_kp h.hist hk (fun k h1 => by obtain ⟨c, hc⟩ := h.hblk h1; exact hA k c 40 hc (by decide))
  · exact h.histp.mono fun x y hx hm => hm.kp hk (fun k h1 => by obtain ⟨c, hc⟩ := hm.block h1; exact hA k c 5 hc (by decide))
  · have : (N.fl.eraseIdx i).length = N.fl.length - 1 := List.length_eraseIdx_of_lt hi
    simp only [this]
    exact hf
  · exact (h.flp.mono fun x y hx hm => (⟨hm.p.kp hk (fun k h1 => by obtain ⟨c, hc⟩ := hm.p.block h1; exact hA k c 5 hc (by decide)), hm.id, hm.src⟩ : FOwn w' x y)).erase i
  · exact ownsRow_kp h.ev hk (fun k h1 => by obtain ⟨c, hc⟩ := h.eblk h1; exact hA k c 61 hc (by decide))
  · exact h.map.same fun k h1 => hk.block k (h.map.lt k h1) (h.apartM hS k h1)
  · intro a c x y k hx hy hij h1 h2
    rw [List.getElem?_eraseIdx] at hx hy
    split at hx <;> split at hy
    · exact h.apart a c x y k hx hy hij h1 h2
    · exact h.apart a (c + 1) x y k hx hy (by omega) h1 h2
    · exact h.apart (a + 1) c x y k hx hy (by omega) h1 h2
    · exact h.apart (a + 1) (c + 1) x y k hx hy (by omega) h1 h2
  · intro y hy p' hp' k h1 h2
    exact h.apart2 y (hmem y hy) p' hp' k h1 h2
  · rintro k _ (rfl | rfl)
    · exact .inl rfl
    · exact .inr (.inr (.inl hgg))
  · rintro k (rfl | h1 | h1 | h1 | h1 | ⟨x, hx, h1⟩)
    · exact .inl (.inl rfl)
    · exact .inl (.inr (.inl h1))
    · have : g = k := by simpa [Value.ownBlock] using h1
      subst this
      exact .inl (.inr (.inr (.inl hgg)))
    · exact .inl (.inr (.inr (.inr (.inl h1))))
    · exact .inl (.inr (.inr (.inr (.inr (.inl h1)))))
    · exact .inl (.inr (.inr (.inr (.inr (.inr ⟨x, hmem x hx, h1⟩)))))
  · intro k hkx hfp
    have hxm := List.mem_of_getElem? hx
    obtain ⟨cur, hc⟩ := h.fs5 hxm hkx
    rcases hfp with (rfl | h1 | h1 | h1 | h1 | ⟨y, hy, h1⟩) | ⟨p', hp', h1⟩
    · exact absurd (cells_inj hc h.blk) (by decide)
    · obtain ⟨c, hc'⟩ := h.hblk h1; exact absurd (cells_inj hc hc') (by decide)
    · have : g = k := by simpa [Value.ownBlock] using h1
      subst this
      obtain ⟨c, hc'⟩ := h.fblk hgg; exact absurd (cells_inj hc hc') (by decide)
    · obtain ⟨c, hc'⟩ := h.eblk h1; exact absurd (cells_inj hc hc') (by decide)
    · exact h.map.ne hc h1
    · obtain ⟨j, hj⟩ := List.getElem?_of_mem hy
      rw [List.getElem?_eraseIdx] at hj
      split at hj
      · exact h.apart i j x y k hx hj (by omega) hkx h1
      · exact h.apart i (j + 1) x y k hx hj (by omega) hkx h1
    · exact h.apart2 x hxm p' hp' k hkx h1
end Go.Proofs.Ytnkcgalbaeppmaa
