/- What a network's memory says of a network. -/
import Derived.Test.YtnkcgalbaeppmaaW5
import Derived.Test.YtnkcgalbaeppmaaMap
namespace Go.Proofs.Ytnkcgalbaeppmaa
open Go.RowKit

/-- A packet in flight. -/
structure FlM where
  pk : Pk
  id : Int
  src : Int
/-- An event. -/
structure EvM where
  kind : Int
  id : Int
  fr : Int
  deriving DecidableEq
def EvM.cells (e : EvM) : List Value := [.int .i64 e.kind, .int .i64 e.id, .int .i64 e.fr]
theorem EvM.cells_len (e : EvM) : e.cells.length = 3 := rfl
/-- A network. -/
structure NetM where
  hist : List Pk
  fl : List FlM
  next : Int
  blk : List Pr
  ev : List EvM
/-- How it lies in memory. -/
structure ND where
  hv : Value
  fv : Value
  mv : Value
  ev : Value
  hs : List PV
  fs : List FV

/-- A packet in flight lies as it is. -/
structure FOwn (w : World) (x : FV) (m : FlM) : Prop where
  p : POwn w x.p m.pk
  id : x.id = m.id
  src : x.src = m.src

/-- Two lists, place by place. -/
def Both {α β : Type} (R : α → β → Prop) (l : List α) (m : List β) : Prop := l.length = m.length ∧ ∀ (i : Nat) (x : α) (y : β), l[i]? = some x → m[i]? = some y → R x y
theorem Both.nil {α β : Type} {R : α → β → Prop} : Both R [] [] := ⟨rfl, fun i x y h => by simp at h⟩
theorem Both.mono {α β : Type} {R R' : α → β → Prop} {l : List α} {m : List β} (h : Both R l m) (hr : ∀ x y, x ∈ l → R x y → R' x y) : Both R' l m :=
  ⟨h.1, fun i x y hx hy => hr x y (List.mem_of_getElem? hx) (h.2 i x y hx hy)⟩
theorem Both.snoc {α β : Type} {R : α → β → Prop} {l : List α} {m : List β} {x : α} {y : β} (h : Both R l m) (hx : R x y) : Both R (l ++ [x]) (m ++ [y]) := by
  refine ⟨by simp [h.1], fun i a b ha hb => ?_⟩
  rcases Nat.lt_trichotomy i l.length with hi | hi | hi
  · rw [List.getElem?_append_left hi] at ha
    rw [List.getElem?_append_left (by rw [← h.1]; exact hi)] at hb
    exact h.2 i a b ha hb
  · subst hi
    simp at ha
    rw [h.1] at hb
    simp at hb
    subst ha hb
    exact hx
  · rw [List.getElem?_append_right (by omega)] at ha
    have : i - l.length ≠ 0 := by omega
    rw [List.getElem?_eq_none (by simp; omega)] at ha
    cases ha
theorem Both.erase {α β : Type} {R : α → β → Prop} {l : List α} {m : List β} (h : Both R l m) (k : Nat) : Both R (l.eraseIdx k) (m.eraseIdx k) := by
  refine ⟨by simp only [List.length_eraseIdx, h.1], fun i a b ha hb => ?_⟩
  rw [List.getElem?_eraseIdx] at ha hb
  split at ha
  · rename_i hi; rw [if_pos hi] at hb; exact h.2 i a b ha hb
  · rename_i hi; rw [if_neg hi] at hb; exact h.2 (i + 1) a b ha hb
theorem Both.at {α β : Type} {R : α → β → Prop} {l : List α} {m : List β} (h : Both R l m) {i : Nat} {y : β} (hy : m[i]? = some y) : ∃ x, l[i]? = some x ∧ R x y := by
  have hi : i < m.length := (List.getElem?_eq_some_iff.1 hy).1
  refine ⟨l[i]'(by rw [h.1]; exact hi), List.getElem?_eq_getElem _, h.2 i _ y (List.getElem?_eq_getElem _) hy⟩
theorem Both.set {α β : Type} {R : α → β → Prop} {l : List α} {m : List β} (k : Nat) {x : α} {y : β} (h : ∀ (i : Nat) (a : α) (b : β), i ≠ k → l[i]? = some a → m[i]? = some b → R a b) (hl : l.length = m.length) (hx : R x y) : Both R (l.set k x) (m.set k y) := by
  refine ⟨by simp [hl], fun i a b ha hb => ?_⟩
  by_cases hik : k = i
  · subst hik
    rw [List.getElem?_set] at ha hb
    simp only [if_true] at ha hb
    split at ha
    · split at hb
      · cases ha; cases hb; exact hx
      · cases hb
    · cases ha
  · rw [List.getElem?_set_ne hik] at ha hb
    exact h i a b (Ne.symm hik) ha hb

/-- The network lies in memory so. -/
structure RepOk (w : World) (b : Nat) (N : NetM) (D : ND) : Prop where
  blk : NetBlk w b D.hv D.fv N.next D.mv D.ev
  hist : w.ownsRow 0 40 3 D.hv N.hist.length (D.hs.flatMap PV.cells)
  histp : Both (POwn w) D.hs N.hist
  fl : w.ownsRow 0 86 5 D.fv N.fl.length (D.fs.flatMap FV.cells)
  flp : Both (FOwn w) D.fs N.fl
  ev : w.ownsRow 0 61 3 D.ev N.ev.length (N.ev.flatMap EvM.cells)
  map : MapAt w D.mv N.blk
  apart : ∀ (i j : Nat) (x y : FV) (k : Nat), D.fs[i]? = some x → D.fs[j]? = some y → i ≠ j → x.p.blk = some k → y.p.blk ≠ some k
  apart2 : ∀ x ∈ D.fs, ∀ p ∈ D.hs, ∀ k, x.p.blk = some k → p.blk ≠ some k

/-- Plain limits of a network. -/
structure NetM.lim (N : NetM) : Prop where
  hist : N.hist.length ≤ 1024
  fl : N.fl.length ≤ 64
  ev : N.ev.length ≤ 50000
  next0 : 0 ≤ N.next
  next1 : N.next ≤ 50000
  histok : ∀ m ∈ N.hist, m.ok
  flok : ∀ m ∈ N.fl, m.pk.ok
  srcok : ∀ m ∈ N.fl, -1 ≤ m.src ∧ m.src < (N.hist.length : Int)

/-- The blocks of a network that its methods may turn. -/
def wr (D : ND) (b : Nat) (k : Nat) : Prop :=
  k = b ∨ D.hv.ownBlock = some k ∨ D.fv.ownBlock = some k ∨ D.ev.ownBlock = some k ∨ mapBlk D.mv = some k ∨ (∃ x ∈ D.fs, x.p.blk = some k)
/-- The blocks of the history's bytes: no method turns them. -/
def hp (D : ND) (k : Nat) : Prop := ∃ p ∈ D.hs, p.blk = some k
/-- The blocks of a network. -/
def fp (D : ND) (b : Nat) (k : Nat) : Prop := wr D b k ∨ hp D k

theorem POwn.block {w : World} {p : PV} {m : Pk} (h : POwn w p m) {k : Nat} (hk : p.blk = some k) : ∃ cur, w.heap[k]? = some (.cells cur 5 (0, 0)) := ownsRow_block h.b hk
theorem POwn.lt {w : World} {p : PV} {m : Pk} (h : POwn w p m) {k : Nat} (hk : p.blk = some k) : k < w.heap.size := (h.b.lt k hk).2
theorem POwn.same {w w' : World} {p : PV} {m : Pk} (h : POwn w p m) (hs : ∀ k, p.blk = some k → w'.heap[k]? = w.heap[k]?) : POwn w' p m := ⟨h.f, h.t, h.n, ownsRow_same h.b hs⟩

theorem Both.left {α β : Type} {R : α → β → Prop} {l : List α} {m : List β} (h : Both R l m) {x : α} (hx : x ∈ l) : ∃ y ∈ m, R x y := by
  obtain ⟨i, hi⟩ := List.getElem?_of_mem hx
  have hil : i < l.length := (List.getElem?_eq_some_iff.1 hi).1
  exact ⟨m[i]'(by rw [← h.1]; exact hil), List.getElem_mem _, h.2 i x _ hi (List.getElem?_eq_getElem _)⟩

theorem RepOk.fp_lt {w : World} {b : Nat} {N : NetM} {D : ND} (h : RepOk w b N D) : ∀ k, fp D b k → k < w.heap.size := fun k hk => by
  rcases hk with (rfl | hk | hk | hk | hk | ⟨x, hx, hk⟩) | ⟨p, hp, hk⟩
  · exact h.blk.lt
  · exact (h.hist.lt k hk).2
  · exact (h.fl.lt k hk).2
  · exact (h.ev.lt k hk).2
  · exact h.map.lt k hk
  · obtain ⟨m, _, hm⟩ := h.flp.left hx; exact hm.p.lt hk
  · obtain ⟨m, _, hm⟩ := h.histp.left hp; exact hm.lt hk

theorem RepOk.same {w w' : World} {b : Nat} {N : NetM} {D : ND} (h : RepOk w b N D) (hs : ∀ k, fp D b k → w'.heap[k]? = w.heap[k]?) : RepOk w' b N D where
  blk := h.blk.same (hs b (.inl (.inl rfl)))
  hist := ownsRow_same h.hist fun k hk => hs k (.inl (.inr (.inl hk)))
  histp := h.histp.mono fun x y hx hm => hm.same fun k hk => hs k (.inr ⟨x, hx, hk⟩)
  fl := ownsRow_same h.fl fun k hk => hs k (.inl (.inr (.inr (.inl hk))))
  flp := h.flp.mono fun x y hx hm => ⟨hm.p.same fun k hk => hs k (.inl (.inr (.inr (.inr (.inr (.inr ⟨x, hx, hk⟩)))))), hm.id, hm.src⟩
  ev := ownsRow_same h.ev fun k hk => hs k (.inl (.inr (.inr (.inr (.inl hk)))))
  map := h.map.same fun k hk => hs k (.inl (.inr (.inr (.inr (.inr (.inl hk))))))
  apart := h.apart
  apart2 := h.apart2
theorem RepOk.kp {w w' : World} {b : Nat} {N : NetM} {D : ND} (h : RepOk w b N D) {S : Nat → Prop} (hk : Kp S w w') (hS : ∀ k, fp D b k → ¬ S k) : RepOk w' b N D :=
  h.same fun k hf => hk.block k (h.fp_lt k hf) (hS k hf)
theorem RepOk.below {w w' : World} {b : Nat} {N : NetM} {D : ND} (h : RepOk w b N D) {B : Nat} (hk : Below B w w') (hB : w.heap.size ≤ B) : RepOk w' b N D :=
  h.same fun k hf => hk.block k (Nat.lt_of_lt_of_le (h.fp_lt k hf) hB)

/-- What a call may do: it turns the network's own blocks alone, and gives it none that another had. -/
structure Turns (D D' : ND) (b : Nat) (w w' : World) : Prop where
  kp : Kp (wr D b) w w'
  wr : ∀ k, wr D' b k → wr D b k ∨ w.heap.size ≤ k
  hp : ∀ k, hp D' k → hp D k ∨ w.heap.size ≤ k
theorem Turns.fp {D D' : ND} {b : Nat} {w w' : World} (h : Turns D D' b w w') : ∀ k, fp D' b k → fp D b k ∨ w.heap.size ≤ k := fun k hk =>
  hk.elim (fun h1 => (h.wr k h1).imp .inl id) (fun h1 => (h.hp k h1).imp .inr id)
theorem Turns.trans {D D' D'' : ND} {b : Nat} {w w' w'' : World} (h : Turns D D' b w w') (h' : Turns D' D'' b w' w'') : Turns D D'' b w w'' :=
  ⟨h.kp.trans h'.kp (fun k hk hf => (h.wr k hf).resolve_right (by omega)), fun k hk => (h'.wr k hk).elim (fun hf => h.wr k hf) (fun hs => .inr (Nat.le_trans h.kp.size hs)),
    fun k hk => (h'.hp k hk).elim (fun hf => h.hp k hf) (fun hs => .inr (Nat.le_trans h.kp.size hs))⟩
theorem Turns.of_below {D : ND} {b : Nat} {w w' : World} (h : Below w.heap.size w w') : Turns D D b w w' := ⟨Kp.of_below h, fun _ hk => .inl hk, fun _ hk => .inl hk⟩
theorem Turns.below {D D' : ND} {b : Nat} {w w' w'' : World} (h : Turns D D' b w w') (hb : Below w'.heap.size w' w'') : Turns D D' b w w'' := h.trans (Turns.of_below hb)
theorem Turns.of_below' {D D' : ND} {b : Nat} {w w' w'' : World} (hb : Below w.heap.size w w') (h : Turns D D' b w' w'') : Turns D D' b w w'' := (Turns.of_below hb).trans h
end Go.Proofs.Ytnkcgalbaeppmaa
