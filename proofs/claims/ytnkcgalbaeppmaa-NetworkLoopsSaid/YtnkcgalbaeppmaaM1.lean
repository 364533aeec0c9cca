/- Texts joined into one: Base Shelf Early. -/
import Derived.WalkKit
import Derived.WalkSpells
import Derived.Shelf.Bytes.SlEqualAll
import Derived.Maps.AppendAt
import Derived.Deep.AppendLies
import Derived.Lib.Hide
import Derived.KernelRfl
import Derived.Shelf.Bytes.SlSearch0
import Derived.Ground.SlbCloneProg
import Derived.Shelf.Bytes.SlClone
import Derived.Shelf.Bytes.Small
import Derived.Test.YtnkcgalbaeppmaaProg
import Derived.OrdersHeld
import Derived.StillTail
import Derived.Deep.RegionHeld3
/- Plain notions for the proofs about the network: a relation of kept memory, rows of structs, packets. Nothing of the program is named. -/
namespace Go.Proofs.Ytnkcgalbaeppmaa
open Go.RowKit

/-- What lay in memory and is not in S is as it was; nothing but memory and the count of draws has turned. -/
structure Kp (S : Nat → Prop) (w w' : World) : Prop where
  os : w'.os = w.os
  tape : w'.tape = w.tape
  output : w'.output = w.output
  size : w.heap.size ≤ w'.heap.size
  block : ∀ k, k < w.heap.size → ¬ S k → w'.heap[k]? = w.heap[k]?

theorem Kp.refl (S : Nat → Prop) (w : World) : Kp S w w := ⟨rfl, rfl, rfl, Nat.le_refl _, fun _ _ _ => rfl⟩
theorem Kp.mono {S S' : Nat → Prop} {w w' : World} (h : Kp S w w') (hs : ∀ k, k < w.heap.size → S k → S' k) : Kp S' w w' :=
  ⟨h.os, h.tape, h.output, h.size, fun k hk hn => h.block k hk (fun h1 => hn (hs k hk h1))⟩
theorem Kp.trans {S S' : Nat → Prop} {a b c : World} (h : Kp S a b) (k : Kp S' b c) (hs : ∀ k, k < a.heap.size → S' k → S k) : Kp S a c :=
  ⟨k.os.trans h.os, k.tape.trans h.tape, k.output.trans h.output, Nat.le_trans h.size k.size, fun i hi hn =>
    (k.block i (Nat.lt_of_lt_of_le hi h.size) (fun h1 => hn (hs i hi h1))).trans (h.block i hi hn)⟩
theorem Kp.drew {S : Nat → Prop} {a w : World} (h : Kp S a w) : Kp S a w.drew := ⟨h.os, h.tape, h.output, h.size, h.block⟩
theorem Kp.alloc {S : Nat → Prop} {a w : World} (h : Kp S a w) (o : Obj) : Kp S a (w.alloc o) :=
  ⟨h.os, h.tape, h.output, by have := h.size; simp; omega, fun k hk hn => by
    have := h.size
    exact (Below.heap_alloc w o k (by omega)).trans (h.block k hk hn)⟩
theorem Kp.setCell {S : Nat → Prop} {a w : World} (h : Kp S a w) {p : Addr} (hp : p.block < a.heap.size → S p.block) (u : Value) : Kp S a (w.setCell p u) :=
  ⟨h.os, h.tape, h.output, by simpa [World.setCell] using h.size, fun k hk hn => by
    have hne : k ≠ p.block := fun e => by subst e; exact hn (hp hk)
    exact (Below.heap_setCell w p u k hne).trans (h.block k hk hn)⟩
theorem Kp.grown {S : Nat → Prop} {a w w' : World} {row : Option Nat} (h : Kp S a w) (hg : w.grownBy w' row) (hr : ∀ k, row = some k → k < a.heap.size → S k) : Kp S a w' :=
  ⟨hg.os.trans h.os, hg.tape.trans h.tape, hg.output.trans h.output, Nat.le_trans h.size hg.size, fun k hk hn =>
    (hg.block k (Nat.lt_of_lt_of_le hk h.size) (fun e => hn (hr k e.symm hk))).trans (h.block k hk hn)⟩
theorem Kp.below {S : Nat → Prop} {a w w' : World} {B : Nat} (h : Kp S a w) (hb : Below B w w') (hB : a.heap.size ≤ B) : Kp S a w' :=
  ⟨hb.os.trans h.os, hb.tape.trans h.tape, hb.output.trans h.output, Nat.le_trans h.size hb.size, fun k hk hn =>
    (hb.block k (by omega)).trans (h.block k hk hn)⟩
theorem Kp.of_below {S : Nat → Prop} {w w' : World} (hb : Below w.heap.size w w') : Kp S w w' := (Kp.refl S w).below hb (Nat.le_refl _)
theorem Kp.to_below {w w' : World} {S : Nat → Prop} (h : Kp S w w') (hs : ∀ k, k < w.heap.size → ¬ S k) : Below w.heap.size w w' :=
  ⟨h.os, h.tape, h.output, h.size, fun k hk => h.block k hk (hs k hk)⟩
theorem Below.kp {B : Nat} {a b c : World} {S : Nat → Prop} (h : Below B a b) (k : Kp S b c) (hB : B ≤ a.heap.size) (hs : ∀ k, S k → B ≤ k) : Below B a c :=
  ⟨k.os.trans h.os, k.tape.trans h.tape, k.output.trans h.output, Nat.le_trans h.size k.size, fun i hi =>
    (k.block i (by have := h.size; omega) (fun h1 => by have := hs i h1; omega)).trans (h.block i hi)⟩
theorem Kp.cell {S : Nat → Prop} {w w' : World} (h : Kp S w w') {p : Addr} (hp : p.block < w.heap.size) (hn : ¬ S p.block) : w'.cell? p = w.cell? p :=
  World.cell?_of_block (w := w) (h.block p.block hp hn)
theorem Kp.frozen {S : Nat → Prop} {w w' : World} (h : Kp S w w') {p : Addr} (hp : p.block < w.heap.size) (hn : ¬ S p.block) : w'.frozen? p = w.frozen? p :=
  World.frozen?_of_block (w := w) (h.block p.block hp hn)

/-- A block that is there lies below the heap's size. -/
theorem lt_of_heap {w : World} {k : Nat} {o : Obj} (h : w.heap[k]? = some o) : k < w.heap.size := (Array.getElem?_eq_some_iff.1 h).1

/-- Bytes that lie in memory still do, where their block is as it was. -/
theorem BytesIn.same {w w' : World} {p : Option Addr} {n : Nat} {xs : List Int} (h : Lib.BytesIn w p n xs) (hs : ∀ a, p = some a → w'.heap[a.block]? = w.heap[a.block]?) : Lib.BytesIn w' p n xs := fun hn => by
  obtain ⟨b, o, rfl, hc⟩ := h hn
  exact ⟨b, o, rfl, fun i hi => by rw [World.cell?_of_block (w := w) (a := ⟨b, o + i, none⟩) (hs ⟨b, o, none⟩ rfl)]; exact hc i hi⟩
theorem BytesIn.below {w w' : World} {p : Option Addr} {n : Nat} {xs : List Int} (h : Lib.BytesIn w p n xs) {B : Nat} (hb : Below B w w') (hB : w.heap.size ≤ B) : Lib.BytesIn w' p n xs := fun hn => by
  obtain ⟨b, o, rfl, hc⟩ := h hn
  refine ⟨b, o, rfl, fun i hi => ?_⟩
  have := World.block_lt_of_cell? w _ (hc i hi)
  rw [hb.cell (p := ⟨b, o + i, none⟩) (Nat.lt_of_lt_of_le this hB)]; exact hc i hi
theorem BytesIn.kp {w w' : World} {p : Option Addr} {n : Nat} {xs : List Int} (h : Lib.BytesIn w p n xs) {S : Nat → Prop} (hb : Kp S w w') (hS : ∀ a, p = some a → ¬ S a.block) : Lib.BytesIn w' p n xs := fun hn => by
  obtain ⟨b, o, rfl, hc⟩ := h hn
  refine ⟨b, o, rfl, fun i hi => ?_⟩
  have := World.block_lt_of_cell? w _ (hc i hi)
  rw [hb.cell (p := ⟨b, o + i, none⟩) this (hS ⟨b, o, none⟩ rfl)]; exact hc i hi

/-- A row that is owned is still owned where its block is as it was. -/
theorem ownsRow_same {w w' : World} {B : Nat} {e : TypeId} {s : Nat} {v : Value} {n : Nat} {xs : List Value} (h : w.ownsRow B e s v n xs) (hs : ∀ k, v.ownBlock = some k → w'.heap[k]? = w.heap[k]?) : w'.ownsRow B e s v n xs := by
  refine ⟨h.1, ?_⟩
  rcases h.2 with hn | ⟨g, cap, cur, rfl, hb, hgg, rest⟩
  · exact .inl hn
  · exact .inr ⟨g, cap, cur, rfl, hb, by rw [hs g rfl]; exact hgg, rest⟩
theorem ownsRow_kp {w w' : World} {B : Nat} {e : TypeId} {s : Nat} {v : Value} {n : Nat} {xs : List Value} (h : w.ownsRow B e s v n xs) {S : Nat → Prop} (hb : Kp S w w') (hS : ∀ k, v.ownBlock = some k → ¬ S k) : w'.ownsRow B e s v n xs :=
  ownsRow_same h fun k hk => hb.block k (h.lt k hk).2 (hS k hk)
theorem ownsRow_below {w w' : World} {B B' : Nat} {e : TypeId} {s : Nat} {v : Value} {n : Nat} {xs : List Value} (h : w.ownsRow B e s v n xs) (hb : Below B' w w') (hB : w.heap.size ≤ B') : w'.ownsRow B e s v n xs :=
  ownsRow_same h fun k hk => hb.block k (Nat.lt_of_lt_of_le (h.lt k hk).2 hB)
theorem ownsRow_base {w : World} {B B' : Nat} {e : TypeId} {s : Nat} {v : Value} {n : Nat} {xs : List Value} (h : w.ownsRow B' e s v n xs) (hB : B ≤ B') : w.ownsRow B e s v n xs :=
  ⟨h.1, h.2.imp id (fun ⟨g, cap, cur, a, b, c⟩ => ⟨g, cap, cur, a, Nat.le_trans hB b, c⟩)⟩
/-- The base may be any number that the block reaches. -/
theorem ownsRow_rebase {w : World} {B B' : Nat} {e : TypeId} {s : Nat} {v : Value} {n : Nat} {xs : List Value} (h : w.ownsRow B e s v n xs) (hB : ∀ k, v.ownBlock = some k → B' ≤ k) : w.ownsRow B' e s v n xs :=
  ⟨h.1, h.2.imp id (fun ⟨g, cap, cur, a, _, c⟩ => ⟨g, cap, cur, a, hB g (by subst a; rfl), c⟩)⟩
/-- What a value that owns a row looks like. -/
theorem ownsRow_slice {w : World} {B : Nat} {e : TypeId} {s : Nat} {v : Value} {n : Nat} {xs : List Value} (h : w.ownsRow B e s v n xs) : ∃ a cap, v = .slice a n cap ∧ n ≤ cap ∧ cap ≤ maxLen ∧ (a = none → n = 0 ∧ cap = 0) ∧ (∀ x, a = some x → ∃ g, x = ⟨g, 0, none⟩ ∧ B ≤ g ∧ g < w.heap.size) := by
  rcases h.2 with ⟨rfl, rfl⟩ | ⟨g, cap, cur, rfl, hb, hg, hc, hm, _⟩
  · exact ⟨none, 0, rfl, Nat.le_refl _, Nat.zero_le _, (fun _ => ⟨rfl, rfl⟩), (fun x hx => by cases hx)⟩
  · exact ⟨some ⟨g, 0, none⟩, cap, rfl, hc, hm, (fun h => by cases h), (fun x hx => by cases hx; exact ⟨g, rfl, hb, lt_of_heap hg⟩)⟩
/-- The block of an owned row is one of its element's type. -/
theorem ownsRow_block {w : World} {B : Nat} {e : TypeId} {s : Nat} {v : Value} {n : Nat} {xs : List Value} (h : w.ownsRow B e s v n xs) {k : Nat} (hk : v.ownBlock = some k) : ∃ cur, w.heap[k]? = some (.cells cur e (0, 0)) := by
  rcases h.2 with ⟨rfl, _⟩ | ⟨g, cap, cur, rfl, _, hg, _⟩
  · simp [Value.ownBlock] at hk
  · simp [Value.ownBlock] at hk; subst hk; exact ⟨cur, hg⟩
theorem ownsRow_ne {w : World} {B : Nat} {e e' : TypeId} {s : Nat} {v : Value} {n : Nat} {xs : List Value} (h : w.ownsRow B e s v n xs) {k : Nat} {cur : Array Value} {fz : Nat × Nat} (hk : w.heap[k]? = some (.cells cur e' fz)) (he : e ≠ e') : v.ownBlock ≠ some k := fun e1 => by
  obtain ⟨c, hc⟩ := ownsRow_block h e1
  rw [hc] at hk
  cases hk
  exact he rfl
theorem ownsRow_bytes {w : World} {B : Nat} {a : Option Addr} {n c m : Nat} {xs : List Int} {e : TypeId} (h : w.ownsRow B e 1 (.slice a n c) m (xs.map (Value.int .u8))) : Lib.BytesIn w a n xs ∧ xs.length = n := by
  obtain ⟨a', cap, hv, _, _, _, ha⟩ := ownsRow_slice h
  injection hv with h1 h2 h3
  subst h1; subst h2
  have hl := h.1
  simp at hl
  refine ⟨fun hn => ?_, hl⟩
  rcases a with _ | x
  · rcases h.2 with ⟨hv, h0⟩ | ⟨g, cap, cur, hv, _⟩
    · omega
    · cases hv
  · obtain ⟨g, rfl, _, _⟩ := ha x rfl
    refine ⟨g, 0, rfl, fun i hi => ?_⟩
    have hc := h.cells (g := g) rfl i (.int .u8 (xs.getD i 0)) (by simp [List.getElem?_map, List.getD, List.getElem?_eq_getElem (show i < xs.length by omega)])
    rw [Go.WideShapes.add_plain] at hc
    exact hc

/-- The j-th cell of the k-th of many elements of one size. -/
theorem flat_get {α : Type} (c : α → List Value) (s : Nat) (hc : ∀ x, (c x).length = s) : ∀ (l : List α) (k j : Nat) (x : α), l[k]? = some x → j < s → (l.flatMap c)[k * s + j]? = (c x)[j]?
  | [], k, j, x, h, _ => by simp at h
  | y :: l, 0, j, x, h, hj => by
    simp at h; subst h
    simp only [List.flatMap_cons, Nat.zero_mul, Nat.zero_add]
    rw [List.getElem?_append_left (by rw [hc]; exact hj)]
  | y :: l, k + 1, j, x, h, hj => by
    simp at h
    have := flat_get c s hc l k j x h hj
    simp only [List.flatMap_cons]
    rw [List.getElem?_append_right (by rw [hc, Nat.add_mul]; omega), hc]
    rw [show (k + 1) * s + j - s = k * s + j by rw [Nat.add_mul]; omega]
    exact this
theorem flat_len {α : Type} (c : α → List Value) (s : Nat) (hc : ∀ x, (c x).length = s) (l : List α) : (l.flatMap c).length = l.length * s := by
  induction l with
  | nil => simp
  | cons x l ih => simp [List.flatMap_cons, hc, ih, Nat.add_mul, Nat.add_comm]
/-- A cell of an owned row of structs. -/
theorem own_cell {α : Type} {w : World} {B : Nat} {e : TypeId} {s : Nat} {g n cap : Nat} {l : List α} {c : α → List Value} (hc : ∀ x, (c x).length = s) (h : w.ownsRow B e s (.slice (some ⟨g, 0, none⟩) n cap) n (l.flatMap c)) {k j : Nat} {x : α} (hx : l[k]? = some x) (hj : j < s) : w.cell? ⟨g, k * s + j, none⟩ = (c x)[j]? := by
  have hk : k < l.length := (List.getElem?_eq_some_iff.1 hx).1
  have hl := h.1
  rw [flat_len c s hc] at hl
  have hlt : k * s + j < n * s := by
    rw [← hl]
    calc k * s + j < k * s + s := by omega
      _ = (k + 1) * s := by rw [Nat.add_mul]; omega
      _ ≤ l.length * s := Nat.mul_le_mul_right _ hk
  rw [h.cellAt _ hlt, flat_get c s hc l k j x hx hj]
theorem own_len {α : Type} {w : World} {B : Nat} {e : TypeId} {s : Nat} {v : Value} {n : Nat} {l : List α} {c : α → List Value} (hc : ∀ x, (c x).length = s) (hs : 0 < s) (h : w.ownsRow B e s v n (l.flatMap c)) : l.length = n := by
  have hl := h.1
  rw [flat_len c s hc] at hl
  exact Nat.eq_of_mul_eq_mul_right hs hl

theorem ret_int {k : IntKind} {a b : Int} (h : a = b) : Ending.returned (.int k a) = .returned (.int k b) := by rw [h]
theorem ret_bool {a b : Bool} (h : a = b) : Ending.returned (.bool a) = .returned (.bool b) := by rw [h]
theorem ret_int2 {k k' : IntKind} {a b c d : Int} (h : a = b) (h' : c = d) : Ending.returned (.tuple #[.int k a, .int k' c]) = .returned (.tuple #[.int k b, .int k' d]) := by rw [h, h']

/-- A goal that the walk leaves alone. -/
def Wrapped (P : Prop) : Prop := P
theorem unwrap {P : Prop} (h : Wrapped P) : P := h

/-- What is to be known of a slice type and its elements. -/
structure SlT (P : Program) (t e : TypeId) (z : Value) (size bytes : Nat) : Prop where
  und : P.underlying t = some (.slice e)
  info : (P.info? e).map (fun i => (i.zero, i.size, i.bytes)) = some (some z, size, bytes)
  zs : z.cells.size = size
  pos : 0 < size
  small : bytes ≤ 1000

theorem own_setCell {w : World} {B : Nat} {e : TypeId} {s : Nat} {v : Value} {n : Nat} {xs : List Value} (h : w.ownsRow B e s v n xs) {p : Addr} (hp : v.ownBlock ≠ some p.block) (u : Value) : (w.setCell p u).ownsRow B e s v n xs :=
  ownsRow_same h fun _k hk => Below.heap_setCell _ _ _ _ (fun e => hp (e ▸ hk))
theorem own_alloc {w : World} {B : Nat} {e : TypeId} {s : Nat} {v : Value} {n : Nat} {xs : List Value} (h : w.ownsRow B e s v n xs) (o : Obj) : (w.alloc o).ownsRow B e s v n xs := h.alloc o

section
variable {P : Program} {w : World}
/-- 'append(s, x)' of one element, which lies in the newest block, onto a slice that is owned. -/
theorem wpList_push {ops : Array Oper} {rest : List Oper} {o : Oper} {a : Act} {Q : Exit → Act → World → Prop} (hgd : o.guard = none) (s x : Operand) (t : TypeId)
    (ho : o.op = .call { callee := .builtin .append, args := #[s, x], argTypes := #[t, t] })
    {e : TypeId} {z : Value} {size bytes : Nat} (T : SlT P t e z size bytes)
    {v : Value} {n : Nat} {xs : List Value} (hs : a.eval s = v) (hown : w.ownsRow 0 e size v n xs) (cs : Array Value) (hcs : cs.size = size) (hone : ∀ u ∈ cs.toList, u.oneCell' = true)
    (hx : a.eval x = .slice (some ⟨w.heap.size, 0, none⟩) 1 1) (hn : n ≤ 100000)
    (h : ∀ g cap w1, w1.ownsRow 0 e size (.slice (some ⟨g, 0, none⟩) (n + 1) cap) (n + 1) (xs ++ cs.toList) → Kp (fun k => v.ownBlock = some k) w w1 → (v.ownBlock = some g ∨ w.heap.size ≤ g) → g < w1.heap.size →
      wpList P ops Q rest (a.put o.dst (.slice (some ⟨g, 0, none⟩) (n + 1) cap)) w1) : wpList P ops Q (o :: rest) a (w.alloc (.cells cs e (0, 0))) := by
  obtain ⟨i0, hi, hz0, hz1, hz2⟩ := info_parts T.info
  refine wpList_append_lies _ hgd s x t ho 0 e i0 z size bytes T.und hi hz0 hz1 hz2 T.zs T.pos v n xs hs (hown.alloc _) ⟨w.heap.size, 0, none⟩ 1 1 cs.toList hx (by simp [hcs])
    (World.news_of_block (cs := cs) (t := e) (fr := (0, 0)) (heap_alloc_new w _)) hone (by decide) (by unfold maxLen; omega) (by have := T.small; have := Nat.mul_le_mul (show n + 1 ≤ 100001 by omega) this; omega) (Nat.zero_le _) (w.heap.size + 1) (by simp) ?_
  intro g cap w1 h1 h2 h3 h4
  exact h g cap w1 h1 (((Kp.refl _ w).alloc _).grown h2 (fun k hk _ => hk)) (h3.imp id (fun e => by omega)) h4
end

section
variable {P : Program} {w : World}
/-- The same at a step of a region that draws its order. -/
theorem step_push {ops : Array Oper} {o : Oper} {a : Act} {K : Act → World → Prop} {Q : Exit → Act → World → Prop} {E : Prop} (hgd : o.guard = none) (s x : Operand) (t : TypeId)
    (ho : o.op = .call { callee := .builtin .append, args := #[s, x], argTypes := #[t, t] })
    {e : TypeId} {z : Value} {size bytes : Nat} (T : SlT P t e z size bytes)
    {v : Value} {n : Nat} {xs : List Value} (hs : a.eval s = v) (hown : w.ownsRow 0 e size v n xs) (cs : Array Value) (hcs : cs.size = size) (hone : ∀ u ∈ cs.toList, u.oneCell' = true)
    (hx : a.eval x = .slice (some ⟨w.heap.size, 0, none⟩) 1 1) (hn : n ≤ 100000)
    (h : ∀ g cap w1, w1.ownsRow 0 e size (.slice (some ⟨g, 0, none⟩) (n + 1) cap) (n + 1) (xs ++ cs.toList) → Kp (fun k => v.ownBlock = some k) w w1 → (v.ownBlock = some g ∨ w.heap.size ≤ g) → g < w1.heap.size →
      K (a.put o.dst (.slice (some ⟨g, 0, none⟩) (n + 1) cap)) w1) : if Region.wanted o (yielded ops a.tmps) = true then Oper.wp P o a (w.alloc (.cells cs e (0, 0))) K Q else E := by
  obtain ⟨i0, hi, hz0, hz1, hz2⟩ := info_parts T.info
  refine step_append_lies _ hgd s x t ho 0 e i0 z size bytes T.und hi hz0 hz1 hz2 T.zs T.pos v n xs hs (hown.alloc _) ⟨w.heap.size, 0, none⟩ 1 1 cs.toList hx (by simp [hcs])
    (World.news_of_block (cs := cs) (t := e) (fr := (0, 0)) (heap_alloc_new w _)) hone (by decide) (by unfold maxLen; omega) (by have := T.small; have := Nat.mul_le_mul (show n + 1 ≤ 100001 by omega) this; omega) (Nat.zero_le _) (w.heap.size + 1) (by simp) ?_
  intro g cap w1 h1 h2 h3 h4
  exact h g cap w1 h1 (((Kp.refl _ w).alloc _).grown h2 (fun k hk _ => hk)) (h3.imp id (fun e => by omega)) h4
end

theorem blk1 {w : World} {B : Nat} {x : Value} {T : TypeId} (h : w.heap[B]? = some (.cells #[x] T (0, 0))) : w.cell? ⟨B, 0, none⟩ = some x ∧ w.frozen? ⟨B, 0, none⟩ = false ∧ B < w.heap.size := by
  refine ⟨?_, ?_, lt_of_heap h⟩ <;> simp [World.cell?, World.frozen?, h]
theorem blk3 {w : World} {B : Nat} {x y z : Value} {T : TypeId} (h : w.heap[B]? = some (.cells #[x, y, z] T (0, 0))) :
    w.cell? ⟨B, 0, none⟩ = some x ∧ w.cell? ⟨B, 1, none⟩ = some y ∧ w.cell? ⟨B, 2, none⟩ = some z ∧ w.frozen? ⟨B, 0, none⟩ = false ∧ w.frozen? ⟨B, 1, none⟩ = false ∧ w.frozen? ⟨B, 2, none⟩ = false ∧ B < w.heap.size := by
  refine ⟨?_, ?_, ?_, ?_, ?_, ?_, lt_of_heap h⟩ <;> simp [World.cell?, World.frozen?, h]
theorem blk5 {w : World} {B : Nat} {x y z u v : Value} {T : TypeId} (h : w.heap[B]? = some (.cells #[x, y, z, u, v] T (0, 0))) :
    w.cell? ⟨B, 0, none⟩ = some x ∧ w.cell? ⟨B, 1, none⟩ = some y ∧ w.cell? ⟨B, 2, none⟩ = some z ∧ w.cell? ⟨B, 3, none⟩ = some u ∧ w.cell? ⟨B, 4, none⟩ = some v ∧ (∀ i, w.frozen? ⟨B, i, none⟩ = false) ∧ B < w.heap.size := by
  refine ⟨?_, ?_, ?_, ?_, ?_, ?_, lt_of_heap h⟩ <;> simp [World.cell?, World.frozen?, h]
theorem top1 (w : World) (o p : Obj) : ((w.alloc o).alloc p).heap[w.heap.size]? = some o := by
  rw [Below.heap_alloc _ _ _ (by simp)]; exact heap_alloc_new w o
theorem top0 (w : World) (o p : Obj) : ((w.alloc o).alloc p).heap[w.heap.size + 1]? = some p := by
  have := heap_alloc_new (w.alloc o) p
  simpa using this

/-- The walk stands before a builtin of one kind. -/
theorem stop_builtin {P : Program} {ops : Array Oper} {Q : Exit → Act → World → Prop} (b : Builtin) {args : Array Operand} {ts : Array TypeId} {d : Option Tmp} {ty : TypeId} {pos : String} {af : Array Edge} {gd : Option (Nat × Bool)} {rest : List Oper} {a : Act} {w : World}
    (h : Wrapped (wpList P ops Q (⟨d, .call ⟨.builtin b, args, ts⟩, ty, pos, af, gd⟩ :: rest) a w)) : wpList P ops Q (⟨d, .call ⟨.builtin b, args, ts⟩, ty, pos, af, gd⟩ :: rest) a w := h

section
variable {P : Program} {w : World}
/-- A builtin append, by its run. -/
theorem wpList_append_run {ops : Array Oper} {rest : List Oper} {o : Oper} {a : Act} {Q : Exit → Act → World → Prop} (hgd : o.guard = none) (s x : Operand) (t u : TypeId)
    (ho : o.op = .call { callee := .builtin .append, args := #[s, x], argTypes := #[t, u] }) {v v1 v2 : Value} {w' : World} (hs : a.eval s = v1) (hx : a.eval x = v2)
    (hr : (Builtin.append_ #[t, u] o.type #[v1, v2]).run P w = .ok v w') (h : wpList P ops Q rest (a.put o.dst v) w') : wpList P ops Q (o :: rest) a w :=
  wpList_plain hgd fun K hK => by
    unfold Oper.wp execOp
    simp only [ho, resolve, invoke, builtin, Sem.run_bind, Sem.run_pure, Result.andThen_ok, List.map_toArray, List.map_cons, List.map_nil, hs, hx, hr]
    exact hK _ _ h
/-- A builtin clear, by its run. -/
theorem wpList_clear_run {ops : Array Oper} {rest : List Oper} {o : Oper} {a : Act} {Q : Exit → Act → World → Prop} (hgd : o.guard = none) (s : Operand) (t : TypeId)
    (ho : o.op = .call { callee := .builtin .clear, args := #[s], argTypes := #[t] }) {v v1 : Value} {w' : World} (hs : a.eval s = v1)
    (hr : (Builtin.clear_ #[t] o.type #[v1]).run P w = .ok v w') (h : wpList P ops Q rest (a.put o.dst v) w') : wpList P ops Q (o :: rest) a w :=
  wpList_plain hgd fun K hK => by
    unfold Oper.wp execOp
    simp only [ho, resolve, invoke, builtin, Sem.run_bind, Sem.run_pure, Result.andThen_ok, List.map_toArray, List.map_cons, List.map_nil, hs, hr]
    exact hK _ _ h
end
theorem flat_take {α : Type} (c : α → List Value) (s : Nat) (hc : ∀ x, (c x).length = s) : ∀ (l : List α) (k : Nat), (l.take k).flatMap c = (l.flatMap c).take (k * s)
  | [], k => by simp
  | x :: l, 0 => by simp
  | x :: l, k + 1 => by
    simp only [List.take_succ_cons, List.flatMap_cons, flat_take c s hc l k]
    have e : (k + 1) * s = s + k * s := by rw [Nat.add_mul]; omega
    rw [List.take_append, hc, List.take_of_length_le (l := c x) (by rw [hc, e]; omega), e, Nat.add_sub_cancel_left]
theorem flat_drop {α : Type} (c : α → List Value) (s : Nat) (hc : ∀ x, (c x).length = s) : ∀ (l : List α) (k : Nat), (l.drop k).flatMap c = (l.flatMap c).drop (k * s)
  | [], k => by simp
  | x :: l, 0 => by simp
  | x :: l, k + 1 => by
    simp only [List.drop_succ_cons, List.flatMap_cons, flat_drop c s hc l k]
    have e : (k + 1) * s = s + k * s := by rw [Nat.add_mul]; omega
    rw [List.drop_append, hc, List.drop_of_length_le (l := c x) (by rw [hc, e]; omega), List.nil_append, e, Nat.add_sub_cancel_left]
theorem flat_erase {α : Type} (c : α → List Value) (s : Nat) (hc : ∀ x, (c x).length = s) (l : List α) (i : Nat) : (l.eraseIdx i).flatMap c = (l.flatMap c).take (i * s) ++ (l.flatMap c).drop ((i + 1) * s) := by
  rw [List.eraseIdx_eq_take_drop_succ, List.flatMap_append, flat_take c s hc, flat_drop c s hc]

/-- A packet in memory: three cells. -/
structure PV where
  f : ByteArray
  t : ByteArray
  ba : Option Addr
  bn : Nat
  bc : Nat
def PV.cells (p : PV) : List Value := [.string p.f, .string p.t, .slice p.ba p.bn p.bc]
def PV.val (p : PV) : Value := .agg #[.string p.f, .string p.t, .slice p.ba p.bn p.bc]
/-- A packet: its sender, its receiver, its bytes. -/
structure Pk where
  fr : ByteArray
  to : ByteArray
  bs : List Int
/-- A packet that may come. -/
structure Pk.ok (m : Pk) : Prop where
  fr : m.fr.size ≤ 100
  to : m.to.size ≤ 100
  bs : m.bs.length ≤ 100
/-- Where a packet can be read. -/
structure PIn (w : World) (p : PV) (m : Pk) : Prop where
  f : p.f = m.fr
  t : p.t = m.to
  n : m.bs.length = p.bn
  b : Lib.BytesIn w p.ba p.bn m.bs
/-- Where a packet's bytes lie in a block of their own. -/
structure POwn (w : World) (p : PV) (m : Pk) : Prop where
  f : p.f = m.fr
  t : p.t = m.to
  n : m.bs.length = p.bn
  b : w.ownsRow 0 5 1 (.slice p.ba p.bn p.bc) p.bn (m.bs.map (Value.int .u8))
def PV.blk (p : PV) : Option Nat := Value.ownBlock (.slice p.ba p.bn p.bc)
theorem POwn.pin {w : World} {p : PV} {m : Pk} (h : POwn w p m) : PIn w p m := ⟨h.f, h.t, h.n, (ownsRow_bytes h.b).1⟩
theorem POwn.kp {w w' : World} {p : PV} {m : Pk} (h : POwn w p m) {S : Nat → Prop} (hk : Kp S w w') (hS : ∀ k, p.blk = some k → ¬ S k) : POwn w' p m := ⟨h.f, h.t, h.n, ownsRow_kp h.b hk hS⟩
theorem POwn.below {w w' : World} {p : PV} {m : Pk} (h : POwn w p m) {B : Nat} (hk : Below B w w') (hB : w.heap.size ≤ B) : POwn w' p m := ⟨h.f, h.t, h.n, ownsRow_below h.b hk hB⟩
theorem PIn.below {w w' : World} {p : PV} {m : Pk} (h : PIn w p m) {B : Nat} (hk : Below B w w') (hB : w.heap.size ≤ B) : PIn w' p m := ⟨h.f, h.t, h.n, BytesIn.below h.b hk hB⟩
theorem PIn.kp {w w' : World} {p : PV} {m : Pk} (h : PIn w p m) {S : Nat → Prop} (hk : Kp S w w') (hS : ∀ k, p.blk = some k → ¬ S k) : PIn w' p m :=
  ⟨h.f, h.t, h.n, BytesIn.kp h.b hk (fun a ha => hS a.block (by simp [PV.blk, Value.ownBlock, ha]))⟩
/-- A packet in flight in memory: five cells. -/
structure FV where
  p : PV
  id : Int
  src : Int
def FV.cells (x : FV) : List Value := x.p.cells ++ [.int .i64 x.id, .int .i64 x.src]
theorem FV.cells_len (x : FV) : x.cells.length = 5 := rfl
/-- The place of the first packet in flight with an identifier, or -1. -/
def idx (id : Int) : List FV → Nat → Int
  | [], _ => -1
  | x :: r, k => if x.id = id then (k : Int) else idx id r (k + 1)
theorem idx_none (id : Int) : ∀ (l : List FV) (k : Nat), (∀ x ∈ l, x.id ≠ id) → idx id l k = -1
  | [], _, _ => rfl
  | x :: r, k, h => by rw [idx, if_neg (h x (by simp)), idx_none id r _ (fun y hy => h y (by simp [hy]))]
theorem idx_some (id : Int) : ∀ (l : List FV) (k i : Nat) (x : FV), l[i]? = some x → x.id = id → (∀ j y, j < i → l[j]? = some y → y.id ≠ id) → idx id l k = ((k + i : Nat) : Int)
  | [], _, _, _, h, _, _ => by simp at h
  | y :: r, k, 0, x, h, hx, _ => by simp at h; subst h; rw [idx, if_pos hx]; rfl
  | y :: r, k, i + 1, x, h, hx, hn => by
    simp at h
    rw [idx, if_neg (hn 0 y (by omega) (by simp)), idx_some id r (k + 1) i x h hx (fun j z hj hz => hn (j + 1) z (by omega) (by simpa using hz))]
    congr 1; omega
theorem drop_eq {α : Type} {l : List α} {k : Nat} {x : α} (h : l[k]? = some x) : l.drop k = x :: l.drop (k + 1) := by
  obtain ⟨hk, rfl⟩ := List.getElem?_eq_some_iff.1 h
  exact List.drop_eq_getElem_cons hk
theorem PIn.drew {w : World} {p : PV} {m : Pk} (h : PIn w p m) : PIn w.drew p m := ⟨h.f, h.t, h.n, h.b⟩
theorem POwn.drew {w : World} {p : PV} {m : Pk} (h : POwn w p m) : POwn w.drew p m := ⟨h.f, h.t, h.n, h.b⟩
theorem Kp.undrew {S : Nat → Prop} {a w : World} (h : Kp S a.drew w) : Kp S a w := ⟨h.os, h.tape, h.output, h.size, h.block⟩
theorem below_undrew {B : Nat} {a w : World} (h : Below B a.drew w) : Below B a w := ⟨h.os, h.tape, h.output, h.size, h.block⟩
theorem PV.cells_len (p : PV) : p.cells.length = 3 := rfl
end Go.Proofs.Ytnkcgalbaeppmaa
/-
  DERIVED: THE SHELF's CONTRACTS AT THIS DUMP, IN PLAIN WORDS (tools/lay-plain.mjs out of 'TryShelf.lean', which tools/lay-shelf.mjs wrote): THE SAME DECLARATIONS UNDER THE SAME NAMES: 'import', 'namespace', 'open', 'def', 'theorem' AND NOTHING ELSE: no command of the shelf's: FOR A HAND-IN. Each laying: the table of numbers ('.._ren') and one theorem, a field a fact of the dump's own or the kernel's comparison; each contract: ONE APPLICATION.
-/
namespace Go.Proofs
open Go.Shelf
def Try.lays115_ren : Go.Shelf.Ren := ⟨fun | 115 => 64 | n => n, fun | 37 => 38 | 4 => 4 | 9 => 9 | 5 => 5 | n => n, fun | n => n⟩
theorem Try.lays115 : Go.Proofs.Lays.n115 Try.prog Try.lays115_ren := {
  mixed := by kernel_rfl
  f115 := Try.func64.trans (congrArg some (by kernel_rfl))
  t4 := Try.underlying4
  a4 := Try.isAgg4
  z4 := Try.sizeOf4
  v4 := Try.zeroValue4
  t9 := Try.underlying9
  a9 := Try.isAgg9
  z9 := Try.sizeOf9
  v9 := Try.zeroValue9
  t37 := Try.underlying38
  a37 := Try.isAgg38
  z37 := Try.sizeOf38
  v37 := Try.zeroValue38 }
open Go.Proofs Go.RowKit Go.Lib in
/-- bytes.Equal, each argument with what 'string(..)' of it gives. (LAID: no walk: one application.) -/
theorem Try.bytes_Equal_strs (v1 v2 : Value) (t1 t2 : ByteArray) (w : World) (h1 : (convert 38 9 v1).run Try.prog w = .ok (.string t1) w) (h2 : (convert 38 9 v2).run Try.prog w = .ok (.string t2) w) :
    Calls Try.prog 64 #[v1, v2] w fun e w' => e = .returned (.bool (t1.toList == t2.toList)) ∧ w' = w := Any.bytes_Equal_strs Try.lays115 v1 v2 t1 t2 w h1 h2
def Try.laysSlK4_ren : Go.Shelf.Ren := ⟨fun | 4 => 65 | n => n, fun | 22 => 38 | 4 => 4 | 5 => 5 | n => n, fun | n => n⟩
theorem Try.laysSlK4 : Go.Proofs.SlLaysK.n4 Try.prog Try.laysSlK4_ren := {
  mixed := by kernel_rfl
  f4 := Try.func65.trans (congrArg some (by kernel_rfl))
  t4 := Try.underlying4
  a4 := Try.isAgg4
  z4 := Try.sizeOf4
  v4 := Try.zeroValue4
  t22 := Try.underlying38
  a22 := Try.isAgg38
  z22 := Try.sizeOf38
  v22 := Try.zeroValue38
  t5 := Try.underlying5
  i5 := by kernel_rfl }
open Go.RowKit Go.Lib in
/-- bytes.Clone: "Clone returns a copy of b[:len(b)]. The result may have additional unused capacity.": OF A SLICE THAT IS NOT nil IT RETURNS A SLICE THAT IS NOT nil, OF THE SAME BYTES, IN MEMORY OF THE CALL's OWN: in the how-to's words (6f): 'w'.ownsRow B e 1 v' n cells' · 'Below B w w'', B the heap's size at the call. b AT WHATEVER ADDRESS, its cells as 'open_ints' hands them ('a.add i'; the numbers 'xs'). No byte: no cell is asked for. (LAID: no walk: one application.) -/
theorem Try.bytes_Clone_at (a : Addr) (n c : Nat) (xs : List Int) (w : World) (hx : xs.length = n) (hbig : n ≤ 140737488355328) (hc : ∀ i, i < n → w.cell? (a.add i) = some (.int .u8 (xs.getD i 0))) :
    Calls Try.prog 65 #[.slice (some a) n c] w fun e w' => ∃ v', e = .returned v' ∧ w'.ownsRow w.heap.size 5 1 v' n (xs.map (Value.int .u8)) ∧ v' ≠ .slice none 0 0 ∧ Below w.heap.size w w' := Any.bytes_Clone_at Try.laysSlK4 a n c xs w hx hbig hc
open Go.RowKit Go.Lib in
/-- "Clone(nil) returns nil.": the world is as it was. (LAID: no walk: one application.) -/
theorem Try.bytes_Clone_nil (n c : Nat) (w : World) :
    Calls Try.prog 65 #[.slice none n c] w fun e w' => e = .returned (.slice none 0 0) ∧ w' = w := Any.bytes_Clone_nil Try.laysSlK4 n c w
def Try.laysnb115_ren : Go.Shelf.Ren := ⟨fun | 115 => 64 | n => n, fun | 37 => 38 | 4 => 4 | 9 => 9 | 5 => 5 | n => n, fun | n => n⟩
theorem Try.laysnb115 : Go.Proofs.Lays.nb115 Try.prog Try.laysnb115_ren := {
  mixed := by kernel_rfl
  f115 := Try.func64.trans (congrArg some (by kernel_rfl))
  t4 := Try.underlying4
  a4 := Try.isAgg4
  z4 := Try.sizeOf4
  v4 := Try.zeroValue4
  t9 := Try.underlying9
  a9 := Try.isAgg9
  z9 := Try.sizeOf9
  v9 := Try.zeroValue9
  t37 := Try.underlying38
  a37 := Try.isAgg38
  z37 := Try.sizeOf38
  v37 := Try.zeroValue38
  t5 := Try.underlying5
  a5 := Try.isAgg5
  z5 := Try.sizeOf5
  v5 := Try.zeroValue5 }
/-- bytes.Equal: WHOLE. (LAID: no walk: one application.) -/
theorem Try.bytes_Equal_all (p1 p2 : Option Addr) (n c m d : Nat) (xs ys : List Int) (w : World) (hx : xs.length = n) (hy : ys.length = m) (h1 : Lib.BytesIn w p1 n xs) (h2 : Lib.BytesIn w p2 m ys) :
    Calls Try.prog 64 #[.slice p1 n c, .slice p2 m d] w fun e w' => e = .returned (.bool (Lib.bytesOf xs == Lib.bytesOf ys)) ∧ w' = w := Any.bytes_Equal_all Try.laysnb115 p1 p2 n c m d xs ys w hx hy h1 h2
/-- bytes.Equal: "Equal reports whether a and b are the same length and contain the same bytes. A nil argument is equivalent to an empty slice.": IT RETURNS 'the bytes of the one == the bytes of the other'; the world is as it was. THE TWO ARGUMENTS COME AS WHATEVER VALUES, each with the one fact that the walk wants of it: what 'string(..)' of it gives: for a slice whose cells you know: 'run_convert_bytes_arg' (Derived/Laws/BytesArg.lean) hands that fact; for a nil one: 'run_convert_bytes_nil' (with xs := []). (LAID: no walk: one application.) -/
theorem Try.bytes_Equal (v1 v2 : Value) (xs ys : List Int) (w : World) (h1 : (convert 38 9 v1).run Try.prog w = .ok (.string (strOfNums xs)) w) (h2 : (convert 38 9 v2).run Try.prog w = .ok (.string (strOfNums ys)) w) :
    Calls Try.prog 64 #[v1, v2] w fun e w' => e = .returned (.bool (Lib.bytesOf xs == Lib.bytesOf ys)) ∧ w' = w := Any.bytes_Equal Try.lays115 v1 v2 xs ys w h1 h2
end Go.Proofs
/- A law for a region that draws its order: its reads are taken first, in an order of the prover's choice; what acts is a chain that the edges force. What the reads rest on (S) is to be kept behind those acts that a read may follow, and behind no others: so the last store may hit a cell that the region has read. -/
namespace Go.Proofs.Ytnkcgalbaeppmaa
section
variable {P : Program} {ops : Array Oper} {Q : Exit → Act → World → Prop} {md : Region.Mode} {S : World → Prop}

/-- Whatever order comes; behind an act outside 'late', S holds. -/
def wpAnyN (P : Program) (md : Region.Mode) (ops : Array Oper) (Q : Exit → Act → World → Prop) (late : List Nat) (S : World → Prop) : Nat → Array Bool → Act → World → Prop
  | 0, listed, a, w => Region.ready md ops listed = [] ∧ Q .normal a w
  | f + 1, listed, a, w =>
    (Region.ready md ops listed = [] → Q .normal a w) ∧
    ∀ i ∈ Region.ready md ops listed, wpOp P ops Q i (fun a' w' => (i ∉ late → S w') ∧ wpAnyN P md ops Q late S f (listed.setIfInBounds i true) a' w') a w

theorem wpAny_of_N {late : List Nat} : ∀ (f : Nat) (listed : Array Bool) (a : Act) (w : World), wpAnyN P md ops Q late S f listed a w → wpAny P md ops Q f listed a w
  | 0, _, _, _, h => h
  | f + 1, _, _, _, h => ⟨h.1, fun i hi => wpOp_mono (fun a' w' h' => wpAny_of_N f _ a' w' h'.2) (h.2 i hi)⟩

/-- What has come has come behind all that it waits for. -/
def Closed (md : Region.Mode) (ops : Array Oper) (listed : Array Bool) : Prop :=
  ∀ j oj, ops[j]? = some oj → listed.getD j false = true → ∀ e ∈ oj.after, Region.binds md e = true → listed.getD e.on false = true
theorem Closed.start : Closed md ops (Array.replicate ops.size false) := fun j oj _ hl => by
  rw [getD_replicate_false] at hl; cases hl
theorem Closed.set {listed : Array Bool} (h : Closed md ops listed) {i : Nat} (hi : i ∈ Region.ready md ops listed) : Closed md ops (listed.setIfInBounds i true) := by
  obtain ⟨_, oi, hoi, hall⟩ := mem_ready.1 hi
  intro j oj hj hl e he hb
  rcases Decidable.em (i = j) with hij | hij
  · subst hij
    obtain rfl : oj = oi := Option.some.inj (hj.symm.trans hoi)
    exact getD_set_true (hall e he hb)
  · rw [getD_set_ne false hij] at hl
    exact getD_set_true (h j oj hj hl e he hb)
/-- j waits for i, through others too. -/
def waitsB (md : Region.Mode) (ops : Array Oper) : Nat → Nat → Nat → Bool
  | 0, _, _ => false
  | f + 1, j, i => match ops[j]? with
    | some oj => oj.after.any (fun e => Region.binds md e && e.on == i) || oj.after.any (fun e => Region.binds md e && waitsB md ops f e.on i)
    | none => false
theorem waitsB_spec {listed : Array Bool} (hc : Closed md ops listed) {i : Nat} : ∀ (f j : Nat) (oj : Oper), waitsB md ops f j i = true → ops[j]? = some oj → (∀ e ∈ oj.after, Region.binds md e = true → listed.getD e.on false = true) → listed.getD i false = true
  | 0, _, _, h, _, _ => by simp [waitsB] at h
  | f + 1, j, oj, h, hj, hall => by
    simp only [waitsB, hj, Bool.or_eq_true] at h
    rcases h with h | h
    · obtain ⟨e, he, hb⟩ := Array.any_eq_true'.1 h
      simp only [Bool.and_eq_true, beq_iff_eq] at hb
      have := hall e he hb.1
      rw [hb.2] at this
      exact this
    · obtain ⟨e, he, hb⟩ := Array.any_eq_true'.1 h
      simp only [Bool.and_eq_true] at hb
      have h1 := hall e he hb.1
      cases ho : ops[e.on]? with
      | none => cases f <;> simp [waitsB, ho] at hb
      | some o => exact waitsB_spec hc f e.on o hb.2 ho (fun e' he' hb' => hc e.on o ho h1 e' he' hb')

/-- A read that may come up, and that all late acts wait for, may be taken first. -/
theorem wpAnyN_first {late : List Nat} {i : Nat} {oi : Oper} {v : Value} (hi : ops[i]? = some oi) (hsel : Region.noSelect ops = true)
    (hQ : ∀ c a w, Q (.panic c) (a.put oi.dst v) w → Q (.panic c) a w) (hlate : ∀ j, j ∈ late → j ≠ i ∧ waitsB md ops 12 j i = true) :
    ∀ (f : Nat) (listed : Array Bool) (a : Act) (w : World), Closed md ops listed →
      (∀ j oj, ops[j]? = some oj → j ≠ i → listed.getD j true = false → (∀ e ∈ oj.after, Region.binds md e = true → e.on ≠ i) → oi.apart ops oj = true) →
      i ∈ Region.ready md ops listed → YieldsIf P ops S oi v a → S w →
      wpAnyN P md ops Q late S f (listed.setIfInBounds i true) (a.put oi.dst v) w → wpAnyN P md ops Q late S (f + 1) listed a w := by
  have hil : i ∉ late := fun h => (hlate i h).1 rfl
  intro f
  induction f with
  | zero =>
    intro listed a w _ _ hr hy hS H
    refine ⟨fun h => (by rw [h] at hr; cases hr), fun j hj => ?_⟩
    rcases Decidable.em (j = i) with hji | hji
    · subst hji; exact hy.wpOp hi hS ⟨fun _ => hS, H⟩
    · have h1 := ready_mono hj hji
      rw [H.1] at h1
      cases h1
  | succ f ih =>
    intro listed a w hcl hfree hr hy hS H
    refine ⟨fun h => (by rw [h] at hr; cases hr), fun j hj => ?_⟩
    rcases Decidable.em (j = i) with hji | hji
    · subst hji; exact hy.wpOp hi hS ⟨fun _ => hS, H⟩
    · have h1 := H.2 j (ready_mono hj hji)
      obtain ⟨hjun, oj, hoj, hall⟩ := mem_ready.1 hj
      have hun : listed.getD i false = false := getD_both (mem_ready.1 hr).1
      have hnot : ∀ e ∈ oj.after, Region.binds md e = true → e.on ≠ i := fun e he hb heq => by
        have h2 := hall e he hb
        rw [heq, hun] at h2
        cases h2
      have hjl : j ∉ late := fun h => by
        have h3 := waitsB_spec hcl 12 j oj (hlate j h).2 hoj hall
        rw [hun] at h3
        cases h3
      have h2 := wpOp_putIf hoj (hfree j oj hoj hji hjun hnot) (fun cs b => Region.noSelect_spec hsel i oi cs b hi) (fun cs b => Region.noSelect_spec hsel j oj cs b hoj) hQ hy h1
      refine wpOp_mono (fun a' w' h3 => ?_) h2
      have hS' := h3.2.1 hjl
      refine ⟨fun _ => hS', ih (listed.setIfInBounds j true) a' w' (hcl.set hj) ?_ (ready_mono hr (Ne.symm hji)) h3.1 hS' ?_⟩
      · intro k ok hk hki hkun hno
        refine hfree k ok hk hki ?_ hno
        rcases Decidable.em (j = k) with hjk | hjk
        · subst hjk; exact hjun
        · rw [getD_set_ne true hjk] at hkun; exact hkun
      · rw [Array.setIfInBounds_comm _ _ hji]
        exact h3.2.2

/-- The reads in the prover's order: each yields its value in every world that meets S. -/
def Reads (P : Program) (ops : Array Oper) (S : World → Prop) : List Nat → Act → Act → Prop
  | [], a, a' => a = a'
  | i :: l, a, a' => ∃ oi v, ops[i]? = some oi ∧ YieldsIf P ops S oi v a ∧ Reads P ops S l (a.put oi.dst v) a'

/-- What the edges force: the acts l, one after the other, and nothing besides. -/
def forcedB (md : Region.Mode) (ops : Array Oper) : List Nat → Array Bool → Bool
  | [], listed => (Region.ready md ops listed).isEmpty
  | i :: l, listed => (Region.ready md ops listed == [i]) && forcedB md ops l (listed.setIfInBounds i true)

def earlyB (md : Region.Mode) (ops : Array Oper) (late chain : List Nat) : List Nat → Array Bool → Bool
  | [], listed => forcedB md ops chain listed
  | i :: pre, listed => (Region.ready md ops listed).contains i && Region.free md ops listed i && late.all (fun j => j != i && waitsB md ops 12 j i) && earlyB md ops late chain pre (listed.setIfInBounds i true)

theorem wpAnyN_early {late chain : List Nat} (hsel : Region.noSelect ops = true) (hQ : ∀ d v c a w, Q (.panic c) (a.put d v) w → Q (.panic c) a w) :
    ∀ (pre : List Nat) (f : Nat) (listed : Array Bool) (a a' : Act) (w : World), Closed md ops listed → earlyB md ops late chain pre listed = true → Reads P ops S pre a a' → S w →
      (∀ listed', forcedB md ops chain listed' = true → wpAnyN P md ops Q late S f listed' a' w) → wpAnyN P md ops Q late S (pre.length + f) listed a w
  | [], f, listed, a, a', w, _, hc, hr, _, h => by
    have e : a = a' := hr
    subst e
    simpa using h listed hc
  | i :: pre, f, listed, a, a', w, hcl, hc, hr, hS, h => by
    obtain ⟨oi, v, hi, hy, hrest⟩ := hr
    simp only [earlyB, Bool.and_eq_true, List.all_eq_true, bne_iff_ne] at hc
    obtain ⟨⟨⟨hc1, hc2⟩, hc3⟩, hc4⟩ := hc
    have := wpAnyN_early hsel hQ pre f (listed.setIfInBounds i true) (a.put oi.dst v) a' w (hcl.set (by simpa using hc1)) hc4 hrest hS h
    rw [List.length_cons, show pre.length + 1 + f = (pre.length + f) + 1 by omega]
    exact wpAnyN_first hi hsel (hQ _ _) hc3 _ listed a w hcl (Region.free_spec hi hc2) (by simpa using hc1) hy hS this

/-- The acts that a read may follow, one by one, each with S behind it; then the late ones, by the walk. -/
def wpTail (P : Program) (ops : Array Oper) (Q : Exit → Act → World → Prop) (S : World → Prop) (late : List Oper) : List Oper → Act → World → Prop
  | [], a, w => wpList P ops Q late a w
  | o :: l, a, w => wpList P ops (Exit.then (fun a' w' => S w' ∧ wpTail P ops Q S late l a' w') Q) [o] a w

theorem wp_then {o : Oper} {a : Act} {w : World} {K : Act → World → Prop} (h : o.wp P a w K (Exit.then K Q)) : o.wp P a w K Q := by
  unfold Oper.wp at *
  generalize (execOp a.eval o).run P w = r at *
  cases r with
  | ok n w' =>
    cases n <;> simp only [Oper.upon] at h ⊢ <;> first
      | exact h
      | exact Calls.mono h (fun e w'' he => by cases e <;> exact he)
  | halt x w' => cases x <;> simp only [Oper.upon] at h ⊢ <;> exact h

theorem wpOp_of_one {i : Nat} {o : Oper} {a : Act} {w : World} {K : Act → World → Prop} (hi : ops[i]? = some o) (h : wpList P ops (Exit.then K Q) [o] a w) : wpOp P ops Q i K a w := by
  unfold wpOp
  simp only [hi]
  unfold wpList at h
  split
  · rename_i hw
    rw [if_pos hw] at h
    rcases h with h | h
    · exact .inl (wp_then h)
    · exact .inr h
  · rename_i hw
    rw [if_neg hw] at h
    exact h

theorem wpOp_of_list {i : Nat} {o : Oper} {a : Act} {w : World} {rest : List Oper} (hi : ops[i]? = some o) (h : wpList P ops Q (o :: rest) a w) : wpOp P ops Q i (wpList P ops Q rest) a w := by
  unfold wpOp
  simp only [hi]
  unfold wpList at h
  exact h

theorem wpAnyN_late {late : List Nat} : ∀ (l : List Nat) (os : List Oper), (l.map (ops[·]?) = os.map some) → (∀ i ∈ l, i ∈ late) → ∀ (listed : Array Bool) (a : Act) (w : World), forcedB md ops l listed = true → wpList P ops Q os a w → wpAnyN P md ops Q late S l.length listed a w
  | [], [], _, _, listed, a, w, hf, h => by
    simp [forcedB] at hf
    exact ⟨hf, h⟩
  | i :: l, o :: os, hm, hl, listed, a, w, hf, h => by
    simp only [List.map_cons, List.cons.injEq] at hm
    simp only [forcedB, Bool.and_eq_true, beq_iff_eq] at hf
    rw [List.length_cons]
    refine ⟨fun h0 => (by rw [hf.1] at h0; cases h0), fun j hj => ?_⟩
    rw [hf.1] at hj
    obtain rfl : j = i := by simpa using hj
    refine wpOp_mono (fun a' w' h' => ⟨fun hn => absurd (hl j (by simp)) hn, wpAnyN_late l os hm.2 (fun k hk => hl k (by simp [hk])) _ a' w' hf.2 h'⟩) (wpOp_of_list hm.1 h)
  | [], _ :: _, hm, _, _, _, _, _, _ => by simp at hm
  | _ :: _, [], hm, _, _, _, _, _, _ => by simp at hm

theorem wpAnyN_tail {late : List Nat} {lo : List Oper} (hlo : late.map (ops[·]?) = lo.map some) : ∀ (l : List Nat) (os : List Oper), (l.map (ops[·]?) = os.map some) → ∀ (listed : Array Bool) (a : Act) (w : World), forcedB md ops (l ++ late) listed = true → wpTail P ops Q S lo os a w →
      wpAnyN P md ops Q late S (l.length + late.length) listed a w
  | [], [], _, listed, a, w, hf, h => by
    simp only [List.length_nil, Nat.zero_add]
    exact wpAnyN_late late lo hlo (fun _ h => h) listed a w hf h
  | i :: l, o :: os, hm, listed, a, w, hf, h => by
    simp only [List.map_cons, List.cons.injEq] at hm
    simp only [List.cons_append, forcedB, Bool.and_eq_true, beq_iff_eq] at hf
    rw [List.length_cons, show l.length + 1 + late.length = (l.length + late.length) + 1 by omega]
    refine ⟨fun h0 => (by rw [hf.1] at h0; cases h0), fun j hj => ?_⟩
    rw [hf.1] at hj
    obtain rfl : j = i := by simpa using hj
    exact wpOp_mono (fun a' w' h' => ⟨fun _ => h'.1, wpAnyN_tail hlo l os hm.2 _ a' w' hf.2 h'.2⟩) (wpOp_of_one hm.1 h)
  | [], _ :: _, hm, _, _, _, _, _ => by simp at hm
  | _ :: _, [], hm, _, _, _, _, _ => by simp at hm

def nth : List Oper → Nat → Option Oper
  | [], _ => none
  | o :: _, 0 => some o
  | _ :: l, i + 1 => nth l i
theorem nth_eq : ∀ (l : List Oper) (i : Nat), nth l i = l[i]?
  | [], _ => by simp [nth]
  | o :: _, 0 => by simp [nth]
  | _ :: l, i + 1 => by simp [nth, nth_eq l i]
theorem nth_ops {i : Nat} {o : Oper} (h : nth ops.toList i = some o) : ops[i]? = some o := by rw [← Array.getElem?_toList, ← nth_eq]; exact h
inductive OpsAt (ops : Array Oper) : List Nat → List Oper → Prop
  | nil : OpsAt ops [] []
  | cons {i : Nat} {l : List Nat} {o : Oper} {os : List Oper} : nth ops.toList i = some o → OpsAt ops l os → OpsAt ops (i :: l) (o :: os)
theorem OpsAt.map {l : List Nat} {os : List Oper} (h : OpsAt ops l os) : l.map (ops[·]?) = os.map some := by
  induction h with
  | nil => rfl
  | cons h _ ih => simp [nth_ops h, ih]
theorem Reads.cons {i : Nat} {l : List Nat} {a a' : Act} {oi : Oper} {v : Value} (hi : ops[i]? = some oi) (hy : YieldsIf P ops S oi v a) (h : Reads P ops S l (a.put oi.dst v) a') : Reads P ops S (i :: l) a a' := ⟨oi, v, hi, hy, h⟩
theorem Reads.cons1 {i : Nat} {l : List Nat} {a a' : Act} {oi : Oper} {v : Value} (hi : nth ops.toList i = some oi) (hw : Region.wanted oi (yielded ops a.tmps) = true) (hy : ∀ w, S w → (execOp a.eval oi).run P w = .ok (.value v) w) (h : Reads P ops S l (a.put oi.dst v) a') : Reads P ops S (i :: l) a a' := ⟨oi, v, nth_ops hi, .inl ⟨hw, hy⟩, h⟩
theorem Reads.cons0 {i : Nat} {l : List Nat} {a a' : Act} {oi : Oper} (hi : nth ops.toList i = some oi) (hw : Region.wanted oi (yielded ops a.tmps) = false) (h : Reads P ops S l (a.put oi.dst undef) a') : Reads P ops S (i :: l) a a' := ⟨oi, undef, nth_ops hi, .inr ⟨hw, rfl⟩, h⟩
theorem Reads.nil {a : Act} : Reads P ops S [] a a := rfl

/-- THE LAW. pre: the reads, in an order; acts: what acts while a read may still be to come; late: what acts when all reads have come. -/
theorem wp_region_early {id : Nat} {a : Act} {w : World} (pre acts late : List Nat) {ao lo : List Oper} (S : World → Prop) (a' : Act)
    (hm : P.follows .mixedOrders = true)
    (hB : (Region.noSelect ops && (pre.length + (acts.length + late.length) == ops.size) && earlyB .any ops late (acts ++ late) pre (Array.replicate ops.size false)) = true)
    (hao : OpsAt ops acts ao) (hlo : OpsAt ops late lo)
    (hS : S w.drew) (hr : Reads P ops S pre a a') (h : ∀ W, W = w.drew → wpTail P ops (NoPanic Q) S lo ao a' W) : (Code.region id ops true).wp P Q a w := by
  refine wp_region_noPanic (wp_region_any hm (wpAny_of_N (late := late) (S := S) _ _ _ _ ?_))
  simp only [Bool.and_eq_true, beq_iff_eq] at hB
  obtain ⟨⟨h1, h2⟩, h3⟩ := hB
  have := wpAnyN_early (P := P) (Q := NoPanic Q) (S := S) (late := late) (chain := acts ++ late) h1 (fun _ _ _ _ _ hp => hp) pre (acts.length + late.length) (Array.replicate ops.size false) a a' w.drew Closed.start h3 hr hS
    (fun listed' hf => wpAnyN_tail hlo.map acts ao hao.map listed' a' w.drew hf (h _ rfl))
  rw [h2] at this
  exact this
end
end Go.Proofs.Ytnkcgalbaeppmaa
