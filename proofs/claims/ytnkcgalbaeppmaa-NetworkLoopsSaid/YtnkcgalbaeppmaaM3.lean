/- Texts joined into one: Map Rep Rep2 Pub1 Pub2 Pub3. -/
import Derived.Test.YtnkcgalbaeppmaaProg
import Derived.Test.YtnkcgalbaeppmaaM1
import Derived.Test.YtnkcgalbaeppmaaM2
/- Maps of pairs of strings to true: their runs. -/
namespace Go.Proofs.Ytnkcgalbaeppmaa
open Go.RowKit

theorem Try.info95 : (Try.prog.info? 95).map (fun i => (i.zero, i.size, i.bytes)) = some (some (.agg #[.string ByteArray.empty, .string ByteArray.empty]), 2, 32) := by kernel_rfl
theorem Try.info9 : (Try.prog.info? 9).map (fun i => (i.zero, i.size, i.bytes)) = some (some (.string ByteArray.empty), 1, 16) := by kernel_rfl
theorem Try.info4 : (Try.prog.info? 4).map (fun i => (i.zero, i.size, i.bytes)) = some (some (.bool false), 1, 1) := by kernel_rfl

/-- A pair of hosts. -/
abbrev Pr := ByteArray × ByteArray
def Pr.val (p : Pr) : Value := .agg #[.string p.1, .string p.2]
def prB (p q : Pr) : Bool := (p.1.toList == q.1.toList) && (p.2.toList == q.2.toList)

theorem u95 : Try.prog.underlying 95 = some (.array 2 9) := by kernel_rfl
theorem u9 : Try.prog.underlying 9 = some .string := by kernel_rfl
theorem u28 : Try.prog.underlying 28 = some (.map 95 4) := by kernel_rfl

theorem run_part9 (w : World) (cs : Array Value) (i : Nat) (v : Value) (h : cs[i]? = some v) : (part 9 cs i).run Try.prog w = .ok v w := by
  have ha : (isAgg 9).run Try.prog w = .ok false w := by simp [isAgg, run_underlying u9]
  simp [part, ha, h]

theorem run_size9 (w : World) : (sizeOf 9).run Try.prog w = .ok 1 w := by
  obtain ⟨i0, hi, hz0, hz1, hz2⟩ := info_parts Try.info9
  simp [sizeOf, typeInfo, hi, hz1]

theorem run_eqIn_pair (d : Nat) (p q : Pr) (w : World) : (Op.equalIn (d + 2) 95 p.val q.val).run Try.prog w = .ok (prB p q) w := by
  obtain ⟨a, b⟩ := p
  obtain ⟨c, e⟩ := q
  have h1 := run_part9 w #[.string a, .string b] 0 (.string a) rfl
  have h2 := run_part9 w #[.string a, .string b] 1 (.string b) rfl
  have h3 := run_part9 w #[.string c, .string e] 0 (.string c) rfl
  have h4 := run_part9 w #[.string c, .string e] 1 (.string e) rfl
  have h5 := run_equalIn_string (P := Try.prog) w d 9 a c u9
  have h6 := run_equalIn_string (P := Try.prog) w d 9 b e u9
  unfold Op.equalIn
  simp only [Pr.val, prB]
  simp [run_underlying u95, h1, h2, h3, h4, h5, h6, Std.Legacy.Range.forIn_eq_forIn_range', List.range'_succ, Std.Legacy.Range.size]
  by_cases h : a.toList = c.toList <;> by_cases h' : b.toList = e.toList <;> simp [h, h']
theorem run_eq_pair (p q : Pr) (w : World) : (Op.equal 95 p.val q.val).run Try.prog w = .ok (prB p q) w := run_eqIn_pair 9998 p q w

theorem run_checkKey_pair (em : Bool) (p : Pr) (w : World) : (Instr.checkKey em 10000 95 p.val).run Try.prog w = .ok () w := by
  obtain ⟨a, b⟩ := p
  have h1 := run_part9 w #[.string a, .string b] 0 (.string a) rfl
  have h2 := run_part9 w #[.string a, .string b] 1 (.string b) rfl
  have hc : ∀ x, (Instr.checkKey em 9999 9 (.string x)).run Try.prog w = .ok () w := fun x => by
    unfold Instr.checkKey; simp [run_underlying u9]
  unfold Instr.checkKey
  simp only [Pr.val]
  simp [run_underlying u95, h1, h2, hc, Std.Legacy.Range.forIn_eq_forIn_range', List.range'_succ, Std.Legacy.Range.size]

/-- A map that reads as the keys M, each of them true. -/
def findM (p : Pr) : List Pr → List MapEntry → Nat → Option (Nat × Value)
  | q :: M, e :: es, i => if prB p q then some (i, e.val) else findM p M es (i + 1)
  | _, _, _ => none

theorem run_findAsking (p : Pr) (w : World) : ∀ (M : List Pr) (es : List MapEntry) (i : Nat), es.map (·.key) = M.map Pr.val → (Instr.findAsking 95 p.val es i).run Try.prog w = .ok (findM p M es i) w
  | [], [], i, _ => by simp [Instr.findAsking, findM]
  | q :: M, e :: es, i, h => by
    simp only [List.map_cons, List.cons.injEq] at h
    have ih := run_findAsking p w M es (i + 1) h.2
    unfold Instr.findAsking
    simp only [Sem.run_bind, h.1, run_eq_pair, Result.andThen_ok, findM]
    cases prB p q
    · simpa using ih
    · simp
  | [], _ :: _, _, h => by simp at h
  | _ :: _, [], _, h => by simp at h
theorem run_findKey (p : Pr) (w : World) (M : List Pr) (es : List MapEntry) (h : es.map (·.key) = M.map Pr.val) : (Instr.findKey 95 p.val es).run Try.prog w = .ok (findM p M es 0) w := by
  unfold Instr.findKey
  rw [Sem.run_bind, run_underlying u95]
  simp only [Result.andThen_ok]
  cases es with
  | nil =>
    cases M with
    | nil => simp [Instr.findNow, findM]
    | cons q M => simp at h
  | cons e es =>
    have hs : Instr.sameNow (.array 2 9) p.val e.key = none := by simp [Instr.sameNow]
    simp only [Instr.findNow, hs]
    exact run_findAsking p w M (e :: es) 0 h

/-- What a variable of the map's type holds: a map whose keys are M. -/
def MapAt (w : World) (mv : Value) (M : List Pr) : Prop :=
  (mv = .map none ∧ M = []) ∨ ∃ r es clock, mv = .map (some r) ∧ w.heap[r]? = some (.map es clock) ∧ es.toList.map (·.key) = M.map Pr.val ∧ ∀ e ∈ es.toList, e.val = .bool true
def mapBlk : Value → Option Nat
  | .map r => r
  | _ => none
theorem MapAt.same {w w' : World} {mv : Value} {M : List Pr} (h : MapAt w mv M) (hs : ∀ k, mapBlk mv = some k → w'.heap[k]? = w.heap[k]?) : MapAt w' mv M := by
  rcases h with h | ⟨r, es, clock, rfl, hr, h1, h2⟩
  · exact .inl h
  · exact .inr ⟨r, es, clock, rfl, (hs r rfl).trans hr, h1, h2⟩
theorem MapAt.lt {w : World} {mv : Value} {M : List Pr} (h : MapAt w mv M) : ∀ k, mapBlk mv = some k → k < w.heap.size := fun k hk => by
  rcases h with ⟨rfl, _⟩ | ⟨r, es, clock, rfl, hr, _⟩
  · cases hk
  · cases hk; exact lt_of_heap hr
theorem MapAt.ne {w : World} {mv : Value} {M : List Pr} (h : MapAt w mv M) {k : Nat} {cs : Array Value} {T : TypeId} {fz : Nat × Nat} (hk : w.heap[k]? = some (.cells cs T fz)) : mapBlk mv ≠ some k := fun e => by
  rcases h with ⟨rfl, _⟩ | ⟨r, es, clock, rfl, hr, _⟩
  · cases e
  · cases e; rw [hr] at hk; cases hk

def memM (p : Pr) (M : List Pr) : Bool := M.any (prB p)
theorem findM_some (p : Pr) : ∀ (M : List Pr) (es : List MapEntry) (i : Nat), es.map (·.key) = M.map Pr.val → (∀ e ∈ es, e.val = .bool true) →
    (memM p M = true → ∃ j q, findM p M es i = some (i + j, .bool true) ∧ M[j]? = some q ∧ prB p q = true ∧ M.eraseP (prB p) = M.eraseIdx j) ∧ (memM p M = false → findM p M es i = none ∧ M.eraseP (prB p) = M)
  | [], [], i, _, _ => by simp [memM, findM]
  | q :: M, e :: es, i, h, ht => by
    simp only [List.map_cons, List.cons.injEq] at h
    have ih := findM_some p M es (i + 1) h.2 (fun x hx => ht x (by simp [hx]))
    have he := ht e (by simp)
    cases hq : prB p q
    · simp only [memM, List.any_cons, hq, Bool.false_or, findM, Bool.false_eq_true, if_false, List.eraseP_cons_of_neg (p := prB p) (by simp [hq] : ¬ prB p q = true)]
      refine ⟨fun hm => ?_, fun hm => ?_⟩
      · obtain ⟨j, q', h1, h2, h3, h4⟩ := ih.1 hm
        exact ⟨j + 1, q', by rw [h1]; congr 2; omega, by simpa using h2, h3, by rw [h4]; simp⟩
      · obtain ⟨h1, h2⟩ := ih.2 hm
        exact ⟨h1, by rw [h2]⟩
    · refine ⟨fun _ => ⟨0, q, by simp [findM, hq, he], by simp, hq, by rw [List.eraseP_cons_of_pos hq]; simp⟩, fun hm => by simp [memM, hq] at hm⟩
  | [], _ :: _, _, h, _ => by simp at h
  | _ :: _, [], _, h, _ => by simp at h

theorem run_lookup_pair (p : Pr) (w : World) (mv : Value) (M : List Pr) (h : MapAt w mv M) : (Instr.lookup 28 mv p.val false).run Try.prog w = .ok (.bool (memM p M)) w := by
  obtain ⟨i0, hi, hz0, hz1, hz2⟩ := info_parts Try.info4
  have hz : (zeroValue 4).run Try.prog w = .ok (.bool false) w := by simp [zeroValue, typeInfo, hi, hz0]
  rcases h with ⟨rfl, rfl⟩ | ⟨r, es, clock, rfl, hr, h1, h2⟩
  · have hf := run_findKey p w [] [] rfl
    simp only [findM] at hf
    simp [Instr.lookup, run_underlying u28, run_checkKey_pair, hf, hz, memM]
  · have hf := run_findKey p w M es.toList h1
    have hs := findM_some p M es.toList 0 h1 h2
    cases hm : memM p M
    · rw [(hs.2 hm).1] at hf
      simp [Instr.lookup, run_underlying u28, getObj, Sem.run, hr, run_checkKey_pair, hf, hz]
    · obtain ⟨j, q, h3, _⟩ := hs.1 hm
      rw [h3] at hf
      simp [Instr.lookup, run_underlying u28, getObj, Sem.run, hr, run_checkKey_pair, hf]

theorem kp_setObj (w : World) (r : Nat) (o : Obj) : Kp (fun k => k = r) w { w with heap := w.heap.setIfInBounds r o } :=
  ⟨rfl, rfl, rfl, by simp, fun k _ hk => by simp only [Array.getElem?_setIfInBounds]; rw [if_neg (fun e => hk e.symm)]⟩
theorem heap_setObj (w : World) (r : Nat) (o o' : Obj) (h : w.heap[r]? = some o') : ({ w with heap := w.heap.setIfInBounds r o } : World).heap[r]? = some o := by
  have := lt_of_heap h
  simp [this]

theorem bytes_ext {a b : ByteArray} (h : a.toList = b.toList) : a = b := by
  rw [ByteArray.toList_eq, ByteArray.toList_eq] at h
  obtain ⟨⟨x⟩⟩ := a
  obtain ⟨⟨y⟩⟩ := b
  simp only at h
  rw [h]
theorem beqB (a : ByteArray) : (a == a) = true := by rw [beq_toListBytes]; simp
theorem map_eraseIdx {α β : Type} (f : α → β) : ∀ (l : List α) (i : Nat), (l.eraseIdx i).map f = (l.map f).eraseIdx i
  | [], _ => by simp
  | _ :: _, 0 => by simp
  | _ :: l, i + 1 => by simp [map_eraseIdx f l i]
theorem prB_eq {p q : Pr} (h : prB p q = true) : p = q := by
  obtain ⟨a, b⟩ := p
  obtain ⟨c, d⟩ := q
  simp only [prB, Bool.and_eq_true, beq_iff_eq] at h
  rw [bytes_ext h.1, bytes_ext h.2]
theorem prB_self (p : Pr) : prB p p = true := by unfold prB; rw [beq_self_eq_true, beq_self_eq_true]; rfl

theorem run_keyStays (p : Pr) (w : World) : (Instr.keyThatStays p.val p.val).run Try.prog w = .ok p.val w := by
  have h : Instr.sameBits 10000 p.val p.val = true := by
    show Instr.sameBits (9999 + 1) _ _ = true
    simp [Instr.sameBits, Pr.val, beqB]
  simp [Instr.keyThatStays, h]

/-- 'm[p] = true' on a map that is not nil. -/
theorem run_update_pair (p : Pr) (w : World) (r : Nat) (M : List Pr) (h : MapAt w (.map (some r)) M) :
    ∃ w', (Instr.mapUpdate 28 (.map (some r)) p.val (.bool true)).run Try.prog w = .ok () w' ∧ MapAt w' (.map (some r)) (if memM p M then M else M ++ [p]) ∧ Kp (fun k => k = r) w w' := by
  rcases h with ⟨h0, _⟩ | ⟨r', es, clock, h0, hr, h1, h2⟩
  · cases h0
  cases h0
  have hf := run_findKey p w M es.toList h1
  have hs := findM_some p M es.toList 0 h1 h2
  cases hm : memM p M
  · rw [(hs.2 hm).1] at hf
    refine ⟨_, by simp [Instr.mapUpdate, run_underlying u28, getObj, setObj, Sem.run, hr, run_checkKey_pair, hf]; rfl, ?_, kp_setObj w r _⟩
    refine .inr ⟨r, _, _, rfl, heap_setObj w r _ _ hr, ?_, ?_⟩
    · simp [h1]
    · intro e he
      simp at he
      rcases he with he | rfl
      · exact h2 e (by simpa using he)
      · rfl
  · obtain ⟨j, q, h3, h4, h5, _⟩ := hs.1 hm
    obtain rfl := prB_eq h5
    rw [h3] at hf
    have hk : ((es[j]?).map (·.key)).getD p.val = p.val := by
      have := congrArg (·[j]?) h1
      simp only [List.getElem?_map, h4, Option.map_some, Array.getElem?_toList] at this
      simp [this]
    refine ⟨_, by simp [Instr.mapUpdate, run_underlying u28, getObj, setObj, Sem.run, hr, run_checkKey_pair, hf, hk, run_keyStays]; rfl, ?_, kp_setObj w r _⟩
    refine .inr ⟨r, _, _, rfl, heap_setObj w r _ _ hr, ?_, ?_⟩
    · simp only [if_true]
      rw [← h1]
      apply List.ext_getElem?
      intro i
      simp only [List.getElem?_map, Array.getElem?_toList, Array.getElem?_modify]
      split
      · rename_i e
        subst e
        have := congrArg (·[j]?) h1
        simp only [List.getElem?_map, h4, Option.map_some, Array.getElem?_toList] at this
        cases hz : es[j]? with
        | none => simp [hz] at this
        | some e => simp [hz] at this ⊢; simp [this]
      · rfl
    · intro e he
      simp only [Array.mem_toList_iff, Array.mem_iff_getElem?, Array.getElem?_modify] at he
      obtain ⟨i, hi⟩ := he
      split at hi
      · cases hz : es[i]? with
        | none => simp [hz] at hi
        | some e' => simp [hz] at hi; rw [← hi]
      · exact h2 e (by simp only [Array.mem_toList_iff, Array.mem_iff_getElem?]; exact ⟨i, hi⟩)

/-- 'delete(m, p)'. -/
theorem run_delete_pair (p : Pr) (w : World) (mv : Value) (ty kt : TypeId) (M : List Pr) (h : MapAt w mv M) :
    ∃ w', (Builtin.delete_ #[28, kt] ty #[mv, p.val]).run Try.prog w = .ok (.tuple #[]) w' ∧ MapAt w' mv (M.eraseP (prB p)) ∧ Kp (fun k => mapBlk mv = some k) w w' := by
  rcases h with ⟨rfl, rfl⟩ | ⟨r, es, clock, rfl, hr, h1, h2⟩
  · exact ⟨w, by simp [Builtin.delete_, run_underlying u28, run_checkKey_pair], .inl ⟨rfl, rfl⟩, Kp.refl _ _⟩
  have hf := run_findKey p w M es.toList h1
  have hs := findM_some p M es.toList 0 h1 h2
  have hkp : ∀ o, Kp (fun k => mapBlk (.map (some r)) = some k) w { w with heap := w.heap.setIfInBounds r o } := fun o => (kp_setObj w r o).mono (fun k _ e => by subst e; rfl)
  cases hm : memM p M
  · rw [(hs.2 hm).1] at hf
    refine ⟨_, by simp [Builtin.delete_, run_underlying u28, getObj, setObj, Sem.run, hr, run_checkKey_pair, hf]; rfl, ?_, hkp _⟩
    rw [(hs.2 hm).2]
    exact .inr ⟨r, _, _, rfl, heap_setObj w r _ _ hr, h1, h2⟩
  · obtain ⟨j, q, h3, h4, h5, h6⟩ := hs.1 hm
    rw [h3] at hf
    refine ⟨_, by simp [Builtin.delete_, run_underlying u28, getObj, setObj, Sem.run, hr, run_checkKey_pair, hf]; rfl, ?_, hkp _⟩
    refine .inr ⟨r, _, _, rfl, heap_setObj w r _ _ hr, ?_, ?_⟩
    · rw [h6, map_eraseIdx, ← h1, ← map_eraseIdx]
      simp
    · intro e he
      exact h2 e (by simp at he; exact List.mem_of_mem_eraseIdx he)
end Go.Proofs.Ytnkcgalbaeppmaa
/- What a network's memory says of a network. -/
namespace Go.Proofs.Ytnkcgalbaeppmaa
open Go.RowKit

/-- A packet in flight. -/
structure FlM where
  pk : Pk
  id : Int
  src : Int
/-- An event. -/
structure EvM where
  kind : Int
  id : Int
  fr : Int
  deriving DecidableEq
def EvM.cells (e : EvM) : List Value := [.int .i64 e.kind, .int .i64 e.id, .int .i64 e.fr]
theorem EvM.cells_len (e : EvM) : e.cells.length = 3 := rfl
/-- A network. -/
structure NetM where
  hist : List Pk
  fl : List FlM
  next : Int
  blk : List Pr
  ev : List EvM
/-- How it lies in memory. -/
structure ND where
  hv : Value
  fv : Value
  mv : Value
  ev : Value
  hs : List PV
  fs : List FV

/-- A packet in flight lies as it is. -/
structure FOwn (w : World) (x : FV) (m : FlM) : Prop where
  p : POwn w x.p m.pk
  id : x.id = m.id
  src : x.src = m.src

/-- Two lists, place by place. -/
def Both {α β : Type} (R : α → β → Prop) (l : List α) (m : List β) : Prop := l.length = m.length ∧ ∀ (i : Nat) (x : α) (y : β), l[i]? = some x → m[i]? = some y → R x y
theorem Both.nil {α β : Type} {R : α → β → Prop} : Both R [] [] := ⟨rfl, fun i x y h => by simp at h⟩
theorem Both.mono {α β : Type} {R R' : α → β → Prop} {l : List α} {m : List β} (h : Both R l m) (hr : ∀ x y, x ∈ l → R x y → R' x y) : Both R' l m :=
  ⟨h.1, fun i x y hx hy => hr x y (List.mem_of_getElem? hx) (h.2 i x y hx hy)⟩
theorem Both.snoc {α β : Type} {R : α → β → Prop} {l : List α} {m : List β} {x : α} {y : β} (h : Both R l m) (hx : R x y) : Both R (l ++ [x]) (m ++ [y]) := by
  refine ⟨by simp [h.1], fun i a b ha hb => ?_⟩
  rcases Nat.lt_trichotomy i l.length with hi | hi | hi
  · rw [List.getElem?_append_left hi] at ha
    rw [List.getElem?_append_left (by rw [← h.1]; exact hi)] at hb
    exact h.2 i a b ha hb
  · subst hi
    simp at ha
    rw [h.1] at hb
    simp at hb
    subst ha hb
    exact hx
  · rw [List.getElem?_append_right (by omega)] at ha
    have : i - l.length ≠ 0 := by omega
    rw [List.getElem?_eq_none (by simp; omega)] at ha
    cases ha
theorem Both.erase {α β : Type} {R : α → β → Prop} {l : List α} {m : List β} (h : Both R l m) (k : Nat) : Both R (l.eraseIdx k) (m.eraseIdx k) := by
  refine ⟨by simp only [List.length_eraseIdx, h.1], fun i a b ha hb => ?_⟩
  rw [List.getElem?_eraseIdx] at ha hb
  split at ha
  · rename_i hi; rw [if_pos hi] at hb; exact h.2 i a b ha hb
  · rename_i hi; rw [if_neg hi] at hb; exact h.2 (i + 1) a b ha hb
theorem Both.at {α β : Type} {R : α → β → Prop} {l : List α} {m : List β} (h : Both R l m) {i : Nat} {y : β} (hy : m[i]? = some y) : ∃ x, l[i]? = some x ∧ R x y := by
  have hi : i < m.length := (List.getElem?_eq_some_iff.1 hy).1
  refine ⟨l[i]'(by rw [h.1]; exact hi), List.getElem?_eq_getElem _, h.2 i _ y (List.getElem?_eq_getElem _) hy⟩
theorem Both.set {α β : Type} {R : α → β → Prop} {l : List α} {m : List β} (k : Nat) {x : α} {y : β} (h : ∀ (i : Nat) (a : α) (b : β), i ≠ k → l[i]? = some a → m[i]? = some b → R a b) (hl : l.length = m.length) (hx : R x y) : Both R (l.set k x) (m.set k y) := by
  refine ⟨by simp [hl], fun i a b ha hb => ?_⟩
  by_cases hik : k = i
  · subst hik
    rw [List.getElem?_set] at ha hb
    simp only [if_true] at ha hb
    split at ha
    · split at hb
      · cases ha; cases hb; exact hx
      · cases hb
    · cases ha
  · rw [List.getElem?_set_ne hik] at ha hb
    exact h i a b (Ne.symm hik) ha hb

/-- The network lies in memory so. -/
structure RepOk (w : World) (b : Nat) (N : NetM) (D : ND) : Prop where
  blk : NetBlk w b D.hv D.fv N.next D.mv D.ev
  hist : w.ownsRow 0 40 3 D.hv N.hist.length (D.hs.flatMap PV.cells)
  histp : Both (POwn w) D.hs N.hist
  fl : w.ownsRow 0 86 5 D.fv N.fl.length (D.fs.flatMap FV.cells)
  flp : Both (FOwn w) D.fs N.fl
  ev : w.ownsRow 0 61 3 D.ev N.ev.length (N.ev.flatMap EvM.cells)
  map : MapAt w D.mv N.blk
  apart : ∀ (i j : Nat) (x y : FV) (k : Nat), D.fs[i]? = some x → D.fs[j]? = some y → i ≠ j → x.p.blk = some k → y.p.blk ≠ some k
  apart2 : ∀ x ∈ D.fs, ∀ p ∈ D.hs, ∀ k, x.p.blk = some k → p.blk ≠ some k

/-- Plain limits of a network. -/
structure NetM.lim (N : NetM) : Prop where
  hist : N.hist.length ≤ 1024
  fl : N.fl.length ≤ 64
  ev : N.ev.length ≤ 50000
  next0 : 0 ≤ N.next
  next1 : N.next ≤ 50000
  histok : ∀ m ∈ N.hist, m.ok
  flok : ∀ m ∈ N.fl, m.pk.ok
  srcok : ∀ m ∈ N.fl, -1 ≤ m.src ∧ m.src < (N.hist.length : Int)

/-- The blocks of a network that its methods may turn. -/
def wr (D : ND) (b : Nat) (k : Nat) : Prop :=
  k = b ∨ D.hv.ownBlock = some k ∨ D.fv.ownBlock = some k ∨ D.ev.ownBlock = some k ∨ mapBlk D.mv = some k ∨ (∃ x ∈ D.fs, x.p.blk = some k)
/-- The blocks of the history's bytes: no method turns them. -/
def hp (D : ND) (k : Nat) : Prop := ∃ p ∈ D.hs, p.blk = some k
/-- The blocks of a network. -/
def fp (D : ND) (b : Nat) (k : Nat) : Prop := wr D b k ∨ hp D k

theorem POwn.block {w : World} {p : PV} {m : Pk} (h : POwn w p m) {k : Nat} (hk : p.blk = some k) : ∃ cur, w.heap[k]? = some (.cells cur 5 (0, 0)) := ownsRow_block h.b hk
theorem POwn.lt {w : World} {p : PV} {m : Pk} (h : POwn w p m) {k : Nat} (hk : p.blk = some k) : k < w.heap.size := (h.b.lt k hk).2
theorem POwn.same {w w' : World} {p : PV} {m : Pk} (h : POwn w p m) (hs : ∀ k, p.blk = some k → w'.heap[k]? = w.heap[k]?) : POwn w' p m := ⟨h.f, h.t, h.n, ownsRow_same h.b hs⟩

theorem Both.left {α β : Type} {R : α → β → Prop} {l : List α} {m : List β} (h : Both R l m) {x : α} (hx : x ∈ l) : ∃ y ∈ m, R x y := by
  obtain ⟨i, hi⟩ := List.getElem?_of_mem hx
  have hil : i < l.length := (List.getElem?_eq_some_iff.1 hi).1
  exact ⟨m[i]'(by rw [← h.1]; exact hil), List.getElem_mem _, h.2 i x _ hi (List.getElem?_eq_getElem _)⟩

theorem RepOk.fp_lt {w : World} {b : Nat} {N : NetM} {D : ND} (h : RepOk w b N D) : ∀ k, fp D b k → k < w.heap.size := fun k hk => by
  rcases hk with (rfl | hk | hk | hk | hk | ⟨x, hx, hk⟩) | ⟨p, hp, hk⟩
  · exact h.blk.lt
  · exact (h.hist.lt k hk).2
  · exact (h.fl.lt k hk).2
  · exact (h.ev.lt k hk).2
  · exact h.map.lt k hk
  · obtain ⟨m, _, hm⟩ := h.flp.left hx; exact hm.p.lt hk
  · obtain ⟨m, _, hm⟩ := h.histp.left hp; exact hm.lt hk

theorem RepOk.same {w w' : World} {b : Nat} {N : NetM} {D : ND} (h : RepOk w b N D) (hs : ∀ k, fp D b k → w'.heap[k]? = w.heap[k]?) : RepOk w' b N D where
  blk := h.blk.same (hs b (.inl (.inl rfl)))
  hist := ownsRow_same h.hist fun k hk => hs k (.inl (.inr (.inl hk)))
  histp := h.histp.mono fun x _y hx hm => hm.same fun k hk => hs k (.inr ⟨x, hx, hk⟩)
  fl := ownsRow_same h.fl fun k hk => hs k (.inl (.inr (.inr (.inl hk))))
  flp := h.flp.mono fun x _y hx hm => ⟨hm.p.same fun k hk => hs k (.inl (.inr (.inr (.inr (.inr (.inr ⟨x, hx, hk⟩)))))), hm.id, hm.src⟩
  ev := ownsRow_same h.ev fun k hk => hs k (.inl (.inr (.inr (.inr (.inl hk)))))
  map := h.map.same fun k hk => hs k (.inl (.inr (.inr (.inr (.inr (.inl hk))))))
  apart := h.apart
  apart2 := h.apart2
theorem RepOk.kp {w w' : World} {b : Nat} {N : NetM} {D : ND} (h : RepOk w b N D) {S : Nat → Prop} (hk : Kp S w w') (hS : ∀ k, fp D b k → ¬ S k) : RepOk w' b N D :=
  h.same fun k hf => hk.block k (h.fp_lt k hf) (hS k hf)
theorem RepOk.below {w w' : World} {b : Nat} {N : NetM} {D : ND} (h : RepOk w b N D) {B : Nat} (hk : Below B w w') (hB : w.heap.size ≤ B) : RepOk w' b N D :=
  h.same fun k hf => hk.block k (Nat.lt_of_lt_of_le (h.fp_lt k hf) hB)

/-- What a call may do: it turns the network's own blocks alone, and gives it none that another had. -/
structure Turns (D D' : ND) (b : Nat) (w w' : World) : Prop where
  kp : Kp (wr D b) w w'
  wr : ∀ k, wr D' b k → wr D b k ∨ w.heap.size ≤ k
  hp : ∀ k, hp D' k → hp D k ∨ w.heap.size ≤ k
theorem Turns.fp {D D' : ND} {b : Nat} {w w' : World} (h : Turns D D' b w w') : ∀ k, fp D' b k → fp D b k ∨ w.heap.size ≤ k := fun k hk =>
  hk.elim (fun h1 => (h.wr k h1).imp .inl id) (fun h1 => (h.hp k h1).imp .inr id)
theorem Turns.trans {D D' D'' : ND} {b : Nat} {w w' w'' : World} (h : Turns D D' b w w') (h' : Turns D' D'' b w' w'') : Turns D D'' b w w'' :=
  ⟨h.kp.trans h'.kp (fun k hk hf => (h.wr k hf).resolve_right (by omega)), fun k hk => (h'.wr k hk).elim (fun hf => h.wr k hf) (fun hs => .inr (Nat.le_trans h.kp.size hs)),
    fun k hk => (h'.hp k hk).elim (fun hf => h.hp k hf) (fun hs => .inr (Nat.le_trans h.kp.size hs))⟩
theorem Turns.of_below {D : ND} {b : Nat} {w w' : World} (h : Below w.heap.size w w') : Turns D D b w w' := ⟨Kp.of_below h, fun _ hk => .inl hk, fun _ hk => .inl hk⟩
theorem Turns.below {D D' : ND} {b : Nat} {w w' w'' : World} (h : Turns D D' b w w') (hb : Below w'.heap.size w' w'') : Turns D D' b w w'' := h.trans (Turns.of_below hb)
theorem Turns.of_below' {D D' : ND} {b : Nat} {w w' w'' : World} (hb : Below w.heap.size w w') (h : Turns D D' b w' w'') : Turns D D' b w w'' := (Turns.of_below hb).trans h
end Go.Proofs.Ytnkcgalbaeppmaa
/- The small functions' contracts, said of a network in memory. -/
namespace Go.Proofs.Ytnkcgalbaeppmaa
open Go.RowKit

section
variable {w : World} {b : Nat} {N : NetM} {D : ND}
theorem RepOk.hv31 (h : RepOk w b N D) {k : Nat} (hk : D.hv.ownBlock = some k) : k ≠ b := fun e => ownsRow_ne h.hist h.blk (by decide) (e ▸ hk)
theorem RepOk.fv31 (h : RepOk w b N D) {k : Nat} (hk : D.fv.ownBlock = some k) : k ≠ b := fun e => ownsRow_ne h.fl h.blk (by decide) (e ▸ hk)
theorem RepOk.ev31 (h : RepOk w b N D) {k : Nat} (hk : D.ev.ownBlock = some k) : k ≠ b := fun e => ownsRow_ne h.ev h.blk (by decide) (e ▸ hk)
theorem RepOk.mv31 (h : RepOk w b N D) {k : Nat} (hk : mapBlk D.mv = some k) : k ≠ b := fun e => h.map.ne h.blk (e ▸ hk)
theorem RepOk.fs5 (h : RepOk w b N D) {x : FV} (hx : x ∈ D.fs) {k : Nat} (hk : x.p.blk = some k) : ∃ cur, w.heap[k]? = some (.cells cur 5 (0, 0)) := by
  obtain ⟨m, _, hm⟩ := h.flp.left hx; exact hm.p.block hk
theorem RepOk.hs5 (h : RepOk w b N D) {x : PV} (hx : x ∈ D.hs) {k : Nat} (hk : x.blk = some k) : ∃ cur, w.heap[k]? = some (.cells cur 5 (0, 0)) := by
  obtain ⟨m, _, hm⟩ := h.histp.left hx; exact hm.block hk
theorem cells_inj {w : World} {k : Nat} {c c' : Array Value} {T T' : TypeId} {f f' : Nat × Nat} (h : w.heap[k]? = some (.cells c T f)) (h' : w.heap[k]? = some (.cells c' T' f')) : T = T' := by
  rw [h] at h'; cases h'; rfl
theorem RepOk.hblk (h : RepOk w b N D) {k : Nat} (hk : D.hv.ownBlock = some k) : ∃ cur, w.heap[k]? = some (.cells cur 40 (0, 0)) := ownsRow_block h.hist hk
theorem RepOk.fblk (h : RepOk w b N D) {k : Nat} (hk : D.fv.ownBlock = some k) : ∃ cur, w.heap[k]? = some (.cells cur 86 (0, 0)) := ownsRow_block h.fl hk
theorem RepOk.eblk (h : RepOk w b N D) {k : Nat} (hk : D.ev.ownBlock = some k) : ∃ cur, w.heap[k]? = some (.cells cur 61 (0, 0)) := ownsRow_block h.ev hk

/-- A block of cells of type T is none of the network's blocks of another type. -/
theorem RepOk.apartT (_h : RepOk w b N D) {S : Nat → Prop} {Ts : List TypeId} (hS : ∀ k, S k → ∃ cur T, w.heap[k]? = some (.cells cur T (0, 0)) ∧ T ∈ Ts) :
    ∀ k cur T, w.heap[k]? = some (.cells cur T (0, 0)) → T ∉ Ts → ¬ S k := fun k cur T hk hT hs => by
  obtain ⟨c, T', h1, h2⟩ := hS k hs
  exact hT (cells_inj hk h1 ▸ h2)
theorem RepOk.apartM (h : RepOk w b N D) {S : Nat → Prop} {Ts : List TypeId} (hS : ∀ k, S k → ∃ cur T, w.heap[k]? = some (.cells cur T (0, 0)) ∧ T ∈ Ts) : ∀ k, mapBlk D.mv = some k → ¬ S k := fun k hk hs => by
  obtain ⟨c, T', h1, _⟩ := hS k hs
  exact h.map.ne h1 hk
end

def NoteRep (b : Nat) (N : NetM) (D : ND) (w : World) (x : EvM) (e : Ending) (w' : World) : Prop :=
  e = .returned (.tuple #[]) ∧ ∃ D', RepOk w' b { N with ev := N.ev ++ [x] } D' ∧ Turns D D' b w w'
theorem note_rep (b : Nat) (N : NetM) (D : ND) (kind id fr : Int) (w : World) (h : RepOk w b N D) (hl : N.lim) :
    Calls Try.prog 48 #[.pointer (some ⟨b, 0, none⟩), .int .i64 kind, .int .i64 id, .int .i64 fr] w (NoteRep b N D w ⟨kind, id, fr⟩) := by
  refine (note_any b D.hv D.fv D.mv D.ev N.next kind id fr _ _ w h.blk h.ev (by have := hl.ev; omega)).mono ?_
  rintro e w' ⟨ev', rfl, hb, he, hk, hat⟩
  have hS : ∀ k, (k = b ∨ D.ev.ownBlock = some k) → ∃ cur T, w.heap[k]? = some (.cells cur T (0, 0)) ∧ T ∈ [31, 61] := by
    rintro k (rfl | hk)
    · exact ⟨_, 31, h.blk, by simp⟩
    · obtain ⟨c, hc⟩ := h.eblk hk; exact ⟨c, 61, hc, by simp⟩
  have hA := h.apartT hS
  refine ⟨rfl, { D with ev := ev' }, ⟨hb, ?_, ?_, ?_, ?_, ?_, ?_, h.apart, h.apart2⟩, ⟨hk.mono ?_, ?_, fun k hk => .inl hk⟩⟩
  · exact ownsRow_kp h.hist hk (fun k h1 => by obtain ⟨c, hc⟩ := h.hblk h1; exact hA k c 40 hc (by decide))
  · exact h.histp.mono fun x y hx hm => hm.kp hk (fun k h1 => by obtain ⟨c, hc⟩ := hm.block h1; exact hA k c 5 hc (by decide))
  · exact ownsRow_kp h.fl hk (fun k h1 => by obtain ⟨c, hc⟩ := h.fblk h1; exact hA k c 86 hc (by decide))
  · exact h.flp.mono fun x y hx hm => ⟨hm.p.kp hk (fun k h1 => by obtain ⟨c, hc⟩ := hm.p.block h1; exact hA k c 5 hc (by decide)), hm.id, hm.src⟩
  · have : (N.ev ++ [(⟨kind, id, fr⟩ : EvM)]).flatMap EvM.cells = N.ev.flatMap EvM.cells ++ [.int .i64 kind, .int .i64 id, .int .i64 fr] := by simp [EvM.cells]
    rw [this]
    simpa using he
  · exact h.map.same fun k h1 => hk.block k (h.map.lt k h1) (h.apartM hS k h1)
  · rintro k _ (rfl | h1)
    · exact .inl rfl
    · exact .inr (.inr (.inr (.inl h1)))
  · rintro k (rfl | h1 | h1 | h1 | h1 | h1)
    · exact .inl (.inl rfl)
    · exact .inl (.inr (.inl h1))
    · exact .inl (.inr (.inr (.inl h1)))
    · exact (hat k h1).imp (fun h2 => .inr (.inr (.inr (.inl h2)))) (fun h2 => h2)
    · exact .inl (.inr (.inr (.inr (.inr (.inl h1)))))
    · exact .inl (.inr (.inr (.inr (.inr (.inr h1)))))

def LaunchRep (b : Nat) (N : NetM) (D : ND) (w : World) (m : Pk) (src : Int) (e : Ending) (w' : World) : Prop :=
  e = .returned (.int .i64 N.next) ∧ ∃ D', RepOk w' b { N with fl := N.fl ++ [⟨m, N.next, src⟩], next := N.next + 1 } D' ∧ Turns D D' b w w'
theorem launch_rep (b : Nat) (N : NetM) (D : ND) (p : PV) (m : Pk) (src : Int) (w : World) (h : RepOk w b N D) (hl : N.lim) (hp : PIn w p m) (hpb : ∀ k, p.blk = some k → k ≠ b) (hm : p.bn ≤ 100000) :
    Calls Try.prog 47 #[.pointer (some ⟨b, 0, none⟩), p.val, .int .i64 src] w (LaunchRep b N D w m src) := by
  refine (launch_any b D.hv D.fv D.mv D.ev N.next src _ _ p m w h.blk h.fl (by have := hl.fl; omega) hp hpb hm hl.next0 (by have := hl.next1; omega)).mono ?_
  rintro e w' ⟨g, cap, q, rfl, hb, hf, hq, hqb, hat, hk⟩
  have hS : ∀ k, (k = b ∨ D.fv.ownBlock = some k) → ∃ cur T, w.heap[k]? = some (.cells cur T (0, 0)) ∧ T ∈ [31, 86] := by
    rintro k (rfl | hk)
    · exact ⟨_, 31, h.blk, by simp⟩
    · obtain ⟨c, hc⟩ := h.fblk hk; exact ⟨c, 86, hc, by simp⟩
  have hA := h.apartT hS
  refine ⟨rfl, { D with fv := .slice (some ⟨g, 0, none⟩) (N.fl.length + 1) cap, fs := D.fs ++ [⟨q, N.next, src⟩] }, ⟨hb, ?_, ?_, ?_, ?_, ?_, ?_, ?_, ?_⟩, ⟨hk.mono ?_, ?_, fun k hk => .inl hk⟩⟩
  · exact ownsRow_kp h.hist hk (fun k h1 => by obtain ⟨c, hc⟩ := h.hblk h1; exact hA k c 40 hc (by decide))
  · exact h.histp.mono fun x y hx hm => hm.kp hk (fun k h1 => by obtain ⟨c, hc⟩ := hm.block h1; exact hA k c 5 hc (by decide))
  · have : (D.fs ++ [(⟨q, N.next, src⟩ : FV)]).flatMap FV.cells = D.fs.flatMap FV.cells ++ (q.cells ++ [.int .i64 N.next, .int .i64 src]) := by simp [FV.cells]
    simp only [this, List.length_append, List.length_cons, List.length_nil, Nat.zero_add]
    exact hf
  · exact (h.flp.mono fun x y hx hm => (⟨hm.p.kp hk (fun k h1 => by obtain ⟨c, hc⟩ := hm.p.block h1; exact hA k c 5 hc (by decide)), hm.id, hm.src⟩ : FOwn w' x y)).snoc ⟨hq, rfl, rfl⟩
  · exact ownsRow_kp h.ev hk (fun k h1 => by obtain ⟨c, hc⟩ := h.eblk h1; exact hA k c 61 hc (by decide))
  · exact h.map.same fun k h1 => hk.block k (h.map.lt k h1) (h.apartM hS k h1)
  · intro i j x y k hx hy hij h1 h2
    have hlt : ∀ z ∈ D.fs, ∀ k, z.p.blk = some k → k < w.heap.size := fun z hz k hk => by obtain ⟨m, _, hm⟩ := h.flp.left hz; exact hm.p.lt hk
    rcases Nat.lt_or_ge i D.fs.length with hi | hi <;> rcases Nat.lt_or_ge j D.fs.length with hj | hj
    · rw [List.getElem?_append_left hi] at hx
      rw [List.getElem?_append_left hj] at hy
      exact h.apart i j x y k hx hy hij h1 h2
    · rw [List.getElem?_append_left hi] at hx
      rw [List.getElem?_append_right hj] at hy
      have h3 := hlt x (List.mem_of_getElem? hx) k h1
      have : y = ⟨q, N.next, src⟩ := by
        have := List.mem_of_getElem? hy; simpa using this
      subst this
      have := hqb k h2; omega
    · rw [List.getElem?_append_right hi] at hx
      rw [List.getElem?_append_left hj] at hy
      have h3 := hlt y (List.mem_of_getElem? hy) k h2
      have : x = ⟨q, N.next, src⟩ := by
        have := List.mem_of_getElem? hx; simpa using this
      subst this
      have := hqb k h1; omega
    · have h4 : i < (D.fs ++ [(⟨q, N.next, src⟩ : FV)]).length := (List.getElem?_eq_some_iff.1 hx).1
      have h5 : j < (D.fs ++ [(⟨q, N.next, src⟩ : FV)]).length := (List.getElem?_eq_some_iff.1 hy).1
      simp at h4 h5; omega
  · intro x hx p' hp' k h1 h2
    rcases List.mem_append.1 hx with hx | hx
    · exact h.apart2 x hx p' hp' k h1 h2
    · obtain rfl : x = ⟨q, N.next, src⟩ := by simpa using hx
      have h3 := hqb k h1
      obtain ⟨m', _, hm'⟩ := h.histp.left hp'
      have := hm'.lt h2
      omega
  · rintro k _ (rfl | h1)
    · exact .inl rfl
    · exact .inr (.inr (.inl h1))
  · rintro k (rfl | h1 | h1 | h1 | h1 | ⟨x, hx, h1⟩)
    · exact .inl (.inl rfl)
    · exact .inl (.inr (.inl h1))
    · have : g = k := by simpa [Value.ownBlock] using h1
      subst this
      exact hat.imp (fun h2 => .inr (.inr (.inl h2))) id
    · exact .inl (.inr (.inr (.inr (.inl h1))))
    · exact .inl (.inr (.inr (.inr (.inr (.inl h1)))))
    · rcases List.mem_append.1 hx with hx | hx
      · exact .inl (.inr (.inr (.inr (.inr (.inr ⟨x, hx, h1⟩)))))
      · obtain rfl : x = ⟨q, N.next, src⟩ := by simpa using hx
        exact .inr (hqb k h1)

def TakeRep (b : Nat) (N : NetM) (D : ND) (w : World) (i : Nat) (p : PV) (e : Ending) (w' : World) : Prop :=
  e = .returned p.val ∧ ∃ D', RepOk w' b { N with fl := N.fl.eraseIdx i } D' ∧ Turns D D' b w w' ∧ (∀ k, p.blk = some k → ¬ fp D' b k) ∧ Kp (fun k => ∃ cur T, w.heap[k]? = some (.cells cur T (0, 0)) ∧ T ∈ [31, 86]) w w'
theorem take_rep (b : Nat) (N : NetM) (D : ND) (i : Nat) (x : FV) (w : World) (h : RepOk w b N D) (hl : N.lim) (hx : D.fs[i]? = some x) :
    Calls Try.prog 49 #[.pointer (some ⟨b, 0, none⟩), .int .i64 i] w (TakeRep b N D w i x.p) := by
  have hi : i < N.fl.length := by rw [← h.flp.1]; exact (List.getElem?_eq_some_iff.1 hx).1
  obtain ⟨g, cap, hfv, _, hg⟩ := h.fl.form (by omega)
  have hbk := h.blk
  have hfl := h.fl
  rw [hfv] at hbk hfl
  refine (take_any b D.hv D.mv D.ev N.next g _ cap i D.fs x w hbk hfl hx hi (by have := hl.fl; omega)).mono ?_
  rintro e w' ⟨rfl, hb, hf, hk⟩
  have hgg : D.fv.ownBlock = some g := by rw [hfv]; rfl
  have hS : ∀ k, (k = b ∨ k = g) → ∃ cur T, w.heap[k]? = some (.cells cur T (0, 0)) ∧ T ∈ [31, 86] := by
    rintro k (rfl | rfl)
    · exact ⟨_, 31, h.blk, by simp⟩
    · obtain ⟨c, hc⟩ := h.fblk hgg; exact ⟨c, 86, hc, by simp⟩
  have hA := h.apartT hS
  have hmem : ∀ y, y ∈ D.fs.eraseIdx i → y ∈ D.fs := fun y hy => List.mem_of_mem_eraseIdx hy
  refine ⟨rfl, { D with fv := .slice (some ⟨g, 0, none⟩) (N.fl.length - 1) cap, fs := D.fs.eraseIdx i }, ⟨hb, ?_, ?_, ?_, ?_, ?_, ?_, ?_, ?_⟩, ⟨hk.mono ?_, ?_, fun k hk => .inl hk⟩, ?_, hk.mono fun k _ h1 => hS k h1⟩
  · exact ownsRow_kp h.hist hk (fun k h1 => by obtain ⟨c, hc⟩ := h.hblk h1; exact hA k c 40 hc (by decide))
  · exact h.histp.mono fun x y hx hm => hm.kp hk (fun k h1 => by obtain ⟨c, hc⟩ := hm.block h1; exact hA k c 5 hc (by decide))
  · have : (N.fl.eraseIdx i).length = N.fl.length - 1 := List.length_eraseIdx_of_lt hi
    simp only [this]
    exact hf
  · exact (h.flp.mono fun x y hx hm => (⟨hm.p.kp hk (fun k h1 => by obtain ⟨c, hc⟩ := hm.p.block h1; exact hA k c 5 hc (by decide)), hm.id, hm.src⟩ : FOwn w' x y)).erase i
  · exact ownsRow_kp h.ev hk (fun k h1 => by obtain ⟨c, hc⟩ := h.eblk h1; exact hA k c 61 hc (by decide))
  · exact h.map.same fun k h1 => hk.block k (h.map.lt k h1) (h.apartM hS k h1)
  · intro a c x y k hx hy hij h1 h2
    rw [List.getElem?_eraseIdx] at hx hy
    split at hx <;> split at hy
    · exact h.apart a c x y k hx hy hij h1 h2
    · exact h.apart a (c + 1) x y k hx hy (by omega) h1 h2
    · exact h.apart (a + 1) c x y k hx hy (by omega) h1 h2
    · exact h.apart (a + 1) (c + 1) x y k hx hy (by omega) h1 h2
  · intro y hy p' hp' k h1 h2
    exact h.apart2 y (hmem y hy) p' hp' k h1 h2
  · rintro k _ (rfl | rfl)
    · exact .inl rfl
    · exact .inr (.inr (.inl hgg))
  · rintro k (rfl | h1 | h1 | h1 | h1 | ⟨x, hx, h1⟩)
    · exact .inl (.inl rfl)
    · exact .inl (.inr (.inl h1))
    · have : g = k := by simpa [Value.ownBlock] using h1
      subst this
      exact .inl (.inr (.inr (.inl hgg)))
    · exact .inl (.inr (.inr (.inr (.inl h1))))
    · exact .inl (.inr (.inr (.inr (.inr (.inl h1)))))
    · exact .inl (.inr (.inr (.inr (.inr (.inr ⟨x, hmem x hx, h1⟩)))))
  · intro k hkx hfp
    have hxm := List.mem_of_getElem? hx
    obtain ⟨cur, hc⟩ := h.fs5 hxm hkx
    rcases hfp with (rfl | h1 | h1 | h1 | h1 | ⟨y, hy, h1⟩) | ⟨p', hp', h1⟩
    · exact absurd (cells_inj hc h.blk) (by decide)
    · obtain ⟨c, hc'⟩ := h.hblk h1; exact absurd (cells_inj hc hc') (by decide)
    · have : g = k := by simpa [Value.ownBlock] using h1
      subst this
      obtain ⟨c, hc'⟩ := h.fblk hgg; exact absurd (cells_inj hc hc') (by decide)
    · obtain ⟨c, hc'⟩ := h.eblk h1; exact absurd (cells_inj hc hc') (by decide)
    · exact h.map.ne hc h1
    · obtain ⟨j, hj⟩ := List.getElem?_of_mem hy
      rw [List.getElem?_eraseIdx] at hj
      split at hj
      · exact h.apart i j x y k hx hj (by omega) hkx h1
      · exact h.apart i (j + 1) x y k hx hj (by omega) hkx h1
    · exact h.apart2 x hxm p' hp' k hkx h1
end Go.Proofs.Ytnkcgalbaeppmaa
/- The network's methods that look: Source, Genuine. -/
namespace Go.Proofs.Ytnkcgalbaeppmaa
open Go.RowKit

/-- The place of a packet in flight. -/
def place (id : Int) : List FlM → Option Nat
  | [] => none
  | x :: r => if x.id = id then some 0 else (place id r).map (· + 1)
theorem place_some {id : Int} : ∀ {l : List FlM} {i : Nat}, place id l = some i → ∃ m, l[i]? = some m ∧ m.id = id
  | [], i, h => by simp [place] at h
  | x :: r, i, h => by
    unfold place at h
    split at h
    · rename_i hx; cases h; exact ⟨x, rfl, hx⟩
    · cases hp : place id r with
      | none => rw [hp] at h; cases h
      | some j =>
        rw [hp] at h; cases h
        obtain ⟨m, hm, hi⟩ := place_some hp
        exact ⟨m, by simpa using hm, hi⟩
theorem idx_place {w : World} (id : Int) : ∀ (fs : List FV) (fl : List FlM) (k : Nat), Both (FOwn w) fs fl → idx id fs k = match place id fl with | none => -1 | some i => ((k + i : Nat) : Int)
  | [], [], k, _ => rfl
  | x :: fs, m :: fl, k, h => by
    have hx := h.2 0 x m rfl rfl
    have ht : Both (FOwn w) fs fl := ⟨by have := h.1; simpa using this, fun i a b ha hb => h.2 (i + 1) a b (by simpa using ha) (by simpa using hb)⟩
    have ih := idx_place id fs fl (k + 1) ht
    unfold idx place
    by_cases he : m.id = id
    · rw [if_pos (hx.id.trans he), if_pos he]; rfl
    · rw [if_neg (fun h => he (hx.id ▸ h)), if_neg he, ih]
      cases place id fl with
      | none => rfl
      | some i => show ((k + 1 + i : Nat) : Int) = ((k + (i + 1) : Nat) : Int); congr 1; omega
  | [], _ :: _, _, h => by have := h.1; simp at this
  | _ :: _, [], _, h => by have := h.1; simp at this

theorem find_none (b : Nat) (N : NetM) (D : ND) (id : Int) (w : World) (h : RepOk w b N D) (hl : N.lim) (hp : place id N.fl = none) :
    Calls Try.prog 37 #[.pointer (some ⟨b, 0, none⟩), .int .i64 id] w fun e w' => e = .returned (.int .i64 (-1)) ∧ Below w.heap.size w w' := by
  refine (find_any b D.hv D.fv D.mv D.ev N.next id _ D.fs w h.blk h.fl (by have := hl.fl; omega)).mono ?_
  rintro e w' ⟨rfl, hb⟩
  exact ⟨ret_int (by rw [idx_place id D.fs N.fl 0 h.flp, hp]), hb⟩
theorem find_some (b : Nat) (N : NetM) (D : ND) (id : Int) (i : Nat) (w : World) (h : RepOk w b N D) (hl : N.lim) (hp : place id N.fl = some i) :
    Calls Try.prog 37 #[.pointer (some ⟨b, 0, none⟩), .int .i64 id] w fun e w' => e = .returned (.int .i64 i) ∧ Below w.heap.size w w' := by
  refine (find_any b D.hv D.fv D.mv D.ev N.next id _ D.fs w h.blk h.fl (by have := hl.fl; omega)).mono ?_
  rintro e w' ⟨rfl, hb⟩
  exact ⟨ret_int (by rw [idx_place id D.fs N.fl 0 h.flp, hp]; simp), hb⟩

/-- What Source answers. -/
def NetM.source (N : NetM) (id : Int) : Int × Int :=
  match place id N.fl with
  | none => (0, 9)
  | some i => (((N.fl[i]?).map (·.src)).getD 0, 0)
def Two (x y : Int) (w : World) (e : Ending) (w' : World) : Prop := e = .returned (.tuple #[.int .i64 x, .int .i64 y]) ∧ Below w.heap.size w w'

theorem source_any (b : Nat) (N : NetM) (D : ND) (id : Int) (w : World) (h : RepOk w b N D) (hl : N.lim) :
    Calls Try.prog 10 #[.pointer (some ⟨b, 0, none⟩), .int .i64 id] w (Two (N.source id).1 (N.source id).2 w) := by
  cases hp : place id N.fl with
  | none =>
    have HF : Hid ((N.source id).1 = 0 ∧ (N.source id).2 = 9) := by simp [Hid, NetM.source, hp]
    have HP := Lib.hid hp
    clear hp
    go_enter Try.func10, Try.ntmps10
    go_wp2_with fail
    refine (find_none b N D id _ h hl HP.out).mono ?_
    rintro e w1 ⟨rfl, hb⟩
    go_wp2_with fail
    go_ret2
    exact ⟨by rw [HF.out.1, HF.out.2]; rfl, hb⟩
  | some i =>
    obtain ⟨m, hm, hid⟩ := place_some hp
    obtain ⟨x, hx, hxm⟩ := h.flp.at hm
    have hi : i < N.fl.length := (List.getElem?_eq_some_iff.1 hm).1
    have HF : Hid ((N.source id).1 = x.src ∧ (N.source id).2 = 0) := by simp [Hid, NetM.source, hp, hm, hxm.src]
    have HP := Lib.hid hp
    obtain ⟨g, cap, hfv, _, hg⟩ := h.fl.form (by omega)
    clear hp
    go_enter Try.func10, Try.ntmps10
    go_wp2_with fail
    refine (find_some b N D id i _ h hl HP.out).mono ?_
    rintro e w1 ⟨rfl, hb⟩
    have h1 := h.below hb (Nat.le_refl _)
    have hbk := h1.blk
    have hfl := h1.fl
    rw [hfv] at hbk hfl
    obtain ⟨d0, d1, d2, d3, d4⟩ := fly_cells hfl hx
    have c1 := hbk.c1
    have i0 : (0 : Int) ≤ (i : Int) := by omega
    have i1 : (i : Int) < (N.fl.length : Int) := by omega
    have i2 : (N.fl.length : Int) ≤ 64 := by have := hl.fl; omega
    clear hm hid hx hxm hfv h h1 hbk hfl
    go_wp2_with fail
    go_ret2
    exact ⟨by rw [HF.out.1, HF.out.2]; rfl, hb⟩
end Go.Proofs.Ytnkcgalbaeppmaa
/- The network's methods that put a packet in flight, and Drop. -/
namespace Go.Proofs.Ytnkcgalbaeppmaa
open Go.RowKit

/-- Room for some more calls. -/
structure NetM.few (N : NetM) (c : Nat) : Prop where
  next : N.next ≤ c
  ev : N.ev.length ≤ c

theorem lim_ev {N : NetM} (h : N.lim) {c : Nat} (hf : N.few c) (hc : c ≤ 40000) (x : EvM) : ({ N with ev := N.ev ++ [x] } : NetM).lim :=
  ⟨h.hist, h.fl, by have := hf.ev; simp; omega, h.next0, h.next1, h.histok, h.flok, h.srcok⟩
theorem lim_push {N : NetM} (h : N.lim) {c : Nat} (hf : N.few c) (hc : c ≤ 40000) {m : Pk} (hm : m.ok) {src : Int} (h1 : -1 ≤ src) (h2 : src < (N.hist.length : Int)) (hfull : N.fl.length < 64) :
    ({ N with fl := N.fl ++ [⟨m, N.next, src⟩], next := N.next + 1 } : NetM).lim :=
  ⟨h.hist, by simp; omega, h.ev, by have := h.next0; show (0 : Int) ≤ N.next + 1; omega, by have := hf.next; show N.next + 1 ≤ (50000 : Int); omega, h.histok,
    (fun x hx => (List.mem_append.1 hx).elim (h.flok x) (fun hx => by obtain rfl : x = ⟨m, N.next, src⟩ := by simpa using hx
                                                                      exact hm)),
    (fun x hx => (List.mem_append.1 hx).elim (h.srcok x) (fun hx => by obtain rfl : x = ⟨m, N.next, src⟩ := by simpa using hx
                                                                       exact ⟨h1, h2⟩))⟩
theorem lim_erase {N : NetM} (h : N.lim) (i : Nat) : ({ N with fl := N.fl.eraseIdx i } : NetM).lim :=
  ⟨h.hist, by have := h.fl; have := List.length_eraseIdx_le N.fl i; show (N.fl.eraseIdx i).length ≤ 64; omega, h.ev, h.next0, h.next1, h.histok, fun x hx => h.flok x (List.mem_of_mem_eraseIdx hx), fun x hx => h.srcok x (List.mem_of_mem_eraseIdx hx)⟩

/-- A packet comes into flight. -/
def NetM.put (N : NetM) (m : Pk) (src kind fr : Int) : NetM := { N with fl := N.fl ++ [⟨m, N.next, src⟩], next := N.next + 1, ev := N.ev ++ [⟨kind, N.next, fr⟩] }
/-- Inject. -/
def NetM.inject (N : NetM) (m : Pk) : NetM × Int × Int :=
  if validB m then if 64 ≤ N.fl.length then (N, 0, 7) else (N.put m (-1) 8 (-1), N.next, 0) else (N, 0, 2)
/-- What a call that answers two numbers leaves. -/
def Two3 (b : Nat) (D : ND) (w : World) (r : NetM × Int × Int) (e : Ending) (w' : World) : Prop :=
  e = .returned (.tuple #[.int .i64 r.2.1, .int .i64 r.2.2]) ∧ ∃ D', RepOk w' b r.1 D' ∧ Turns D D' b w w'

theorem full_rep (b : Nat) (N : NetM) (D : ND) (w : World) (h : RepOk w b N D) (hl : N.lim) :
    Calls Try.prog 46 #[.pointer (some ⟨b, 0, none⟩)] w fun e w' => e = .returned (.bool (decide (64 ≤ N.fl.length))) ∧ w = w' := by
  obtain ⟨a, cap, hfv, _⟩ := ownsRow_slice h.fl
  have hb := h.blk
  rw [hfv] at hb
  refine (full_any b _ _ _ a _ cap _ w hb (by have := hl.fl; omega)).mono ?_
  rintro e w' ⟨rfl, rfl⟩
  exact ⟨ret_bool (by simp; omega), rfl⟩

set_option maxHeartbeats 800000 in
theorem inject_any (b : Nat) (N : NetM) (D : ND) (p : PV) (m : Pk) (w : World) (c : Nat) (h : RepOk w b N D) (hl : N.lim) (hf : N.few c) (hc : c ≤ 40000) (hp : PIn w p m) (hpb : ∀ k, p.blk = some k → ¬ fp D b k) (hm : m.ok) :
    Calls Try.prog 20 #[.pointer (some ⟨b, 0, none⟩), p.val] w (Two3 b D w (N.inject m)) := by
  have hbn : p.bn ≤ 100000 := by have := hm.bs; have := hp.n; omega
  have hb0 : Below w.heap.size w (w.alloc (.cells #[.string p.f, .string p.t, .slice p.ba p.bn p.bc] 40)) := (Below.refl _ _).alloc (Nat.le_refl _) _
  cases hv : validB m
  · have HF : Hid (N.inject m = (N, 0, 2)) := by simp [Hid, NetM.inject, hv]
    have HV := Lib.hid hv
    clear hv
    simp only [PV.val]
    go_enter Try.func20, Try.ntmps20
    go_wp2_with fail
    refine (valid_any p m _ hp.f hp.t hp.n hm).mono ?_
    rintro e w1 ⟨rfl, hb⟩
    have hv := HV.out
    have hb1 := hb0.trans (hb.mono hb0.size)
    have h1 := h.below hb1 (Nat.le_refl _)
    clear hp hpb h hb hb0
    go_wp2_with fail
    go_ret2
    exact ⟨by rw [HF.out]; rfl, D, by rw [HF.out]; exact h1, Turns.of_below hb1⟩
  · by_cases hfull : 64 ≤ N.fl.length
    · have HF : Hid (N.inject m = (N, 0, 7)) := by simp [Hid, NetM.inject, hv, hfull]
      have HV := Lib.hid hv
      have HU : Hid (decide (64 ≤ N.fl.length) = true) := by simpa [Hid] using hfull
      clear hv hfull
      simp only [PV.val]
      go_enter Try.func20, Try.ntmps20
      go_wp2_with fail
      refine (valid_any p m _ hp.f hp.t hp.n hm).mono ?_
      rintro e w1 ⟨rfl, hb⟩
      have hv := HV.out
      have hb1 := hb0.trans (hb.mono hb0.size)
      have h1 := h.below hb1 (Nat.le_refl _)
      clear hp hpb h hb hb0
      go_wp2_with fail
      refine (full_rep b N D _ h1 hl).mono ?_
      rintro e w2 ⟨rfl, rfl⟩
      have hu := HU.out
      go_wp2_with fail
      go_ret2
      exact ⟨by rw [HF.out]; rfl, D, by rw [HF.out]; exact h1, Turns.of_below hb1⟩
    · have HF : Hid (N.inject m = (N.put m (-1) 8 (-1), N.next, 0)) := by simp [Hid, NetM.inject, hv, hfull]
      have HV := Lib.hid hv
      have HU : Hid (decide (64 ≤ N.fl.length) = false) := by simpa [Hid] using hfull
      have hlf : N.fl.length < 64 := by omega
      clear hv hfull
      simp only [PV.val]
      go_enter Try.func20, Try.ntmps20
      go_wp2_with fail
      refine (valid_any p m _ hp.f hp.t hp.n hm).mono ?_
      rintro e w1 ⟨rfl, hb⟩
      have hv := HV.out
      have hb1 := hb0.trans (hb.mono hb0.size)
      have h1 := h.below hb1 (Nat.le_refl _)
      have hp1 := hp.below hb1 (Nat.le_refl _)
      have e1 := (hb.block w.heap.size (by simp)).trans (heap_alloc_new w _)
      obtain ⟨p0, p1, p2, _, _, _, _⟩ := blk3 e1
      clear hp h hb hb0 e1
      go_wp2_with fail
      refine (full_rep b N D _ h1 hl).mono ?_
      rintro e w2 ⟨rfl, rfl⟩
      have hu := HU.out
      go_wp2_with fail
      refine (launch_rep b N D p m (-1) w1 h1 hl hp1 (fun k hk e => hpb k hk (.inl (.inl e))) hbn).mono ?_
      rintro e w2 ⟨rfl, D2, h2, t2⟩
      clear p0 p1 p2
      go_wp2_with fail
      refine (note_rep b _ D2 8 N.next (-1) w2 h2 (lim_push hl hf hc hm (by omega) (by omega) hlf)).mono ?_
      rintro e w3 ⟨rfl, D3, h3, t3⟩
      go_wp2_with fail
      go_ret2
      exact ⟨by rw [HF.out]; rfl, D3, by rw [HF.out]; exact h3, (Turns.of_below' hb1 t2).trans t3⟩
end Go.Proofs.Ytnkcgalbaeppmaa
/- The network's methods: Replay, Drop. -/
namespace Go.Proofs.Ytnkcgalbaeppmaa
open Go.RowKit

theorem hist_cells {w : World} {B g n cap : Nat} {hs : List PV} (h : w.ownsRow B 40 3 (.slice (some ⟨g, 0, none⟩) n cap) n (hs.flatMap PV.cells)) {k : Nat} {x : PV} (hx : hs[k]? = some x) :
    w.cell? ⟨g, k * 3, none⟩ = some (.string x.f) ∧ w.cell? ⟨g, k * 3 + 1, none⟩ = some (.string x.t) ∧ w.cell? ⟨g, k * 3 + 2, none⟩ = some (.slice x.ba x.bn x.bc) := by
  have h0 := own_cell PV.cells_len h hx (j := 0) (by decide)
  have h1 := own_cell PV.cells_len h hx (j := 1) (by decide)
  have h2 := own_cell PV.cells_len h hx (j := 2) (by decide)
  exact ⟨h0, h1, h2⟩

/-- Replay. -/
def NetM.replay (N : NetM) (ix : Int) : NetM × Int × Int :=
  if 0 ≤ ix then match N.hist[ix.toNat]? with
    | some m => if 64 ≤ N.fl.length then (N, 0, 7) else (N.put m ix 7 ix, N.next, 0)
    | none => (N, 0, 9)
  else (N, 0, 9)

set_option maxHeartbeats 800000 in
theorem replay_any (b : Nat) (N : NetM) (D : ND) (ix : Int) (w : World) (c : Nat) (h : RepOk w b N D) (hl : N.lim) (hf : N.few c) (hc : c ≤ 40000) :
    Calls Try.prog 21 #[.pointer (some ⟨b, 0, none⟩), .int .i64 ix] w (Two3 b D w (N.replay ix)) := by
  obtain ⟨ha, hcap, hhv, hh1, hh2, hh3, hh4⟩ := ownsRow_slice h.hist
  have hbk := h.blk
  rw [hhv] at hbk
  have c0 := hbk.c0
  have hlen : (N.hist.length : Int) ≤ 1024 := by have := hl.hist; omega
  by_cases hix : ix < 0
  · have HF : Hid (N.replay ix = (N, 0, 9)) := by simp [Hid, NetM.replay]; omega
    clear hbk
    go_enter Try.func21, Try.ntmps21
    go_wp2_with fail
    go_ret2
    exact ⟨by rw [HF.out]; rfl, D, by rw [HF.out]; exact h, Turns.of_below (Below.refl _ _)⟩
  · by_cases hix2 : (N.hist.length : Int) ≤ ix
    · have HF : Hid (N.replay ix = (N, 0, 9)) := by
        have : N.hist[ix.toNat]? = none := List.getElem?_eq_none (by omega)
        simp [Hid, NetM.replay, this]
      clear hbk
      go_enter Try.func21, Try.ntmps21
      go_wp2_with fail
      go_ret2
      exact ⟨by rw [HF.out]; rfl, D, by rw [HF.out]; exact h, Turns.of_below (Below.refl _ _)⟩
    · obtain ⟨i, rfl⟩ := Int.eq_ofNat_of_zero_le (show 0 ≤ ix by omega)
      have hi : i < N.hist.length := by omega
      obtain ⟨m, hm⟩ : ∃ m, N.hist[i]? = some m := ⟨_, List.getElem?_eq_getElem hi⟩
      obtain ⟨p, hp, hpm⟩ := h.histp.at hm
      have i0 : (0 : Int) ≤ (i : Int) := by omega
      have i1 : (i : Int) < (N.hist.length : Int) := by omega
      obtain ⟨g, rfl, _, hgl⟩ : ∃ g, ha = some ⟨g, 0, none⟩ ∧ 0 ≤ g ∧ g < w.heap.size := by
        cases ha with
        | none => have := (hh3 rfl).1; omega
        | some x => obtain ⟨g, rfl, h1, h2⟩ := hh4 x rfl; exact ⟨g, rfl, h1, h2⟩
      have hhi := h.hist
      rw [hhv] at hhi
      by_cases hfull : 64 ≤ N.fl.length
      · have HF : Hid (N.replay (i : Int) = (N, 0, 7)) := by simp [Hid, NetM.replay, hm, hfull]
        have HU : Hid (decide (64 ≤ N.fl.length) = true) := by simpa [Hid] using hfull
        clear hfull hm hp hix hix2
        go_enter Try.func21, Try.ntmps21
        go_wp2_with fail
        refine (full_rep b N D _ h hl).mono ?_
        rintro e w2 ⟨rfl, rfl⟩
        have hu := HU.out
        go_wp2_with fail
        go_ret2
        exact ⟨by rw [HF.out]; rfl, D, by rw [HF.out]; exact h, Turns.of_below (Below.refl _ _)⟩
      · have HF : Hid (N.replay (i : Int) = (N.put m i 7 i, N.next, 0)) := by simp [Hid, NetM.replay, hm, hfull]
        have HU : Hid (decide (64 ≤ N.fl.length) = false) := by simpa [Hid] using hfull
        have hlf : N.fl.length < 64 := by omega
        have hok := hl.histok m (List.mem_of_getElem? hm)
        obtain ⟨d0, d1, d2⟩ := hist_cells hhi hp
        have hbn : p.bn ≤ 100000 := by have := hok.bs; have := hpm.n; omega
        have hpb : ∀ k, p.blk = some k → k ≠ b := fun k hk e => by
          obtain ⟨c, hc⟩ := hpm.block hk
          exact absurd (cells_inj hc (e ▸ h.blk)) (by decide)
        clear hfull hm hp hix hix2 hhi
        go_enter Try.func21, Try.ntmps21
        go_wp2_with fail
        refine (full_rep b N D _ h hl).mono ?_
        rintro e w2 ⟨rfl, rfl⟩
        have hu := HU.out
        go_wp2_with fail
        refine (launch_rep b N D p m i w h hl hpm.pin hpb hbn).mono ?_
        rintro e w2 ⟨rfl, D2, h2, t2⟩
        clear d0 d1 d2 c0 hu
        go_wp2_with fail
        refine (note_rep b _ D2 7 N.next i w2 h2 (lim_push hl hf hc hok (by omega) i1 hlf)).mono ?_
        rintro e w3 ⟨rfl, D3, h3, t3⟩
        go_wp2_with fail
        go_ret2
        exact ⟨by rw [HF.out]; rfl, D3, by rw [HF.out]; exact h3, t2.trans t3⟩

/-- What a call that answers one number leaves. -/
def One3 (b : Nat) (D : ND) (w : World) (r : NetM × Int) (e : Ending) (w' : World) : Prop :=
  e = .returned (.int .i64 r.2) ∧ ∃ D', RepOk w' b r.1 D' ∧ Turns D D' b w w'
/-- Drop. -/
def NetM.drop (N : NetM) (id : Int) : NetM × Int :=
  match place id N.fl with
  | none => (N, 9)
  | some i => ({ N with fl := N.fl.eraseIdx i, ev := N.ev ++ [⟨3, id, -1⟩] }, 0)
set_option maxHeartbeats 800000 in
theorem drop_any (b : Nat) (N : NetM) (D : ND) (id : Int) (w : World) (c : Nat) (h : RepOk w b N D) (hl : N.lim) (_hf : N.few c) (_hc : c ≤ 40000) :
    Calls Try.prog 24 #[.pointer (some ⟨b, 0, none⟩), .int .i64 id] w (One3 b D w (N.drop id)) := by
  cases hp : place id N.fl with
  | none =>
    have HF : Hid (N.drop id = (N, 9)) := by simp [Hid, NetM.drop, hp]
    have HP := Lib.hid hp
    clear hp
    go_enter Try.func24, Try.ntmps24
    go_wp2_with fail
    refine (find_none b N D id _ h hl HP.out).mono ?_
    rintro e w1 ⟨rfl, hb⟩
    go_wp2_with fail
    go_ret
    exact ⟨by rw [HF.out]; rfl, D, by rw [HF.out]; exact h.below hb (Nat.le_refl _), Turns.of_below hb⟩
  | some i =>
    obtain ⟨m, hm, hid⟩ := place_some hp
    obtain ⟨x, hx, hxm⟩ := h.flp.at hm
    have HF : Hid (N.drop id = ({ N with fl := N.fl.eraseIdx i, ev := N.ev ++ [⟨3, id, -1⟩] }, 0)) := by simp [Hid, NetM.drop, hp]
    have HP := Lib.hid hp
    have i0 : (0 : Int) ≤ (i : Int) := by omega
    clear hp hm hid
    have HX := Lib.hid hx
    clear hx
    go_enter Try.func24, Try.ntmps24
    go_wp2_with fail
    refine (find_some b N D id i _ h hl HP.out).mono ?_
    rintro e w1 ⟨rfl, hb⟩
    have h1 := h.below hb (Nat.le_refl _)
    go_wp2_with fail
    refine (take_rep b N D i x w1 h1 hl HX.out).mono ?_
    rintro e w2 ⟨rfl, D2, h2, t2, _⟩
    go_wp2_with fail
    refine (note_rep b _ D2 3 id (-1) w2 h2 (lim_erase hl i)).mono ?_
    rintro e w3 ⟨rfl, D3, h3, t3⟩
    go_wp2_with fail
    go_ret
    exact ⟨by rw [HF.out]; rfl, D3, by rw [HF.out]; exact h3, (Turns.of_below' hb t2).trans t3⟩
end Go.Proofs.Ytnkcgalbaeppmaa
