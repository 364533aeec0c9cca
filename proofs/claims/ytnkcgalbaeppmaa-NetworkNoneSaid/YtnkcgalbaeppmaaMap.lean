/- Maps of pairs of strings to true: their runs. -/
import Derived.Test.YtnkcgalbaeppmaaProg
import Derived.Test.YtnkcgalbaeppmaaBase
namespace Go.Proofs.Ytnkcgalbaeppmaa
open Go.RowKit

theorem Try.info95 : (Try.prog.info? 95).map (fun i => (i.zero, i.size, i.bytes)) = some (some (.agg #[.string ByteArray.empty, .string ByteArray.empty]), 2, 32) := by kernel_rfl
theorem Try.info9 : (Try.prog.info? 9).map (fun i => (i.zero, i.size, i.bytes)) = some (some (.string ByteArray.empty), 1, 16) := by kernel_rfl
theorem Try.info4 : (Try.prog.info? 4).map (fun i => (i.zero, i.size, i.bytes)) = some (some (.bool false), 1, 1) := by kernel_rfl

/-- A pair of hosts. -/
abbrev Pr := ByteArray × ByteArray
def Pr.val (p : Pr) : Value := .agg #[.string p.1, .string p.2]
def prB (p q : Pr) : Bool := (p.1.toList == q.1.toList) && (p.2.toList == q.2.toList)

theorem u95 : Try.prog.underlying 95 = some (.array 2 9) := by kernel_rfl
theorem u9 : Try.prog.underlying 9 = some .string := by kernel_rfl
theorem u28 : Try.prog.underlying 28 = some (.map 95 4) := by kernel_rfl

theorem run_part9 (w : World) (cs : Array Value) (i : Nat) (v : Value) (h : cs[i]? = some v) : (part 9 cs i).run Try.prog w = .ok v w := by
  have ha : (isAgg 9).run Try.prog w = .ok false w := by simp [isAgg, run_underlying u9]
  simp [part, ha, h]

theorem run_size9 (w : World) : (sizeOf 9).run Try.prog w = .ok 1 w := by
  obtain ⟨i0, hi, hz0, hz1, hz2⟩ := info_parts Try.info9
  simp [sizeOf, typeInfo, hi, hz1]

theorem run_eqIn_pair (d : Nat) (p q : Pr) (w : World) : (Op.equalIn (d + 2) 95 p.val q.val).run Try.prog w = .ok (prB p q) w := by
  obtain ⟨a, b⟩ := p
  obtain ⟨c, e⟩ := q
  have h1 := run_part9 w #[.string a, .string b] 0 (.string a) rfl
  have h2 := run_part9 w #[.string a, .string b] 1 (.string b) rfl
  have h3 := run_part9 w #[.string c, .string e] 0 (.string c) rfl
  have h4 := run_part9 w #[.string c, .string e] 1 (.string e) rfl
  have h5 := run_equalIn_string (P := Try.prog) w d 9 a c u9
  have h6 := run_equalIn_string (P := Try.prog) w d 9 b e u9
  unfold Op.equalIn
  simp only [Pr.val, prB]
  simp [run_underlying u95, run_size9, h1, h2, h3, h4, h5, h6, Std.Legacy.Range.forIn_eq_forIn_range', List.range'_succ, Std.Legacy.Range.size]
  by_cases h : a.toList = c.toList <;> by_cases h' : b.toList = e.toList <;> simp [h, h']
theorem run_eq_pair (p q : Pr) (w : World) : (Op.equal 95 p.val q.val).run Try.prog w = .ok (prB p q) w := run_eqIn_pair 9998 p q w

theorem run_checkKey_pair (em : Bool) (p : Pr) (w : World) : (Instr.checkKey em 10000 95 p.val).run Try.prog w = .ok () w := by
  obtain ⟨a, b⟩ := p
  have h1 := run_part9 w #[.string a, .string b] 0 (.string a) rfl
  have h2 := run_part9 w #[.string a, .string b] 1 (.string b) rfl
  have hc : ∀ x, (Instr.checkKey em 9999 9 (.string x)).run Try.prog w = .ok () w := fun x => by
    unfold Instr.checkKey; simp [run_underlying u9]
  unfold Instr.checkKey
  simp only [Pr.val]
  simp [run_underlying u95, run_size9, h1, h2, hc, Std.Legacy.Range.forIn_eq_forIn_range', List.range'_succ, Std.Legacy.Range.size]

/-- A map that reads as the keys M, each of them true. -/
def findM (p : Pr) : List Pr → List MapEntry → Nat → Option (Nat × Value)
  | q :: M, e :: es, i => if prB p q then some (i, e.val) else findM p M es (i + 1)
  | _, _, _ => none

theorem run_findAsking (p : Pr) (w : World) : ∀ (M : List Pr) (es : List MapEntry) (i : Nat), es.map (·.key) = M.map Pr.val → (Instr.findAsking 95 p.val es i).run Try.prog w = .ok (findM p M es i) w
  | [], [], i, _ => by simp [Instr.findAsking, findM]
  | q :: M, e :: es, i, h => by
    simp only [List.map_cons, List.cons.injEq] at h
    have ih := run_findAsking p w M es (i + 1) h.2
    unfold Instr.findAsking
    simp only [Sem.run_bind, h.1, run_eq_pair, Result.andThen_ok, findM]
    cases prB p q
    · simpa using ih
    · simp
  | [], _ :: _, _, h => by simp at h
  | _ :: _, [], _, h => by simp at h
theorem run_findKey (p : Pr) (w : World) (M : List Pr) (es : List MapEntry) (h : es.map (·.key) = M.map Pr.val) : (Instr.findKey 95 p.val es).run Try.prog w = .ok (findM p M es 0) w := by
  unfold Instr.findKey
  rw [Sem.run_bind, run_underlying u95]
  simp only [Result.andThen_ok]
  cases es with
  | nil =>
    cases M with
    | nil => simp [Instr.findNow, findM]
    | cons q M => simp at h
  | cons e es =>
    have hs : Instr.sameNow (.array 2 9) p.val e.key = none := by simp [Instr.sameNow, Pr.val]
    simp only [Instr.findNow, hs]
    exact run_findAsking p w M (e :: es) 0 h

/-- What a variable of the map's type holds: a map whose keys are M. -/
def MapAt (w : World) (mv : Value) (M : List Pr) : Prop :=
  (mv = .map none ∧ M = []) ∨ ∃ r es clock, mv = .map (some r) ∧ w.heap[r]? = some (.map es clock) ∧ es.toList.map (·.key) = M.map Pr.val ∧ ∀ e ∈ es.toList, e.val = .bool true
def mapBlk : Value → Option Nat
  | .map r => r
  | _ => none
theorem MapAt.same {w w' : World} {mv : Value} {M : List Pr} (h : MapAt w mv M) (hs : ∀ k, mapBlk mv = some k → w'.heap[k]? = w.heap[k]?) : MapAt w' mv M := by
  rcases h with h | ⟨r, es, clock, rfl, hr, h1, h2⟩
  · exact .inl h
  · exact .inr ⟨r, es, clock, rfl, (hs r rfl).trans hr, h1, h2⟩
theorem MapAt.lt {w : World} {mv : Value} {M : List Pr} (h : MapAt w mv M) : ∀ k, mapBlk mv = some k → k < w.heap.size := fun k hk => by
  rcases h with ⟨rfl, _⟩ | ⟨r, es, clock, rfl, hr, _⟩
  · cases hk
  · cases hk; exact lt_of_heap hr
theorem MapAt.ne {w : World} {mv : Value} {M : List Pr} (h : MapAt w mv M) {k : Nat} {cs : Array Value} {T : TypeId} {fz : Nat × Nat} (hk : w.heap[k]? = some (.cells cs T fz)) : mapBlk mv ≠ some k := fun e => by
  rcases h with ⟨rfl, _⟩ | ⟨r, es, clock, rfl, hr, _⟩
  · cases e
  · cases e; rw [hr] at hk; cases hk

def memM (p : Pr) (M : List Pr) : Bool := M.any (prB p)
theorem findM_some (p : Pr) : ∀ (M : List Pr) (es : List MapEntry) (i : Nat), es.map (·.key) = M.map Pr.val → (∀ e ∈ es, e.val = .bool true) →
    (memM p M = true → ∃ j q, findM p M es i = some (i + j, .bool true) ∧ M[j]? = some q ∧ prB p q = true ∧ M.eraseP (prB p) = M.eraseIdx j) ∧ (memM p M = false → findM p M es i = none ∧ M.eraseP (prB p) = M)
  | [], [], i, _, _ => by simp [memM, findM]
  | q :: M, e :: es, i, h, ht => by
    simp only [List.map_cons, List.cons.injEq] at h
    have ih := findM_some p M es (i + 1) h.2 (fun x hx => ht x (by simp [hx]))
    have he := ht e (by simp)
    cases hq : prB p q
    · simp only [memM, List.any_cons, hq, Bool.false_or, findM, Bool.false_eq_true, if_false, List.eraseP_cons_of_neg (p := prB p) (by simp [hq] : ¬ prB p q = true)]
      refine ⟨fun hm => ?_, fun hm => ?_⟩
      · obtain ⟨j, q', h1, h2, h3, h4⟩ := ih.1 hm
        exact ⟨j + 1, q', by rw [h1]; congr 2; omega, by simpa using h2, h3, by rw [h4]; simp⟩
      · obtain ⟨h1, h2⟩ := ih.2 hm
        exact ⟨h1, by rw [h2]⟩
    · refine ⟨fun _ => ⟨0, q, by simp [findM, hq, he], by simp, hq, by rw [List.eraseP_cons_of_pos hq]; simp⟩, fun hm => by simp [memM, hq] at hm⟩
  | [], _ :: _, _, h, _ => by simp at h
  | _ :: _, [], _, h, _ => by simp at h

theorem run_lookup_pair (p : Pr) (w : World) (mv : Value) (M : List Pr) (h : MapAt w mv M) : (Instr.lookup 28 mv p.val false).run Try.prog w = .ok (.bool (memM p M)) w := by
  obtain ⟨i0, hi, hz0, hz1, hz2⟩ := info_parts Try.info4
  have hz : (zeroValue 4).run Try.prog w = .ok (.bool false) w := by simp [zeroValue, typeInfo, hi, hz0]
  rcases h with ⟨rfl, rfl⟩ | ⟨r, es, clock, rfl, hr, h1, h2⟩
  · have hf := run_findKey p w [] [] rfl
    simp only [findM] at hf
    simp [Instr.lookup, run_underlying u28, run_checkKey_pair, hf, hz, memM]
  · have hf := run_findKey p w M es.toList h1
    have hs := findM_some p M es.toList 0 h1 h2
    cases hm : memM p M
    · rw [(hs.2 hm).1] at hf
      simp [Instr.lookup, run_underlying u28, getObj, Sem.run, hr, run_checkKey_pair, hf, hz]
    · obtain ⟨j, q, h3, _⟩ := hs.1 hm
      rw [h3] at hf
      simp [Instr.lookup, run_underlying u28, getObj, Sem.run, hr, run_checkKey_pair, hf]

theorem kp_setObj (w : World) (r : Nat) (o : Obj) : Kp (fun k => k = r) w { w with heap := w.heap.setIfInBounds r o } :=
  ⟨rfl, rfl, rfl, by simp, fun k _ hk => by simp only [Array.getElem?_setIfInBounds]; rw [if_neg (fun e => hk e.symm)]⟩
theorem heap_setObj (w : World) (r : Nat) (o o' : Obj) (h : w.heap[r]? = some o') : ({ w with heap := w.heap.setIfInBounds r o } : World).heap[r]? = some o := by
  have := lt_of_heap h
  simp [this]

theorem bytes_ext {a b : ByteArray} (h : a.toList = b.toList) : a = b := by
  rw [ByteArray.toList_eq, ByteArray.toList_eq] at h
  obtain ⟨⟨x⟩⟩ := a
  obtain ⟨⟨y⟩⟩ := b
  simp only at h
  rw [h]
theorem beqB (a : ByteArray) : (a == a) = true := by rw [beq_toListBytes]; simp
theorem map_eraseIdx {α β : Type} (f : α → β) : ∀ (l : List α) (i : Nat), (l.eraseIdx i).map f = (l.map f).eraseIdx i
  | [], _ => by simp
  | _ :: _, 0 => by simp
  | _ :: l, i + 1 => by simp [map_eraseIdx f l i]
theorem prB_eq {p q : Pr} (h : prB p q = true) : p = q := by
  obtain ⟨a, b⟩ := p
  obtain ⟨c, d⟩ := q
  simp only [prB, Bool.and_eq_true, beq_iff_eq] at h
  rw [bytes_ext h.1, bytes_ext h.2]
theorem prB_self (p : Pr) : prB p p = true := by unfold prB; rw [beq_self_eq_true, beq_self_eq_true]; rfl

theorem run_keyStays (p : Pr) (w : World) : (Instr.keyThatStays p.val p.val).run Try.prog w = .ok p.val w := by
  have h : Instr.sameBits 10000 p.val p.val = true := by
    show Instr.sameBits (9999 + 1) _ _ = true
    simp [Instr.sameBits, Pr.val, beqB]
  simp [Instr.keyThatStays, h]

/-- 'm[p] = true' on a map that is not nil. -/
theorem run_update_pair (p : Pr) (w : World) (r : Nat) (M : List Pr) (h : MapAt w (.map (some r)) M) :
    ∃ w', (Instr.mapUpdate 28 (.map (some r)) p.val (.bool true)).run Try.prog w = .ok () w' ∧ MapAt w' (.map (some r)) (if memM p M then M else M ++ [p]) ∧ Kp (fun k => k = r) w w' := by
  rcases h with ⟨h0, _⟩ | ⟨r', es, clock, h0, hr, h1, h2⟩
  · cases h0
  cases h0
  have hf := run_findKey p w M es.toList h1
  have hs := findM_some p M es.toList 0 h1 h2
  cases hm : memM p M
  · rw [(hs.2 hm).1] at hf
    refine ⟨_, by simp [Instr.mapUpdate, run_underlying u28, getObj, setObj, Sem.run, hr, run_checkKey_pair, hf]; rfl, ?_, kp_setObj w r _⟩
    refine .inr ⟨r, _, _, rfl, heap_setObj w r _ _ hr, ?_, ?_⟩
    · simp [h1]
    · intro e he
      simp at he
      rcases he with he | rfl
      · exact h2 e (by simpa using he)
      · rfl
  · obtain ⟨j, q, h3, h4, h5, _⟩ := hs.1 hm
    obtain rfl := prB_eq h5
    rw [h3] at hf
    have hk : ((es[j]?).map (·.key)).getD p.val = p.val := by
      have := congrArg (·[j]?) h1
      simp only [List.getElem?_map, h4, Option.map_some, Array.getElem?_toList] at this
      simp [this]
    refine ⟨_, by simp [Instr.mapUpdate, run_underlying u28, getObj, setObj, Sem.run, hr, run_checkKey_pair, hf, hk, run_keyStays]; rfl, ?_, kp_setObj w r _⟩
    refine .inr ⟨r, _, _, rfl, heap_setObj w r _ _ hr, ?_, ?_⟩
    · simp only [if_true]
      rw [← h1]
      apply List.ext_getElem?
      intro i
      simp only [List.getElem?_map, Array.getElem?_toList, Array.getElem?_modify]
      split
      · rename_i e
        subst e
        have := congrArg (·[j]?) h1
        simp only [List.getElem?_map, h4, Option.map_some, Array.getElem?_toList] at this
        cases hz : es[j]? with
        | none => simp [hz] at this
        | some e => simp [hz] at this ⊢; simp [this]
      · rfl
    · intro e he
      simp only [Array.mem_toList_iff, Array.mem_iff_getElem?, Array.getElem?_modify] at he
      obtain ⟨i, hi⟩ := he
      split at hi
      · cases hz : es[i]? with
        | none => simp [hz] at hi
        | some e' => simp [hz] at hi; rw [← hi]
      · exact h2 e (by simp only [Array.mem_toList_iff, Array.mem_iff_getElem?]; exact ⟨i, hi⟩)

/-- 'delete(m, p)'. -/
theorem run_delete_pair (p : Pr) (w : World) (mv : Value) (ty kt : TypeId) (M : List Pr) (h : MapAt w mv M) :
    ∃ w', (Builtin.delete_ #[28, kt] ty #[mv, p.val]).run Try.prog w = .ok (.tuple #[]) w' ∧ MapAt w' mv (M.eraseP (prB p)) ∧ Kp (fun k => mapBlk mv = some k) w w' := by
  rcases h with ⟨rfl, rfl⟩ | ⟨r, es, clock, rfl, hr, h1, h2⟩
  · exact ⟨w, by simp [Builtin.delete_, run_underlying u28, run_checkKey_pair], .inl ⟨rfl, rfl⟩, Kp.refl _ _⟩
  have hf := run_findKey p w M es.toList h1
  have hs := findM_some p M es.toList 0 h1 h2
  have hkp : ∀ o, Kp (fun k => mapBlk (.map (some r)) = some k) w { w with heap := w.heap.setIfInBounds r o } := fun o => (kp_setObj w r o).mono (fun k _ e => by subst e; rfl)
  cases hm : memM p M
  · rw [(hs.2 hm).1] at hf
    refine ⟨_, by simp [Builtin.delete_, run_underlying u28, getObj, setObj, Sem.run, hr, run_checkKey_pair, hf]; rfl, ?_, hkp _⟩
    rw [(hs.2 hm).2]
    exact .inr ⟨r, _, _, rfl, heap_setObj w r _ _ hr, h1, h2⟩
  · obtain ⟨j, q, h3, h4, h5, h6⟩ := hs.1 hm
    rw [h3] at hf
    refine ⟨_, by simp [Builtin.delete_, run_underlying u28, getObj, setObj, Sem.run, hr, run_checkKey_pair, hf]; rfl, ?_, hkp _⟩
    refine .inr ⟨r, _, _, rfl, heap_setObj w r _ _ hr, ?_, ?_⟩
    · rw [h6, map_eraseIdx, ← h1, ← map_eraseIdx]
      simp
    · intro e he
      exact h2 e (by simp at he; exact List.mem_of_mem_eraseIdx he)
end Go.Proofs.Ytnkcgalbaeppmaa
