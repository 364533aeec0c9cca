/- Texts joined into one: Seq It1 It2 It3 Rf1. -/
import Derived.RangeFuncNested
import Derived.RangeFuncBound
import Derived.RangeFuncCalls
import Derived.RangeFuncLeaves
import Derived.Shelf.Abstract
import Derived.Shelf.RegionOpen
import Derived.WalkKit
import Derived.OwnWalkIn
import Derived.TacticsInMore
import Derived.LoopNIn
import Derived.LoopIn
import Derived.Test.YtnkcgalbaeppmaaM4
/- A range over a function whose iterator hands over what lies in memory: its contract, and the caller's law. -/
namespace Go.Proofs.Ytnkcgalbaeppmaa
open Go.RowKit
variable {F : Fence} {n : Nat} {P : Program}

/-- What an iterator promises: N rounds; in the k-th it hands over what 'Arg' says; it asks that 'Ok' holds between the rounds. -/
def Gives (F : Fence) (n : Nat) (P : Program) (g : Nat) (lb : Array Value) (Arg : Nat → Nat → Array Value → World → Prop) (N : Nat) (Ok : World → Prop) : Prop :=
  ∀ (l : Nat) (J : Nat → World → Prop) (Jx : World → Prop) (W : World),
    (∀ k X Y, J k X → Below X.heap.size X Y → J k Y) → (∀ X Y, Jx X → Below X.heap.size X Y → Jx Y) → (∀ k X, J k X → Ok X ∧ W.heap.size ≤ X.heap.size) →
    (∀ k args X, J k X → k < N → Arg W.heap.size k args X → YieldAt F (n - 1) P l args X fun e Y => (e = .returned (.bool true) ∧ J (k + 1) Y) ∨ (e = .returned (.bool false) ∧ Jx Y)) →
    J 0 W → CallsIn F n P g (#[.func (.yield l) #[] #[]] ++ lb) W fun e Y => (∃ v, e = .returned v) ∧ (J N Y ∨ Jx Y)

/-- How a round may be left. -/
def leftPost (B : Nat) (I : Nat → World → Prop) (Ix : Code → World → Prop) (k : Nat) (W : World) : Exit → Act → World → Prop
  | .normal, _, W' => KeepsFrom B W W' ∧ I (k + 1) W'
  | .ret, _, W' => KeepsFrom B W W' ∧ Ix .ret W'
  | .exit id, _, W' => KeepsFrom B W W' ∧ Ix (.exit id) W'
  | .goto t, _, W' => KeepsFrom B W W' ∧ Ix (.goto t) W'
  | .panic _, _, _ => False
  | .outgrown, _, _ => False

theorem below_put {B : Nat} {W : World} {l : Nat} {o : Obj} (o' : Obj) (hB : B ≤ l) (hl : W.heap[l]? = some o) : Below B W (W.putObj l o') :=
  (Below.refl B W).grown (grownBy_putObj' W l o') (by have := (Array.getElem?_eq_some_iff.1 hl).1; omega) (fun k e => by cases e; exact hB)

/-- The caller's law. -/
theorem wpIn_rangeFunc_gives {g : Operand} {ps : Array Tmp} {assign body : Code} {Q : Exit → Act → World → Prop} {a : Act} {w : World}
    (hro : F.round = none) (h1 : 1 ≤ n) {gf : Nat} {lb : Array Value} (hg : a.eval g = .func (.func gf) #[] lb) (hFg : F.fn gf) (eg : ∀ args w, (callFunc gf args).run P w = .ok (.enter gf args) w)
    {Arg : Nat → Nat → Array Value → World → Prop} {N : Nat} {Ok : World → Prop} (hseq : Gives F (n - 1) P gf lb Arg N Ok) (hps : ∀ B k args X, Arg B k args X → args.size = ps.size)
    (I : Nat → World → Prop) (Ix : Code → World → Prop) (hI : ∀ k X Y, I k X → Below w.heap.size X Y → I k Y) (hIx : ∀ c X Y, Ix c X → Below w.heap.size X Y → Ix c Y) (hOk : ∀ k X, I k X → Ok X) (h0 : I 0 w)
    (hround : ∀ (l k : Nat) (args : Array Value) (X : World), k < N → I k X → w.heap.size ≤ X.heap.size → Arg (w.heap.size + 2) k args X →
      assign.wpIn (F.inRound l) (n - 1 - 1) P (Exit.then (fun a' Y => KeepsFrom w.heap.size X Y ∧ I k Y ∧ ∀ o o', Y.heap[l]? = some o → o.isCells = false → w.heap.size ≤ l →
        body.wpIn (F.inRound l) (n - 1 - 1) P (leftPost w.heap.size I Ix k (Y.putObj l o')) a' (Y.putObj l o')) (fun _ _ _ => False)) { tmps := (ps.zip args).foldl (fun t (p, v) => t.setIfInBounds p v) a.tmps, defers := [] } X)
    (hdone : ∀ (D : Nat) (X : World), w.heap.size ≤ D → I N X → X.heap[D]? = some (.deferred (some [])) → Q .normal { a with defers := { target := .collected D, args := #[] } :: a.defers } X)
    (hstop : ∀ (D : Nat) (c : Code) (X : World), w.heap.size ≤ D → Ix c X → X.heap[D]? = some (.deferred (some [])) → c.wpIn F n P Q { a with defers := { target := .collected D, args := #[] } :: a.defers } X) :
    (Code.rangeFunc g ps assign body).wpIn F n P Q a w := by
  refine wpIn_rangeFunc ?_
  intro fn hfn
  rw [hro]
  obtain ⟨rec, hrec⟩ : ∃ rec : LoopState → Option Code → Loop, rec = fun st pe => { state := st, pending := pe, fn, tmps := a.tmps, params := ps, assign, body, defers := w.heap.size } := ⟨_, rfl⟩
  obtain ⟨W1, hW1⟩ : ∃ W1, (w.alloc (.deferred (some []))).alloc (.loop (rec .ready none)) = W1 := ⟨_, rfl⟩
  have hL1 : W1.heap[w.heap.size + 1]? = some (.loop (rec .ready none)) := by
    rw [← hW1]; have := World.alloc_heap_new (w.alloc (.deferred (some []))) (.loop (rec .ready none)); rwa [World.size_alloc] at this
  have hK1 : W1.heap[w.heap.size]? = some (.deferred (some [])) := by
    rw [← hW1]; exact (Below.heap_alloc _ _ _ (by simp)).trans (World.alloc_heap_new w _)
  have hs1 : W1.heap.size = w.heap.size + 2 := by rw [← hW1]; simp
  have hI1 : I 0 W1 := by rw [← hW1]; exact hI _ _ _ h0 (((Below.refl _ w).alloc (Nat.le_refl _) _).alloc (by simp) _)
  refine ⟨w.heap.size + 1, [{ target := .collected w.heap.size, args := #[] }], W1, { target := .fn (.func gf) lb, args := #[.func (.yield (w.heap.size + 1)) #[] #[]] }, W1, gf,
    #[.func (.yield (w.heap.size + 1)) #[] #[]] ++ lb, W1, ?_, ?_, ?_, ?_, fun _ => h1, ?_⟩
  · rw [← hW1, hrec]; exact run_enterLoop_outer _ _ _ _ _
  · simp only [resolve, hg]
    simp [go_sem]
  · intro f' hf'; simp [Target.leads] at hf'; subst hf'; exact hFg
  · simp [invoke, go_sem, eg]
  · refine (hseq (w.heap.size + 1)
      (fun k W => I k W ∧ W.heap[w.heap.size + 1]? = some (.loop (rec .ready none)) ∧ W.heap[w.heap.size]? = some (.deferred (some [])) ∧ w.heap.size + 2 ≤ W.heap.size)
      (fun W => ∃ c, Ix c W ∧ W.heap[w.heap.size + 1]? = some (.loop (rec .done (some c))) ∧ W.heap[w.heap.size]? = some (.deferred (some [])) ∧ w.heap.size + 2 ≤ W.heap.size)
      W1
      (fun k X Y hs hb => ⟨hI k X Y hs.1 (hb.mono (by omega)), (hb.block _ (by omega)).trans hs.2.1, (hb.block _ (by omega)).trans hs.2.2.1, Nat.le_trans hs.2.2.2 hb.size⟩)
      (fun X Y ⟨c, hc, hl, hk, hz⟩ hb => ⟨c, hIx c X Y hc (hb.mono (by omega)), (hb.block _ (by omega)).trans hl, (hb.block _ (by omega)).trans hk, Nat.le_trans hz hb.size⟩)
      (fun k X hs => ⟨hOk k X hs.1, by rw [hs1]; exact hs.2.2.2⟩)
      ?_ ⟨hI1, hL1, hK1, by omega⟩).mono ?_
    · -- one round
      rintro k args W ⟨hi, hl, hk, hz⟩ hlen harg
      rw [hs1] at harg
      have hlt : w.heap.size + 1 < W.heap.size := (Array.getElem?_eq_some_iff.1 hl).1
      have hy := run_yield (P := P) (args := args) hl (by rw [hrec]; exact hps _ _ _ _ harg)
      rw [hrec] at hy
      refine ⟨fn, _, assign, body, hy, roundIn_of_wpIn hfn (wpIn_mono (hround _ k args W hlen hi (by omega) harg) ?_)⟩
      clear hy harg
      intro e1 a' Wa h1a
      cases e1 <;> try exact h1a.elim
      obtain ⟨hkfa, hia, hax⟩ := h1a
      replace hl := hkfa.same _ _ (by omega) hl rfl
      replace hk := hkfa.same _ _ (Nat.le_refl _) hk rfl
      replace hlt : w.heap.size + 1 < Wa.heap.size := (Array.getElem?_eq_some_iff.1 hl).1
      clear hi hz hkfa
      refine ⟨_, run_beginRound hl (by rw [hrec]), ?_⟩
      have hl2 : (Wa.putObj (w.heap.size + 1) (.loop { rec .ready none with state := .busy })).heap[w.heap.size + 1]? = some (.loop { rec .ready none with state := .busy }) := World.putObj_heap_same hlt
      have hk2 : (Wa.putObj (w.heap.size + 1) (.loop { rec .ready none with state := .busy })).heap[w.heap.size]? = some (.deferred (some [])) := (World.putObj_heap_other (by omega)).trans hk
      refine wpIn_mono (hax _ _ hl rfl (by omega)) ?_
      have fin : ∀ (jump : Option Code) (W3 : World), KeepsFrom w.heap.size (Wa.putObj (w.heap.size + 1) (.loop { rec .ready none with state := .busy })) W3 →
          (Instr.endRound (w.heap.size + 1) jump).run P W3 = .ok (.bool jump.isNone) (W3.putObj (w.heap.size + 1) (.loop (rec (if jump.isNone then .ready else .done) jump))) ∧
          W3.heap[w.heap.size + 1]? = some (.loop { rec .ready none with state := .busy }) ∧
          (W3.putObj (w.heap.size + 1) (.loop (rec (if jump.isNone then .ready else .done) jump))).heap[w.heap.size + 1]? = some (.loop (rec (if jump.isNone then .ready else .done) jump)) ∧
          (W3.putObj (w.heap.size + 1) (.loop (rec (if jump.isNone then .ready else .done) jump))).heap[w.heap.size]? = some (.deferred (some [])) ∧ w.heap.size + 2 ≤ (W3.putObj (w.heap.size + 1) (.loop (rec (if jump.isNone then .ready else .done) jump))).heap.size := fun jump W3 hk3 => by
        have hl3 := hk3.same _ _ (by omega) hl2 rfl
        have hlt3 := (Array.getElem?_eq_some_iff.1 hl3).1
        have := run_endRound (P := P) jump hl3
        rw [hrec] at this ⊢
        exact ⟨this, by rw [hrec] at hl3; exact hl3, World.putObj_heap_same (Array.getElem?_eq_some_iff.1 hl3).1, (World.putObj_heap_other (by omega)).trans (hk3.same _ _ (Nat.le_refl _) hk2 rfl), by simp; omega⟩
      rintro e a3 W3 hp
      cases e with
      | normal =>
        obtain ⟨hk3, hi3⟩ := hp
        obtain ⟨hr, hl3, hl4, hk4, hz4⟩ := fin none W3 hk3
        exact ⟨_, _, hr, .inl ⟨rfl, hI _ _ _ hi3 (below_put _ (by omega) hl3), hl4, hk4, hz4⟩⟩
      | ret =>
        obtain ⟨hk3, hi3⟩ := hp
        obtain ⟨hr, hl3, hl4, hk4, hz4⟩ := fin (some .ret) W3 hk3
        exact ⟨_, _, hr, .inr ⟨rfl, .ret, hIx _ _ _ hi3 (below_put _ (by omega) hl3), hl4, hk4, hz4⟩⟩
      | exit id =>
        obtain ⟨hk3, hi3⟩ := hp
        obtain ⟨hr, hl3, hl4, hk4, hz4⟩ := fin (some (.exit id)) W3 hk3
        exact ⟨_, _, hr, .inr ⟨rfl, .exit id, hIx _ _ _ hi3 (below_put _ (by omega) hl3), hl4, hk4, hz4⟩⟩
      | goto t =>
        obtain ⟨hk3, hi3⟩ := hp
        obtain ⟨hr, hl3, hl4, hk4, hz4⟩ := fin (some (.goto t)) W3 hk3
        exact ⟨_, _, hr, .inr ⟨rfl, .goto t, hIx _ _ _ hi3 (below_put _ (by omega) hl3), hl4, hk4, hz4⟩⟩
      | panic ch => exact hp.elim
      | outgrown => exact hp.elim
    · rintro e W2 ⟨⟨v, rfl⟩, (⟨hi, hl, hk, hz⟩ | ⟨c, hi, hl, hk, hz⟩)⟩
      · exact ⟨none, _, by have := run_endLoop (P := P) hl (by rw [hrec]; simp); rw [hrec] at this; exact this, hdone _ _ (Nat.le_refl _) (hI _ _ _ hi (below_put _ (by omega) hl)) ((World.putObj_heap_other (by omega)).trans hk)⟩
      · exact ⟨some c, _, by have := run_endLoop (P := P) hl (by rw [hrec]; simp); rw [hrec] at this; exact this, hstop _ c _ (Nat.le_refl _) (hIx c _ _ hi (below_put _ (by omega) hl)) ((World.putObj_heap_other (by omega)).trans hk)⟩
end Go.Proofs.Ytnkcgalbaeppmaa
/- The iterators' contracts. -/
namespace Go.Proofs.Ytnkcgalbaeppmaa
open Go.RowKit
attribute [local go_sem] Oper.semAt_some
/-- The events that an iterator holds. -/
def EvSeq (B : Nat) (v : Value) (evs : List EvM) (X : World) : Prop :=
  X.heap[B]? = some (.cells #[v] 29 (0, 0)) ∧ X.ownsRow 0 61 3 v evs.length (evs.flatMap EvM.cells)
def EvM.val (e : EvM) : Value := .agg #[.int .i64 e.kind, .int .i64 e.id, .int .i64 e.fr]
def EvArg (evs : List EvM) (_ : Nat) (k : Nat) (args : Array Value) (_ : World) : Prop := ∃ x, evs[k]? = some x ∧ args = #[.int .i64 k, x.val]
theorem ev_cells {w : World} {B g n cap : Nat} {es : List EvM} (h : w.ownsRow B 61 3 (.slice (some ⟨g, 0, none⟩) n cap) n (es.flatMap EvM.cells)) {k : Nat} {x : EvM} (hx : es[k]? = some x) :
    w.cell? ⟨g, k * 3, none⟩ = some (.int .i64 x.kind) ∧ w.cell? ⟨g, k * 3 + 1, none⟩ = some (.int .i64 x.id) ∧ w.cell? ⟨g, k * 3 + 2, none⟩ = some (.int .i64 x.fr) := by
  have h0 := own_cell EvM.cells_len h hx (j := 0) (by decide)
  have h1 := own_cell EvM.cells_len h hx (j := 1) (by decide)
  have h2 := own_cell EvM.cells_len h hx (j := 2) (by decide)
  exact ⟨h0, h1, h2⟩
set_option maxHeartbeats 800000 in
set_option maxRecDepth 100000 in
theorem events_gives (F : Fence) (n : Nat) (hF : F.fn 44) (hro : F.round = none) (hn : 1 ≤ n) (B : Nat) (v : Value) (evs : List EvM) (hl : evs.length ≤ 50000) :
    Gives F n Try.prog 44 #[.pointer (some ⟨B, 0, none⟩)] (EvArg evs) evs.length (EvSeq B v evs) := by
  intro l J Jx W hJ hJx hOk hY h0
  obtain ⟨⟨hb, ho⟩, _⟩ := hOk _ _ h0
  obtain ⟨b0, _, bl⟩ := blk1 hb
  obtain ⟨a, c, rfl, hv⟩ := ownsRow_slice ho
  have hJ' := Lib.hid hJ
  have hJx' := Lib.hid hJx
  have hOk' := Lib.hid hOk
  have hY' := Lib.hid hY
  clear hJ hJx hOk hY
  refine callsIn_of_wp Try.func44 rfl hF ?_ hro
  simp only [Try.ntmps44, List.size_toArray, List.length_cons, List.length_nil, Nat.reduceAdd, Nat.reduceSub, Array.replicate_succ, Array.replicate_zero, List.push_toArray, List.append_toArray, List.nil_append, List.cons_append]
  gi_wp2
  gi_loopw [3, 4, 7] (fun _ _ i wr => ∃ k : Nat, k ≤ evs.length ∧ i = .int .i64 k ∧ J k wr) (fun _ _ i _ => evs.length - (intOf i).toNat)
  case atStart => exact ⟨0, Nat.zero_le _, rfl, h0⟩
  case round =>
    obtain ⟨k, hk, rfl, hj⟩ := hrel
    by_cases hlt : k < evs.length
    · obtain ⟨⟨_, ho1⟩, _⟩ := hOk'.out _ _ hj
      obtain ⟨x, hx⟩ : ∃ x, evs[k]? = some x := ⟨_, List.getElem?_eq_getElem hlt⟩
      obtain ⟨g, cap, hg, _, hlg⟩ := ho1.form (by omega)
      injection hg with hg1 _ hg2
      subst hg1 hg2
      obtain ⟨d0, d1, d2⟩ := ev_cells ho1 hx
      have i0 : (0 : Int) ≤ (k : Int) := by omega
      have i1 : (k : Int) < (evs.length : Int) := by omega
      have i2 : (evs.length : Int) ≤ 50000 := by omega
      have hj2 := hJ'.out k wr (wr.alloc (.cells #[.int .i64 x.kind, .int .i64 x.id, .int .i64 x.fr] 61)) hj ((Below.refl _ _).alloc (Nat.le_refl _) _)
      obtain ⟨fn, tmps, assign, body, hy, hR⟩ := hY'.out k #[.int .i64 k, x.val] _ hj2 hlt ⟨x, hx, rfl⟩
      simp only [EvM.val] at hy
      clear hj hj2 ho1 b0 hb ho h0 bl
      gi_wp2
      refine hR.mono ?_
      clear d0 d1 d2 hy
      rintro e W3 (⟨rfl, hJ3⟩ | ⟨rfl, hJx3⟩)
      · gi_wp2
        go_roundw
        case rel => exact ⟨k + 1, by omega, by go_num, hJ3⟩
        case measure => simp [intOf]; omega
      · gi_wp2
        refine bodyPost_ret (results_none rfl _ _ _) rfl ?_
        exact ⟨⟨_, rfl⟩, .inr hJx3⟩
    · obtain rfl : k = evs.length := by omega
      gi_wp2
      go_end0
      exact ⟨⟨_, rfl⟩, .inl hj⟩
end Go.Proofs.Ytnkcgalbaeppmaa
/- The history's iterator. -/
namespace Go.Proofs.Ytnkcgalbaeppmaa
open Go.RowKit
attribute [local go_sem] Oper.semAt_some
/-- The packets that an iterator holds. -/
structure PkSeq (B : Nat) (v : Value) (hs : List PV) (pks : List Pk) (X : World) : Prop where
  box : X.heap[B]? = some (.cells #[v] 26 (0, 0))
  own : X.ownsRow 0 40 3 v pks.length (hs.flatMap PV.cells)
  p : Both (POwn X) hs pks
/-- What a round is handed: a number and a packet in memory of its own. -/
def PkArg (ms : List (Int × Pk)) (B : Nat) (k : Nat) (args : Array Value) (X : World) : Prop :=
  ∃ x q, ms[k]? = some x ∧ args = #[.int .i64 x.1, PV.val q] ∧ POwn X q x.2 ∧ ∀ b, q.blk = some b → B ≤ b
def numbered (pks : List Pk) : List (Int × Pk) := pks.zipIdx.map fun x => ((x.2 : Int), x.1)
theorem numbered_at {pks : List Pk} {k : Nat} {m : Pk} (h : pks[k]? = some m) : (numbered pks)[k]? = some ((k : Int), m) := by
  simp [numbered, h]
theorem numbered_len (pks : List Pk) : (numbered pks).length = pks.length := by simp [numbered]
def Round (J : World → Prop) (Jx : World → Prop) (b : Bool) (W : World) : Prop := if b then J W else Jx W
theorem round_of {J Jx : World → Prop} {e : Ending} {W : World} (h : (e = .returned (.bool true) ∧ J W) ∨ (e = .returned (.bool false) ∧ Jx W)) : ∃ b, e = .returned (.bool b) ∧ Round J Jx b W := by
  rcases h with ⟨rfl, h⟩ | ⟨rfl, h⟩
  · exact ⟨true, rfl, h⟩
  · exact ⟨false, rfl, h⟩
set_option maxHeartbeats 800000 in
set_option maxRecDepth 100000 in
theorem history_gives (n : Nat) (hn : 1 ≤ n) (B : Nat) (v : Value) (hs : List PV) (pks : List Pk) (hl : pks.length ≤ 50000) (hok : ∀ m ∈ pks, m.ok) :
    Gives Fence.wide n Try.prog 42 #[.pointer (some ⟨B, 0, none⟩)] (PkArg (numbered pks)) pks.length (PkSeq B v hs pks) := by
  intro l J Jx W hJ hJx hOk hY h0
  obtain ⟨hS, _⟩ := hOk _ _ h0
  obtain ⟨b0, _, bl⟩ := blk1 hS.box
  obtain ⟨a, c, rfl, hv⟩ := ownsRow_slice hS.own
  have hJ' := Lib.hid hJ
  have hJx' := Lib.hid hJx
  have hOk' := Lib.hid hOk
  have hY' := Lib.hid hY
  clear hJ hJx hOk hY
  refine callsIn_of_wp Try.func42 rfl trivial ?_ rfl
  simp only [Try.ntmps42, List.size_toArray, List.length_cons, List.length_nil, Nat.reduceAdd, Nat.reduceSub, Array.replicate_succ, Array.replicate_zero, List.push_toArray, List.append_toArray, List.nil_append, List.cons_append]
  gi_wp2
  gi_loopw [3, 4, 7] (fun _ _ i wr => ∃ k : Nat, k ≤ pks.length ∧ i = .int .i64 k ∧ J k wr) (fun _ _ i _ => pks.length - (intOf i).toNat)
  case atStart => exact ⟨0, Nat.zero_le _, rfl, h0⟩
  case round =>
    obtain ⟨k, hk, rfl, hj⟩ := hrel
    by_cases hlt : k < pks.length
    · obtain ⟨hS1, hz1⟩ := hOk'.out _ _ hj
      obtain ⟨m, hm⟩ : ∃ m, pks[k]? = some m := ⟨_, List.getElem?_eq_getElem hlt⟩
      obtain ⟨x, hx, hxm⟩ := hS1.p.at hm
      have ho1 := hS1.own
      obtain ⟨g, cap, hg, _, hlg⟩ := ho1.form (by omega)
      injection hg with hg1 _ hg2
      subst hg1 hg2
      obtain ⟨d0, d1, d2⟩ := hist_cells ho1 hx
      have hmk := hok m (List.mem_of_getElem? hm)
      have i0 : (0 : Int) ≤ (k : Int) := by omega
      have i1 : (k : Int) < (pks.length : Int) := by omega
      have i2 : (pks.length : Int) ≤ 50000 := by omega
      have hb1 := (Below.refl wr.heap.size wr).alloc (Nat.le_refl _) (.cells #[.string x.f, .string x.t, .slice x.ba x.bn x.bc] 40)
      have hp1 := (hxm.below hb1 (Nat.le_refl _)).pin
      clear ho1 b0 hS h0 bl hS1
      gi_wp2
      refine ⟨trivial, callsIn_wide.2 ((clone_any x m _ hp1 (by have := hxm.n; have := hmk.bs; omega)).mono ?_)⟩
      rintro e w2 ⟨q, rfl, hq, hqb, hbl⟩
      have hb2 := hb1.trans (hbl.mono hb1.size)
      have hj2 := hJ'.out k wr w2 hj hb2
      obtain ⟨fn, tmps, assign, body, hy, hR⟩ := hY'.out k #[.int .i64 k, q.val] w2 hj2 hlt ⟨((k : Int), m), q, numbered_at hm, rfl, hq, fun b hb => by have := hqb b hb; have := hb1.size; omega⟩
      obtain ⟨qf, qt, qa, qn, qc⟩ := q
      simp only [PV.val] at hy ⊢
      clear hj hj2 hp1 hb1 hb2 hbl d0 d1 d2
      gi_wp2
      refine hR.mono ?_
      clear hy hq hqb
      rintro e W3 (⟨rfl, hJ3⟩ | ⟨rfl, hJx3⟩)
      · gi_wp2
        go_roundw
        case rel => exact ⟨k + 1, by omega, by go_num, hJ3⟩
        case measure => simp [intOf]; omega
      · gi_wp2
        refine bodyPost_ret (results_none rfl _ _ _) rfl ?_
        exact ⟨⟨_, rfl⟩, .inr hJx3⟩
    · obtain rfl : k = pks.length := by omega
      gi_wp2
      go_end0
      exact ⟨⟨_, rfl⟩, .inl hj⟩
end Go.Proofs.Ytnkcgalbaeppmaa
/- The iterator over packets in flight. -/
namespace Go.Proofs.Ytnkcgalbaeppmaa
open Go.RowKit
attribute [local go_sem] Oper.semAt_some
/-- The packets in flight that an iterator holds. -/
structure FlSeq (B : Nat) (v : Value) (qs : List FV) (fs : List FlM) (X : World) : Prop where
  box : X.heap[B]? = some (.cells #[v] 27 (0, 0))
  own : X.ownsRow 0 86 5 v fs.length (qs.flatMap FV.cells)
  p : Both (FOwn X) qs fs
def idPk (fs : List FlM) : List (Int × Pk) := fs.map fun m => (m.id, m.pk)
set_option maxHeartbeats 1600000 in
set_option maxRecDepth 100000 in
theorem flight_gives (n : Nat) (hn : 1 ≤ n) (B : Nat) (v : Value) (qs : List FV) (fs : List FlM) (hl : fs.length ≤ 50000) (hok : ∀ m ∈ fs, m.pk.ok) :
    Gives Fence.wide n Try.prog 40 #[.pointer (some ⟨B, 0, none⟩)] (PkArg (idPk fs)) fs.length (FlSeq B v qs fs) := by
  intro l J Jx W hJ hJx hOk hY h0
  obtain ⟨hS, _⟩ := hOk _ _ h0
  obtain ⟨b0, _, bl⟩ := blk1 hS.box
  obtain ⟨a, c, rfl, hv⟩ := ownsRow_slice hS.own
  have hJ' := Lib.hid hJ
  have hJx' := Lib.hid hJx
  have hOk' := Lib.hid hOk
  have hY' := Lib.hid hY
  have hmix : Try.prog.follows .mixedOrders = true := by kernel_rfl
  clear hJ hJx hOk hY
  refine callsIn_of_wp Try.func40 rfl trivial ?_ rfl
  simp only [Try.ntmps40, List.size_toArray, List.length_cons, List.length_nil, Nat.reduceAdd, Nat.reduceSub, Array.replicate_succ, Array.replicate_zero, List.push_toArray, List.append_toArray, List.nil_append, List.cons_append]
  gi_wp2
  gi_loopw [4, 7] (fun _ i wr => ∃ k : Nat, k ≤ fs.length ∧ i = .int .i64 k ∧ J k wr) (fun _ i _ => fs.length - (intOf i).toNat)
  case atStart => exact ⟨0, Nat.zero_le _, rfl, h0⟩
  case round =>
    obtain ⟨k, hk, rfl, hj⟩ := hrel
    by_cases hlt : k < fs.length
    · obtain ⟨hS1, hz1⟩ := hOk'.out _ _ hj
      obtain ⟨m, hm⟩ : ∃ m, fs[k]? = some m := ⟨_, List.getElem?_eq_getElem hlt⟩
      obtain ⟨x, hx, hxm⟩ := hS1.p.at hm
      have ho1 := hS1.own
      obtain ⟨g, cap, hg, _, hlg⟩ := ho1.form (by omega)
      injection hg with hg1 _ hg2
      subst hg1 hg2
      obtain ⟨d0, d1, d2, d3, d4⟩ := fly_cells ho1 hx
      rw [hxm.id] at d3
      have hmk := hok m (List.mem_of_getElem? hm)
      have i0 : (0 : Int) ≤ (k : Int) := by omega
      have i1 : (k : Int) < (fs.length : Int) := by omega
      have i2 : (fs.length : Int) ≤ 50000 := by omega
      have hb1 := (Below.refl wr.heap.size wr).alloc (Nat.le_refl _) (.cells #[.string x.p.f, .string x.p.t, .slice x.p.ba x.p.bn x.p.bc, .int .i64 m.id, .int .i64 x.src] 86)
      have e1 := heap_alloc_new wr (.cells #[.string x.p.f, .string x.p.t, .slice x.p.ba x.p.bn x.p.bc, .int .i64 m.id, .int .i64 x.src] 86)
      have hp1 := (hxm.p.below hb1.drew (Nat.le_refl _)).pin
      have HM := Lib.hid hm
      have hbn : x.p.bn ≤ 100000 := by have := hxm.p.n; have := hmk.bs; omega
      clear ho1 b0 hS h0 bl hS1 hm hx hxm
      gi_wp2
      have hb2 := hb1.drew
      replace e1 : (wr.alloc (.cells #[.string x.p.f, .string x.p.t, .slice x.p.ba x.p.bn x.p.bc, .int .i64 m.id, .int .i64 x.src] 86)).drew.heap[wr.heap.size]? = some (.cells #[.string x.p.f, .string x.p.t, .slice x.p.ba x.p.bn x.p.bc, .int .i64 m.id, .int .i64 x.src] 86) := e1
      obtain ⟨p0, p1, p2, p3, p4, _, _⟩ := blk5 e1
      clear hb1 d0 d1 d2 d3 d4
      gi_region_with_o (first
        | (refine ⟨trivial, callsIn_wide.2 ((clone_any x.p m.pk _ hp1 hbn).mono ?_)⟩
           rintro e w2 ⟨⟨qf, qt, qa, qn, qc⟩, rfl, hq, hqb, hbl⟩
           have hb3 := hb2.trans (hbl.mono hb2.size)
           have hj2 := hJ'.out k wr w2 hj hb3
           have hqb3 : ∀ b, PV.blk ⟨qf, qt, qa, qn, qc⟩ = some b → W.heap.size ≤ b := fun b hb => by have := hqb b hb; have := hb2.size; omega
           obtain ⟨fn, tmps, assign, body, hy, hR⟩ := hY'.out k #[.int .i64 m.id, PV.val ⟨qf, qt, qa, qn, qc⟩] w2 hj2 hlt ⟨(m.id, m.pk), ⟨qf, qt, qa, qn, qc⟩, by simp [idPk, HM.out], rfl, hq, hqb3⟩
           have e2 := (hbl.block _ (lt_of_heap e1)).trans e1
           obtain ⟨r0, r1, r2, r3, r4, _, _⟩ := blk5 e2
           simp only [PV.val] at hy ⊢
           clear hqb3 hqb hbl hb3 hj2 hq)
        | (refine hR.mono ?_
           clear hy
           rintro e W3 h3
           obtain ⟨bb, rfl, h4⟩ := round_of h3
           clear h3))
      all_goals
        cases bb
        · gi_wp2
          refine bodyPost_ret (results_none rfl _ _ _) rfl ?_
          exact ⟨⟨_, rfl⟩, .inr h4⟩
        · gi_wp2
          go_roundw
          case rel => exact ⟨k + 1, by omega, by go_num, h4⟩
          case measure => simp [intOf]; omega
    · obtain rfl : k = fs.length := by omega
      gi_wp2
      go_end0
      exact ⟨⟨_, rfl⟩, .inl hj⟩
end Go.Proofs.Ytnkcgalbaeppmaa
/- The reference's Same. -/
namespace Go.Proofs.Ytnkcgalbaeppmaa
open Go.RowKit
theorem u38 : Try.prog.underlying 38 = some (.slice 5) := by kernel_rfl
theorem u5 : Try.prog.underlying 5 = some (.int .u8) := by kernel_rfl
def sameR (m m' : Pk) : Bool := (m.fr.toList == m'.fr.toList) && (m.to.toList == m'.to.toList) && ((strOfNums m.bs).toList == (strOfNums m'.bs).toList)
set_option maxHeartbeats 400000 in
theorem same_any (p q : PV) (m m' : Pk) (w : World) (hp : PIn w p m) (hq : PIn w q m') :
    Calls Try.prog 17 #[p.val, q.val] w fun e w' => e = .returned (.bool (sameR m m')) ∧ Below w.heap.size w w' := by
  obtain ⟨f, t, ba, bn, bc⟩ := p
  obtain ⟨f', t', ba', bn', bc'⟩ := q
  obtain ⟨rfl, rfl, hn, hb⟩ := hp
  obtain ⟨rfl, rfl, hn', hb'⟩ := hq
  simp only at hn hb hn' hb'
  simp only [PV.val]
  have hv : sameR m m' = ((m.fr.toList == m'.fr.toList) && (m.to.toList == m'.to.toList) && ((strOfNums m.bs).toList == (strOfNums m'.bs).toList)) := rfl
  have HV := Lib.hid hv
  clear hv
  have hbl : Below w.heap.size w ((w.alloc (.cells #[.string m.fr, .string m.to, .slice ba bn bc] 40)).alloc (.cells #[.string m'.fr, .string m'.to, .slice ba' bn' bc'] 40)) := ((Below.refl _ _).alloc (Nat.le_refl _) _).alloc (by simp) _
  have cv := (BytesIn.below hb hbl (Nat.le_refl _)).convert hn bc 38 5 9 u38 u5 u9
  have cv' := (BytesIn.below hb' hbl (Nat.le_refl _)).convert hn' bc' 38 5 9 u38 u5 u9
  clear hb hb'
  by_cases h1 : (m.fr.toList == m'.fr.toList) = true
  · by_cases h2 : (m.to.toList == m'.to.toList) = true
    · have HV2 : Hid (sameR m m' = ((strOfNums m.bs).toList == (strOfNums m'.bs).toList)) := by show _ = _; rw [HV.out, h1, h2]; rfl
      go_enter Try.func17, Try.ntmps17
      go_wp2_with fail
      go_ret
      exact ⟨ret_bool HV2.out.symm, hbl⟩
    · have h2' : (m.to.toList == m'.to.toList) = false := by simpa using h2
      have HV2 : Hid (sameR m m' = false) := by show _ = _; rw [HV.out, h2']; simp
      clear h2
      go_enter Try.func17, Try.ntmps17
      go_wp2_with fail
      go_ret
      exact ⟨ret_bool HV2.out.symm, hbl⟩
  · have h1' : (m.fr.toList == m'.fr.toList) = false := by simpa using h1
    have HV2 : Hid (sameR m m' = false) := by show _ = _; rw [HV.out, h1']; simp
    clear h1
    go_enter Try.func17, Try.ntmps17
    go_wp2_with fail
    go_ret
    exact ⟨ret_bool HV2.out.symm, hbl⟩
end Go.Proofs.Ytnkcgalbaeppmaa
