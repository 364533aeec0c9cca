/- The iterators' contracts. -/
import Derived.Test.YtnkcgalbaeppmaaCp2
import Derived.Test.YtnkcgalbaeppmaaSeq
namespace Go.Proofs.Ytnkcgalbaeppmaa
open Go.RowKit
attribute [local go_sem] Oper.semAt_some
/-- The events that an iterator holds. -/
def EvSeq (B : Nat) (v : Value) (evs : List EvM) (X : World) : Prop :=
  X.heap[B]? = some (.cells #[v] 29 (0, 0)) ∧ X.ownsRow 0 61 3 v evs.length (evs.flatMap EvM.cells)
def EvM.val (e : EvM) : Value := .agg #[.int .i64 e.kind, .int .i64 e.id, .int .i64 e.fr]
def EvArg (evs : List EvM) (_ : Nat) (k : Nat) (args : Array Value) (_ : World) : Prop := ∃ x, evs[k]? = some x ∧ args = #[.int .i64 k, x.val]
theorem ev_cells {w : World} {B g n cap : Nat} {es : List EvM} (h : w.ownsRow B 61 3 (.slice (some ⟨g, 0, none⟩) n cap) n (es.flatMap EvM.cells)) {k : Nat} {x : EvM} (hx : es[k]? = some x) :
    w.cell? ⟨g, k * 3, none⟩ = some (.int .i64 x.kind) ∧ w.cell? ⟨g, k * 3 + 1, none⟩ = some (.int .i64 x.id) ∧ w.cell? ⟨g, k * 3 + 2, none⟩ = some (.int .i64 x.fr) := by
  have h0 := own_cell EvM.cells_len h hx (j := 0) (by decide)
  have h1 := own_cell EvM.cells_len h hx (j := 1) (by decide)
  have h2 := own_cell EvM.cells_len h hx (j := 2) (by decide)
  exact ⟨h0, h1, h2⟩
set_option maxHeartbeats 800000 in
set_option maxRecDepth 100000 in
theorem events_gives (F : Fence) (n : Nat) (hF : F.fn 44) (hro : F.round = none) (hn : 1 ≤ n) (B : Nat) (v : Value) (evs : List EvM) (hl : evs.length ≤ 50000) :
    Gives F n Try.prog 44 #[.pointer (some ⟨B, 0, none⟩)] (EvArg evs) evs.length (EvSeq B v evs) := by
  intro l J Jx W hJ hJx hOk hY h0
  obtain ⟨⟨hb, ho⟩, _⟩ := hOk _ _ h0
  obtain ⟨b0, _, bl⟩ := blk1 hb
  obtain ⟨a, c, rfl, hv⟩ := ownsRow_slice ho
  have hJ' := Lib.hid hJ
  have hJx' := Lib.hid hJx
  have hOk' := Lib.hid hOk
  have hY' := Lib.hid hY
  clear hJ hJx hOk hY
  refine callsIn_of_wp Try.func44 rfl hF ?_ hro
  simp only [Try.ntmps44, List.size_toArray, List.length_cons, List.length_nil, Nat.reduceAdd, Nat.reduceSub, Array.replicate_succ, Array.replicate_zero, List.push_toArray, List.append_toArray, List.nil_append, List.cons_append]
  gi_wp2
  gi_loopw [3, 4, 7] (fun _ _ i wr => ∃ k : Nat, k ≤ evs.length ∧ i = .int .i64 k ∧ J k wr) (fun _ _ i _ => evs.length - (intOf i).toNat)
  case atStart => exact ⟨0, Nat.zero_le _, rfl, h0⟩
  case round =>
    obtain ⟨k, hk, rfl, hj⟩ := hrel
    by_cases hlt : k < evs.length
    · obtain ⟨⟨_, ho1⟩, _⟩ := hOk'.out _ _ hj
      obtain ⟨x, hx⟩ : ∃ x, evs[k]? = some x := ⟨_, List.getElem?_eq_getElem hlt⟩
      obtain ⟨g, cap, hg, _, hlg⟩ := ho1.form (by omega)
      injection hg with hg1 _ hg2
      subst hg1 hg2
      obtain ⟨d0, d1, d2⟩ := ev_cells ho1 hx
      have i0 : (0 : Int) ≤ (k : Int) := by omega
      have i1 : (k : Int) < (evs.length : Int) := by omega
      have i2 : (evs.length : Int) ≤ 50000 := by omega
      have hj2 := hJ'.out k wr (wr.alloc (.cells #[.int .i64 x.kind, .int .i64 x.id, .int .i64 x.fr] 61)) hj ((Below.refl _ _).alloc (Nat.le_refl _) _)
      obtain ⟨fn, tmps, assign, body, hy, hR⟩ := hY'.out k #[.int .i64 k, x.val] _ hj2 hlt ⟨x, hx, rfl⟩
      simp only [EvM.val] at hy
      clear hj hj2 ho1 b0 hb ho h0 bl
      gi_wp2
      refine hR.mono ?_
      clear d0 d1 d2 hy
      rintro e W3 (⟨rfl, hJ3⟩ | ⟨rfl, hJx3⟩)
      · gi_wp2
        go_roundw
        case rel => exact ⟨k + 1, by omega, by go_num, hJ3⟩
        case measure => simp [intOf]; omega
      · gi_wp2
        refine bodyPost_ret (results_none rfl _ _ _) rfl ?_
        exact ⟨⟨_, rfl⟩, .inr hJx3⟩
    · obtain rfl : k = evs.length := by omega
      gi_wp2
      go_end0
      exact ⟨⟨_, rfl⟩, .inl hj⟩
end Go.Proofs.Ytnkcgalbaeppmaa
