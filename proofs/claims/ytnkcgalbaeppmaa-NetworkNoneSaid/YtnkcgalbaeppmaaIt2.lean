/- The history's iterator. -/
import Derived.Test.YtnkcgalbaeppmaaIt1
namespace Go.Proofs.Ytnkcgalbaeppmaa
open Go.RowKit
attribute [local go_sem] Oper.semAt_some
/-- The packets that an iterator holds. -/
structure PkSeq (B : Nat) (v : Value) (hs : List PV) (pks : List Pk) (X : World) : Prop where
  box : X.heap[B]? = some (.cells #[v] 26 (0, 0))
  own : X.ownsRow 0 40 3 v pks.length (hs.flatMap PV.cells)
  p : Both (POwn X) hs pks
/-- What a round is handed: a number and a packet in memory of its own. -/
def PkArg (ms : List (Int × Pk)) (B : Nat) (k : Nat) (args : Array Value) (X : World) : Prop :=
  ∃ x q, ms[k]? = some x ∧ args = #[.int .i64 x.1, PV.val q] ∧ POwn X q x.2 ∧ ∀ b, q.blk = some b → B ≤ b
def numbered (pks : List Pk) : List (Int × Pk) := pks.zipIdx.map fun x => ((x.2 : Int), x.1)
theorem numbered_at {pks : List Pk} {k : Nat} {m : Pk} (h : pks[k]? = some m) : (numbered pks)[k]? = some ((k : Int), m) := by
  simp [numbered, h]
theorem numbered_len (pks : List Pk) : (numbered pks).length = pks.length := by simp [numbered]
def Round (J : World → Prop) (Jx : World → Prop) (b : Bool) (W : World) : Prop := if b then J W else Jx W
theorem round_of {J Jx : World → Prop} {e : Ending} {W : World} (h : (e = .returned (.bool true) ∧ J W) ∨ (e = .returned (.bool false) ∧ Jx W)) : ∃ b, e = .returned (.bool b) ∧ Round J Jx b W := by
  rcases h with ⟨rfl, h⟩ | ⟨rfl, h⟩
  · exact ⟨true, rfl, h⟩
  · exact ⟨false, rfl, h⟩
set_option maxHeartbeats 800000 in
set_option maxRecDepth 100000 in
theorem history_gives (n : Nat) (hn : 1 ≤ n) (B : Nat) (v : Value) (hs : List PV) (pks : List Pk) (hl : pks.length ≤ 50000) (hok : ∀ m ∈ pks, m.ok) :
    Gives Fence.wide n Try.prog 42 #[.pointer (some ⟨B, 0, none⟩)] (PkArg (numbered pks)) pks.length (PkSeq B v hs pks) := by
  intro l J Jx W hJ hJx hOk hY h0
  obtain ⟨hS, _⟩ := hOk _ _ h0
  obtain ⟨b0, _, bl⟩ := blk1 hS.box
  obtain ⟨a, c, rfl, hv⟩ := ownsRow_slice hS.own
  have hJ' := Lib.hid hJ
  have hJx' := Lib.hid hJx
  have hOk' := Lib.hid hOk
  have hY' := Lib.hid hY
  clear hJ hJx hOk hY
  refine callsIn_of_wp Try.func42 rfl trivial ?_ rfl
  simp only [Try.ntmps42, List.size_toArray, List.length_cons, List.length_nil, Nat.reduceAdd, Nat.reduceSub, Array.replicate_succ, Array.replicate_zero, List.push_toArray, List.append_toArray, List.nil_append, List.cons_append]
  gi_wp2
  gi_loopw [3, 4, 7] (fun _ _ i wr => ∃ k : Nat, k ≤ pks.length ∧ i = .int .i64 k ∧ J k wr) (fun _ _ i _ => pks.length - (intOf i).toNat)
  case atStart => exact ⟨0, Nat.zero_le _, rfl, h0⟩
  case round =>
    obtain ⟨k, hk, rfl, hj⟩ := hrel
    by_cases hlt : k < pks.length
    · obtain ⟨hS1, hz1⟩ := hOk'.out _ _ hj
      obtain ⟨m, hm⟩ : ∃ m, pks[k]? = some m := ⟨_, List.getElem?_eq_getElem hlt⟩
      obtain ⟨x, hx, hxm⟩ := hS1.p.at hm
      have ho1 := hS1.own
      obtain ⟨g, cap, hg, _, hlg⟩ := ho1.form (by omega)
      injection hg with hg1 _ hg2
      subst hg1 hg2
      obtain ⟨d0, d1, d2⟩ := hist_cells ho1 hx
      have hmk := hok m (List.mem_of_getElem? hm)
      have i0 : (0 : Int) ≤ (k : Int) := by omega
      have i1 : (k : Int) < (pks.length : Int) := by omega
      have i2 : (pks.length : Int) ≤ 50000 := by omega
      have hb1 := (Below.refl wr.heap.size wr).alloc (Nat.le_refl _) (.cells #[.string x.f, .string x.t, .slice x.ba x.bn x.bc] 40)
      have hp1 := (hxm.below hb1 (Nat.le_refl _)).pin
      clear ho1 b0 hS h0 bl hS1
      gi_wp2
      refine ⟨trivial, callsIn_wide.2 ((clone_any x m _ hp1 (by have := hxm.n; have := hmk.bs; omega)).mono ?_)⟩
      rintro e w2 ⟨q, rfl, hq, hqb, hbl⟩
      have hb2 := hb1.trans (hbl.mono hb1.size)
      have hj2 := hJ'.out k wr w2 hj hb2
      obtain ⟨fn, tmps, assign, body, hy, hR⟩ := hY'.out k #[.int .i64 k, q.val] w2 hj2 hlt ⟨((k : Int), m), q, numbered_at hm, rfl, hq, fun b hb => by have := hqb b hb; have := hb1.size; omega⟩
      obtain ⟨qf, qt, qa, qn, qc⟩ := q
      simp only [PV.val] at hy ⊢
      clear hj hj2 hp1 hb1 hb2 hbl d0 d1 d2
      gi_wp2
      refine hR.mono ?_
      clear hy hq hqb
      rintro e W3 (⟨rfl, hJ3⟩ | ⟨rfl, hJx3⟩)
      · gi_wp2
        go_roundw
        case rel => exact ⟨k + 1, by omega, by go_num, hJ3⟩
        case measure => simp [intOf]; omega
      · gi_wp2
        refine bodyPost_ret (results_none rfl _ _ _) rfl ?_
        exact ⟨⟨_, rfl⟩, .inr hJx3⟩
    · obtain rfl : k = pks.length := by omega
      gi_wp2
      go_end0
      exact ⟨⟨_, rfl⟩, .inl hj⟩
end Go.Proofs.Ytnkcgalbaeppmaa
