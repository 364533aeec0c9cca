/- The iterator over packets in flight. -/
import Derived.Test.YtnkcgalbaeppmaaIt2
namespace Go.Proofs.Ytnkcgalbaeppmaa
open Go.RowKit
attribute [local go_sem] Oper.semAt_some
/-- The packets in flight that an iterator holds. -/
structure FlSeq (B : Nat) (v : Value) (qs : List FV) (fs : List FlM) (X : World) : Prop where
  box : X.heap[B]? = some (.cells #[v] 27 (0, 0))
  own : X.ownsRow 0 86 5 v fs.length (qs.flatMap FV.cells)
  p : Both (FOwn X) qs fs
def idPk (fs : List FlM) : List (Int × Pk) := fs.map fun m => (m.id, m.pk)
set_option maxHeartbeats 1600000 in
set_option maxRecDepth 100000 in
theorem flight_gives (n : Nat) (hn : 1 ≤ n) (B : Nat) (v : Value) (qs : List FV) (fs : List FlM) (hl : fs.length ≤ 50000) (hok : ∀ m ∈ fs, m.pk.ok) :
    Gives Fence.wide n Try.prog 40 #[.pointer (some ⟨B, 0, none⟩)] (PkArg (idPk fs)) fs.length (FlSeq B v qs fs) := by
  intro l J Jx W hJ hJx hOk hY h0
  obtain ⟨hS, _⟩ := hOk _ _ h0
  obtain ⟨b0, _, bl⟩ := blk1 hS.box
  obtain ⟨a, c, rfl, hv⟩ := ownsRow_slice hS.own
  have hJ' := Lib.hid hJ
  have hJx' := Lib.hid hJx
  have hOk' := Lib.hid hOk
  have hY' := Lib.hid hY
  have hmix : Try.prog.follows .mixedOrders = true := by kernel_rfl
  clear hJ hJx hOk hY
  refine callsIn_of_wp Try.func40 rfl trivial ?_ rfl
  simp only [Try.ntmps40, List.size_toArray, List.length_cons, List.length_nil, Nat.reduceAdd, Nat.reduceSub, Array.replicate_succ, Array.replicate_zero, List.push_toArray, List.append_toArray, List.nil_append, List.cons_append]
  gi_wp2
  gi_loopw [4, 7] (fun _ i wr => ∃ k : Nat, k ≤ fs.length ∧ i = .int .i64 k ∧ J k wr) (fun _ i _ => fs.length - (intOf i).toNat)
  case atStart => exact ⟨0, Nat.zero_le _, rfl, h0⟩
  case round =>
    obtain ⟨k, hk, rfl, hj⟩ := hrel
    by_cases hlt : k < fs.length
    · obtain ⟨hS1, hz1⟩ := hOk'.out _ _ hj
      obtain ⟨m, hm⟩ : ∃ m, fs[k]? = some m := ⟨_, List.getElem?_eq_getElem hlt⟩
      obtain ⟨x, hx, hxm⟩ := hS1.p.at hm
      have ho1 := hS1.own
      obtain ⟨g, cap, hg, _, hlg⟩ := ho1.form (by omega)
      injection hg with hg1 _ hg2
      subst hg1 hg2
      obtain ⟨d0, d1, d2, d3, d4⟩ := fly_cells ho1 hx
      rw [hxm.id] at d3
      have hmk := hok m (List.mem_of_getElem? hm)
      have i0 : (0 : Int) ≤ (k : Int) := by omega
      have i1 : (k : Int) < (fs.length : Int) := by omega
      have i2 : (fs.length : Int) ≤ 50000 := by omega
      have hb1 := (Below.refl wr.heap.size wr).alloc (Nat.le_refl _) (.cells #[.string x.p.f, .string x.p.t, .slice x.p.ba x.p.bn x.p.bc, .int .i64 m.id, .int .i64 x.src] 86)
      have e1 := heap_alloc_new wr (.cells #[.string x.p.f, .string x.p.t, .slice x.p.ba x.p.bn x.p.bc, .int .i64 m.id, .int .i64 x.src] 86)
      have hp1 := (hxm.p.below hb1.drew (Nat.le_refl _)).pin
      have HM := Lib.hid hm
      have hbn : x.p.bn ≤ 100000 := by have := hxm.p.n; have := hmk.bs; omega
      clear ho1 b0 hS h0 bl hS1 hm hx hxm
      gi_wp2
      have hb2 := hb1.drew
      replace e1 : (wr.alloc (.cells #[.string x.p.f, .string x.p.t, .slice x.p.ba x.p.bn x.p.bc, .int .i64 m.id, .int .i64 x.src] 86)).drew.heap[wr.heap.size]? = some (.cells #[.string x.p.f, .string x.p.t, .slice x.p.ba x.p.bn x.p.bc, .int .i64 m.id, .int .i64 x.src] 86) := e1
      obtain ⟨p0, p1, p2, p3, p4, _, _⟩ := blk5 e1
      clear hb1 d0 d1 d2 d3 d4
      gi_region_with_o (first
        | (refine ⟨trivial, callsIn_wide.2 ((clone_any x.p m.pk _ hp1 hbn).mono ?_)⟩
           rintro e w2 ⟨⟨qf, qt, qa, qn, qc⟩, rfl, hq, hqb, hbl⟩
           have hb3 := hb2.trans (hbl.mono hb2.size)
           have hj2 := hJ'.out k wr w2 hj hb3
           have hqb3 : ∀ b, PV.blk ⟨qf, qt, qa, qn, qc⟩ = some b → W.heap.size ≤ b := fun b hb => by have := hqb b hb; have := hb2.size; omega
           obtain ⟨fn, tmps, assign, body, hy, hR⟩ := hY'.out k #[.int .i64 m.id, PV.val ⟨qf, qt, qa, qn, qc⟩] w2 hj2 hlt ⟨(m.id, m.pk), ⟨qf, qt, qa, qn, qc⟩, by simp [idPk, HM.out], rfl, hq, hqb3⟩
           have e2 := (hbl.block _ (lt_of_heap e1)).trans e1
           obtain ⟨r0, r1, r2, r3, r4, _, _⟩ := blk5 e2
           simp only [PV.val] at hy ⊢
           clear hqb3 hqb hbl hb3 hj2 hq)
        | (refine hR.mono ?_
           clear hy
           rintro e W3 h3
           obtain ⟨bb, rfl, h4⟩ := round_of h3
           clear h3))
      all_goals
        cases bb
        · gi_wp2
          refine bodyPost_ret (results_none rfl _ _ _) rfl ?_
          exact ⟨⟨_, rfl⟩, .inr h4⟩
        · gi_wp2
          go_roundw
          case rel => exact ⟨k + 1, by omega, by go_num, h4⟩
          case measure => simp [intOf]; omega
    · obtain rfl : k = fs.length := by omega
      gi_wp2
      go_end0
      exact ⟨⟨_, rfl⟩, .inl hj⟩
end Go.Proofs.Ytnkcgalbaeppmaa
