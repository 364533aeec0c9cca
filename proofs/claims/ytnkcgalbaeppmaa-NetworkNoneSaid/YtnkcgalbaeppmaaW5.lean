/- The walk of take. -/
import Derived.Test.YtnkcgalbaeppmaaW4
namespace Go.Proofs.Ytnkcgalbaeppmaa
open Go.RowKit

def TakePost (b : Nat) (hv mv ev : Value) (nx : Int) (g n cap : Nat) (xs : List Value) (x : FV) (w : World) (e : Ending) (w' : World) : Prop :=
  e = .returned x.p.val ∧ NetBlk w' b hv (.slice (some ⟨g, 0, none⟩) (n - 1) cap) nx mv ev ∧ w'.ownsRow 0 86 5 (.slice (some ⟨g, 0, none⟩) (n - 1) cap) (n - 1) xs ∧ Kp (fun k => k = b ∨ k = g) w w'
set_option maxHeartbeats 800000 in
theorem take_any (b : Nat) (hv mv ev : Value) (nx : Int) (g n cap i : Nat) (fs : List FV) (x : FV) (w : World) (hb : NetBlk w b hv (.slice (some ⟨g, 0, none⟩) n cap) nx mv ev)
    (hf : w.ownsRow 0 86 5 (.slice (some ⟨g, 0, none⟩) n cap) n (fs.flatMap FV.cells)) (hx : fs[i]? = some x) (hi : i < n) (hn : n ≤ 100000) :
    Calls Try.prog 49 #[.pointer (some ⟨b, 0, none⟩), .int .i64 i] w (TakePost b hv mv ev nx g n cap ((fs.eraseIdx i).flatMap FV.cells) x w) := by
  have c1 := hb.c1
  have lb := hb.lt
  obtain ⟨d0, d1, d2, d3, d4⟩ := fly_cells hf hx
  have lg : g < w.heap.size := World.block_lt_of_cell? w _ d0
  have hgb : g ≠ b := fun e => ownsRow_ne hf hb (by decide) (by rw [e]; rfl)
  have i0 : (0 : Int) ≤ (i : Int) := by omega
  have i1 : (i : Int) < (n : Int) := by omega
  go_enter Try.func49, Try.ntmps49
  go_wp2_with fail
  have hk0 : Kp (fun k => k = b ∨ k = g) w ((w.alloc (.cells #[.string { data := #[] }, .string { data := #[] }, .slice none 0 0] 40)).alloc (.cells #[.string x.p.f, .string x.p.t, .slice x.p.ba x.p.bn x.p.bc] 40)) := ((Kp.refl _ w).alloc _).alloc _
  refine (delete_any g n cap i fs _ ((hf.alloc _).alloc _) hi hn).mono ?_
  rintro e w1 ⟨rfl, hown, hk⟩
  have e0 := (hk.block w.heap.size (by simp; omega) (by omega)).trans (top1 w _ _)
  have e1 := (hk.block (w.heap.size + 1) (by simp) (by omega)).trans (top0 w _ _)
  have hb1 : NetBlk w1 b hv (.slice (some ⟨g, 0, none⟩) n cap) nx mv ev := by
    refine (hk.block b (by simp; omega) (Ne.symm hgb)).trans ?_
    exact (Below.heap_alloc _ _ _ (by simp; omega)).trans ((Below.heap_alloc _ _ _ lb).trans hb)
  have hk1 : Kp (fun k => k = b ∨ k = g) w w1 := hk0.trans hk (fun k _ h => .inr h)
  obtain ⟨p0, p1, p2, q0, q1, q2, ql⟩ := blk3 e0
  obtain ⟨r0, r1, r2, s0, s1, s2, sl⟩ := blk3 e1
  have t1 := hb1.fz 1
  have t2 := hb1.c1
  have t3 := hb1.lt
  have hne1 : w.heap.size ≠ b := by omega
  have hne2 : w.heap.size + 1 ≠ b := by omega
  have hne3 : ¬ b = w.heap.size := by omega
  have hne4 : ¬ b = w.heap.size + 1 := by omega
  clear hk0 hk e0 e1 c1 d0 d1 d2 d3 d4 hb hf hx
  go_wp2_with fail
  refine bodyPost_ret (v := x.p.val) (by simp [results, Try.results49, PV.val, go_sem, p0, p1, p2, r0, r1, r2, hne1, hne2, hne3, hne4]) rfl ?_
  refine ⟨rfl, ?_, ?_, ?_⟩
  · exact (((hb1.set1 _).far hne3 _).far hne3 _).far hne3 _
  · have g1 : Value.ownBlock (.slice (some ⟨g, 0, none⟩) (n - 1) cap) ≠ some b := fun e => hgb (by simpa [Value.ownBlock] using e)
    have g2 : Value.ownBlock (.slice (some ⟨g, 0, none⟩) (n - 1) cap) ≠ some w.heap.size := fun e => by simp [Value.ownBlock] at e; omega
    exact own_setCell (own_setCell (own_setCell (own_setCell hown g1 _) g2 _) g2 _) g2 _
  · exact (((hk1.setCell (fun _ => .inl rfl) _).setCell (by simp) _).setCell (by simp) _).setCell (by simp) _
end Go.Proofs.Ytnkcgalbaeppmaa
