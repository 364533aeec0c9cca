/- A nil network agrees with the empty one. -/
import Derived.Test.YtnkcgalbaeppmaaKn1
import Derived.Test.YtnkcgalbaeppmaaNil
namespace Go.Proofs.Ytnkcgalbaeppmaa
open Go.RowKit
attribute [local go_sem] Oper.semAt_some
def R0v : Value := .agg #[.slice none 0 0, .slice none 0 0, .slice none 0 0, .slice none 0 0]
theorem blk4 {w : World} {B : Nat} {x y z u : Value} {T : TypeId} (h : w.heap[B]? = some (.cells #[x, y, z, u] T (0, 0))) :
    w.cell? ⟨B, 0, none⟩ = some x ∧ w.cell? ⟨B, 1, none⟩ = some y ∧ w.cell? ⟨B, 2, none⟩ = some z ∧ w.cell? ⟨B, 3, none⟩ = some u ∧ (∀ i, w.frozen? ⟨B, i, none⟩ = false) ∧ B < w.heap.size := by
  refine ⟨?_, ?_, ?_, ?_, ?_, lt_of_heap h⟩ <;> simp [World.cell?, World.frozen?, h]
theorem count0 (w : World) : Calls Try.prog 18 #[R0v] w fun e w' => e = .returned (.int .i64 0) ∧ Below w.heap.size w w' := by
  simp only [R0v]
  go_enter Try.func18, Try.ntmps18
  go_wp2_with fail
  go_loopw [3, 4] (fun c i wr => c = .int .i64 0 ∧ i = .int .i64 0 ∧ wr = w.alloc (.cells #[.slice none 0 0, .slice none 0 0, .slice none 0 0, .slice none 0 0] 35)) (fun _ _ _ => 0)
  case atStart => exact ⟨rfl, rfl, rfl⟩
  case round =>
    obtain ⟨rfl, rfl, rfl⟩ := hrel
    go_wp2_with fail
    go_ret
    exact ⟨rfl, (Below.refl _ w).alloc (Nat.le_refl _) _⟩
set_option maxHeartbeats 1600000 in
set_option maxRecDepth 100000 in
theorem flight0 (w : World) : Calls Try.prog 52 #[.pointer none, R0v] w fun e w' => e = .returned (.bool true) ∧ Below w.heap.size w w' := by
  have hmix : Try.prog.follows .mixedOrders = true := by kernel_rfl
  have hq53 := fun w f a b => run_eql_func_nil (P := Try.prog) 53 f a b w _ _ _ u53
  simp only [R0v]
  refine (callsIn_wide (n := 9)).1 (callsIn_of_wp_marks Try.func52 rfl trivial ?_ rfl)
  simp only [Try.ntmps52, List.size_toArray, List.length_cons, List.length_nil, Nat.reduceAdd, Nat.reduceSub, Array.replicate_succ, Array.replicate_zero, List.push_toArray, List.append_toArray, List.nil_append, List.cons_append]
  gi_wp2
  generalize hW : ((w.alloc (.cells #[.pointer none] 25)).alloc (.cells #[.slice none 0 0, .slice none 0 0, .slice none 0 0, .slice none 0 0] 35)).alloc (.cells #[.bool false] 4) = w1
  have e1 : w1.heap[w.heap.size + 1]? = some (.cells #[.slice none 0 0, .slice none 0 0, .slice none 0 0, .slice none 0 0] 35) := by
    subst hW; rw [Below.heap_alloc _ _ _ (by simp)]; have := heap_alloc_new (w.alloc (.cells #[.pointer none] 25)) (.cells #[.slice none 0 0, .slice none 0 0, .slice none 0 0, .slice none 0 0] 35); simpa using this
  have e2 : w1.heap[w.heap.size + 1 + 1]? = some (.cells #[.bool false] 4) := by
    subst hW; have := heap_alloc_new ((w.alloc (.cells #[.pointer none] 25)).alloc (.cells #[.slice none 0 0, .slice none 0 0, .slice none 0 0, .slice none 0 0] 35)) (.cells #[.bool false] 4); simpa using this
  have hb : Below w.heap.size w w1 := by subst hW; exact (((Below.refl _ w).alloc (Nat.le_refl _) _).alloc (by simp) _).alloc (by simp; omega) _
  clear hW
  refine ⟨trivial, callsIn_wide.2 ((flight_nil w1).mono ?_)⟩
  rintro e w2 ⟨B, v, qs, rfl, hbx, hBs, hfa, hb2⟩
  have e3 := (hb2.block _ (lt_of_heap e1)).trans e1
  have e4 := (hb2.block _ (lt_of_heap e2)).trans e2
  have hb3 := hb.trans (hb2.mono hb.size)
  have hs : FlSeq B v qs [] w2 := ⟨hbx, hfa.own, hfa.p⟩
  clear e1 e2 hb hb2 hbx hfa
  gi_wp2
  have hb4 : Below w.heap.size w ((w2.alloc (.cells #[.int .i64 (-1)] 3)).alloc (.cells #[.int .i64 0] 3)) :=
    (hb3.alloc hb3.size _).alloc (by have := hb3.size; simp; omega) _
  have hk : Below w2.heap.size w2 ((w2.alloc (.cells #[.int .i64 (-1)] 3)).alloc (.cells #[.int .i64 0] 3)) :=
    ((Below.refl w2.heap.size w2).alloc (Nat.le_refl _) _).alloc (by simp) _
  have e5 : ((w2.alloc (.cells #[.int .i64 (-1)] 3)).alloc (.cells #[.int .i64 0] 3)).heap[w2.heap.size + 1]? = some (.cells #[.int .i64 0] 3) := top0 w2 _ _
  have e6 := (hk.block _ (lt_of_heap e3)).trans e3
  have e7 := (hk.block _ (lt_of_heap e4)).trans e4
  have hs2 : FlSeq B v qs [] ((w2.alloc (.cells #[.int .i64 (-1)] 3)).alloc (.cells #[.int .i64 0] 3)) :=
    ⟨(hk.block _ (lt_of_heap hs.box)).trans hs.box, ownsRow_below hs.own hk (Nat.le_refl _), hs.p.mono fun x y hx hm => ⟨hm.p.below hk (Nat.le_refl _), hm.id, hm.src⟩⟩
  clear hs hk hb3 e3 e4
  generalize (w2.alloc (.cells #[.int .i64 (-1)] 3)).alloc (.cells #[.int .i64 0] 3) = w3 at hb4 e5 e6 e7 hs2 ⊢
  have hbox := lt_of_heap hs2.box
  refine wpIn_rangeFunc_gives rfl (by decide) (gf := 40) (lb := #[.pointer (some ⟨B, 0, none⟩)]) rfl trivial (enters_of Try.func40 (by kernel_rfl) rfl)
    (flight_gives 8 (by decide) B v qs [] (by decide) (fun m hm => by simp at hm)) (fun B k args X h => by obtain ⟨x, q, _, rfl, _⟩ := h; rfl)
    (fun k X => Below w3.heap.size w3 X) (fun _ _ => False)
    (fun k X Y h hb => h.trans hb) (fun _ _ _ h _ => h)
    (fun k X h => ⟨(h.block B hbox).trans hs2.box, ownsRow_below hs2.own h (Nat.le_refl _), hs2.p.mono fun x y hx hm => ⟨hm.p.below h (Nat.le_refl _), hm.id, hm.src⟩⟩)
    (Below.refl _ _) ?round ?done ?stop
  case round => exact fun l k args X hk => absurd hk (by simp)
  case done =>
    rintro Dl X hD hkp hX
    have g5 := (hkp.block _ (lt_of_heap e5)).trans e5
    have g6 := (hkp.block _ (lt_of_heap e6)).trans e6
    have g7 := (hkp.block _ (lt_of_heap e7)).trans e7
    have hbX := hb4.trans (hkp.mono hb4.size)
    have hwD : w.heap.size ≤ Dl := Nat.le_trans hb4.size hD
    have l7 := lt_of_heap e7
    gi_wp2
    replace g5 : X.drew.heap[w2.heap.size + 1]? = _ := g5
    replace g6 : X.drew.heap[w.heap.size + 1]? = _ := g6
    replace g7 : X.drew.heap[w.heap.size + 1 + 1]? = _ := g7
    obtain ⟨c5, _, _⟩ := blk1 g5
    obtain ⟨q0, q1, q2, q3, _, _⟩ := blk4 g6
    refine wpIn_mono (Q := NoPanic _) ?_ NoPanic.imp
    gi_region_with_o (
      (refine ⟨trivial, callsIn_wide.2 ((count0 X.drew).mono ?_)⟩
       rintro e w5 ⟨rfl, hb5⟩
       have i5 := (hb5.block _ (lt_of_heap g5)).trans g5
       have i7 := (hb5.block _ (lt_of_heap g7)).trans g7
       have i8 : w5.heap[Dl]? = some (.deferred (some [])) := (hb5.block Dl (lt_of_heap hX)).trans hX
       have hb6 : Below w.heap.size w w5 := hbX.trans (below_undrew (hb5.mono hbX.size))
       obtain ⟨y0, _, _⟩ := blk1 i5
       obtain ⟨z0, z1, z2⟩ := blk1 i7))
    all_goals
      refine NoPanic.normal ?_
      gi_wp2
      have j7 := i7
      have hs8 : (w5.setCell ⟨w.heap.size + 1 + 1, 0, none⟩ (.bool true)).heap[w.heap.size + 1 + 1]? = some (.cells #[.bool true] 4) := by simp [World.setCell, Array.getElem?_modify, j7]
      have hne : Dl ≠ w.heap.size + 1 + 1 := fun e => by omega
      have hX9 : (w5.setCell ⟨w.heap.size + 1 + 1, 0, none⟩ (.bool true)).heap[Dl]? = some (.deferred (some [])) := (Below.heap_setCell _ _ _ _ hne).trans i8
      refine ⟨by simp, .inl ⟨_, _, rfl, run_takeDeferred hX9, ?_⟩⟩
      have hp := (World.putObj_heap_other (w := w5.setCell ⟨w.heap.size + 1 + 1, 0, none⟩ (.bool true)) (o := .deferred none) (Ne.symm hne)).trans hs8
      obtain ⟨v0, _, _⟩ := blk1 hp
      refine ⟨.bool true, by simp [results, Try.results52, go_sem, v0], rfl, ?_⟩
      exact (hb6.setCell (p := ⟨w.heap.size + 1 + 1, 0, none⟩) (by simp; omega) _).trans (below_put _ hwD hX9)
  case stop => intro _ _ _ _ h; exact h.elim
end Go.Proofs.Ytnkcgalbaeppmaa
