/- A nil network agrees with the empty one. -/
import Derived.Test.YtnkcgalbaeppmaaM8
namespace Go.Proofs.Ytnkcgalbaeppmaa
open Go.RowKit
attribute [local go_sem] Oper.semAt_some
set_option maxHeartbeats 3200000 in
set_option maxRecDepth 100000 in
theorem agrees0 (w : World) : Calls Try.prog 30 #[.pointer none, R0v] w fun e w' => e = .returned (.bool true) ∧ Below w.heap.size w w' := by
  have hmix : Try.prog.follows .mixedOrders = true := by kernel_rfl
  have hq53 := fun w f a b => run_eql_func_nil (P := Try.prog) 53 f a b w _ _ _ u53
  have hq56 := fun w f a b => run_eql_func_nil (P := Try.prog) 56 f a b w _ _ _ u56
  have hfl0 := fun w => flight0 w
  simp only [R0v] at hfl0 ⊢
  refine (callsIn_wide (n := 9)).1 (callsIn_of_wp_marks Try.func30 rfl trivial ?_ rfl)
  simp only [Try.ntmps30, List.size_toArray, List.length_cons, List.length_nil, Nat.reduceAdd, Nat.reduceSub, Array.replicate_succ, Array.replicate_zero, List.push_toArray, List.append_toArray, List.nil_append, List.cons_append]
  gi_wp2
  have e1 := top1 w (.cells #[.slice none 0 0, .slice none 0 0, .slice none 0 0, .slice none 0 0] 35) (.cells #[.bool false] 4)
  have e2 := top0 w (.cells #[.slice none 0 0, .slice none 0 0, .slice none 0 0, .slice none 0 0] 35) (.cells #[.bool false] 4)
  have hb : Below w.heap.size w ((w.alloc (.cells #[.slice none 0 0, .slice none 0 0, .slice none 0 0, .slice none 0 0] 35)).alloc (.cells #[.bool false] 4)) := ((Below.refl _ w).alloc (Nat.le_refl _) _).alloc (by simp) _
  generalize (w.alloc (.cells #[.slice none 0 0, .slice none 0 0, .slice none 0 0, .slice none 0 0] 35)).alloc (.cells #[.bool false] 4) = w1 at e1 e2 hb ⊢
  refine ⟨trivial, callsIn_wide.2 ((history_nil w1).mono ?_)⟩
  rintro e w2 ⟨B, v, rfl, hbx, hBs, hown, hb2⟩
  have f1 := (hb2.block _ (lt_of_heap e1)).trans e1
  have f2 := (hb2.block _ (lt_of_heap e2)).trans e2
  have hbb := hb.trans (hb2.mono hb.size)
  have hs : PkSeq B v [] [] w2 := ⟨hbx, ownsRow_base hown (Nat.zero_le _), Both.nil⟩
  clear e1 e2 hb hb2 hbx hown
  gi_wp2
  refine ⟨trivial, callsIn_wide.2 ((events_nil w2).mono ?_)⟩
  rintro e w3 ⟨B', v', rfl, hbx', hBs', hown', hb3⟩
  have g1 := (hb3.block _ (lt_of_heap f1)).trans f1
  have g2 := (hb3.block _ (lt_of_heap f2)).trans f2
  have hbc := hbb.trans (hb3.mono hbb.size)
  have hs2 : PkSeq B v [] [] w3 := ⟨(hb3.block _ (lt_of_heap hs.box)).trans hs.box, ownsRow_below hs.own hb3 (Nat.le_refl _), Both.nil⟩
  have hs' : EvSeq B' v' [] w3 := ⟨hbx', ownsRow_base hown' (Nat.zero_le _)⟩
  obtain ⟨q0, q1, q2, q3, _, _⟩ := blk4 g1
  clear f1 f2 hbb hb3 hbx' hown' hs
  gi_wp2
  refine ⟨trivial, callsIn_wide.2 ((hfl0 w3).mono ?_)⟩
  rintro e w4 ⟨rfl, hb4⟩
  have hs3 : PkSeq B v [] [] w4 := ⟨(hb4.block _ (lt_of_heap hs2.box)).trans hs2.box, ownsRow_below hs2.own hb4 (Nat.le_refl _), Both.nil⟩
  have hs4 : EvSeq B' v' [] w4 := ⟨(hb4.block _ (lt_of_heap hs'.1)).trans hs'.1, ownsRow_below hs'.2 hb4 (Nat.le_refl _)⟩
  have k1 := (hb4.block _ (lt_of_heap g1)).trans g1
  have k2 := (hb4.block _ (lt_of_heap g2)).trans g2
  have hbd := hbc.trans (hb4.mono hbc.size)
  clear g1 g2 hbc hb4 hs2 hs' q0 q1 q2 q3
  gi_wp2
  have hk : Below w4.heap.size w4 (w4.alloc (.cells #[.int .i64 0] 3)) := (Below.refl _ w4).alloc (Nat.le_refl _) _
  have e5 := heap_alloc_new w4 (.cells #[.int .i64 0] 3)
  have e6 := (hk.block _ (lt_of_heap k1)).trans k1
  have e7 := (hk.block _ (lt_of_heap k2)).trans k2
  have hs5 : PkSeq B v [] [] (w4.alloc (.cells #[.int .i64 0] 3)) := ⟨(hk.block _ (lt_of_heap hs3.box)).trans hs3.box, ownsRow_below hs3.own hk (Nat.le_refl _), Both.nil⟩
  have hs6 : EvSeq B' v' [] (w4.alloc (.cells #[.int .i64 0] 3)) := ⟨(hk.block _ (lt_of_heap hs4.1)).trans hs4.1, ownsRow_below hs4.2 hk (Nat.le_refl _)⟩
  have hbe := hbd.trans (hk.mono hbd.size)
  have hK : w.heap.size ≤ w4.heap.size := hbd.size
  have hBK : B ≠ w4.heap.size := fun e => by have := lt_of_heap hs3.box; omega
  have hBK' : B' ≠ w4.heap.size := fun e => by have := lt_of_heap hs4.1; omega
  have hvK : ∀ k, v'.ownBlock = some k → k ≠ w4.heap.size := fun k hk e => by have := (hs4.2.lt k hk).2; omega
  have hR : w.heap.size + 1 < w4.heap.size := lt_of_heap k2
  clear hs3 hs4 k1 k2 hbd hk
  generalize w4.alloc (.cells #[.int .i64 0] 3) = w5 at e5 e6 e7 hs5 hs6 hbe ⊢
  generalize w4.heap.size = K at e5 hK hBK hBK' hvK hR ⊢
  have hbox := lt_of_heap hs5.box
  refine wpIn_rangeFunc_gives rfl (by decide) (gf := 42) (lb := #[.pointer (some ⟨B, 0, none⟩)]) rfl trivial (enters_of Try.func42 (by kernel_rfl) rfl)
    (history_gives 8 (by decide) B v [] [] (by decide) (fun m hm => by simp at hm)) (fun B k args X h => by obtain ⟨x, q, _, rfl, _⟩ := h; rfl)
    (fun k X => Below w5.heap.size w5 X) (fun _ _ => False)
    (fun k X Y h hb => h.trans hb) (fun _ _ _ h _ => h)
    (fun k X h => ⟨(h.block B hbox).trans hs5.box, ownsRow_below hs5.own h (Nat.le_refl _), Both.nil⟩)
    (Below.refl _ _) ?round ?done ?stop
  case round => exact fun l k args X hk => absurd hk (by simp)
  case stop => intro _ _ _ _ h; exact h.elim
  case done =>
    rintro Dl X hD hkp hX
    have j5 := (hkp.block _ (lt_of_heap e5)).trans e5
    have j6 := (hkp.block _ (lt_of_heap e6)).trans e6
    have j7 := (hkp.block _ (lt_of_heap e7)).trans e7
    have hbX := hbe.trans (hkp.mono hbe.size)
    have hwD : w.heap.size ≤ Dl := Nat.le_trans hbe.size hD
    have hs7 : EvSeq B' v' [] X := ⟨(hkp.block _ (lt_of_heap hs6.1)).trans hs6.1, ownsRow_below hs6.2 hkp (Nat.le_refl _)⟩
    have hKD : K < Dl := Nat.lt_of_lt_of_le (lt_of_heap e5) hD
    obtain ⟨c5, c5f, c5l⟩ := blk1 j5
    obtain ⟨q0, q1, q2, q3, _, _⟩ := blk4 j6
    clear e5 e6 e7 hs5 hs6 hbe hkp hbox
    gi_wp2
    have hkY : Kp (fun k => k = K) X (X.setCell ⟨K, 0, none⟩ (.int .i64 0)) := (Kp.refl (fun k => k = K) X).setCell (fun _ => rfl) _
    have m5 : (X.setCell ⟨K, 0, none⟩ (.int .i64 0)).heap[K]? = some (.cells #[.int .i64 0] 3) := by simp [World.setCell, Array.getElem?_modify, j5]
    have m6 := (hkY.block _ (lt_of_heap j6) (by omega)).trans j6
    have m7 := (hkY.block _ (lt_of_heap j7) (by omega)).trans j7
    have mX := (hkY.block _ (lt_of_heap hX) (by omega)).trans hX
    have mb : Below w.heap.size w (X.setCell ⟨K, 0, none⟩ (.int .i64 0)) := hbX.setCell (p := ⟨K, 0, none⟩) hK _
    have hs8 : EvSeq B' v' [] (X.setCell ⟨K, 0, none⟩ (.int .i64 0)) := ⟨(hkY.block _ (lt_of_heap hs7.1) hBK').trans hs7.1, ownsRow_kp hs7.2 hkY hvK⟩
    clear j5 j6 j7 hX hbX hs7 hkY c5 c5f c5l q0 q1 q2 q3
    generalize X.setCell ⟨K, 0, none⟩ (.int .i64 0) = Y at m5 m6 m7 mX mb hs8 ⊢
    have hbox := lt_of_heap hs8.1
    refine wpIn_rangeFunc_gives rfl (by decide) (gf := 44) (lb := #[.pointer (some ⟨B', 0, none⟩)]) rfl trivial (enters_of Try.func44 (by kernel_rfl) rfl)
      (events_gives Fence.wide 8 trivial rfl (by decide) B' v' [] (by decide)) (fun B k args X h => by obtain ⟨x, _, rfl⟩ := h; rfl)
      (fun k X => Below Y.heap.size Y X) (fun _ _ => False)
      (fun k X Y h hb => h.trans hb) (fun _ _ _ h _ => h)
      (fun k X h => ⟨(h.block B' hbox).trans hs8.1, ownsRow_below hs8.2 h (Nat.le_refl _)⟩)
      (Below.refl _ _) ?round2 ?done2 ?stop2
    case round2 => exact fun l k args X hk => absurd hk (by simp)
    case stop2 => intro _ _ _ _ h; exact h.elim
    case done2 =>
      rintro Dm Z hDm hkp hZ
      have n5 := (hkp.block _ (lt_of_heap m5)).trans m5
      have n6 := (hkp.block _ (lt_of_heap m6)).trans m6
      have n7 := (hkp.block _ (lt_of_heap m7)).trans m7
      have nX := (hkp.block _ (lt_of_heap mX)).trans mX
      have hbZ := mb.trans (hkp.mono mb.size)
      have hwm : w.heap.size ≤ Dm := Nat.le_trans mb.size hDm
      have hDD : Dl < Dm := Nat.lt_of_lt_of_le (lt_of_heap mX) hDm
      obtain ⟨c5, c5f, c5l⟩ := blk1 n5
      obtain ⟨q0, q1, q2, q3, _, _⟩ := blk4 n6
      obtain ⟨r0, r1, r2⟩ := blk1 n7
      gi_wp2
      generalize hZ1 : Z.setCell ⟨w.heap.size + 1, 0, none⟩ (.bool true) = Z1
      have s7 : Z1.heap[w.heap.size + 1]? = some (.cells #[.bool true] 4) := by subst hZ1; simp [World.setCell, Array.getElem?_modify, n7]
      have sm : Z1.heap[Dm]? = some (.deferred (some [])) := by subst hZ1; exact (Below.heap_setCell _ _ _ _ (by simp; omega)).trans hZ
      have sl : Z1.heap[Dl]? = some (.deferred (some [])) := by subst hZ1; exact (Below.heap_setCell _ _ _ _ (by simp; omega)).trans nX
      have sb : Below w.heap.size w Z1 := by subst hZ1; exact hbZ.setCell (p := ⟨w.heap.size + 1, 0, none⟩) (by simp) _
      have tl := (World.putObj_heap_other (w := Z1) (o := .deferred none) (show Dl ≠ Dm by omega)).trans sl
      have t7 := (World.putObj_heap_other (w := Z1) (o := .deferred none) (show w.heap.size + 1 ≠ Dm by omega)).trans s7
      have u7 := (World.putObj_heap_other (w := Z1.putObj Dm (.deferred none)) (o := .deferred none) (show w.heap.size + 1 ≠ Dl by omega)).trans t7
      refine ⟨by simp, .inl ⟨_, _, rfl, run_takeDeferred sm, ?_⟩⟩
      refine ⟨by simp, .inl ⟨_, _, rfl, run_takeDeferred tl, ?_⟩⟩
      obtain ⟨v0, _, _⟩ := blk1 u7
      refine ⟨.bool true, by simp [results, Try.results30, go_sem, v0], rfl, ?_⟩
      exact (sb.trans (below_put _ hwm sm)).trans (below_put _ hwD tl)
end Go.Proofs.Ytnkcgalbaeppmaa
