/- NetworkNone. -/
import Derived.Test.YtnkcgalbaeppmaaFew
import Derived.Test.YtnkcgalbaeppmaaKn2
import Derived.Test.YtnkcgalbaeppmaaNn2
namespace Go.Proofs.Ytnkcgalbaeppmaa
open Go.RowKit
theorem blk7 {w : World} {B : Nat} {x y z u v r s : Value} {T : TypeId} (h : w.heap[B]? = some (.cells #[x, y, z, u, v, r, s] T (0, 0))) :
    w.cell? ⟨B, 0, none⟩ = some x ∧ w.cell? ⟨B, 1, none⟩ = some y ∧ w.cell? ⟨B, 2, none⟩ = some z ∧ w.cell? ⟨B, 3, none⟩ = some u ∧ w.cell? ⟨B, 4, none⟩ = some v ∧ w.cell? ⟨B, 5, none⟩ = some r ∧ w.cell? ⟨B, 6, none⟩ = some s ∧ B < w.heap.size := by
  refine ⟨?_, ?_, ?_, ?_, ?_, ?_, ?_, lt_of_heap h⟩ <;> simp [World.cell?, h]
theorem acts_one {w : World} {b : Nat} {x : AV} {T : TypeId} (h : w.heap[b]? = some (.cells #[.int .i64 x.what, .int .i64 x.id, .int .i64 x.off, .int .u8 x.mask, .string x.p.f, .string x.p.t, .slice x.p.ba x.p.bn x.p.bc] T (0, 0))) : ActsIn w (some ⟨b, 0, none⟩) [x] := fun _ => by
  refine ⟨b, 0, rfl, fun k y hk => ?_⟩
  obtain ⟨h0, h1, h2, h3, h4, h5, h6, _⟩ := blk7 h
  have hk0 : k = 0 := by have := (List.getElem?_eq_some_iff.1 hk).1; simp at this; omega
  subst hk0
  simp at hk; subst hk
  exact ⟨h0, h1, h2, h3, h4, h5, h6⟩
set_option maxHeartbeats 3200000 in
set_option maxRecDepth 100000 in
theorem none_any (x : AV) (w : World) : Calls Try.prog 6 #[x.val] w fun e w' => e = .returned (.bool true) ∧ Below w.heap.size w w' := by
  simp only [AV.val]
  have hb2 : Below w.heap.size w ((w.alloc (.cells #[.int .i64 x.what, .int .i64 x.id, .int .i64 x.off, .int .u8 x.mask, .string x.p.f, .string x.p.t, .slice x.p.ba x.p.bn x.p.bc] 42)).alloc (.cells #[.int .i64 x.what, .int .i64 x.id, .int .i64 x.off, .int .u8 x.mask, .string x.p.f, .string x.p.t, .slice x.p.ba x.p.bn x.p.bc] 42)) := ((Below.refl _ w).alloc (Nat.le_refl _) _).alloc (by simp) _
  have e1 := top1 w (.cells #[.int .i64 x.what, .int .i64 x.id, .int .i64 x.off, .int .u8 x.mask, .string x.p.f, .string x.p.t, .slice x.p.ba x.p.bn x.p.bc] 42) (.cells #[.int .i64 x.what, .int .i64 x.id, .int .i64 x.off, .int .u8 x.mask, .string x.p.f, .string x.p.t, .slice x.p.ba x.p.bn x.p.bc] 42)
  have e2 := top0 w (.cells #[.int .i64 x.what, .int .i64 x.id, .int .i64 x.off, .int .u8 x.mask, .string x.p.f, .string x.p.t, .slice x.p.ba x.p.bn x.p.bc] 42) (.cells #[.int .i64 x.what, .int .i64 x.id, .int .i64 x.off, .int .u8 x.mask, .string x.p.f, .string x.p.t, .slice x.p.ba x.p.bn x.p.bc] 42)
  go_enter Try.func6, Try.ntmps6
  go_wp2_with fail
  generalize (w.alloc (.cells #[.int .i64 x.what, .int .i64 x.id, .int .i64 x.off, .int .u8 x.mask, .string x.p.f, .string x.p.t, .slice x.p.ba x.p.bn x.p.bc] 42)).alloc (.cells #[.int .i64 x.what, .int .i64 x.id, .int .i64 x.off, .int .u8 x.mask, .string x.p.f, .string x.p.t, .slice x.p.ba x.p.bn x.p.bc] 42) = w1 at hb2 e1 e2 ⊢
  refine (few_any (some ⟨w.heap.size + 1, 0, none⟩) 1 [x] 1 w1 (acts_one e2) (by decide)).mono ?_
  rintro e w2 ⟨rfl, rfl⟩
  cases hf : fewB [x] 1
  · go_wp2_with fail
    refine (known_any w2).mono ?_
    rintro e w3 ⟨rfl, hb3⟩
    go_wp2_with fail
    go_ret
    exact ⟨rfl, hb2.trans (hb3.mono hb2.size)⟩
  · have hsm : smallB x = true := by simpa [fewB] using hf
    obtain ⟨c0, c1, c2, c3, c4, c5, c6, cl⟩ := blk7 e1
    clear hf e2
    go_wp2_with fail
    refine (send_nil x.p w2).mono ?_
    rintro e w3 ⟨rfl, hb3⟩
    have f1 := (hb3.block _ (lt_of_heap e1)).trans e1
    have hb4 := hb2.trans (hb3.mono hb2.size)
    clear c0 c1 c2 c3 c4 c5 c6 cl e1 hb3 hb2
    obtain ⟨c0, c1, c2, c3, c4, c5, c6, cl⟩ := blk7 f1
    go_wp2_with fail
    refine (inject_nil x.p w3).mono ?_
    rintro e w4 ⟨rfl, hb3⟩
    have f2 := (hb3.block _ (lt_of_heap f1)).trans f1
    have hb5 := hb4.trans (hb3.mono hb4.size)
    clear c0 c1 c2 c3 c4 c5 c6 cl f1 hb3 hb4
    obtain ⟨c0, c1, c2, c3, c4, c5, c6, cl⟩ := blk7 f2
    go_wp2_with fail
    refine (replay_nil x.id w4).mono ?_
    rintro e w5 ⟨rfl, hb3⟩
    have f3 := (hb3.block _ (lt_of_heap f2)).trans f2
    have hb6 := hb5.trans (hb3.mono hb5.size)
    clear c0 c1 c2 c3 c4 c5 c6 cl f2 hb3 hb5
    obtain ⟨c0, c1, c2, c3, c4, c5, c6, cl⟩ := blk7 f3
    go_wp2_with fail
    refine (dup_nil x.id w5).mono ?_
    rintro e w6 ⟨rfl, hb3⟩
    have f4 := (hb3.block _ (lt_of_heap f3)).trans f3
    have hb7 := hb6.trans (hb3.mono hb6.size)
    clear c0 c1 c2 c3 c4 c5 c6 cl f3 hb3 hb6
    obtain ⟨c0, c1, c2, c3, c4, c5, c6, cl⟩ := blk7 f4
    go_wp2_with fail
    refine (deliver_nil x.id w6).mono ?_
    rintro e w7 ⟨rfl, hb3⟩
    have f5 := (hb3.block _ (lt_of_heap f4)).trans f4
    have hb8 := hb7.trans (hb3.mono hb7.size)
    clear c0 c1 c2 c3 c4 c5 c6 cl f4 hb3 hb7
    obtain ⟨c0, c1, c2, c3, c4, c5, c6, cl⟩ := blk7 f5
    simp only [PV.val, PV.zero]
    go_wp2_with fail
    have f6 := (Below.heap_alloc w7 (.cells #[.string { data := #[] }, .string { data := #[] }, .slice none 0 0] 40) w.heap.size cl).trans f5
    have hb9 : Below w.heap.size w (w7.alloc (.cells #[.string { data := #[] }, .string { data := #[] }, .slice none 0 0] 40)) := hb8.alloc hb8.size _
    clear c0 c1 c2 c3 c4 c5 c6 cl f5 hb8
    refine (source_nil x.id _).mono ?_
    rintro e w8 ⟨rfl, hb3⟩
    have f7 := (hb3.block _ (lt_of_heap f6)).trans f6
    have hb10 := hb9.trans (hb3.mono hb9.size)
    clear f6 hb3 hb9
    obtain ⟨c0, c1, c2, c3, c4, c5, c6, cl⟩ := blk7 f7
    go_wp2_with fail
    refine (genuine_nil x.id w8).mono ?_
    rintro e w9 ⟨rfl, hb3⟩
    have f8 := (hb3.block _ (lt_of_heap f7)).trans f7
    have hb11 := hb10.trans (hb3.mono hb10.size)
    clear c0 c1 c2 c3 c4 c5 c6 cl f7 hb3 hb10
    obtain ⟨c0, c1, c2, c3, c4, c5, c6, cl⟩ := blk7 f8
    go_wp2_with fail
    clear c0 c1 c2 c3 c4 c5 c6
    apply wp_region_early [0, 1, 2, 3, 4, 5, 6, 7, 8, 9, 11, 12, 13, 14, 15, 16, 17, 19, 20, 21, 22, 23, 24, 26, 27, 28, 29, 30, 31, 32, 34, 35, 36, 37, 38, 39, 40] [10, 18, 25, 33, 41] [42, 43] (fun w' => w'.heap[w.heap.size]? = some (.cells #[.int .i64 x.what, .int .i64 x.id, .int .i64 x.off, .int .u8 x.mask, .string x.p.f, .string x.p.t, .slice x.p.ba x.p.bn x.p.bc] 42))
    case hm => kernel_rfl
    case hB => kernel_rfl
    case hao => exact .cons rfl (.cons rfl (.cons rfl (.cons rfl (.cons rfl .nil))))
    case hlo => exact .cons rfl (.cons rfl .nil)
    case hS => exact f8
    case hr =>
      iterate 37
        simp only [Act.put, List.setIfInBounds_toArray, List.set_cons_succ, List.set_cons_zero]
        apply Reads.cons1 rfl rfl
        · intro w' hS
          obtain ⟨c0, c1, c2, c3, c4, c5, c6, cl⟩ := blk7 hS
          clear hS
          go_simp
          try rfl
      exact Reads.nil
    intro W hW
    have g1 : W.heap[w.heap.size]? = some (.cells #[.int .i64 x.what, .int .i64 x.id, .int .i64 x.off, .int .u8 x.mask, .string x.p.f, .string x.p.t, .slice x.p.ba x.p.bn x.p.bc] 42) := by subst hW; exact f8
    have hb12 : Below w.heap.size w W := by subst hW; exact hb11.drew
    clear hW f8 hb11 cl
    unfold wpTail
    simp only [Act.put, List.setIfInBounds_toArray, List.set_cons_succ, List.set_cons_zero]
    go_wp2_with fail
    refine (drop_nil x.id W).mono ?_
    rintro e w10 ⟨rfl, hb3⟩
    have g2 := (hb3.block _ (lt_of_heap g1)).trans g1
    have hb13 := hb12.trans (hb3.mono hb12.size)
    clear g1 hb3 hb12
    go_wp2_with fail
    refine ⟨g2, ?_⟩
    unfold wpTail
    go_wp2_with fail
    refine (alter_nil x.id x.off x.mask w10).mono ?_
    rintro e w11 ⟨rfl, hb3⟩
    have g3 := (hb3.block _ (lt_of_heap g2)).trans g2
    have hb14 := hb13.trans (hb3.mono hb13.size)
    clear g2 hb3 hb13
    go_wp2_with fail
    refine ⟨g3, ?_⟩
    unfold wpTail
    go_wp2_with fail
    refine (redirect_nil x.id x.p.t w11).mono ?_
    rintro e w12 ⟨rfl, hb3⟩
    have g4 := (hb3.block _ (lt_of_heap g3)).trans g3
    have hb15 := hb14.trans (hb3.mono hb14.size)
    clear g3 hb3 hb14
    go_wp2_with fail
    refine ⟨g4, ?_⟩
    unfold wpTail
    go_wp2_with fail
    refine (block_nil x.p.f x.p.t w12).mono ?_
    rintro e w13 ⟨rfl, hb3⟩
    have g5 := (hb3.block _ (lt_of_heap g4)).trans g4
    have hb16 := hb15.trans (hb3.mono hb15.size)
    clear g4 hb3 hb15
    go_wp2_with fail
    refine ⟨g5, ?_⟩
    unfold wpTail
    go_wp2_with fail
    refine (unblock_nil x.p.f x.p.t w13).mono ?_
    rintro e w14 ⟨rfl, hb3⟩
    have g6 := (hb3.block _ (lt_of_heap g5)).trans g5
    have hb17 := hb16.trans (hb3.mono hb16.size)
    clear g5 hb3 hb16
    go_wp2_with fail
    refine ⟨g6, ?_⟩
    unfold wpTail
    go_wp2_with fail
    refine NoPanic.normal ?_
    have hbl : Below w.heap.size w (w14.alloc (.cells #[.int .i64 1, .int .i64 1, .int .i64 1, .int .i64 1, .int .i64 1, .int .i64 1, .int .i64 1, .int .i64 1, .int .i64 1, .int .i64 1, .int .i64 1, .int .i64 1] 44)) := hb17.alloc hb17.size _
    have hel := heap_alloc_new w14 (.cells #[.int .i64 1, .int .i64 1, .int .i64 1, .int .i64 1, .int .i64 1, .int .i64 1, .int .i64 1, .int .i64 1, .int .i64 1, .int .i64 1, .int .i64 1, .int .i64 1] 44)
    clear g6 hb17
    go_wp2_with fail
    generalize w14.alloc (.cells #[.int .i64 1, .int .i64 1, .int .i64 1, .int .i64 1, .int .i64 1, .int .i64 1, .int .i64 1, .int .i64 1, .int .i64 1, .int .i64 1, .int .i64 1, .int .i64 1] 44) = w15 at hbl hel ⊢
    generalize w14.heap.size = E at hel ⊢
    have hcl : ∀ k, k < 12 → w15.cell? ⟨E, k, none⟩ = some (.int .i64 1) := fun k hk => by
      have : k = 0 ∨ k = 1 ∨ k = 2 ∨ k = 3 ∨ k = 4 ∨ k = 5 ∨ k = 6 ∨ k = 7 ∨ k = 8 ∨ k = 9 ∨ k = 10 ∨ k = 11 := by omega
      rcases this with rfl | rfl | rfl | rfl | rfl | rfl | rfl | rfl | rfl | rfl | rfl | rfl <;> simp [World.cell?, hel]
    clear hel
    go_loopw [19] (fun i wr => ∃ k : Nat, k ≤ 12 ∧ i = .int .i64 k ∧ wr = w15) (fun i _ => 12 - (intOf i).toNat)
    case atStart => exact ⟨0, by decide, rfl, rfl⟩
    case round =>
      obtain ⟨k, hk, rfl, rfl⟩ := hrel
      by_cases hlt : k < 12
      · have hc := hcl k hlt
        have i0 : (0 : Int) ≤ (k : Int) := by omega
        have i1 : (k : Int) < (12 : Int) := by omega
        clear hcl
        go_wp2_with fail
        go_roundw
        case rel => exact ⟨k + 1, by omega, by go_num, trivial⟩
        case measure => simp [intOf]; omega
      · obtain rfl : k = 12 := by omega
        clear hcl
        go_wp2_with fail
        refine (copy_nil wr).mono ?_
        rintro e w16 ⟨rfl, rfl⟩
        go_wp2_with fail
        refine (agrees0 w16).mono ?_
        rintro e w17 ⟨rfl, hb3⟩
        have hbm := hbl.trans (hb3.mono hbl.size)
        clear hbl hb3
        go_wp2_with fail
        refine (known_any w17).mono ?_
        rintro e w18 ⟨rfl, hb3⟩
        have hbn := hbm.trans (hb3.mono hbm.size)
        clear hbm hb3
        go_wp2_with fail
        go_ret
        exact ⟨rfl, hbn⟩
end Go.Proofs.Ytnkcgalbaeppmaa
