/- The network's method Genuine. -/
import Derived.Test.YtnkcgalbaeppmaaPub3
namespace Go.Proofs.Ytnkcgalbaeppmaa
open Go.RowKit

/-- Genuine. -/
def NetM.genuine (N : NetM) (id : Int) : Bool × Int :=
  match place id N.fl with
  | none => (false, 9)
  | some i => match N.fl[i]? with
    | none => (false, 9)
    | some m => if 0 ≤ m.src then match N.hist[m.src.toNat]? with
      | some q => (sameB m.pk q, 0)
      | none => (false, 0)
      else (false, 0)
def TwoB (x : Bool) (y : Int) (w : World) (e : Ending) (w' : World) : Prop := e = .returned (.tuple #[.bool x, .int .i64 y]) ∧ Below w.heap.size w w'

set_option maxHeartbeats 1600000 in
set_option maxRecDepth 100000 in
theorem genuine_any (b : Nat) (N : NetM) (D : ND) (id : Int) (w : World) (h : RepOk w b N D) (hl : N.lim) :
    Calls Try.prog 11 #[.pointer (some ⟨b, 0, none⟩), .int .i64 id] w (TwoB (N.genuine id).1 (N.genuine id).2 w) := by
  cases hp : place id N.fl with
  | none =>
    have HF : Hid ((N.genuine id).1 = false ∧ (N.genuine id).2 = 9) := by simp [Hid, NetM.genuine, hp]
    have HP := Lib.hid hp
    clear hp
    go_enter Try.func11, Try.ntmps11
    go_wp2_with fail
    refine (find_none b N D id _ h hl HP.out).mono ?_
    rintro e w1 ⟨rfl, hb⟩
    go_wp2_with fail
    go_ret2
    exact ⟨by rw [HF.out.1, HF.out.2]; rfl, hb⟩
  | some i =>
    obtain ⟨m, hm, hid⟩ := place_some hp
    obtain ⟨x, hx, hxm⟩ := h.flp.at hm
    have hi : i < N.fl.length := (List.getElem?_eq_some_iff.1 hm).1
    have HP := Lib.hid hp
    have i0 : (0 : Int) ≤ (i : Int) := by omega
    have i1 : (i : Int) < (N.fl.length : Int) := by omega
    have i2 : (N.fl.length : Int) ≤ 64 := by have := hl.fl; omega
    obtain ⟨g, cap, hfv, _, hg⟩ := h.fl.form (by omega)
    have HX := Lib.hid hx
    have hsrc := hl.srcok m (List.mem_of_getElem? hm)
    have hrw : m.src = x.src := hxm.src.symm
    rw [hrw] at hsrc
    by_cases hs : 0 ≤ x.src
    · obtain ⟨j, hj⟩ := Int.eq_ofNat_of_zero_le hs
      have hjl : j < N.hist.length := by omega
      obtain ⟨q, hq⟩ : ∃ q, N.hist[j]? = some q := ⟨_, List.getElem?_eq_getElem hjl⟩
      obtain ⟨pq, hpq, hpqm⟩ := h.histp.at hq
      have HF : Hid ((N.genuine id).1 = sameB m.pk q ∧ (N.genuine id).2 = 0) := by
        simp [Hid, NetM.genuine, hp, hm, hrw, hj, hq]
      have j0 : (0 : Int) ≤ (j : Int) := by omega
      have j1 : (j : Int) < (N.hist.length : Int) := by omega
      have j2 : (N.hist.length : Int) ≤ 1024 := by have := hl.hist; omega
      obtain ⟨gh, caph, hhv, _, hgh⟩ := h.hist.form (by omega)
      have HQ := Lib.hid hpq
      clear hp hm hid hx hs hsrc hrw hq hpq
      go_enter Try.func11, Try.ntmps11
      go_wp2_with fail
      refine (find_some b N D id i _ h hl HP.out).mono ?_
      rintro e w1 ⟨rfl, hb⟩
      have h1 := h.below hb (Nat.le_refl _)
      have hbk := h1.blk
      have hfl := h1.fl
      have hhi := h1.hist
      rw [hfv, hhv] at hbk
      rw [hfv] at hfl
      rw [hhv] at hhi
      obtain ⟨d0, d1, d2, d3, d4⟩ := fly_cells hfl HX.out
      have hcl := hist_cells hhi HQ.out
      have c1 := hbk.c1
      have c0 := hbk.c0
      rw [hj] at d4
      have lb : b < w1.heap.size := hbk.lt
      have lg : g < w1.heap.size := Nat.lt_of_lt_of_le hg hb.size
      have lgh : gh < w1.heap.size := Nat.lt_of_lt_of_le hgh hb.size
      have hb2 := hb.alloc hb.size (.cells #[.string x.p.f, .string x.p.t, .slice x.p.ba x.p.bn x.p.bc, .int .i64 x.id, .int .i64 j] 86)
      have e2 := heap_alloc_new w1 (.cells #[.string x.p.f, .string x.p.t, .slice x.p.ba x.p.bn x.p.bc, .int .i64 x.id, .int .i64 j] 86)
      go_wp2_with fail
      generalize w1.alloc (.cells #[.string x.p.f, .string x.p.t, .slice x.p.ba x.p.bn x.p.bc, .int .i64 x.id, .int .i64 j] 86) = w2 at hb2 e2 ⊢
      have hpx := (hxm.p.below hb2 (Nat.le_refl _)).pin
      have hqx := (hpqm.below hb2 (Nat.le_refl _)).pin
      have h3 := h.below hb2 (Nat.le_refl _)
      have hhi3 := h3.hist
      have hbk3 := h3.blk
      rw [hhv] at hhi3 hbk3
      have hcl := hist_cells hhi3 HQ.out
      have c0' := hbk3.c0
      obtain ⟨q0, q1, q2, q3, q4, _, _⟩ := blk5 e2
      clear hfv hhv h h1 h3 hhi3 hbk3 hfl hbk hhi c1 c0 d0 d1 d2 d3 d4 hb e2
      generalize w1.heap.size = B at q0 q1 q2 q3 q4 ⊢
      apply wp_region_early [0, 1, 2, 3, 4, 5, 6, 7, 8, 9, 10, 11, 12, 13] [] [14, 15, 16, 17] (fun w' => w'.cell? ⟨b, 0, none⟩ = some (.slice (some ⟨gh, 0, none⟩) N.hist.length caph) ∧ w'.cell? ⟨gh, j * 3, none⟩ = some (.string pq.f) ∧ w'.cell? ⟨gh, j * 3 + 1, none⟩ = some (.string pq.t) ∧ w'.cell? ⟨gh, j * 3 + 2, none⟩ = some (.slice pq.ba pq.bn pq.bc) ∧ w'.cell? ⟨B, 0, none⟩ = some (.string x.p.f) ∧ w'.cell? ⟨B, 1, none⟩ = some (.string x.p.t) ∧ w'.cell? ⟨B, 2, none⟩ = some (.slice x.p.ba x.p.bn x.p.bc) ∧ w'.cell? ⟨B, 4, none⟩ = some (.int .i64 j))
      case hm => kernel_rfl
      case hB => kernel_rfl
      case hao => exact .nil
      case hlo => exact .cons rfl (.cons rfl (.cons rfl (.cons rfl .nil)))
      case hS => exact ⟨c0', hcl.1, hcl.2.1, hcl.2.2, q0, q1, q2, q4⟩
      case hr =>
        iterate 2
          apply Reads.cons1 rfl rfl
          · intro w' hS
            obtain ⟨s0, s1, s2, s3, s4, s5, s6, s7⟩ := hS
            go_simp
            try rfl
        apply Reads.cons1 (v := .bool true) rfl rfl
        · intro w' hS
          have hd : decide ((0 : Int) ≤ (j : Int)) = true := by simp
          go_simp
          try rfl
        iterate 11
          simp only [Act.put, List.setIfInBounds_toArray, List.set_cons_succ, List.set_cons_zero]
          apply Reads.cons1 rfl rfl
          · intro w' hS
            obtain ⟨s0, s1, s2, s3, s4, s5, s6, s7⟩ := hS
            go_simp
            try rfl
        exact Reads.nil
      intro W hW
      have hb3 : Below w.heap.size w W := by subst hW; exact hb2.drew
      have hpW : PIn W x.p m.pk := by subst hW; exact hpx.drew
      have hqW : PIn W pq q := by subst hW; exact hqx.drew
      clear hW hb2 hpx hqx hcl c0' q0 q1 q2 q3 q4
      unfold wpTail
      simp only [Act.put, List.setIfInBounds_toArray, List.set_cons_succ, List.set_cons_zero]
      go_wp2_with fail
      refine (equal_any x.p pq m.pk q W hpW hqW).mono ?_
      rintro e w3 ⟨rfl, hb4⟩
      go_wp2_with fail
      refine NoPanic.normal ?_
      go_wp2_with fail
      go_ret2
      exact ⟨by rw [HF.out.1, HF.out.2]; rfl, hb3.trans (hb4.mono hb3.size)⟩
    · have HF : Hid ((N.genuine id).1 = false ∧ (N.genuine id).2 = 0) := by
        simp [Hid, NetM.genuine, hp, hm, hrw, hs]
      have hneg : x.src < 0 := by omega
      have hge : (0 ≤ x.src) = False := by simpa using hneg
      clear hp hm hid hx hs hsrc hrw
      go_enter Try.func11, Try.ntmps11
      go_wp2_with fail
      refine (find_some b N D id i _ h hl HP.out).mono ?_
      rintro e w1 ⟨rfl, hb⟩
      have h1 := h.below hb (Nat.le_refl _)
      have hbk := h1.blk
      have hfl := h1.fl
      rw [hfv] at hbk
      rw [hfv] at hfl
      obtain ⟨d0, d1, d2, d3, d4⟩ := fly_cells hfl HX.out
      have c1 := hbk.c1
      have lb : b < w1.heap.size := hbk.lt
      have lg : g < w1.heap.size := Nat.lt_of_lt_of_le hg hb.size
      have hb2 := hb.alloc hb.size (.cells #[.string x.p.f, .string x.p.t, .slice x.p.ba x.p.bn x.p.bc, .int .i64 x.id, .int .i64 x.src] 86)
      have e2 := heap_alloc_new w1 (.cells #[.string x.p.f, .string x.p.t, .slice x.p.ba x.p.bn x.p.bc, .int .i64 x.id, .int .i64 x.src] 86)
      go_wp2_with fail
      generalize w1.alloc (.cells #[.string x.p.f, .string x.p.t, .slice x.p.ba x.p.bn x.p.bc, .int .i64 x.id, .int .i64 x.src] 86) = w2 at hb2 e2 ⊢
      obtain ⟨q0, q1, q2, q3, q4, _, _⟩ := blk5 e2
      clear hfv h h1 hfl hbk c1 d0 d1 d2 d3 d4 hb e2
      generalize w1.heap.size = B at q0 q1 q2 q3 q4 ⊢
      apply wp_region_early [0, 1, 2, 3, 4, 5, 6, 7, 8, 9, 10, 11, 12, 13, 14, 15] [] [16, 17] (fun w' => w'.cell? ⟨B, 4, none⟩ = some (.int .i64 x.src))
      case hm => kernel_rfl
      case hB => kernel_rfl
      case hao => exact .nil
      case hlo => exact .cons rfl (.cons rfl .nil)
      case hS => exact q4
      case hr =>
        iterate 2
          apply Reads.cons1 rfl rfl
          · intro w' hS
            go_simp
            try rfl
        apply Reads.cons1 (v := .bool false) rfl rfl
        · intro w' hS
          have hd : decide ((0 : Int) ≤ x.src) = false := by simpa using hneg
          go_simp
          try rfl
        apply Reads.cons1 rfl rfl
        · intro w' hS
          go_simp
          try rfl
        iterate 11
          simp only [Act.put, List.setIfInBounds_toArray, List.set_cons_succ, List.set_cons_zero]
          apply Reads.cons0 rfl rfl
        simp only [Act.put, List.setIfInBounds_toArray, List.set_cons_succ, List.set_cons_zero]
        apply Reads.cons1 rfl rfl
        · intro w' hS
          go_simp
          try rfl
        exact Reads.nil
      intro W hW
      have hb3 : Below w.heap.size w W := by subst hW; exact hb2.drew
      clear hW hb2 q0 q1 q2 q3 q4
      unfold wpTail
      simp only [Act.put, List.setIfInBounds_toArray, List.set_cons_succ, List.set_cons_zero]
      go_wp2_with fail
      refine NoPanic.normal ?_
      go_wp2_with fail
      go_ret2
      exact ⟨by rw [HF.out.1, HF.out.2]; rfl, hb3⟩
end Go.Proofs.Ytnkcgalbaeppmaa
