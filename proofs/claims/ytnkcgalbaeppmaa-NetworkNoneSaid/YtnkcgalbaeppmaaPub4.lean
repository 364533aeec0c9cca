/- The network's method Duplicate. -/
import Derived.Test.YtnkcgalbaeppmaaPub3
namespace Go.Proofs.Ytnkcgalbaeppmaa
open Go.RowKit

/-- Duplicate. -/
def NetM.dup (N : NetM) (id : Int) : NetM × Int × Int :=
  match place id N.fl with
  | none => (N, 0, 9)
  | some i => if 64 ≤ N.fl.length then (N, 0, 7) else
    match N.fl[i]? with
    | some m => (N.put m.pk m.src 4 id, N.next, 0)
    | none => (N, 0, 9)

set_option maxHeartbeats 800000 in
set_option maxRecDepth 100000 in
theorem dup_any (b : Nat) (N : NetM) (D : ND) (id : Int) (w : World) (c : Nat) (h : RepOk w b N D) (hl : N.lim) (hf : N.few c) (hc : c ≤ 40000) :
    Calls Try.prog 22 #[.pointer (some ⟨b, 0, none⟩), .int .i64 id] w (Two3 b D w (N.dup id)) := by
  cases hp : place id N.fl with
  | none =>
    have HF : Hid (N.dup id = (N, 0, 9)) := by simp [Hid, NetM.dup, hp]
    have HP := Lib.hid hp
    clear hp
    go_enter Try.func22, Try.ntmps22
    go_wp2_with fail
    refine (find_none b N D id _ h hl HP.out).mono ?_
    rintro e w1 ⟨rfl, hb⟩
    go_wp2_with fail
    go_ret2
    exact ⟨by rw [HF.out]; rfl, D, by rw [HF.out]; exact h.below hb (Nat.le_refl _), Turns.of_below hb⟩
  | some i =>
    obtain ⟨m, hm, hid⟩ := place_some hp
    obtain ⟨x, hx, hxm⟩ := h.flp.at hm
    have hi : i < N.fl.length := (List.getElem?_eq_some_iff.1 hm).1
    have HP := Lib.hid hp
    have i0 : (0 : Int) ≤ (i : Int) := by omega
    have i1 : (i : Int) < (N.fl.length : Int) := by omega
    have i2 : (N.fl.length : Int) ≤ 64 := by have := hl.fl; omega
    by_cases hfull : 64 ≤ N.fl.length
    · have HF : Hid (N.dup id = (N, 0, 7)) := by simp [Hid, NetM.dup, hp, hfull]
      have HU : Hid (decide (64 ≤ N.fl.length) = true) := by simpa [Hid] using hfull
      clear hp hm hid hx hfull
      go_enter Try.func22, Try.ntmps22
      go_wp2_with fail
      refine (find_some b N D id i _ h hl HP.out).mono ?_
      rintro e w1 ⟨rfl, hb⟩
      have h1 := h.below hb (Nat.le_refl _)
      go_wp2_with fail
      refine (full_rep b N D _ h1 hl).mono ?_
      rintro e w2 ⟨rfl, rfl⟩
      have hu := HU.out
      go_wp2_with fail
      go_ret2
      exact ⟨by rw [HF.out]; rfl, D, by rw [HF.out]; exact h1, Turns.of_below hb⟩
    · have HF : Hid (N.dup id = (N.put m.pk m.src 4 id, N.next, 0)) := by simp [Hid, NetM.dup, hp, hfull, hm]
      have HU : Hid (decide (64 ≤ N.fl.length) = false) := by simpa [Hid] using hfull
      have hlf : N.fl.length < 64 := by omega
      have hok := hl.flok m (List.mem_of_getElem? hm)
      have hsrc := hl.srcok m (List.mem_of_getElem? hm)
      have hbn : x.p.bn ≤ 100000 := by have := hok.bs; have := hxm.p.n; omega
      have hpb : ∀ k, x.p.blk = some k → k ≠ b := fun k hk e => by
        obtain ⟨c, hc⟩ := hxm.p.block hk
        exact absurd (cells_inj hc (e ▸ h.blk)) (by decide)
      obtain ⟨g, cap, hfv, _, hg⟩ := h.fl.form (by omega)
      have HX := Lib.hid hx
      clear hp hm hid hx hfull
      go_enter Try.func22, Try.ntmps22
      go_wp2_with fail
      refine (find_some b N D id i _ h hl HP.out).mono ?_
      rintro e w1 ⟨rfl, hb⟩
      have h1 := h.below hb (Nat.le_refl _)
      go_wp2_with fail
      refine (full_rep b N D _ h1 hl).mono ?_
      rintro e w2 ⟨rfl, rfl⟩
      have hu := HU.out
      go_wp2_with fail
      have hxp : PIn w1 x.p m.pk := (hxm.p.below hb (Nat.le_refl _)).pin
      have hbk := h1.blk
      have hfl := h1.fl
      rw [hfv] at hbk hfl
      have hcl := fly_cells hfl HX.out
      have c1 := hbk.c1
      have HS := Lib.hid hxm.src
      clear hu hfv h hbk hfl
      apply wp_region_early [0, 1, 2, 3, 4, 5, 6, 7, 8, 9, 10, 11, 12, 13, 14, 15, 16] [] [17, 18] (fun w' => w'.cell? ⟨b, 1, none⟩ = some (.slice (some ⟨g, 0, none⟩) N.fl.length cap) ∧ w'.cell? ⟨g, i * 5, none⟩ = some (.string x.p.f) ∧ w'.cell? ⟨g, i * 5 + 1, none⟩ = some (.string x.p.t) ∧ w'.cell? ⟨g, i * 5 + 2, none⟩ = some (.slice x.p.ba x.p.bn x.p.bc) ∧ w'.cell? ⟨g, i * 5 + 4, none⟩ = some (.int .i64 x.src))
      case hm => kernel_rfl
      case hB => kernel_rfl
      case hao => exact .nil
      case hlo => exact .cons rfl (.cons rfl .nil)
      case hS => exact ⟨c1, hcl.1, hcl.2.1, hcl.2.2.1, hcl.2.2.2.2⟩
      case hr =>
        iterate 17
          apply Reads.cons1 rfl rfl
          · intro w' hS
            obtain ⟨s0, s1, s2, s3, s4⟩ := hS
            go_simp
            try rfl
        exact Reads.nil
      intro W hW
      have hW1 : RepOk W b N D := by subst hW; exact h1.below ((Below.refl w1.heap.size w1).drew) (Nat.le_refl _)
      have hW2 : PIn W x.p m.pk := by subst hW; exact hxp.drew
      have hW3 : Turns D D b w W := by subst hW; exact Turns.of_below hb.drew
      clear hW h1 hxp hb hcl c1
      unfold wpTail
      simp only [Act.put, List.setIfInBounds_toArray, List.set_cons_succ, List.set_cons_zero]
      go_wp2_with fail
      refine (launch_rep b N D x.p m.pk x.src W hW1 hl hW2 hpb hbn).mono ?_
      rintro e w2 ⟨rfl, D2, h2, t2⟩
      go_wp2_with fail
      refine NoPanic.normal ?_
      go_wp2_with fail
      refine (note_rep b _ D2 4 N.next id w2 h2 (lim_push hl hf hc hok (by rw [HS.out]; exact hsrc.1) (by rw [HS.out]; exact hsrc.2) hlf)).mono ?_
      rintro e w3 ⟨rfl, D3, h3, t3⟩
      go_wp2_with fail
      go_ret2
      exact ⟨by rw [HF.out]; rfl, D3, by rw [HF.out, ← HS.out]; exact h3, (hW3.trans t2).trans t3⟩
end Go.Proofs.Ytnkcgalbaeppmaa
