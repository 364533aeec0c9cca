/- Texts joined into one: Rf4 Rf5 Rf6. -/
import Derived.Test.YtnkcgalbaeppmaaM8
/- The reference in memory: Count, Flies, Genuine. -/
namespace Go.Proofs.Ytnkcgalbaeppmaa
open Go.RowKit
/-- The four slices of a reference, written out. -/
theorem RefAt.forms {w : World} {V : RefV} {R : RefM} (h : RefAt w V R) : ∃ (aa : Option Addr) (ac : Nat) (ha : Option Addr) (hc : Nat) (ea : Option Addr) (ec : Nat) (ba : Option Addr) (bc : Nat),
    V.al = .slice aa R.all.length ac ∧ V.hi = .slice ha R.hist.length hc ∧ V.ev = .slice ea R.ev.length ec ∧ V.bl = .slice ba R.blk.length bc := by
  obtain ⟨aa, ac, h1, _⟩ := ownsRow_slice h.all
  obtain ⟨ha, hc, h2, _⟩ := ownsRow_slice h.hist
  obtain ⟨ea, ec, h3, _⟩ := ownsRow_slice h.ev
  obtain ⟨ba, bc, h4, _⟩ := ownsRow_slice h.blk
  exact ⟨aa, ac, ha, hc, ea, ec, ba, bc, h1, h2, h3, h4⟩
def cnt (l : List RF) : Nat := (l.filter (fun x => !x.gone)).length
theorem cnt_snoc (l : List RF) (x : RF) : cnt (l ++ [x]) = cnt l + (if x.gone then 0 else 1) := by
  simp only [cnt, List.filter_append, List.length_append]
  cases hx : x.gone <;> simp [hx]
theorem cnt_le (l : List RF) : cnt l ≤ l.length := List.length_filter_le _ _
set_option maxHeartbeats 800000 in
theorem count_any (V : RefV) (R : RefM) (w : World) (h : RefAt w V R) (hl : R.lim) : Calls Try.prog 18 #[V.val] w fun e w' => e = .returned (.int .i64 R.count) ∧ Below w.heap.size w w' := by
  obtain ⟨aa, ac, ha, hc, ea, ec, ba, bc, h1, h2, h3, h4⟩ := h.forms
  have hown := h.all
  have hp := h.allp
  have hlen := hl.all
  have hpl := h.allp.1
  obtain ⟨al, hi, ev, bl, ps, hs⟩ := V
  simp only at h1 h2 h3 h4 hown hp hpl
  subst h1 h2 h3 h4
  simp only [RefV.val]
  clear h
  have hbx : Below w.heap.size w (w.alloc (.cells #[.slice aa R.all.length ac, .slice ha R.hist.length hc, .slice ea R.ev.length ec, .slice ba R.blk.length bc] 35)) := (Below.refl _ _).alloc (Nat.le_refl _) _
  have ebx := heap_alloc_new w (.cells #[.slice aa R.all.length ac, .slice ha R.hist.length hc, .slice ea R.ev.length ec, .slice ba R.blk.length bc] 35)
  have hown1 := ownsRow_below hown hbx (Nat.le_refl _)
  go_enter Try.func18, Try.ntmps18
  go_wp2_with fail
  generalize w.alloc (.cells #[.slice aa R.all.length ac, .slice ha R.hist.length hc, .slice ea R.ev.length ec, .slice ba R.blk.length bc] 35) = w1 at hbx ebx hown1 ⊢
  obtain ⟨c0, _, _, _, _, _⟩ := blk4 ebx
  go_loopw [3, 4] (fun c i wr => ∃ k : Nat, k ≤ R.all.length ∧ i = .int .i64 k ∧ c = .int .i64 (cnt (R.all.take k)) ∧ wr = w1) (fun _ i _ => R.all.length - (intOf i).toNat)
  case atStart => exact ⟨0, Nat.zero_le _, rfl, rfl, rfl⟩
  case round =>
    obtain ⟨k, hk, rfl, rfl, rfl⟩ := hrel
    by_cases hlt : k < R.all.length
    · obtain ⟨m, hm⟩ : ∃ m, R.all[k]? = some m := ⟨_, List.getElem?_eq_getElem hlt⟩
      obtain ⟨x, hx, hxm⟩ := hp.at hm
      obtain ⟨g, cap, hg, _, _⟩ := hown1.form (by omega)
      injection hg with hg1 _ hg2
      subst hg1 hg2
      obtain ⟨d0, d1, d2, d3, d4⟩ := all_cells hown1 hx
      have i0 : (0 : Int) ≤ (k : Int) := by omega
      have i1 : (k : Int) < (R.all.length : Int) := by omega
      have i2 : (R.all.length : Int) ≤ 50000 := by omega
      have HT := Lib.hid (show cnt (R.all.take (k + 1)) = cnt (R.all.take k) + (if m.gone then 0 else 1) by rw [List.take_add_one, hm]; exact cnt_snoc _ _)
      have hcl := cnt_le (R.all.take k)
      have hct : (cnt (R.all.take k) : Int) ≤ 50000 := by have : (R.all.take k).length ≤ R.all.length := List.length_take_le' _ _; omega
      rw [hxm.gone] at d4
      clear hm hx hxm hcl
      cases hgone : m.gone
      · rw [hgone] at d4
        have HT2 : Hid (cnt (R.all.take (k + 1)) = cnt (R.all.take k) + 1) := by show _ = _; rw [HT.out, hgone]; rfl
        clear HT hgone
        go_wp2_with fail
        go_roundw
        case rel => exact ⟨k + 1, by omega, by go_num, by rw [HT2.out]; rfl, trivial⟩
        case measure => simp [intOf]; omega
      · rw [hgone] at d4
        have HT2 : Hid (cnt (R.all.take (k + 1)) = cnt (R.all.take k)) := by show _ = _; rw [HT.out, hgone]; rfl
        clear HT hgone
        go_wp2_with fail
        go_roundw
        case rel => exact ⟨k + 1, by omega, by go_num, by rw [HT2.out], trivial⟩
        case measure => simp [intOf]; omega
    · obtain rfl : k = R.all.length := by omega
      have HF : Hid (cnt (R.all.take R.all.length) = R.count) := by show _ = _; rw [List.take_of_length_le (Nat.le_refl _)]; rfl
      clear hown1 hown
      go_wp2_with fail
      go_ret
      exact ⟨ret_int (by rw [HF.out]), hbx⟩
set_option maxHeartbeats 800000 in
theorem flies_any (V : RefV) (R : RefM) (id : Int) (w : World) (h : RefAt w V R) (hl : R.lim) : Calls Try.prog 12 #[V.val, .int .i64 id] w fun e w' => e = .returned (.bool (R.flies id)) ∧ Below w.heap.size w w' := by
  obtain ⟨aa, ac, ha, hc, ea, ec, ba, bc, h1, h2, h3, h4⟩ := h.forms
  have hown := h.all
  have hp := h.allp
  have hlen := hl.all
  obtain ⟨al, hi, ev, bl, ps, hs⟩ := V
  simp only at h1 h2 h3 h4 hown hp
  subst h1 h2 h3 h4
  simp only [RefV.val]
  clear h
  have hbx : Below w.heap.size w (w.alloc (.cells #[.slice aa R.all.length ac, .slice ha R.hist.length hc, .slice ea R.ev.length ec, .slice ba R.blk.length bc] 35)) := (Below.refl _ _).alloc (Nat.le_refl _) _
  by_cases h0 : 0 ≤ id
  · obtain ⟨n, rfl⟩ := Int.eq_ofNat_of_zero_le h0
    by_cases hlt : n < R.all.length
    · obtain ⟨m, hm⟩ : ∃ m, R.all[n]? = some m := ⟨_, List.getElem?_eq_getElem hlt⟩
      obtain ⟨x, hx, hxm⟩ := hp.at hm
      obtain ⟨g, cap, hg, _, lg⟩ := hown.form (by omega)
      injection hg with hg1 _ hg2
      subst hg1 hg2
      obtain ⟨d0, d1, d2, d3, d4⟩ := all_cells hown hx
      have i0 : (0 : Int) ≤ (n : Int) := by omega
      have i1 : (n : Int) < (R.all.length : Int) := by omega
      have i2 : (R.all.length : Int) ≤ 50000 := by omega
      have HF : Hid (R.flies n = !m.gone) := by simp [Hid, RefM.flies, hm]
      rw [hxm.gone] at d4
      clear hm hx hxm h0
      go_enter Try.func12, Try.ntmps12
      go_wp2_with fail
      go_ret
      exact ⟨ret_bool (by rw [HF.out]), hbx⟩
    · have i1 : ¬ (n : Int) < (R.all.length : Int) := by omega
      have HF : Hid (R.flies n = false) := by simp [Hid, RefM.flies, List.getElem?_eq_none (Nat.le_of_not_lt hlt)]
      clear hlt hown
      go_enter Try.func12, Try.ntmps12
      go_wp2_with fail
      go_ret
      exact ⟨ret_bool HF.out.symm, hbx⟩
  · have HF : Hid (R.flies id = false) := by simp [Hid, RefM.flies, h0]
    have h0' : ¬ (0 ≤ id) := h0
    clear h0 hown
    go_enter Try.func12, Try.ntmps12
    go_wp2_with fail
    go_ret
    exact ⟨ret_bool HF.out.symm, hbx⟩
end Go.Proofs.Ytnkcgalbaeppmaa
/- The reference in memory: Genuine. -/
namespace Go.Proofs.Ytnkcgalbaeppmaa
open Go.RowKit
def RefM.gen (R : RefM) (m : RF) : Bool := decide (0 ≤ m.src) && (match R.hist[m.src.toNat]? with | some q => sameR m.pk q | none => false)
set_option maxHeartbeats 1600000 in
set_option maxRecDepth 100000 in
theorem genuineR_any (V : RefV) (R : RefM) (n : Nat) (m : RF) (w : World) (h : RefAt w V R) (hl : R.lim) (hm : R.all[n]? = some m) : Calls Try.prog 13 #[V.val, .int .i64 n] w fun e w' => e = .returned (.bool (R.gen m)) ∧ Below w.heap.size w w' := by
  obtain ⟨aa, ac, ha, hc, ea, ec, ba, bc, h1, h2, h3, h4⟩ := h.forms
  have hown := h.all
  have hp := h.allp
  have hho := h.hist
  have hhp := h.histp
  have hlen := hl.all
  have hlh := hl.hist
  have hsrc := hl.srcok m (List.mem_of_getElem? hm)
  obtain ⟨al, hi, ev, bl, ps, hs⟩ := V
  simp only at h1 h2 h3 h4 hown hp hho hhp
  subst h1 h2 h3 h4
  simp only [RefV.val]
  clear h
  have hlt : n < R.all.length := (List.getElem?_eq_some_iff.1 hm).1
  obtain ⟨x, hx, hxm⟩ := hp.at hm
  obtain ⟨g, cap, hg, _, lg⟩ := hown.form (by omega)
  injection hg with hg1 _ hg2
  subst hg1 hg2
  obtain ⟨d0, d1, d2, d3, d4⟩ := all_cells hown hx
  rw [hxm.src] at d3
  rw [hxm.gone] at d4
  have hxp := hxm.p
  have i0 : (0 : Int) ≤ (n : Int) := by omega
  have i1 : (n : Int) < (R.all.length : Int) := by omega
  have i2 : (R.all.length : Int) ≤ 50000 := by omega
  have hb1 : Below w.heap.size w ((w.alloc (.cells #[.slice (some ⟨g, 0, none⟩) R.all.length ac, .slice ha R.hist.length hc, .slice ea R.ev.length ec, .slice ba R.blk.length bc] 35)).alloc (.cells #[.string x.p.f, .string x.p.t, .slice x.p.ba x.p.bn x.p.bc, .int .i64 m.src, .bool m.gone] 51)) := ((Below.refl _ _).alloc (Nat.le_refl _) _).alloc (by simp) _
  have e1 := top1 w (.cells #[.slice (some ⟨g, 0, none⟩) R.all.length ac, .slice ha R.hist.length hc, .slice ea R.ev.length ec, .slice ba R.blk.length bc] 35) (.cells #[.string x.p.f, .string x.p.t, .slice x.p.ba x.p.bn x.p.bc, .int .i64 m.src, .bool m.gone] 51)
  have e2 := top0 w (.cells #[.slice (some ⟨g, 0, none⟩) R.all.length ac, .slice ha R.hist.length hc, .slice ea R.ev.length ec, .slice ba R.blk.length bc] 35) (.cells #[.string x.p.f, .string x.p.t, .slice x.p.ba x.p.bn x.p.bc, .int .i64 m.src, .bool m.gone] 51)
  clear hm hx hxm hown
  go_enter Try.func13, Try.ntmps13
  go_wp2_with fail
  generalize (w.alloc (.cells #[.slice (some ⟨g, 0, none⟩) R.all.length ac, .slice ha R.hist.length hc, .slice ea R.ev.length ec, .slice ba R.blk.length bc] 35)).alloc (.cells #[.string x.p.f, .string x.p.t, .slice x.p.ba x.p.bn x.p.bc, .int .i64 m.src, .bool m.gone] 51) = w1 at hb1 e1 e2 ⊢
  have hpx := (hxp.below hb1 (Nat.le_refl _)).pin
  obtain ⟨r0, r1, r2, r3, _, _⟩ := blk4 e1
  obtain ⟨q0, q1, q2, q3, q4, _, _⟩ := blk5 e2
  by_cases hs0 : 0 ≤ m.src
  · obtain ⟨j, hj⟩ := Int.eq_ofNat_of_zero_le hs0
    have hjl : j < R.hist.length := by omega
    obtain ⟨q, hq⟩ : ∃ q, R.hist[j]? = some q := ⟨_, List.getElem?_eq_getElem hjl⟩
    obtain ⟨pq, hpq, hpqm⟩ := hhp.at hq
    have HF : Hid (R.gen m = sameR m.pk q) := by simp [Hid, RefM.gen, hj, hq]
    have j0 : (0 : Int) ≤ (j : Int) := by omega
    have j1 : (j : Int) < (R.hist.length : Int) := by omega
    have j2 : (R.hist.length : Int) ≤ 1024 := by omega
    obtain ⟨gh, caph, hhv, _, hgh⟩ := hho.form (by omega)
    injection hhv with hv1 _ hv2
    subst hv1 hv2
    have hcl := hist_cells (ownsRow_below hho hb1 (Nat.le_refl _)) hpq
    have hqx := (hpqm.below hb1 (Nat.le_refl _)).pin
    rw [hj] at q3 d3
    clear hq hpq hs0 hsrc e1 e2 d0 d1 d2 d3 d4
    apply wp_region_early [0, 1, 2, 3, 4, 5, 6, 7, 8, 9, 10, 11] [] [12, 13, 14] (fun w' => w'.cell? ⟨w.heap.size, 1, none⟩ = some (.slice (some ⟨gh, 0, none⟩) R.hist.length hc) ∧ w'.cell? ⟨gh, j * 3, none⟩ = some (.string pq.f) ∧ w'.cell? ⟨gh, j * 3 + 1, none⟩ = some (.string pq.t) ∧ w'.cell? ⟨gh, j * 3 + 2, none⟩ = some (.slice pq.ba pq.bn pq.bc) ∧ w'.cell? ⟨w.heap.size + 1, 0, none⟩ = some (.string x.p.f) ∧ w'.cell? ⟨w.heap.size + 1, 1, none⟩ = some (.string x.p.t) ∧ w'.cell? ⟨w.heap.size + 1, 2, none⟩ = some (.slice x.p.ba x.p.bn x.p.bc) ∧ w'.cell? ⟨w.heap.size + 1, 3, none⟩ = some (.int .i64 j))
    case hm => kernel_rfl
    case hB => kernel_rfl
    case hao => exact .nil
    case hlo => exact .cons rfl (.cons rfl (.cons rfl .nil))
    case hS => exact ⟨r1, hcl.1, hcl.2.1, hcl.2.2, q0, q1, q2, q3⟩
    case hr =>
      iterate 2
        apply Reads.cons1 rfl rfl
        · intro w' hS
          obtain ⟨s0, s1, s2, s3, s4, s5, s6, s7⟩ := hS
          go_simp
          try rfl
      apply Reads.cons1 (v := .bool true) rfl rfl
      · intro w' hS
        have hd : decide ((0 : Int) ≤ (j : Int)) = true := by simp
        go_simp
        try rfl
      iterate 9
        simp only [Act.put, List.setIfInBounds_toArray, List.set_cons_succ, List.set_cons_zero]
        apply Reads.cons1 rfl rfl
        · intro w' hS
          obtain ⟨s0, s1, s2, s3, s4, s5, s6, s7⟩ := hS
          go_simp
          try rfl
      exact Reads.nil
    intro W hW
    have hb3 : Below w.heap.size w W := by subst hW; exact hb1.drew
    have hpW : PIn W x.p m.pk := by subst hW; exact hpx.drew
    have hqW : PIn W pq q := by subst hW; exact hqx.drew
    clear hW hb1 hpx hqx hcl r0 r1 r2 r3 q0 q1 q2 q3 q4
    unfold wpTail
    simp only [Act.put, List.setIfInBounds_toArray, List.set_cons_succ, List.set_cons_zero]
    go_wp2_with fail
    refine (same_any x.p pq m.pk q W hpW hqW).mono ?_
    rintro e w3 ⟨rfl, hb4⟩
    go_wp2_with fail
    refine NoPanic.normal ?_
    go_wp2_with fail
    go_ret
    exact ⟨ret_bool HF.out.symm, hb3.trans (hb4.mono hb3.size)⟩
  · have HF : Hid (R.gen m = false) := by simp [Hid, RefM.gen, hs0]
    have hneg : ¬ (0 : Int) ≤ m.src := hs0
    clear hs0 hsrc e1 e2 d0 d1 d2 d3 d4 r0 r1 r2 r3 hho hhp
    apply wp_region_early [0, 1, 2, 3, 4, 5, 6, 7, 8, 9, 10, 11, 12, 13] [] [14] (fun w' => w'.cell? ⟨w.heap.size + 1, 3, none⟩ = some (.int .i64 m.src))
    case hm => kernel_rfl
    case hB => kernel_rfl
    case hao => exact .nil
    case hlo => exact .cons rfl .nil
    case hS => exact q3
    case hr =>
      iterate 2
        apply Reads.cons1 rfl rfl
        · intro w' hS
          go_simp
          try rfl
      apply Reads.cons1 (v := .bool false) rfl rfl
      · intro w' hS
        have hd : decide ((0 : Int) ≤ m.src) = false := by simpa using hneg
        go_simp
        try rfl
      apply Reads.cons1 rfl rfl
      · intro w' hS
        go_simp
        try rfl
      iterate 9
        simp only [Act.put, List.setIfInBounds_toArray, List.set_cons_succ, List.set_cons_zero]
        apply Reads.cons0 rfl rfl
      simp only [Act.put, List.setIfInBounds_toArray, List.set_cons_succ, List.set_cons_zero]
      apply Reads.cons1 rfl rfl
      · intro w' hS
        go_simp
        try rfl
      exact Reads.nil
    intro W hW
    have hb3 : Below w.heap.size w W := by subst hW; exact hb1.drew
    clear hW hb1 hpx q0 q1 q2 q3 q4
    unfold wpTail
    simp only [Act.put, List.setIfInBounds_toArray, List.set_cons_succ, List.set_cons_zero]
    go_wp2_with fail
    refine NoPanic.normal ?_
    go_wp2_with fail
    go_ret
    exact ⟨ret_bool HF.out.symm, hb3⟩
end Go.Proofs.Ytnkcgalbaeppmaa
/- The reference's own. -/
namespace Go.Proofs.Ytnkcgalbaeppmaa
open Go.RowKit
theorem Try.info51' : (Try.prog.info? 51).map (fun i => (i.zero, i.size, i.bytes)) = some (some (.agg #[.string ByteArray.empty, .string ByteArray.empty, .slice none 0 0, .int .i64 0, .bool false]), 5, 72) := by kernel_rfl
theorem T32 : SlT Try.prog 32 51 (.agg #[.string ByteArray.empty, .string ByteArray.empty, .slice none 0 0, .int .i64 0, .bool false]) 5 72 := ⟨Try.underlying32, Try.info51', rfl, by decide, by decide⟩
theorem set_mid {α : Type} (pre mid post : List α) (L j : Nat) (v : α) (hL : pre.length = L) (hj : j < mid.length) : (pre ++ (mid ++ post)).set (L + j) v = pre ++ (mid.set j v ++ post) := by
  subst hL
  rw [List.set_append_right _ _ (by omega), Nat.add_sub_cancel_left, List.set_append_left _ _ hj]
theorem at_mid {α : Type} (pre mid post : List α) (L j : Nat) (hL : pre.length = L) (hj : j < mid.length) : (pre ++ (mid ++ post))[L + j]? = mid[j]? := by
  subst hL
  rw [List.getElem?_append_right (by omega), Nat.add_sub_cancel_left, List.getElem?_append_left hj]
theorem five {α : Type} {l : List α} {n : Nat} (h : l.length = (n + 1) * 5) : ∃ a b c d e r, l = [a, b, c, d, e] ++ r ∧ r.length = n * 5 := by
  match l, h with
  | a :: b :: c :: d :: e :: r, h => exact ⟨a, b, c, d, e, r, rfl, by simp at h; omega⟩
  | [], h => simp at h
  | [_], h => simp at h; omega
  | [_, _], h => simp at h; omega
  | [_, _, _], h => simp at h; omega
  | [_, _, _, _], h => simp at h; omega
/-- No two of them share a block. -/
def ApartR (qs : List RV) : Prop := ∀ (i j : Nat) (x y : RV) (k : Nat), qs[i]? = some x → qs[j]? = some y → i ≠ j → x.p.blk = some k → y.p.blk ≠ some k
theorem ApartR.snoc {qs : List RV} {q : RV} {W0 : Nat} (h : ApartR qs) (hold : ∀ x ∈ qs, ∀ k, x.p.blk = some k → k < W0) (hq : ∀ k, q.p.blk = some k → W0 ≤ k) : ApartR (qs ++ [q]) := by
  intro i j x y k hx hy hij h1 h2
  rcases Nat.lt_or_ge i qs.length with hi | hi <;> rcases Nat.lt_or_ge j qs.length with hj | hj
  · rw [List.getElem?_append_left hi] at hx
    rw [List.getElem?_append_left hj] at hy
    exact h i j x y k hx hy hij h1 h2
  · rw [List.getElem?_append_left hi] at hx
    rw [List.getElem?_append_right hj] at hy
    have h3 := hold x (List.mem_of_getElem? hx) k h1
    have : y = q := by have := List.mem_of_getElem? hy; simpa using this
    subst this
    have := hq k h2; omega
  · rw [List.getElem?_append_right hi] at hx
    rw [List.getElem?_append_left hj] at hy
    have h3 := hold y (List.mem_of_getElem? hy) k h2
    have : x = q := by have := List.mem_of_getElem? hx; simpa using this
    subst this
    have := hq k h1; omega
  · have h4 : i < (qs ++ [q]).length := (List.getElem?_eq_some_iff.1 hx).1
    have h5 : j < (qs ++ [q]).length := (List.getElem?_eq_some_iff.1 hy).1
    simp at h4 h5; omega
def OwnR (V : RefV) (R : RefM) (w : World) (e : Ending) (w' : World) : Prop :=
  ∃ (g : Nat) (cap : Nat) (ev : Value) (ps : List RV), e = .returned (RefV.val { V with al := .slice (some ⟨g, 0, none⟩) R.all.length cap, ev := ev, ps := ps }) ∧ RefAt w' { V with al := .slice (some ⟨g, 0, none⟩) R.all.length cap, ev := ev, ps := ps } R ∧ w.heap.size ≤ g ∧ (∀ k, ev.ownBlock = some k → w.heap.size ≤ k) ∧
    (∀ x ∈ ps, ∀ k, x.p.blk = some k → w.heap.size ≤ k) ∧ ApartR ps ∧ Below w.heap.size w w'
set_option maxHeartbeats 1600000 in
set_option maxRecDepth 100000 in
theorem ownR_any (V : RefV) (R : RefM) (w : World) (h : RefAt w V R) (hl : R.lim) : Calls Try.prog 59 #[V.val] w (OwnR V R w) := by
  obtain ⟨aa, ac, ha, hc, ea, ec, ba, bc, h1, h2, h3, h4⟩ := h.forms
  obtain ⟨al, hi, ev, bl, ps, hs⟩ := V
  simp only at h1 h2 h3 h4
  subst h1 h2 h3 h4
  simp only [RefV.val]
  obtain ⟨i0, hi0, hz0, hz1, hz2⟩ := info_parts T32.info
  have hlen := hl.all
  have e1 := top1 w (.cells #[.slice aa R.all.length ac, .slice ha R.hist.length hc, .slice ea R.ev.length ec, .slice ba R.blk.length bc] 35) (.cells #[.slice none 0 0, .slice none 0 0, .slice none 0 0, .slice none 0 0] 35)
  have e2 := top0 w (.cells #[.slice aa R.all.length ac, .slice ha R.hist.length hc, .slice ea R.ev.length ec, .slice ba R.blk.length bc] 35) (.cells #[.slice none 0 0, .slice none 0 0, .slice none 0 0, .slice none 0 0] 35)
  have hb1 : Below w.heap.size w ((w.alloc (.cells #[.slice aa R.all.length ac, .slice ha R.hist.length hc, .slice ea R.ev.length ec, .slice ba R.blk.length bc] 35)).alloc (.cells #[.slice none 0 0, .slice none 0 0, .slice none 0 0, .slice none 0 0] 35)) := ((Below.refl _ _).alloc (Nat.le_refl _) _).alloc (by simp) _
  go_enter Try.func59, Try.ntmps59
  go_wp2_with (at_make; apply unwrap)
  generalize (w.alloc (.cells #[.slice aa R.all.length ac, .slice ha R.hist.length hc, .slice ea R.ev.length ec, .slice ba R.blk.length bc] 35)).alloc (.cells #[.slice none 0 0, .slice none 0 0, .slice none 0 0, .slice none 0 0] 35) = w1 at e1 e2 hb1 ⊢
  refine wpList_make_full w1 rfl _ _ 32 rfl 0 51 i0 _ 5 T32.und hi0 hz0 hz1 .i64 .i64 _ _ R.all.length rfl rfl rfl rfl (by rw [hz2]; omega) (by unfold maxLen; omega) (Nat.zero_le _) ?_
  intro w2 hown hgr
  have hb2 : Below w.heap.size w w2 := hb1.grown hgr hb1.size (fun k e => by cases e)
  have f1 := (hgr.block _ (lt_of_heap e1) (by simp)).trans e1
  have f2 := (hgr.block _ (lt_of_heap e2) (by simp)).trans e2
  have hG : w.heap.size + 1 < w1.heap.size := lt_of_heap e2
  clear e1 e2 hb1 hgr
  generalize w1.heap.size = G at hown hG ⊢
  go_wp2_with fail
  go_loopw [4] (fun i wr => ∃ (k : Nat) (qs : List RV) (rest : List Value), k ≤ R.all.length ∧ i = .int .i64 k ∧ wr.ownsRow 0 51 5 (.slice (some ⟨G, 0, none⟩) R.all.length R.all.length) R.all.length (qs.flatMap RV.cells ++ rest) ∧ rest.length = (R.all.length - k) * 5 ∧
      Both (ROwn wr) qs (R.all.take k) ∧ (∀ x ∈ qs, ∀ j, x.p.blk = some j → G < j) ∧ ApartR qs ∧ Below w.heap.size w wr ∧ wr.heap[w.heap.size]? = some (.cells #[.slice aa R.all.length ac, .slice ha R.hist.length hc, .slice ea R.ev.length ec, .slice ba R.blk.length bc] 35) ∧
      wr.heap[w.heap.size + 1]? = some (.cells #[.slice none 0 0, .slice none 0 0, .slice none 0 0, .slice none 0 0] 35)) (fun i _ => R.all.length - (intOf i).toNat)
  case atStart =>
    exact ⟨0, [], _, Nat.zero_le _, rfl, hown, by simpa using hown.1, Both.nil, fun x hx => by simp at hx, fun i j x y k hx => by simp at hx, hb2, f1, f2⟩
  case round =>
    obtain ⟨k, qs, rest, hk, rfl, how, hrl, hq, hqb, hap, hb, g1, g2⟩ := hrel
    clear hown hb2 f1 f2
    have hGl : G < wr.heap.size := (how.lt G rfl).2
    by_cases hlt : k < R.all.length
    · obtain ⟨m, hm⟩ : ∃ m, R.all[k]? = some m := ⟨_, List.getElem?_eq_getElem hlt⟩
      have hA := (h.below hb (Nat.le_refl _))
      obtain ⟨x, hx, hxm⟩ := hA.allp.at hm
      have hall := hA.all
      simp only at hall hx
      obtain ⟨g, cap, hg, _, lg⟩ := hall.form (by omega)
      injection hg with hg1 _ hg2
      subst hg1 hg2
      have hgw : g < w.heap.size := (h.all.lt g rfl).2
      obtain ⟨d0, d1, d2, d3, d4⟩ := all_cells hall hx
      have hpsrc := hxm.p.src
      have hok := hl.allok m (List.mem_of_getElem? hm)
      obtain ⟨a0, a1, a2, a3, a4, rest', rfl, hrl'⟩ := five (n := R.all.length - k - 1) (by rw [hrl]; congr 1; omega)
      have hql : (qs.flatMap RV.cells).length = k * 5 := by
        have h1 := flat_len RV.cells 5 RV.cells_len qs
        rw [h1, hq.1]; simp; omega
      have t : ∀ j, j < 5 → wr.cell? ⟨G, k * 5 + j, none⟩ = [a0, a1, a2, a3, a4][j]? := fun j hj => by
        rw [how.cellAt (k * 5 + j) (by have := Nat.mul_le_mul_right 5 (show k + 1 ≤ R.all.length by omega); omega)]
        exact at_mid _ _ _ _ _ hql hj
      have t0 : wr.cell? ⟨G, k * 5, none⟩ = some a0 := t 0 (by decide)
      have t1 : wr.cell? ⟨G, k * 5 + 1, none⟩ = some a1 := t 1 (by decide)
      have t2 : wr.cell? ⟨G, k * 5 + 2, none⟩ = some a2 := t 2 (by decide)
      have t3 : wr.cell? ⟨G, k * 5 + 3, none⟩ = some a3 := t 3 (by decide)
      have t4 : wr.cell? ⟨G, k * 5 + 4, none⟩ = some a4 := t 4 (by decide)
      have tf : ∀ j, wr.frozen? ⟨G, j, none⟩ = false := fun j => how.frozenAt j
      obtain ⟨c0, _, _, _, _, cl⟩ := blk4 g1
      have i0 : (0 : Int) ≤ (k : Int) := by omega
      have i1 : (k : Int) < (R.all.length : Int) := by omega
      have i2 : (R.all.length : Int) ≤ 50000 := by omega
      have hgG : g ≠ G := by omega
      have HM := Lib.hid hm
      clear t hx hall hm
      go_wp2_with fail
      have hk5 : Kp (fun j => j = G) wr (((((wr.setCell ⟨G, k * 5, none⟩ (.string x.p.f)).setCell ⟨G, k * 5 + 1, none⟩ (.string x.p.t)).setCell ⟨G, k * 5 + 2, none⟩ (.slice x.p.ba x.p.bn x.p.bc)).setCell ⟨G, k * 5 + 3, none⟩ (.int .i64 x.src)).setCell ⟨G, k * 5 + 4, none⟩ (.bool x.gone)) := (((((Kp.refl (fun j => j = G) wr).setCell (fun _ => rfl) _).setCell (fun _ => rfl) _).setCell (fun _ => rfl) _).setCell (fun _ => rfl) _).setCell (fun _ => rfl) _
      have hz5 : (((((wr.setCell ⟨G, k * 5, none⟩ (.string x.p.f)).setCell ⟨G, k * 5 + 1, none⟩ (.string x.p.t)).setCell ⟨G, k * 5 + 2, none⟩ (.slice x.p.ba x.p.bn x.p.bc)).setCell ⟨G, k * 5 + 3, none⟩ (.int .i64 x.src)).setCell ⟨G, k * 5 + 4, none⟩ (.bool x.gone)).heap.size = wr.heap.size := by simp [World.setCell]
      have how5 : (((((wr.setCell ⟨G, k * 5, none⟩ (.string x.p.f)).setCell ⟨G, k * 5 + 1, none⟩ (.string x.p.t)).setCell ⟨G, k * 5 + 2, none⟩ (.slice x.p.ba x.p.bn x.p.bc)).setCell ⟨G, k * 5 + 3, none⟩ (.int .i64 x.src)).setCell ⟨G, k * 5 + 4, none⟩ (.bool x.gone)).ownsRow 0 51 5 (.slice (some ⟨G, 0, none⟩) R.all.length R.all.length) R.all.length (qs.flatMap RV.cells ++ ([.string x.p.f, .string x.p.t, .slice x.p.ba x.p.bn x.p.bc, .int .i64 x.src, .bool x.gone] ++ rest')) := by
        have s0 := (how.stored (k * 5 + 0) (.string x.p.f)).1
        rw [set_mid _ _ _ _ _ _ hql (by simp)] at s0
        have s1 := (s0.stored (k * 5 + 1) (.string x.p.t)).1
        rw [set_mid _ _ _ _ _ _ hql (by simp)] at s1
        have s2 := (s1.stored (k * 5 + 2) (.slice x.p.ba x.p.bn x.p.bc)).1
        rw [set_mid _ _ _ _ _ _ hql (by simp)] at s2
        have s3 := (s2.stored (k * 5 + 3) (.int .i64 x.src)).1
        rw [set_mid _ _ _ _ _ _ hql (by simp)] at s3
        have s4 := (s3.stored (k * 5 + 4) (.bool x.gone)).1
        rw [set_mid _ _ _ _ _ _ hql (by simp)] at s4
        exact s4
      have hb5 : Below w.heap.size w (((((wr.setCell ⟨G, k * 5, none⟩ (.string x.p.f)).setCell ⟨G, k * 5 + 1, none⟩ (.string x.p.t)).setCell ⟨G, k * 5 + 2, none⟩ (.slice x.p.ba x.p.bn x.p.bc)).setCell ⟨G, k * 5 + 3, none⟩ (.int .i64 x.src)).setCell ⟨G, k * 5 + 4, none⟩ (.bool x.gone)) := Below.kp hb hk5 (Nat.le_refl _) (fun j e => by omega)
      clear t0 t1 t2 t3 t4 tf d0 d1 d2 d3 d4 c0
      generalize ((((wr.setCell ⟨G, k * 5, none⟩ (.string x.p.f)).setCell ⟨G, k * 5 + 1, none⟩ (.string x.p.t)).setCell ⟨G, k * 5 + 2, none⟩ (.slice x.p.ba x.p.bn x.p.bc)).setCell ⟨G, k * 5 + 3, none⟩ (.int .i64 x.src)).setCell ⟨G, k * 5 + 4, none⟩ (.bool x.gone) = w5 at hk5 hz5 how5 hb5 ⊢
      have h5k : ∀ j, j ≠ G → j < wr.heap.size → w5.heap[j]? = wr.heap[j]? := fun j h1 h2 => hk5.block j h2 h1
      have hp5 : PSrc w5 x.p m.pk := ⟨(hxm.p.kp hk5 (fun j hj e => by
        have h1 := hxm.p.block hj
        obtain ⟨c1, h1⟩ := h1
        obtain ⟨c2, h2⟩ := ownsRow_block how (k := G) rfl
        subst e
        exact absurd (cells_inj h1 h2) (by decide))).pin, hpsrc.nil⟩
      have g15 := (h5k _ (by omega) (lt_of_heap g1)).trans g1
      have g25 := (h5k _ (by omega) (lt_of_heap g2)).trans g2
      have hq5 : Both (ROwn w5) qs (R.all.take k) := hq.mono fun y z hy hz => ⟨hz.p.same fun j hj => h5k j (by have := hqb y hy j hj; omega) (hz.p.lt hj), hz.src, hz.gone⟩
      have hqlt : ∀ y ∈ qs, ∀ j, y.p.blk = some j → j < w5.heap.size := fun y hy j hj => by obtain ⟨z, _, hz⟩ := hq5.left hy; exact hz.p.lt hj
      refine (own_any x.p m.pk w5 hp5 (by have := hxm.p.n; have := hok.bs; omega)).mono ?_
      rintro e w6 ⟨⟨qf, qt, qa, qn, qc⟩, rfl, hqo, hqn, hbl6⟩
      simp only [PV.val]
      have how6 := ownsRow_below how5 hbl6 (Nat.le_refl _)
      have hb6 := hb5.trans (hbl6.mono hb5.size)
      have g16 := (hbl6.block _ (lt_of_heap g15)).trans g15
      have g26 := (hbl6.block _ (lt_of_heap g25)).trans g25
      have hq6 : Both (ROwn w6) qs (R.all.take k) := hq5.mono fun y z hy hz => ⟨hz.p.below hbl6 (Nat.le_refl _), hz.src, hz.gone⟩
      have t6 : ∀ j, j < 5 → w6.cell? ⟨G, k * 5 + j, none⟩ = [.string x.p.f, .string x.p.t, .slice x.p.ba x.p.bn x.p.bc, .int .i64 x.src, .bool x.gone][j]? := fun j hj => by
        rw [how6.cellAt (k * 5 + j) (by have := Nat.mul_le_mul_right 5 (show k + 1 ≤ R.all.length by omega); omega)]
        exact at_mid _ _ _ _ _ hql hj
      have t0 : w6.cell? ⟨G, k * 5, none⟩ = some (.string x.p.f) := t6 0 (by decide)
      have t1 : w6.cell? ⟨G, k * 5 + 1, none⟩ = some (.string x.p.t) := t6 1 (by decide)
      have t2 : w6.cell? ⟨G, k * 5 + 2, none⟩ = some (.slice x.p.ba x.p.bn x.p.bc) := t6 2 (by decide)
      have tf : ∀ j, w6.frozen? ⟨G, j, none⟩ = false := fun j => how6.frozenAt j
      have hG6 : G < w5.heap.size := by omega
      clear t6 how how5 hb hb5 g1 g2 g15 g25 hq hq5 hp5 hbl6 hk5 h5k hA hpsrc
      go_wp2_with fail
      have s0 := (how6.stored (k * 5 + 0) (.string qf)).1
      rw [set_mid _ _ _ _ _ _ hql (by simp)] at s0
      have s1 := (s0.stored (k * 5 + 1) (.string qt)).1
      rw [set_mid _ _ _ _ _ _ hql (by simp)] at s1
      have s2 := (s1.stored (k * 5 + 2) (.slice qa qn qc)).1
      rw [set_mid _ _ _ _ _ _ hql (by simp)] at s2
      have hk7 : Kp (fun j => j = G) w6 (((w6.setCell ⟨G, k * 5 + 0, none⟩ (.string qf)).setCell ⟨G, k * 5 + 1, none⟩ (.string qt)).setCell ⟨G, k * 5 + 2, none⟩ (.slice qa qn qc)) := (((Kp.refl (fun j => j = G) w6).setCell (fun _ => rfl) _).setCell (fun _ => rfl) _).setCell (fun _ => rfl) _
      go_roundw
      case rel =>
        have hqG : ∀ j, PV.blk ⟨qf, qt, qa, qn, qc⟩ = some j → w5.heap.size ≤ j := hqn
        refine ⟨k + 1, qs ++ [⟨⟨qf, qt, qa, qn, qc⟩, x.src, x.gone⟩], rest', by omega, by go_num, ?_, by rw [hrl']; congr 1, ?_, ?_, ?_, Below.kp hb6 hk7 (Nat.le_refl _) (fun j e => by omega), (hk7.block _ (lt_of_heap g16) (by omega)).trans g16, (hk7.block _ (lt_of_heap g26) (by omega)).trans g26⟩
        · have : (qs ++ [(⟨⟨qf, qt, qa, qn, qc⟩, x.src, x.gone⟩ : RV)]).flatMap RV.cells ++ rest' = qs.flatMap RV.cells ++ ([.string qf, .string qt, .slice qa qn qc, .int .i64 x.src, .bool x.gone] ++ rest') := by simp [RV.cells, PV.cells]
          rw [this]; exact s2
        · rw [List.take_add_one, HM.out]
          exact (hq6.mono fun y z hy hz => (⟨hz.p.same fun j hj => hk7.block j (hz.p.lt hj) (by have := hqb y hy j hj; omega), hz.src, hz.gone⟩ : ROwn _ y z)).snoc ⟨hqo.kp hk7 (fun j hj => by have := hqG j hj; omega), hxm.src, hxm.gone⟩
        · intro y hy j hj
          rcases List.mem_append.1 hy with hy | hy
          · exact hqb y hy j hj
          · obtain rfl : y = ⟨⟨qf, qt, qa, qn, qc⟩, x.src, x.gone⟩ := by simpa using hy
            have := hqG j hj; omega
        · exact hap.snoc hqlt hqG
      case measure => simp [intOf]; omega
    · obtain rfl : k = R.all.length := by omega
      obtain ⟨c0, c1, c2, c3, cf, cl⟩ := blk4 g1
      have hAt := h.below hb (Nat.le_refl _)
      have hev := hAt.ev
      simp only at hev
      obtain ⟨_, _, hEv, _, _, hEn, _⟩ := ownsRow_slice hev
      injection hEv with hE1 _ hE2
      subst hE1 hE2
      go_wp2_with (at_builtin; apply unwrap)
      have hkY : Kp (fun j => j = w.heap.size) wr (wr.setCell ⟨w.heap.size, 0, none⟩ (.slice (some ⟨G, 0, none⟩) R.all.length R.all.length)) := (Kp.refl (fun j => j = w.heap.size) wr).setCell (fun _ => rfl) _
      have y1 : (wr.setCell ⟨w.heap.size, 0, none⟩ (.slice (some ⟨G, 0, none⟩) R.all.length R.all.length)).heap[w.heap.size]? = some (.cells #[.slice (some ⟨G, 0, none⟩) R.all.length R.all.length, .slice ha R.hist.length hc, .slice ea R.ev.length ec, .slice ba R.blk.length bc] 35) := by simp [World.setCell, Array.getElem?_modify, g1]
      have y2 := (hkY.block _ (lt_of_heap g2) (by omega)).trans g2
      have hbY := hb.setCell (p := ⟨w.heap.size, 0, none⟩) (Nat.le_refl _) (.slice (some ⟨G, 0, none⟩) R.all.length R.all.length)
      have hevY := ownsRow_kp hev hkY (fun j hj e => by subst e; exact absurd (cells_inj (ownsRow_block hev hj).choose_spec g1) (by decide))
      have howY := ownsRow_kp how hkY (fun j hj e => by cases hj; have e' : G = w.heap.size := e; omega)
      have hqY : Both (ROwn (wr.setCell ⟨w.heap.size, 0, none⟩ (.slice (some ⟨G, 0, none⟩) R.all.length R.all.length))) qs (R.all.take R.all.length) := hq.mono fun y z hy hz => ⟨hz.p.same fun j hj => hkY.block j (hz.p.lt hj) (by have := hqb y hy j hj; omega), hz.src, hz.gone⟩
      have hGw := lt_of_heap g2
      clear hb how hq g1 g2 hkY c0 c1 c2 c3 cf cl hev hAt
      generalize wr.setCell ⟨w.heap.size, 0, none⟩ (.slice (some ⟨G, 0, none⟩) R.all.length R.all.length) = Y at y1 y2 hbY hevY howY hqY ⊢
      refine wpList_fresh rfl _ _ 29 rfl T29 rfl ea R.ev.length ec rfl (fun e => ?_) (R.ev.flatMap EvM.cells) (flat_len EvM.cells 3 EvM.cells_len _) ?_ ev_one (by have := hl.ev; omega) ?_
      · exact hEn e
      · intro ad had j u hu
        subst had
        obtain ⟨ge, rfl, _⟩ : ∃ ge, ad = ⟨ge, 0, none⟩ ∧ True := by
          obtain ⟨a, c, hv, _, _, _, hsome⟩ := ownsRow_slice hevY
          injection hv with hv1
          obtain ⟨ge, h1, _⟩ := hsome ad hv1.symm
          exact ⟨ge, h1, trivial⟩
        exact hevY.cells rfl j u hu
      intro ev' w8 hev8 hbl8
      have z1 := (hbl8.block _ (lt_of_heap y1)).trans y1
      have z2 := (hbl8.block _ (lt_of_heap y2)).trans y2
      have hb8 := hbY.trans (hbl8.mono hbY.size)
      have how8 := ownsRow_below howY hbl8 (Nat.le_refl _)
      have hq8 : Both (ROwn w8) qs (R.all.take R.all.length) := hqY.mono fun y z hy hz => ⟨hz.p.below hbl8 (Nat.le_refl _), hz.src, hz.gone⟩
      obtain ⟨eva, evc, rfl, _⟩ := ownsRow_slice hev8
      have hevb : ∀ j, (Value.slice eva R.ev.length evc).ownBlock = some j → w.heap.size + 2 ≤ j := fun j hj => by have := (hev8.lt j hj).1; have := lt_of_heap y2; omega
      have hev9 := ownsRow_base (B := 0) hev8 (Nat.zero_le _)
      obtain ⟨c0, c1, c2, c3, cf, cl⟩ := blk4 z1
      obtain ⟨r0, r1, r2, r3, rf, rl⟩ := blk4 z2
      clear hbY howY hqY hevY hev8 hbl8 y1 y2
      go_wp2_with fail
      have hkZ : Kp (fun j => j = w.heap.size ∨ j = w.heap.size + 1) w8 (((((w8.setCell ⟨w.heap.size, 2, none⟩ (.slice eva R.ev.length evc)).setCell ⟨w.heap.size + 1, 0, none⟩ (.slice (some ⟨G, 0, none⟩) R.all.length R.all.length)).setCell ⟨w.heap.size + 1, 1, none⟩ (.slice ha R.hist.length hc)).setCell ⟨w.heap.size + 1, 2, none⟩ (.slice eva R.ev.length evc)).setCell ⟨w.heap.size + 1, 3, none⟩ (.slice ba R.blk.length bc)) :=
        (((((Kp.refl (fun j => j = w.heap.size ∨ j = w.heap.size + 1) w8).setCell (fun _ => .inl rfl) _).setCell (fun _ => .inr rfl) _).setCell (fun _ => .inr rfl) _).setCell (fun _ => .inr rfl) _).setCell (fun _ => .inr rfl) _
      refine bodyPost_ret (v := RefV.val ⟨.slice (some ⟨G, 0, none⟩) R.all.length R.all.length, .slice ha R.hist.length hc, .slice eva R.ev.length evc, .slice ba R.blk.length bc, qs, hs⟩) (by simp [results, Try.results59, RefV.val, go_sem, r0, r1, r2, r3]) rfl ?_
      have hrest : rest = [] := List.eq_nil_of_length_eq_zero (by rw [hrl]; simp)
      subst hrest
      rw [List.append_nil] at how8
      rw [List.take_of_length_le (Nat.le_refl _)] at hq8
      have hh8 := (h.below hb8 (Nat.le_refl _)).hist
      have hb88 := (h.below hb8 (Nat.le_refl _)).blk
      have hp8 := (h.below hb8 (Nat.le_refl _)).histp
      have hnG : ∀ j, G ≤ j → ¬ (j = w.heap.size ∨ j = w.heap.size + 1) := fun j hj e => by omega
      have hnO : ∀ j, j < w.heap.size → ¬ (j = w.heap.size ∨ j = w.heap.size + 1) := fun j hj e => by omega
      refine ⟨G, R.all.length, .slice eva R.ev.length evc, qs, rfl, ⟨?_, ?_, ?_, ?_, ?_, ?_⟩, by omega, fun j hj => by have := hevb j hj; omega, fun x hx j hj => by have := hqb x hx j hj; omega, hap, Below.kp hb8 hkZ (Nat.le_refl _) (fun j e => by omega)⟩
      · exact ownsRow_kp how8 hkZ (fun j hj => by cases hj; exact hnG _ (Nat.le_refl _))
      · exact hq8.mono fun y z hy hz => ⟨hz.p.kp hkZ (fun j hj => hnG j (by have := hqb y hy j hj; omega)), hz.src, hz.gone⟩
      · exact ownsRow_kp hh8 hkZ (fun j hj => hnO j (h.hist.lt j hj).2)
      · exact hp8.mono fun y z hy hz => hz.kp hkZ (fun j hj => hnO j (by obtain ⟨z', _, hz'⟩ := h.histp.left hy; exact hz'.lt hj))
      · exact ownsRow_kp hev9 hkZ (fun j hj e => by have := hevb j hj; omega)
      · exact ownsRow_kp hb88 hkZ (fun j hj => hnO j (h.blk.lt j hj).2)
end Go.Proofs.Ytnkcgalbaeppmaa
