/- The reference's blocked. -/
import Derived.Test.YtnkcgalbaeppmaaRf12
namespace Go.Proofs.Ytnkcgalbaeppmaa
open Go.RowKit
theorem memM_take (p : Pr) (l : List Pr) (k : Nat) (x : Pr) (hx : l[k]? = some x) : memM p (l.take (k + 1)) = (memM p (l.take k) || prB p x) := by
  rw [List.take_add_one, hx]; simp [memM]
theorem memM_hit (p : Pr) (l : List Pr) (k : Nat) (x : Pr) (hx : l[k]? = some x) (h : prB p x = true) : memM p l = true := by
  simp only [memM, List.any_eq_true]; exact ⟨x, List.mem_of_getElem? hx, h⟩
set_option maxHeartbeats 800000 in
set_option maxRecDepth 100000 in
theorem blockedR_any (V : RefV) (R : RefM) (a b : ByteArray) (w : World) (h : RefAt w V R) (hl : R.lim) : Calls Try.prog 58 #[V.val, .string a, .string b] w fun e w' => e = .returned (.bool (memM (a, b) R.blk)) ∧ Below w.heap.size w w' := by
  obtain ⟨aa, ac, ha, hc, ea, ec, ba, bc, h1, h2, h3, h4⟩ := h.forms
  have hown := h.blk
  have hlen := hl.blk
  obtain ⟨al, hi, ev, bl, ps, hs⟩ := V
  simp only at h1 h2 h3 h4 hown
  subst h1 h2 h3 h4
  simp only [RefV.val]
  clear h
  have hbx : Below w.heap.size w (w.alloc (.cells #[.slice aa R.all.length ac, .slice ha R.hist.length hc, .slice ea R.ev.length ec, .slice ba R.blk.length bc] 35)) := (Below.refl _ _).alloc (Nat.le_refl _) _
  have ebx := heap_alloc_new w (.cells #[.slice aa R.all.length ac, .slice ha R.hist.length hc, .slice ea R.ev.length ec, .slice ba R.blk.length bc] 35)
  have hown1 := ownsRow_below hown hbx (Nat.le_refl _)
  go_enter Try.func58, Try.ntmps58
  go_wp2_with fail
  generalize w.alloc (.cells #[.slice aa R.all.length ac, .slice ha R.hist.length hc, .slice ea R.ev.length ec, .slice ba R.blk.length bc] 35) = w1 at hbx ebx hown1 ⊢
  obtain ⟨c0, c1, c2, c3, _, _⟩ := blk4 ebx
  go_loopw [7] (fun i wr => ∃ k : Nat, k ≤ R.blk.length ∧ i = .int .i64 k ∧ memM (a, b) (R.blk.take k) = false ∧ wr = w1) (fun i _ => R.blk.length - (intOf i).toNat)
  case atStart => exact ⟨0, Nat.zero_le _, rfl, rfl, rfl⟩
  case round =>
    obtain ⟨k, hk, rfl, hnone, rfl⟩ := hrel
    have HN := Lib.hid hnone
    clear hnone
    by_cases hlt : k < R.blk.length
    · obtain ⟨x, hx⟩ : ∃ x, R.blk[k]? = some x := ⟨_, List.getElem?_eq_getElem hlt⟩
      obtain ⟨g, cap, hg, _, _⟩ := hown1.form (by omega)
      injection hg with hg1 _ hg2
      subst hg1 hg2
      obtain ⟨d0, d1⟩ := bl_cells hown1 hx
      have i0 : (0 : Int) ≤ (k : Int) := by omega
      have i1 : (k : Int) < (R.blk.length : Int) := by omega
      have i2 : (R.blk.length : Int) ≤ 50000 := by omega
      have HT := Lib.hid (memM_take (a, b) R.blk k x hx)
      have HH := Lib.hid (memM_hit (a, b) R.blk k x hx)
      have hq : (Op.equalIn 10000 95 (.agg #[.string x.1, .string x.2]) (.agg #[.string a, .string b])).run Try.prog wr = .ok (prB x (a, b)) wr := run_eqIn_pair 9998 x (a, b) wr
      rw [prB_symm] at hq
      clear hx
      cases hb : prB (a, b) x
      · rw [hb] at hq
        have HT2 : Hid (memM (a, b) (R.blk.take (k + 1)) = false) := by show _ = _; rw [HT.out, HN.out, hb]; rfl
        clear HT HH hb
        go_wp2_with fail
        go_roundw
        case rel => exact ⟨k + 1, by omega, by go_num, HT2.out, trivial⟩
        case measure => simp [intOf]; omega
      · rw [hb] at hq
        have HT2 : Hid (memM (a, b) R.blk = true) := HH.out hb
        clear HT HH hb
        go_wp2_with fail
        go_ret
        exact ⟨ret_bool HT2.out.symm, hbx⟩
    · obtain rfl : k = R.blk.length := by omega
      have HF : Hid (memM (a, b) R.blk = false) := by show _ = _; have := HN.out; rwa [List.take_of_length_le (Nat.le_refl _)] at this
      clear hown1 hown
      go_wp2_with fail
      go_ret
      exact ⟨ret_bool HF.out.symm, hbx⟩
end Go.Proofs.Ytnkcgalbaeppmaa
