/- Walks of the program's small functions: the place of a packet in flight. -/
import Derived.Test.YtnkcgalbaeppmaaW1
namespace Go.Proofs.Ytnkcgalbaeppmaa
open Go.RowKit

def FVal (x : FV) : Value := .agg #[.string x.p.f, .string x.p.t, .slice x.p.ba x.p.bn x.p.bc, .int .i64 x.id, .int .i64 x.src]

set_option maxHeartbeats 400000 in
theorem find1_any (x : FV) (id0 : Int) (c : Nat) (w : World) (hc : w.cell? ⟨c, 0, none⟩ = some (.int .i64 id0)) :
    Calls Try.prog 63 #[FVal x, .pointer (some ⟨c, 0, none⟩)] w fun e w' => e = .returned (.bool (x.id == id0)) ∧ Below w.heap.size w w' := by
  have hcl := World.block_lt_of_cell? w _ hc
  simp only at hcl
  unfold FVal
  go_enter Try.func63, Try.ntmps63
  go_wp2
  go_ret
  exact ⟨rfl, (Below.refl _ _).alloc (Nat.le_refl _) _⟩

theorem fly_cells {w : World} {B g n cap : Nat} {fs : List FV} (h : w.ownsRow B 86 5 (.slice (some ⟨g, 0, none⟩) n cap) n (fs.flatMap FV.cells)) {k : Nat} {x : FV} (hx : fs[k]? = some x) :
    w.cell? ⟨g, k * 5, none⟩ = some (.string x.p.f) ∧ w.cell? ⟨g, k * 5 + 1, none⟩ = some (.string x.p.t) ∧ w.cell? ⟨g, k * 5 + 2, none⟩ = some (.slice x.p.ba x.p.bn x.p.bc) ∧ w.cell? ⟨g, k * 5 + 3, none⟩ = some (.int .i64 x.id) ∧ w.cell? ⟨g, k * 5 + 4, none⟩ = some (.int .i64 x.src) := by
  have h0 := own_cell FV.cells_len h hx (j := 0) (by decide)
  have h1 := own_cell FV.cells_len h hx (j := 1) (by decide)
  have h2 := own_cell FV.cells_len h hx (j := 2) (by decide)
  have h3 := own_cell FV.cells_len h hx (j := 3) (by decide)
  have h4 := own_cell FV.cells_len h hx (j := 4) (by decide)
  exact ⟨h0, h1, h2, h3, h4⟩

set_option maxHeartbeats 800000 in
theorem indexFunc_any (fv : Value) (n : Nat) (fs : List FV) (id0 : Int) (c : Nat) (w : World) (hc : w.cell? ⟨c, 0, none⟩ = some (.int .i64 id0)) (hf : w.ownsRow 0 86 5 fv n (fs.flatMap FV.cells)) (hn : n ≤ 100000) :
    Calls Try.prog 62 #[fv, .func (.func 63) #[] #[.pointer (some ⟨c, 0, none⟩)]] w fun e w' => e = .returned (.int .i64 (idx id0 fs 0)) ∧ Below w.heap.size w w' := by
  have hl := own_len FV.cells_len (by decide) hf
  have hcl := World.block_lt_of_cell? w _ hc
  simp only at hcl
  rcases hf.2 with ⟨rfl, rfl⟩ | ⟨g, cap, cur, rfl, hb0, hg, hnc, hcm, hcs, htake⟩
  · obtain rfl : fs = [] := List.eq_nil_of_length_eq_zero hl
    go_enter Try.func62, Try.ntmps62
    go_wp2_with fail
    go_loopw [5, 8] (fun _ i wr => i = .int .i64 0 ∧ Below w.heap.size w wr) (fun _ _ _ => 0)
    case atStart => exact ⟨rfl, Below.refl _ _⟩
    case round =>
      obtain ⟨rfl, hb⟩ := hrel
      go_wp2_with fail
      go_ret
      exact ⟨rfl, hb⟩
  · have hgl := lt_of_heap hg
    clear htake hcs hg hnc hb0
    go_enter Try.func62, Try.ntmps62
    go_wp2_with fail
    go_loopw [5, 8] (fun _ i wr => ∃ k : Nat, k ≤ n ∧ i = .int .i64 k ∧ Hid (idx id0 fs 0 = idx id0 (fs.drop k) k) ∧ Below w.heap.size w wr) (fun _ i _ => n - (intOf i).toNat)
    case atStart => exact ⟨0, Nat.zero_le _, rfl, by simp [Hid], Below.refl _ _⟩
    case round =>
      obtain ⟨k, hk, rfl, hi, hb⟩ := hrel
      by_cases hlt : k < n
      · obtain ⟨x, hx⟩ : ∃ x, fs[k]? = some x := ⟨fs[k]'(by omega), by simp⟩
        obtain ⟨c0, c1, c2, c3, c4⟩ := fly_cells (ownsRow_below hf hb (Nat.le_refl _)) hx
        have dc := (hb.cell (p := ⟨c, 0, none⟩) hcl).trans hc
        have Hd := Lib.hid (drop_eq hx)
        clear hf hc hx
        go_wp2_with fail
        refine (find1_any x id0 c _ dc).mono ?_
        rintro e w1 ⟨rfl, hbl⟩
        have hb1 := hb.trans (hbl.mono hb.size)
        clear hb hbl c0 c1 c2 c3 c4 dc
        by_cases hid : x.id = id0
        · have hdec : (x.id == id0) = true := by simpa using hid
          have Hid1 := Lib.hid hid
          clear hid
          go_wp2_with fail
          go_ret
          exact ⟨ret_int (by rw [hi.out, Hd.out, idx, if_pos Hid1.out]), hb1⟩
        · have hdec : (x.id == id0) = false := by simpa using hid
          go_wp2_with fail
          go_roundw
          case rel => exact ⟨k + 1, by omega, by go_num, by show _ = _; rw [hi.out, Hd.out, idx, if_neg hid], hb1⟩
          case measure => simp [intOf]; omega
      · obtain rfl : k = n := by omega
        go_wp2_with fail
        go_ret
        exact ⟨ret_int (by rw [hi.out, List.drop_of_length_le (by omega), idx]), hb⟩
end Go.Proofs.Ytnkcgalbaeppmaa
