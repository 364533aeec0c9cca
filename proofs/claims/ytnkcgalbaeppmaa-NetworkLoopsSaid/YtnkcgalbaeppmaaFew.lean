/- The law's few. -/
import Derived.Test.YtnkcgalbaeppmaaM7
namespace Go.Proofs.Ytnkcgalbaeppmaa
open Go.RowKit
/-- A call, in memory. -/
structure AV where
  what : Int
  id : Int
  off : Int
  mask : Int
  p : PV
def AV.cells (x : AV) : List Value := [.int .i64 x.what, .int .i64 x.id, .int .i64 x.off, .int .u8 x.mask, .string x.p.f, .string x.p.t, .slice x.p.ba x.p.bn x.p.bc]
def AV.val (x : AV) : Value := .agg #[.int .i64 x.what, .int .i64 x.id, .int .i64 x.off, .int .u8 x.mask, .string x.p.f, .string x.p.t, .slice x.p.ba x.p.bn x.p.bc]
/-- A call in a list. -/
structure ActAt (w : World) (b o : Nat) (x : AV) : Prop where
  c0 : w.cell? ⟨b, o, none⟩ = some (.int .i64 x.what)
  c1 : w.cell? ⟨b, o + 1, none⟩ = some (.int .i64 x.id)
  c2 : w.cell? ⟨b, o + 2, none⟩ = some (.int .i64 x.off)
  c3 : w.cell? ⟨b, o + 3, none⟩ = some (.int .u8 x.mask)
  c4 : w.cell? ⟨b, o + 4, none⟩ = some (.string x.p.f)
  c5 : w.cell? ⟨b, o + 5, none⟩ = some (.string x.p.t)
  c6 : w.cell? ⟨b, o + 6, none⟩ = some (.slice x.p.ba x.p.bn x.p.bc)
def ActsIn (w : World) (p : Option Addr) (l : List AV) : Prop := 0 < l.length → ∃ b o, p = some ⟨b, o, none⟩ ∧ ∀ k x, l[k]? = some x → ActAt w b (o + k * 7) x
/-- Small enough. -/
def smallB (x : AV) : Bool := decide (x.p.f.size ≤ 100) && decide (x.p.t.size ≤ 100) && decide (x.p.bn ≤ 100)
def fewB (l : List AV) (most : Int) : Bool := decide ((l.length : Int) ≤ most) && l.all smallB
set_option maxHeartbeats 800000 in
theorem few_any (p : Option Addr) (c : Nat) (l : List AV) (most : Int) (w : World) (hl : ActsIn w p l) (hm : most ≤ 40) :
    Calls Try.prog 7 #[.slice p l.length c, .int .i64 most] w fun e w' => e = .returned (.bool (fewB l most)) ∧ w' = w := by
  by_cases hn : (l.length : Int) ≤ most
  · have hgt : decide (most < (l.length : Int)) = false := by simpa using hn
    have HN := Lib.hid hn
    have hln : l.length ≤ 40 := by omega
    clear hn
    go_enter Try.func7, Try.ntmps7
    go_wp2_with fail
    go_loopw [5] (fun i wr => ∃ k : Nat, k ≤ l.length ∧ i = .int .i64 k ∧ (∀ j x, j < k → l[j]? = some x → smallB x = true) ∧ wr = w) (fun i _ => l.length - (intOf i).toNat)
    case atStart => exact ⟨0, Nat.zero_le _, rfl, fun j x hj => by omega, rfl⟩
    case round =>
      obtain ⟨k, hk, rfl, hj, rfl⟩ := hrel
      by_cases hlt : k < l.length
      · obtain ⟨b, o, rfl, hc⟩ := hl (by omega)
        obtain ⟨x, hx⟩ : ∃ x, l[k]? = some x := ⟨_, List.getElem?_eq_getElem hlt⟩
        have hcx := hc k x hx
        have d4 := hcx.c4
        have d5 := hcx.c5
        have d6 := hcx.c6
        have HX := Lib.hid hx
        have i0 : (0 : Int) ≤ (k : Int) := by omega
        have i1 : (k : Int) < (l.length : Int) := by omega
        clear hx hcx hc hl
        by_cases h1 : x.p.f.size ≤ 100
        · by_cases h2 : x.p.t.size ≤ 100
          · by_cases h3 : x.p.bn ≤ 100
            · have H1 := Lib.hid h1
              have H2 := Lib.hid h2
              have H3 := Lib.hid h3
              have g1 : ¬ (100 : Int) < (x.p.f.size : Int) := by omega
              have g2 : ¬ (100 : Int) < (x.p.t.size : Int) := by omega
              have g3 : ¬ (100 : Int) < (x.p.bn : Int) := by omega
              clear h1 h2 h3
              go_wp2_with fail
              go_roundw
              case rel =>
                refine ⟨k + 1, by omega, by go_num, fun j y hjk hy => ?_, trivial⟩
                rcases Nat.lt_or_ge j k with h | h
                · exact hj j y h hy
                · obtain rfl : j = k := by omega
                  rw [HX.out] at hy
                  cases hy
                  simp [smallB, H1.out, H2.out, H3.out]
              case measure => simp [intOf]; omega
            · have HF : Hid (fewB l most = false) := by
                show fewB l most = false
                have : l.all smallB = false := by
                  rw [List.all_eq_false]
                  exact ⟨x, List.mem_of_getElem? HX.out, by simp [smallB, h3]⟩
                simp [fewB, this]
              have H1 := Lib.hid h1
              have H2 := Lib.hid h2
              have H3 := Lib.hid h3
              have g1 : ¬ (100 : Int) < (x.p.f.size : Int) := by omega
              have g2 : ¬ (100 : Int) < (x.p.t.size : Int) := by omega
              have g3 : (100 : Int) < (x.p.bn : Int) := by omega
              clear h1 h2 h3
              go_wp2_with fail
              go_ret
              exact ⟨ret_bool HF.out.symm, rfl⟩
          · have HF : Hid (fewB l most = false) := by
              show fewB l most = false
              have : l.all smallB = false := by
                rw [List.all_eq_false]
                exact ⟨x, List.mem_of_getElem? HX.out, by simp [smallB, h2]⟩
              simp [fewB, this]
            have g1 : ¬ (100 : Int) < (x.p.f.size : Int) := by omega
            have g2 : (100 : Int) < (x.p.t.size : Int) := by omega
            clear h1 h2
            go_wp2_with fail
            go_ret
            exact ⟨ret_bool HF.out.symm, rfl⟩
        · have HF : Hid (fewB l most = false) := by
            show fewB l most = false
            have : l.all smallB = false := by
              rw [List.all_eq_false]
              exact ⟨x, List.mem_of_getElem? HX.out, by simp [smallB, h1]⟩
            simp [fewB, this]
          have g1 : (100 : Int) < (x.p.f.size : Int) := by omega
          clear h1
          go_wp2_with fail
          go_ret
          exact ⟨ret_bool HF.out.symm, rfl⟩
      · obtain rfl : k = l.length := by omega
        have hall : l.all smallB = true := by
          rw [List.all_eq_true]
          intro x hx
          obtain ⟨j, hjx⟩ := List.getElem?_of_mem hx
          exact hj j x (List.getElem?_eq_some_iff.1 hjx).1 hjx
        have HF : Hid (fewB l most = true) := by show fewB l most = true; simp [fewB, hall, HN.out]
        clear hall
        go_wp2_with fail
        go_ret
        exact ⟨ret_bool HF.out.symm, rfl⟩
  · have hgt : decide (most < (l.length : Int)) = true := by simp; omega
    have HF : Hid (fewB l most = false) := by simp [Hid, fewB, hn]
    clear hn
    go_enter Try.func7, Try.ntmps7
    go_wp2_with fail
    go_ret
    exact ⟨ret_bool HF.out.symm, rfl⟩
end Go.Proofs.Ytnkcgalbaeppmaa
