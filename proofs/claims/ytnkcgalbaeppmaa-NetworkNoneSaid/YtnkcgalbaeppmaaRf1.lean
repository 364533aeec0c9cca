/- The reference's Same. -/
import Derived.Test.YtnkcgalbaeppmaaIt3
namespace Go.Proofs.Ytnkcgalbaeppmaa
open Go.RowKit
theorem u38 : Try.prog.underlying 38 = some (.slice 5) := by kernel_rfl
theorem u5 : Try.prog.underlying 5 = some (.int .u8) := by kernel_rfl
def sameR (m m' : Pk) : Bool := (m.fr.toList == m'.fr.toList) && (m.to.toList == m'.to.toList) && ((strOfNums m.bs).toList == (strOfNums m'.bs).toList)
set_option maxHeartbeats 400000 in
theorem same_any (p q : PV) (m m' : Pk) (w : World) (hp : PIn w p m) (hq : PIn w q m') :
    Calls Try.prog 17 #[p.val, q.val] w fun e w' => e = .returned (.bool (sameR m m')) ∧ Below w.heap.size w w' := by
  obtain ⟨f, t, ba, bn, bc⟩ := p
  obtain ⟨f', t', ba', bn', bc'⟩ := q
  obtain ⟨rfl, rfl, hn, hb⟩ := hp
  obtain ⟨rfl, rfl, hn', hb'⟩ := hq
  simp only at hn hb hn' hb'
  simp only [PV.val]
  have hv : sameR m m' = ((m.fr.toList == m'.fr.toList) && (m.to.toList == m'.to.toList) && ((strOfNums m.bs).toList == (strOfNums m'.bs).toList)) := rfl
  have HV := Lib.hid hv
  clear hv
  have hbl : Below w.heap.size w ((w.alloc (.cells #[.string m.fr, .string m.to, .slice ba bn bc] 40)).alloc (.cells #[.string m'.fr, .string m'.to, .slice ba' bn' bc'] 40)) := ((Below.refl _ _).alloc (Nat.le_refl _) _).alloc (by simp) _
  have cv := (BytesIn.below hb hbl (Nat.le_refl _)).convert hn bc 38 5 9 u38 u5 u9
  have cv' := (BytesIn.below hb' hbl (Nat.le_refl _)).convert hn' bc' 38 5 9 u38 u5 u9
  clear hb hb'
  by_cases h1 : (m.fr.toList == m'.fr.toList) = true
  · by_cases h2 : (m.to.toList == m'.to.toList) = true
    · have HV2 : Hid (sameR m m' = ((strOfNums m.bs).toList == (strOfNums m'.bs).toList)) := by show _ = _; rw [HV.out, h1, h2]; rfl
      go_enter Try.func17, Try.ntmps17
      go_wp2_with fail
      go_ret
      exact ⟨ret_bool HV2.out.symm, hbl⟩
    · have h2' : (m.to.toList == m'.to.toList) = false := by simpa using h2
      have HV2 : Hid (sameR m m' = false) := by show _ = _; rw [HV.out, h2']; simp
      clear h2
      go_enter Try.func17, Try.ntmps17
      go_wp2_with fail
      go_ret
      exact ⟨ret_bool HV2.out.symm, hbl⟩
  · have h1' : (m.fr.toList == m'.fr.toList) = false := by simpa using h1
    have HV2 : Hid (sameR m m' = false) := by show _ = _; rw [HV.out, h1']; simp
    clear h1
    go_enter Try.func17, Try.ntmps17
    go_wp2_with fail
    go_ret
    exact ⟨ret_bool HV2.out.symm, hbl⟩
end Go.Proofs.Ytnkcgalbaeppmaa
