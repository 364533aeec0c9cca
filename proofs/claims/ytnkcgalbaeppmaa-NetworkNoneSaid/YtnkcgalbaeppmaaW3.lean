/- Walks of the program's small functions: find, full, validHost, valid, equal. -/
import Derived.Test.YtnkcgalbaeppmaaW2
namespace Go.Proofs.Ytnkcgalbaeppmaa
open Go.RowKit

set_option maxHeartbeats 400000 in
theorem find_any (b : Nat) (hv fv mv ev : Value) (nx id : Int) (n : Nat) (fs : List FV) (w : World) (hb : NetBlk w b hv fv nx mv ev) (hf : w.ownsRow 0 86 5 fv n (fs.flatMap FV.cells)) (hn : n ≤ 100000) :
    Calls Try.prog 37 #[.pointer (some ⟨b, 0, none⟩), .int .i64 id] w fun e w' => e = .returned (.int .i64 (idx id fs 0)) ∧ Below w.heap.size w w' := by
  have c1 := hb.c1
  have lb := hb.lt
  go_enter Try.func37, Try.ntmps37
  go_wp2_with fail
  have h1 : (w.alloc (.cells #[.int .i64 id] 3)).cell? ⟨w.heap.size, 0, none⟩ = some (.int .i64 id) := (blk1 (heap_alloc_new w _)).1
  refine (indexFunc_any fv n fs id w.heap.size _ h1 (hf.alloc _) hn).mono ?_
  rintro e w1 ⟨rfl, hbl⟩
  have hbl2 : Below w.heap.size w w1 := ((Below.refl _ _).alloc (Nat.le_refl _) _).trans (hbl.mono (by simp))
  clear hbl h1 hf hb c1
  go_wp2_with fail
  go_ret
  exact ⟨rfl, hbl2⟩

theorem full_any (b : Nat) (hv mv ev : Value) (a : Option Addr) (n c : Nat) (nx : Int) (w : World) (hb : NetBlk w b hv (.slice a n c) nx mv ev) (hn : n ≤ 100000) :
    Calls Try.prog 46 #[.pointer (some ⟨b, 0, none⟩)] w fun e w' => e = .returned (.bool (decide (64 ≤ (n : Int)))) ∧ w = w' := by
  have c1 := hb.c1
  go_enter Try.func46, Try.ntmps46
  go_wp2
  go_ret
  exact ⟨rfl, rfl⟩

def hostB (s : ByteArray) : Bool := decide (1 ≤ s.size) && decide (s.size ≤ 32)
theorem validHost_any (s : ByteArray) (w : World) (hs : s.size ≤ 100) :
    Calls Try.prog 50 #[.string s] w fun e w' => e = .returned (.bool (hostB s)) ∧ w = w' := by
  by_cases h1 : 1 ≤ s.size
  · have h1' : (1 : Int) ≤ (s.size : Int) := by omega
    have hH : hostB s = decide ((s.size : Int) ≤ 32) := by simp [hostB, h1]; omega
    have HH := Lib.hid hH
    clear hH
    go_enter Try.func50, Try.ntmps50
    go_wp2
    go_ret
    exact ⟨ret_bool HH.out.symm, rfl⟩
  · have h1' : (s.size : Int) < 1 := by omega
    have hH : hostB s = false := by simp [hostB]; omega
    have HH := Lib.hid hH
    clear hH
    go_enter Try.func50, Try.ntmps50
    go_wp2
    go_ret
    exact ⟨ret_bool HH.out.symm, rfl⟩

def validB (m : Pk) : Bool := hostB m.fr && hostB m.to && decide (m.bs.length ≤ 65536)
set_option maxHeartbeats 400000 in
theorem valid_any (p : PV) (m : Pk) (w : World) (hf : p.f = m.fr) (ht : p.t = m.to) (hn : m.bs.length = p.bn) (hm : m.ok) :
    Calls Try.prog 45 #[p.val] w fun e w' => e = .returned (.bool (validB m)) ∧ Below w.heap.size w w' := by
  obtain ⟨f, t, ba, bn, bc⟩ := p
  simp only at hf ht hn
  subst hf ht
  obtain ⟨k1, k2, k3⟩ := hm
  have k4 : bn ≤ 100 := by omega
  have hv : validB m = (hostB m.fr && hostB m.to) := by simp [validB]; omega
  have HV := Lib.hid hv
  clear hv
  simp only [PV.val]
  by_cases h1 : hostB m.fr = true
  · by_cases h2 : hostB m.to = true
    · have HV2 : Hid (validB m = true) := by show _ = _; rw [HV.out, h1, h2]; rfl
      go_enter Try.func45, Try.ntmps45
      go_wp2_with fail
      refine (validHost_any m.fr _ k1).mono ?_
      rintro e w1 ⟨rfl, rfl⟩
      go_wp2_with fail
      refine (validHost_any m.to _ k2).mono ?_
      rintro e w1 ⟨rfl, rfl⟩
      go_wp2_with fail
      go_ret
      exact ⟨ret_bool (by rw [HV2.out]; simp; omega), (Below.refl _ _).alloc (Nat.le_refl _) _⟩
    · have h2' : hostB m.to = false := by simpa using h2
      have HV2 : Hid (validB m = false) := by show _ = _; rw [HV.out, h2']; simp
      clear h2
      go_enter Try.func45, Try.ntmps45
      go_wp2_with fail
      refine (validHost_any m.fr _ k1).mono ?_
      rintro e w1 ⟨rfl, rfl⟩
      go_wp2_with fail
      refine (validHost_any m.to _ k2).mono ?_
      rintro e w1 ⟨rfl, rfl⟩
      go_wp2_with fail
      go_ret
      exact ⟨ret_bool (by rw [HV2.out]), (Below.refl _ _).alloc (Nat.le_refl _) _⟩
  · have h1' : hostB m.fr = false := by simpa using h1
    have HV2 : Hid (validB m = false) := by show _ = _; rw [HV.out, h1']; simp
    clear h1
    go_enter Try.func45, Try.ntmps45
    go_wp2_with fail
    refine (validHost_any m.fr _ k1).mono ?_
    rintro e w1 ⟨rfl, rfl⟩
    go_wp2_with fail
    go_ret
    exact ⟨ret_bool (by rw [HV2.out]), (Below.refl _ _).alloc (Nat.le_refl _) _⟩

def sameB (m m' : Pk) : Bool := (m.fr.toList == m'.fr.toList) && (m.to.toList == m'.to.toList) && (Lib.bytesOf m.bs == Lib.bytesOf m'.bs)
set_option maxHeartbeats 400000 in
theorem equal_any (p q : PV) (m m' : Pk) (w : World) (hp : PIn w p m) (hq : PIn w q m') :
    Calls Try.prog 38 #[p.val, q.val] w fun e w' => e = .returned (.bool (sameB m m')) ∧ Below w.heap.size w w' := by
  obtain ⟨f, t, ba, bn, bc⟩ := p
  obtain ⟨f', t', ba', bn', bc'⟩ := q
  obtain ⟨rfl, rfl, hn, hb⟩ := hp
  obtain ⟨rfl, rfl, hn', hb'⟩ := hq
  simp only at hn hb hn' hb'
  simp only [PV.val]
  have hv : sameB m m' = ((m.fr.toList == m'.fr.toList) && (m.to.toList == m'.to.toList) && (Lib.bytesOf m.bs == Lib.bytesOf m'.bs)) := rfl
  have HV := Lib.hid hv
  clear hv
  have hbl : Below w.heap.size w ((w.alloc (.cells #[.string m.fr, .string m.to, .slice ba bn bc] 40)).alloc (.cells #[.string m'.fr, .string m'.to, .slice ba' bn' bc'] 40)) := ((Below.refl _ _).alloc (Nat.le_refl _) _).alloc (by simp) _
  by_cases h1 : (m.fr.toList == m'.fr.toList) = true
  · by_cases h2 : (m.to.toList == m'.to.toList) = true
    · have HV2 : Hid (sameB m m' = (Lib.bytesOf m.bs == Lib.bytesOf m'.bs)) := by show _ = _; rw [HV.out, h1, h2]; rfl
      go_enter Try.func38, Try.ntmps38
      go_wp2_with fail
      refine (Try.bytes_Equal_all ba ba' bn bc bn' bc' m.bs m'.bs _ hn hn' (BytesIn.below hb hbl (Nat.le_refl _)) (BytesIn.below hb' hbl (Nat.le_refl _))).mono ?_
      rintro e w1 ⟨rfl, rfl⟩
      go_wp2_with fail
      go_ret
      exact ⟨ret_bool HV2.out.symm, hbl⟩
    · have h2' : (m.to.toList == m'.to.toList) = false := by simpa using h2
      have HV2 : Hid (sameB m m' = false) := by show _ = _; rw [HV.out, h2']; simp
      clear h2
      go_enter Try.func38, Try.ntmps38
      go_wp2_with fail
      go_ret
      exact ⟨ret_bool HV2.out.symm, hbl⟩
  · have h1' : (m.fr.toList == m'.fr.toList) = false := by simpa using h1
    have HV2 : Hid (sameB m m' = false) := by show _ = _; rw [HV.out, h1']; simp
    clear h1
    go_enter Try.func38, Try.ntmps38
    go_wp2_with fail
    go_ret
    exact ⟨ret_bool HV2.out.symm, hbl⟩
end Go.Proofs.Ytnkcgalbaeppmaa
