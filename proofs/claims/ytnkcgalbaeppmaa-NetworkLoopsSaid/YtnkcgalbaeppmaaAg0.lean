/- Plain laws: what the link of a network with the reference says of each packet in flight. -/
import Derived.Test.YtnkcgalbaeppmaaRf18
import Derived.Test.YtnkcgalbaeppmaaEarlyIn
namespace Go.Proofs.Ytnkcgalbaeppmaa
open Go.RowKit
theorem sameR_eq (m q : Pk) : sameB m q = sameR m q := by
  simp only [sameB, sameR, Lib.strOfNums_toList]
theorem sameR_refl (m : Pk) : sameR m m = true := by simp [sameR]
theorem Lk.source {N : NetM} {R : RefM} (h : Lk N R) {n : Nat} {x : RF} (M : Mid R n x) : N.source n = (x.src, 0) := by
  unfold NetM.source
  simp only [h.fl, M.place_, M.getElem]
  rfl
theorem Lk.genuine {N : NetM} {R : RefM} (h : Lk N R) {n : Nat} {x : RF} (M : Mid R n x) : N.genuine n = (R.gen x, 0) := by
  unfold NetM.genuine RefM.gen
  simp only [h.fl, h.hist, M.place_, M.getElem]
  by_cases h0 : 0 ≤ x.src
  · simp only [h0, if_true, decide_true, Bool.true_and]
    cases R.hist[x.src.toNat]? with
    | none => rfl
    | some q => simp only [sameR_eq]
  · simp [h0]
/-- What flies: its place in the list of all. -/
theorem live_at : ∀ (l : List RF) (k j : Nat) (m : FlM), (live l k)[j]? = some m → ∃ (i : Nat) (x : RF), l[i]? = some x ∧ x.gone = false ∧ m = ⟨x.pk, ((k + i : Nat) : Int), x.src⟩
  | [], k, j, m, h => by simp [live] at h
  | y :: l, k, j, m, h => by
    simp only [live] at h
    cases hg : y.gone with
    | true =>
      rw [hg] at h
      obtain ⟨i, x, hi, hx, hm⟩ := live_at l (k + 1) j m h
      exact ⟨i + 1, x, by simpa using hi, hx, by rw [hm]; congr 2; omega⟩
    | false =>
      rw [hg] at h
      simp only [Bool.false_eq_true, if_false] at h
      cases j with
      | zero => simp at h; exact ⟨0, y, by simp, hg, h.symm⟩
      | succ j =>
        simp at h
        obtain ⟨i, x, hi, hx, hm⟩ := live_at l (k + 1) j m h
        exact ⟨i + 1, x, by simpa using hi, hx, by rw [hm]; congr 2; omega⟩
theorem live_inc : ∀ (l : List RF) (k : Nat), (live l k).Pairwise (fun a b => a.id < b.id)
  | [], _ => List.Pairwise.nil
  | y :: l, k => by
    simp only [live]
    split
    · exact live_inc l (k + 1)
    · refine List.Pairwise.cons (fun b hb => ?_) (live_inc l (k + 1))
      have := live_id l (k + 1) b hb
      show (k : Int) < b.id
      omega
/-- The identifier that was handed over last. -/
def lastId (fs : List FlM) : Nat → Int
  | 0 => -1
  | k + 1 => match fs[k]? with
    | some m => m.id
    | none => -1
theorem lastId_succ {fs : List FlM} {k : Nat} {m : FlM} (h : fs[k]? = some m) : lastId fs (k + 1) = m.id := by simp [lastId, h]
/-- All that a round asks. -/
structure FlyOk (N : NetM) (R : RefM) (k n : Nat) (m : FlM) (x : RF) : Prop where
  id : m.id = (n : Int)
  all : R.all[n]? = some x
  flies : R.flies n = true
  pk : m.pk = x.pk
  inc : lastId N.fl k < (n : Int)
  source : N.source n = (x.src, 0)
  genuine : N.genuine n = (R.gen x, 0)
theorem Lk.fly {N : NetM} {R : RefM} (h : Lk N R) {k : Nat} {m : FlM} (hm : N.fl[k]? = some m) : ∃ n x, FlyOk N R k n m x := by
  have hm' := hm
  rw [h.fl] at hm'
  obtain ⟨n, x, hx, hg, rfl⟩ := live_at _ _ _ _ hm'
  have M := mid_of hx hg
  simp only [Nat.zero_add] at hm hm' ⊢
  refine ⟨n, x, rfl, hx, by simp [RefM.flies, hx, hg], rfl, ?_, h.source M, h.genuine M⟩
  cases k with
  | zero => simp only [lastId]; omega
  | succ k =>
    have hk : k + 1 < N.fl.length := (List.getElem?_eq_some_iff.1 hm).1
    obtain ⟨y, hy⟩ : ∃ y, N.fl[k]? = some y := ⟨_, List.getElem?_eq_getElem (by omega)⟩
    rw [lastId_succ hy]
    have hp := live_inc R.all 0
    rw [← h.fl] at hp
    rw [List.pairwise_iff_getElem] at hp
    have := hp k (k + 1) (by omega) hk (by omega)
    rw [(List.getElem?_eq_some_iff.1 hy).2, (List.getElem?_eq_some_iff.1 hm).2] at this
    exact this
end Go.Proofs.Ytnkcgalbaeppmaa
