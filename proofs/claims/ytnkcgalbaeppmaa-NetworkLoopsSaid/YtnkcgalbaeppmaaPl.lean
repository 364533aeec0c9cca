/- Plain laws: the limits of the reference's state hold behind each call; those of the network follow by the link. -/
import Derived.Test.YtnkcgalbaeppmaaAg2
namespace Go.Proofs.Ytnkcgalbaeppmaa
open Go.RowKit
/-- The state behind at most c calls. -/
structure RefM.ok (R : RefM) (c : Nat) : Prop where
  all : R.all.length ≤ c
  hist : R.hist.length ≤ 1024
  ev : R.ev.length ≤ c
  blk : R.blk.length ≤ c
  cn : R.count ≤ 64
  allok : ∀ m ∈ R.all, m.pk.ok
  histok : ∀ m ∈ R.hist, m.ok
  srcok : ∀ m ∈ R.all, -1 ≤ m.src ∧ m.src < (R.hist.length : Int)
theorem RefM.ok.lim {R : RefM} {c : Nat} (h : R.ok c) (hc : c ≤ 40000) : R.lim :=
  ⟨by have := h.all; omega, h.hist, by have := h.ev; omega, by have := h.blk; omega, h.allok, h.histok, h.srcok⟩
theorem RefM.ok.mono {R : RefM} {c d : Nat} (h : R.ok c) (hc : c ≤ d) : R.ok d :=
  ⟨by have := h.all; omega, h.hist, by have := h.ev; omega, by have := h.blk; omega, h.cn, h.allok, h.histok, h.srcok⟩
theorem live_mem : ∀ (l : List RF) (k : Nat), ∀ m ∈ live l k, ∃ x ∈ l, m.pk = x.pk ∧ m.src = x.src
  | [], k, m, h => by simp [live] at h
  | y :: l, k, m, h => by
    simp only [live] at h
    split at h
    · obtain ⟨x, hx, e⟩ := live_mem l (k + 1) m h; exact ⟨x, by simp [hx], e⟩
    · rcases List.mem_cons.1 h with rfl | h
      · exact ⟨y, by simp, rfl, rfl⟩
      · obtain ⟨x, hx, e⟩ := live_mem l (k + 1) m h; exact ⟨x, by simp [hx], e⟩
theorem Lk.lim {N : NetM} {R : RefM} (L : Lk N R) {c : Nat} (h : R.ok c) (hc : c ≤ 40000) : N.lim := by
  refine ⟨by rw [L.hist]; exact h.hist, by rw [L.count]; exact h.cn, by rw [L.ev]; have := h.ev; omega, by rw [L.next]; omega, by rw [L.next]; have := h.all; omega, by rw [L.hist]; exact h.histok, fun m hm => ?_, fun m hm => ?_⟩
  · rw [L.fl] at hm
    obtain ⟨x, hx, e, _⟩ := live_mem _ _ m hm
    rw [e]; exact h.allok x hx
  · rw [L.fl] at hm
    obtain ⟨x, hx, _, e⟩ := live_mem _ _ m hm
    rw [e, L.hist]; exact h.srcok x hx
theorem Lk.few {N : NetM} {R : RefM} (L : Lk N R) {c : Nat} (h : R.ok c) : N.few c := ⟨by rw [L.next]; have := h.all; omega, by rw [L.ev]; exact h.ev⟩
theorem cnt_set : ∀ (l : List RF) (i : Nat) (x y : RF), l[i]? = some x → (x.gone = y.gone ∨ y.gone = true) → cnt (l.set i y) ≤ cnt l
  | [], i, x, y, h, _ => by simp at h
  | z :: l, 0, x, y, h, hg => by
    simp at h; subst h
    simp only [List.set_cons_zero, cnt, List.filter_cons]
    rcases hg with hg | hg
    · rw [hg]; exact Nat.le_of_eq (by split <;> rfl)
    · rw [hg]; cases z.gone <;> simp
  | z :: l, i + 1, x, y, h, hg => by
    simp at h
    have ih := cnt_set l i x y h hg
    simp only [cnt] at ih
    simp only [List.set_cons_succ, cnt, List.filter_cons]
    split <;> simp <;> omega
theorem RefM.ok.launched {R : RefM} {c : Nat} (h : R.ok c) {kind src fr : Int} {m : Pk} (hm : m.ok) (hs : -1 ≤ src ∧ src < (R.hist.length : Int)) (hf : R.count < 64) : (R.launched kind m src fr).ok (c + 1) := by
  refine ⟨by have := h.all; simp [RefM.launched]; omega, h.hist, by have := h.ev; simp [RefM.launched]; omega, by have := h.blk; simp only [RefM.launched]; omega, ?_, fun x hx => ?_, h.histok, fun x hx => ?_⟩
  · show cnt (R.all ++ [⟨m, src, false⟩]) ≤ 64
    rw [cnt_snoc]
    have : cnt R.all = R.count := rfl
    simp; omega
  · rcases List.mem_append.1 hx with hx | hx
    · exact h.allok x hx
    · obtain rfl : x = ⟨m, src, false⟩ := by simpa using hx
      exact hm
  · rcases List.mem_append.1 hx with hx | hx
    · exact h.srcok x hx
    · obtain rfl : x = ⟨m, src, false⟩ := by simpa using hx
      exact hs
theorem RefM.ok.send {R : RefM} {c : Nat} (h : R.ok c) {m : Pk} (hm : m.ok) : (R.send m).1.ok (c + 1) := by
  unfold RefM.send
  split
  · split
    · exact h.mono (Nat.le_succ _)
    · rename_i hf
      have h2 : ({ R with hist := R.hist ++ [m] } : RefM).ok c := ⟨h.all, by simp; omega, h.ev, h.blk, h.cn, h.allok, fun x hx => by
        rcases List.mem_append.1 hx with hx | hx
        · exact h.histok x hx
        · obtain rfl : x = m := by simpa using hx
          exact hm, fun x hx => by have := h.srcok x hx; simp; omega⟩
      exact h2.launched hm ⟨by omega, by simp; omega⟩ (by have : ({ R with hist := R.hist ++ [m] } : RefM).count = R.count := rfl; omega)
  · exact h.mono (Nat.le_succ _)
theorem RefM.ok.inject {R : RefM} {c : Nat} (h : R.ok c) {m : Pk} (hm : m.ok) : (R.inject m).1.ok (c + 1) := by
  unfold RefM.inject
  split
  · split
    · exact h.mono (Nat.le_succ _)
    · rename_i hf; exact h.launched hm ⟨by omega, by omega⟩ (by omega)
  · exact h.mono (Nat.le_succ _)
theorem RefM.ok.replay {R : RefM} {c : Nat} (h : R.ok c) (ix : Int) : (R.replay ix).1.ok (c + 1) := by
  unfold RefM.replay
  split
  · split
    · rename_i h0 m hm
      split
      · exact h.mono (Nat.le_succ _)
      · have hl := (List.getElem?_eq_some_iff.1 hm).1
        exact h.launched (h.histok m (List.mem_of_getElem? hm)) ⟨by omega, by omega⟩ (by omega)
    · exact h.mono (Nat.le_succ _)
  · exact h.mono (Nat.le_succ _)
theorem RefM.ok.dup {R : RefM} {c : Nat} (h : R.ok c) (id : Int) : (R.dup id).1.ok (c + 1) := by
  unfold RefM.dup
  split
  · split
    · exact h.mono (Nat.le_succ _)
    · split
      · rename_i x hx
        exact h.launched (h.allok x (List.mem_of_getElem? hx)) (h.srcok x (List.mem_of_getElem? hx)) (by omega)
      · exact h.mono (Nat.le_succ _)
  · exact h.mono (Nat.le_succ _)
theorem RefM.ok.turned {R : RefM} {c : Nat} (h : R.ok c) {id : Int} {x y : RF} (hx : R.all[id.toNat]? = some x) (hg : x.gone = y.gone ∨ y.gone = true) (hs : y.src = x.src) (hp : y.pk.ok) (kind : Int) : (R.turned id y kind).ok (c + 1) := by
  have hm : ∀ m ∈ R.all.set id.toNat y, m ∈ R.all ∨ m = y := fun m hm => List.mem_or_eq_of_mem_set hm
  refine ⟨by have := h.all; simp [RefM.turned]; omega, h.hist, by have := h.ev; simp [RefM.turned]; omega, by have := h.blk; simp only [RefM.turned]; omega, ?_, fun m hm' => ?_, h.histok, fun m hm' => ?_⟩
  · have h1 := cnt_set R.all id.toNat x y hx hg
    have h2 : cnt R.all ≤ 64 := h.cn
    show cnt (R.all.set id.toNat y) ≤ 64
    omega
  · rcases hm m hm' with h1 | rfl
    · exact h.allok m h1
    · exact hp
  · rcases hm m hm' with h1 | rfl
    · exact h.srcok m h1
    · rw [hs]; exact h.srcok x (List.mem_of_getElem? hx)
theorem RefM.ok.gone {R : RefM} {c : Nat} (h : R.ok c) {id : Int} {x : RF} (hx : R.all[id.toNat]? = some x) (kind : Int) : (R.gone id x kind).ok (c + 1) :=
  h.turned (y := { x with gone := true }) hx (.inr rfl) rfl (h.allok x (List.mem_of_getElem? hx)) kind
theorem RefM.ok.deliver {R : RefM} {c : Nat} (h : R.ok c) (id : Int) : (R.deliver id).1.ok (c + 1) := by
  unfold RefM.deliver
  split
  · split
    · rename_i x hx
      split
      · exact h.mono (Nat.le_succ _)
      · exact h.gone hx 2
    · exact h.mono (Nat.le_succ _)
  · exact h.mono (Nat.le_succ _)
theorem RefM.ok.drop {R : RefM} {c : Nat} (h : R.ok c) (id : Int) : (R.drop id).1.ok (c + 1) := by
  unfold RefM.drop
  split
  · split
    · rename_i x hx; exact h.gone hx 3
    · exact h.mono (Nat.le_succ _)
  · exact h.mono (Nat.le_succ _)
theorem RefM.ok.alter {R : RefM} {c : Nat} (h : R.ok c) (id off mask : Int) : (R.alter id off mask).1.ok (c + 1) := by
  unfold RefM.alter
  split
  · exact h.mono (Nat.le_succ _)
  · split
    · split
      · rename_i x hx
        split
        · have := h.allok x (List.mem_of_getElem? hx)
          exact h.turned (y := { x with pk := { x.pk with bs := flip x.pk.bs off.toNat mask } }) hx (.inl rfl) rfl ⟨this.fr, this.to, by rw [flip_length]; exact this.bs⟩ 5
        · exact h.mono (Nat.le_succ _)
      · exact h.mono (Nat.le_succ _)
    · exact h.mono (Nat.le_succ _)
theorem RefM.ok.redirect {R : RefM} {c : Nat} (h : R.ok c) (id : Int) {to : ByteArray} (ht : to.size ≤ 100) : (R.redirect id to).1.ok (c + 1) := by
  unfold RefM.redirect
  split
  · split
    · split
      · rename_i x hx
        have := h.allok x (List.mem_of_getElem? hx)
        exact h.turned (y := { x with pk := { x.pk with to } }) hx (.inl rfl) rfl ⟨this.fr, ht, this.bs⟩ 6
      · exact h.mono (Nat.le_succ _)
    · exact h.mono (Nat.le_succ _)
  · exact h.mono (Nat.le_succ _)
theorem RefM.ok.block {R : RefM} {c : Nat} (h : R.ok c) (p : Pr) (off : Bool) : (R.block p off).1.ok (c + 1) := by
  unfold RefM.block
  split
  · refine ⟨by have := h.all; show R.all.length ≤ c + 1; omega, h.hist, by have := h.ev; show R.ev.length ≤ c + 1; omega, ?_, h.cn, h.allok, h.histok, h.srcok⟩
    have h1 := h.blk
    have h2 : (R.blk.filter (fun x => !prB x p)).length ≤ R.blk.length := List.length_filter_le _ _
    show (R.blk.filter (fun x => !prB x p) ++ (if off then [] else [p])).length ≤ c + 1
    simp only [List.length_append]
    split <;> simp <;> omega
  · exact h.mono (Nat.le_succ _)
theorem ok0 : R0.ok 0 := ⟨by decide, by decide, by decide, by decide, by decide, by simp [R0], by simp [R0], by simp [R0]⟩
end Go.Proofs.Ytnkcgalbaeppmaa
