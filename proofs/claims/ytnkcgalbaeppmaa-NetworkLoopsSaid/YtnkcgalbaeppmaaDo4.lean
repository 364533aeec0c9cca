/- The law's do, whatever the call. -/
import Derived.Test.YtnkcgalbaeppmaaDo2
import Derived.Test.YtnkcgalbaeppmaaDo3
namespace Go.Proofs.Ytnkcgalbaeppmaa
open Go.RowKit
/-- A call. -/
def NetM.step (N : NetM) (x : AV) (m : Pk) : NetM :=
  if 0 ≤ x.what ∧ x.what ≤ 4 then N.launch x m else if x.what = 5 ∨ x.what = 6 then (N.deliver x.id).1 else if x.what = 7 then (N.drop x.id).1 else if x.what = 8 then (N.alter x.id x.off x.mask).1
  else if x.what = 9 then (N.redirect x.id x.p.t).1 else if x.what = 10 then (N.block (x.p.f, x.p.t)).1 else if x.what = 11 then (N.unblock (x.p.f, x.p.t)).1 else N
def RefM.step (R : RefM) (x : AV) (m : Pk) : RefM :=
  if 0 ≤ x.what ∧ x.what ≤ 4 then R.launch x m else if x.what = 5 ∨ x.what = 6 then (R.deliver x.id).1 else if x.what = 7 then (R.drop x.id).1 else if x.what = 8 then (R.alter x.id x.off x.mask).1
  else if x.what = 9 then (R.redirect x.id x.p.t).1 else if x.what = 10 then (R.block (x.p.f, x.p.t) false).1 else if x.what = 11 then (R.block (x.p.f, x.p.t) true).1 else R
theorem do_any (c : Nat) (V : RefV) (R : RefM) (b : Nat) (N : NetM) (D : ND) (x : AV) (m : Pk) (w : World) (h : St c w b N D V R) (hcc : c ≤ 30000) (hx : Src w b D x.p m) :
    Calls Try.prog 9 #[.pointer (some ⟨b, 0, none⟩), V.val, x.val] w (DoPost c V D b (N.step x m) (R.step x m) w) := by
  unfold NetM.step RefM.step
  by_cases h4 : 0 ≤ x.what ∧ x.what ≤ 4
  · rw [if_pos h4, if_pos h4]
    have : x.what = 0 ∨ x.what = 1 ∨ x.what = 2 ∨ x.what = 3 ∨ x.what = 4 := by omega
    rcases this with k | k | k | k | k
    · exact do0 c V R b N D x m w h hcc hx k
    · exact do1 c V R b N D x m w h hcc hx k
    · exact do2 c V R b N D x m w h hcc hx k
    · exact do3 c V R b N D x m w h hcc hx k
    · exact do4 c V R b N D x m w h hcc hx k
  · rw [if_neg h4, if_neg h4]
    by_cases h5 : x.what = 5 ∨ x.what = 6
    · rw [if_pos h5, if_pos h5]
      rcases h5 with k | k
      · exact do5 c V R b N D x m w h hcc hx k
      · exact do6 c V R b N D x m w h hcc hx k
    · rw [if_neg h5, if_neg h5]
      by_cases h7 : x.what = 7
      · rw [if_pos h7, if_pos h7]; exact do7 c V R b N D x m w h hcc hx h7
      · rw [if_neg h7, if_neg h7]
        by_cases h8 : x.what = 8
        · rw [if_pos h8, if_pos h8]; exact do8 c V R b N D x m w h hcc hx h8
        · rw [if_neg h8, if_neg h8]
          by_cases h9 : x.what = 9
          · rw [if_pos h9, if_pos h9]; exact do9 c V R b N D x m w h hcc hx h9
          · rw [if_neg h9, if_neg h9]
            by_cases h10 : x.what = 10
            · rw [if_pos h10, if_pos h10]; exact do10 c V R b N D x m w h hcc hx h10
            · rw [if_neg h10, if_neg h10]
              by_cases h11 : x.what = 11
              · rw [if_pos h11, if_pos h11]; exact do11 c V R b N D x m w h hcc hx h11
              · rw [if_neg h11, if_neg h11]
                refine doC c V R b N D x m w h hcc hx (fun j h0 h1 e => ?_)
                omega
/-- The calls that a law is handed, in memory. -/
structure Acts (w : World) (p : Option Addr) (l : List AV) : Prop where
  at_ : ActsIn w p l
  pk : ∀ x ∈ l, ∃ bs : List Int, PSrc w x.p ⟨x.p.f, x.p.t, bs⟩ ∧ (0 < x.p.bn → ∀ k, x.p.blk = some k → k < w.heap.size)
/-- What the loop over the calls holds on to: the network, the reference in its box, all in memory laid since the start. -/
structure Run (w0 : World) (c : Nat) (w : World) (rb b : Nat) (N : NetM) (D : ND) (V : RefV) (R : RefM) : Prop where
  st : St c w b N D V R
  box : w.heap[rb]? = some (.cells #[V.al, V.hi, V.ev, V.bl] 35 (0, 0))
  new : ∀ k, wr D b k → w0.heap.size ≤ k
  bel : Below w0.heap.size w0 w
  rnew : w0.heap.size ≤ rb
theorem Run.below {w0 : World} {c : Nat} {w w' : World} {rb b : Nat} {N : NetM} {D : ND} {V : RefV} {R : RefM} (h : Run w0 c w rb b N D V R) (hb : Below w.heap.size w w') : Run w0 c w' rb b N D V R :=
  ⟨h.st.below hb, (hb.block _ (lt_of_heap h.box)).trans h.box, h.new, h.bel.trans (hb.mono h.bel.size), h.rnew⟩
theorem Acts.src {w0 w : World} {p : Option Addr} {l : List AV} (h : Acts w0 p l) {x : AV} (hx : x ∈ l) (hs : smallB x = true) {b : Nat} {D : ND} (hb : Below w0.heap.size w0 w) (hn : ∀ k, wr D b k → w0.heap.size ≤ k) : ∃ m, Src w b D x.p m := by
  obtain ⟨bs, hp, ho⟩ := h.pk x hx
  simp only [smallB, Bool.and_eq_true, decide_eq_true_eq] at hs
  refine ⟨⟨x.p.f, x.p.t, bs⟩, ⟨hp.pin.below hb (Nat.le_refl _), hp.nil⟩, ⟨hs.1.1, hs.1.2, by have := hp.pin.n; simp only at this ⊢; omega⟩, fun h0 k hk hw => by have := ho h0 k hk; have := hn k hw; omega, fun h0 k hk => Nat.lt_of_lt_of_le (ho h0 k hk) hb.size⟩
theorem ActAt.below {w w' : World} {b o : Nat} {x : AV} (h : ActAt w b o x) {B : Nat} (hb : Below B w w') (hB : w.heap.size ≤ B) : ActAt w' b o x := by
  have hlt : b < B := Nat.lt_of_lt_of_le (World.block_lt_of_cell? w _ h.c0) hB
  have t : ∀ {j : Nat} {v : Value}, w.cell? ⟨b, j, none⟩ = some v → w'.cell? ⟨b, j, none⟩ = some v := fun {j} {v} hc => (hb.cell (p := ⟨b, j, none⟩) hlt).trans hc
  exact ⟨t h.c0, t h.c1, t h.c2, t h.c3, t h.c4, t h.c5, t h.c6⟩
theorem fewB_small {l : List AV} {most : Int} (h : fewB l most = true) : (l.length : Int) ≤ most ∧ ∀ x ∈ l, smallB x = true := by
  simp only [fewB, Bool.and_eq_true, decide_eq_true_eq, List.all_eq_true] at h
  exact h
end Go.Proofs.Ytnkcgalbaeppmaa
