/- The argument of the laws Plays, Finds and Loops, opened: a list of calls. -/
import Derived.Test.YtnkcgalbaeppmaaDo4
import Derived.Test.YtnkcgalbaeppmaaNnP
import Derived.Deep.Slices
namespace Go.Proofs.Ytnkcgalbaeppmaa
open Go.ChangeShapes Go.WideShapes Go.ChangeAt Go.RowKit Go.Deep
section
variable {H : Type} {enc : TypeId × Value → H} {w : World} {base : Nat} {spare : Nat → Bool} {held : Bool}
/-- A packet's bytes, opened. -/
theorem open_pkbytes {fuel : Nat} {a : Option Addr} {l c : Nat} {y : DataW H × List MemPlace} (hs : ∀ b, spare b = true) (hf : DataW.trod enc Try.prog w base spare held fuel 38 [.slice a l c] = some y) (f t : ByteArray) :
    ∃ bs : List Int, PSrc w ⟨f, t, a, l, c⟩ ⟨f, t, bs⟩ ∧ (0 < l → ∀ k, PV.blk ⟨f, t, a, l, c⟩ = some k → k < w.heap.size) := by
  rcases open_ints Try.underlying38 Try.underlying5 cells5 hf with ⟨hcs, _⟩ | ⟨a', len', cap', zs, hcs, _, hl, _, hz, _, hcell, _⟩
  · simp at hcs
    obtain ⟨rfl, rfl, rfl⟩ := hcs
    exact ⟨[], ⟨⟨rfl, rfl, rfl, Lib.BytesIn.nil _ _ _⟩, fun _ => ⟨rfl, rfl⟩⟩, fun h => absurd h (by simp)⟩
  · simp at hcs
    obtain ⟨rfl, rfl, rfl⟩ := hcs
    rw [hs, if_pos rfl] at hz
    refine ⟨zs.take l, ⟨⟨rfl, rfl, by simp; omega, Lib.BytesIn.of_cells (fun i hi => by have hi' : i < l := hi; rw [hcell i (by omega)]; simp [List.getD, hi'])⟩, fun e => by cases e⟩, fun h0 k hk => ?_⟩
    have := World.block_lt_of_cell? w _ (hcell 0 (by omega))
    have e : a'.block = k := by simpa [PV.blk, Value.ownBlock] using hk
    rw [← e]
    exact this
set_option maxRecDepth 100000 in
/-- One call in the list, opened. -/
theorem open_actcells {n : Nat} {cs : List Value} {d : DataW H × List MemPlace} (hs : ∀ b, spare b = true) (hl : cs.length = 7) (hf : DataW.trod enc Try.prog w base spare held n 42 cs = some d) :
    ∃ x : AV, cs = x.cells ∧ ∃ bs : List Int, PSrc w x.p ⟨x.p.f, x.p.t, bs⟩ ∧ (0 < x.p.bn → ∀ k, x.p.blk = some k → k < w.heap.size) := by
  match cs, hl with
  | [c0, c1, c2, c3, c4, c5, c6], _ =>
    obtain ⟨xs, n, _, _, _, hlen, hg⟩ := DataW.trod_struct Try.underlying42 hf
    match xs, hlen with
    | [y0, y1, y2, y3, y4], _ =>
      have g0 := hg 0 _ rfl
      have g1 := hg 1 _ rfl
      have g2 := hg 2 _ rfl
      have g3 := hg 3 _ rfl
      have g4 := hg 4 _ rfl
      simp only [List.getElem?_cons_zero, List.getElem?_cons_succ] at g0 g1 g2 g3 g4
      obtain ⟨a0, e0, _, _⟩ := DataW.trod_int Try.underlying3 g0
      obtain ⟨a1, e1, _, _⟩ := DataW.trod_int Try.underlying3 g1
      obtain ⟨a2, e2, _, _⟩ := DataW.trod_int Try.underlying3 g2
      obtain ⟨a3, e3, _, _⟩ := DataW.trod_int Try.underlying5 g3
      obtain ⟨zs, m, _, _, _, hzl, hz⟩ := DataW.trod_struct Try.underlying40 g4
      match zs, hzl with
      | [z0, z1, z2], _ =>
        have k0 := hz 0 _ rfl
        have k1 := hz 1 _ rfl
        have k2 := hz 2 _ rfl
        simp only [List.getElem?_cons_zero, List.getElem?_cons_succ] at k0 k1 k2
        obtain ⟨s0, f0, _, _⟩ := DataW.trod_string Try.underlying9 k0
        obtain ⟨s1, f1, _, _⟩ := DataW.trod_string Try.underlying9 k1
        obtain ⟨a, l, c, f2⟩ := Go.Joins.slice_form Try.underlying38 k2
        have q0 := List.cons.inj e0
        have q1 := List.cons.inj e1
        have q2 := List.cons.inj e2
        have q3 := List.cons.inj e3
        have q4 := List.cons.inj f0
        have q5 := List.cons.inj f1
        have q6 := List.cons.inj f2
        obtain ⟨rfl, _⟩ := q0
        obtain ⟨rfl, _⟩ := q1
        obtain ⟨rfl, _⟩ := q2
        obtain ⟨rfl, _⟩ := q3
        obtain ⟨rfl, _⟩ := q4
        obtain ⟨rfl, _⟩ := q5
        obtain ⟨rfl, _⟩ := q6
        exact ⟨⟨a0, a1, a2, a3, ⟨s0, s1, a, l, c⟩⟩, rfl, open_pkbytes hs k2 s0 s1⟩
/-- The list, opened. -/
theorem open_acts {fuel : Nat} {a : Option Addr} {len cap : Nat} {y : DataW H × List MemPlace} (hs : ∀ b, spare b = true) (hf : DataW.trod enc Try.prog w base spare held fuel 22 [.slice a len cap] = some y) :
    ∃ l : List AV, l.length = len ∧ Acts w a l := by
  rcases open_slice Try.underlying22 hf with ⟨hcs, _⟩ | ⟨a', len', cap', m, n, D, Pl, hcs, _, hl, _, hm, _, hi⟩
  · simp at hcs
    obtain ⟨rfl, rfl, rfl⟩ := hcs
    exact ⟨[], rfl, fun h => absurd h (by simp), fun x hx => by simp at hx⟩
  · simp at hcs
    obtain ⟨rfl, rfl, rfl⟩ := hcs
    rw [hs, if_pos rfl] at hm
    subst hm
    rw [cells42] at hi
    have each : ∀ i, i < len → ∃ x : AV, (∃ cs', w.cells? base (a'.add (i * 7)) 7 = some cs' ∧ cs' = x.cells) ∧ ∃ bs : List Int, PSrc w x.p ⟨x.p.f, x.p.t, bs⟩ ∧ (0 < x.p.bn → ∀ k, x.p.blk = some k → k < w.heap.size) := fun i hil => by
      obtain ⟨cs', hc, ht⟩ := hi i (by omega)
      obtain ⟨_, hlen, _⟩ := World.cells?_some hc
      obtain ⟨x, hx, hb⟩ := open_actcells hs hlen ht
      exact ⟨x, ⟨cs', hc, hx⟩, hb⟩
    obtain ⟨g, hg⟩ : ∃ g : Nat → AV, ∀ i, i < len → (∃ cs', w.cells? base (a'.add (i * 7)) 7 = some cs' ∧ cs' = (g i).cells) ∧ ∃ bs : List Int, PSrc w (g i).p ⟨(g i).p.f, (g i).p.t, bs⟩ ∧ (0 < (g i).p.bn → ∀ k, (g i).p.blk = some k → k < w.heap.size) :=
      ⟨fun i => if h : i < len then Classical.choose (each i h) else ⟨0, 0, 0, 0, PV.zero⟩, fun i h => by
        simp only [dif_pos h]; exact Classical.choose_spec (each i h)⟩
    refine ⟨(List.range len).map g, by simp, fun h0 => ?_, fun x hx => ?_⟩
    · have h0' : 0 < len := by simpa using h0
      have hcell : ∀ i, i < len → ∀ j v, (g i).cells[j]? = some v → w.cell? ((a'.add (i * 7)).add j) = some v := fun i hil j v hv => by
        obtain ⟨⟨cs', hc, rfl⟩, _⟩ := hg i hil
        obtain ⟨_, hlen, hat⟩ := World.cells?_some hc
        have hj : j < 7 := by have := (List.getElem?_eq_some_iff.1 hv).1; simp [AV.cells] at this; omega
        rw [hat j hj, hv]
      obtain ⟨b, o, rfl⟩ : ∃ b o, a' = ⟨b, o, none⟩ := by
        have := hcell 0 h0' 0 _ rfl
        obtain ⟨b, o, s⟩ := a'
        cases s with
        | none => exact ⟨b, o, rfl⟩
        | some s =>
          exfalso
          simp [World.cell?, Addr.add] at this
          split at this <;> simp_all
      refine ⟨b, o, rfl, fun k x hk => ?_⟩
      have hkl : k < len := by have := (List.getElem?_eq_some_iff.1 hk).1; simpa using this
      have hx : x = g k := by simp [hkl] at hk; exact hk.symm
      subst hx
      have t : ∀ j v, (g k).cells[j]? = some v → w.cell? ⟨b, o + k * 7 + j, none⟩ = some v := fun j v hv => by
        have := hcell k hkl j v hv
        rwa [Addr.add_lit, Addr.add_lit] at this
      exact ⟨t 0 _ rfl, t 1 _ rfl, t 2 _ rfl, t 3 _ rfl, t 4 _ rfl, t 5 _ rfl, t 6 _ rfl⟩
    · obtain ⟨i, hi', rfl⟩ := List.mem_map.1 hx
      exact (hg i (by simpa using hi')).2
end
end Go.Proofs.Ytnkcgalbaeppmaa
