/- Laws for the law Loops: a loop of two rounds that is laid open, a block about a range over a function that may be left, and what a run of calls leaves alone. -/
import Derived.Test.YtnkcgalbaeppmaaLaw1
namespace Go.Proofs.Ytnkcgalbaeppmaa
open Go.RowKit
section
variable {F : Fence} {n : Nat} {P : Program} {Q : Exit → Act → World → Prop} {a : Act} {w : World}
open Classical in
/-- A loop that is left in its third round at the latest. -/
theorem wpIn_loop_turns {c : Code} (h : ∀ K1 : Act → World → Prop, (∀ a w, (∀ K2 : Act → World → Prop, (∀ a w, c.wpIn F n P (Exit.then (fun _ _ => False) Q) a w → K2 a w) → c.wpIn F n P (Exit.then K2 Q) a w) → K1 a w) → c.wpIn F n P (Exit.then K1 Q) a w) : (Code.loop c).wpIn F n P Q a w := by
  obtain ⟨J2, hJ2⟩ : ∃ J2 : Act → World → Prop, J2 = fun a w => c.wpIn F n P (Exit.then (fun _ _ => False) Q) a w := ⟨_, rfl⟩
  obtain ⟨J1, hJ1⟩ : ∃ J1 : Act → World → Prop, J1 = fun a w => c.wpIn F n P (Exit.then J2 Q) a w := ⟨_, rfl⟩
  have h0 : c.wpIn F n P (Exit.then J1 Q) a w := h J1 (fun a w hK => by rw [hJ1]; exact hK J2 (fun a w hh => by rw [hJ2]; exact hh))
  refine wpIn_loop (fun a w => J2 a w ∨ J1 a w ∨ c.wpIn F n P (Exit.then J1 Q) a w) (fun a w => if J2 a w then 0 else if J1 a w then 1 else 2) (.inr (.inr h0)) ?_
  intro a w hI
  by_cases h2 : J2 a w
  · have h2' : c.wpIn F n P (Exit.then (fun _ _ => False) Q) a w := by rw [hJ2] at h2; exact h2
    exact wpIn_mono h2' (fun e a w hq => by cases e <;> first | exact hq | exact hq.elim)
  · by_cases h1 : J1 a w
    · have h1' : c.wpIn F n P (Exit.then J2 Q) a w := by rw [hJ1] at h1; exact h1
      refine wpIn_mono h1' (fun e a' w' hq => ?_)
      cases e <;> first
        | exact hq
        | (have hq' : J2 a' w' := hq
           refine ⟨.inl hq', ?_⟩
           rw [if_neg h2, if_pos h1, if_pos hq']
           omega)
    · have h0' : c.wpIn F n P (Exit.then J1 Q) a w := (hI.resolve_left h2).resolve_left h1
      refine wpIn_mono h0' (fun e a' w' hq => ?_)
      cases e <;> first
        | exact hq
        | (have hq' : J1 a' w' := hq
           refine ⟨.inr (.inl hq'), ?_⟩
           rw [if_neg h2, if_neg h1]
           split <;> first
             | omega
             | (rw [if_pos hq']; omega))
/-- A block about a range over a function, which a round may leave for the block's end. -/
theorem wpIn_range_inBlock {id : Nat} {g : Operand} {ps : Array Tmp} {assign body : Code}
    (hro : F.round = none) (h1 : 1 ≤ n) {gf : Nat} {lb : Array Value} (hg : a.eval g = .func (.func gf) #[] lb) (hFg : F.fn gf) (eg : ∀ args w, (callFunc gf args).run P w = .ok (.enter gf args) w)
    {Arg : Nat → Nat → Array Value → World → Prop} {N : Nat} {Ok : World → Prop} (hseq : Gives F (n - 1) P gf lb Arg N Ok) (hps : ∀ B k args X, Arg B k args X → args.size = ps.size)
    (I : Nat → World → Prop) (Ix E : World → Prop) (hI : ∀ k X Y, I k X → Below w.heap.size X Y → I k Y) (hIx : ∀ X Y, Ix X → Below w.heap.size X Y → Ix Y) (hOk : ∀ k X, I k X → Ok X) (h0 : I 0 w)
    (hE : ∀ X, I N X → E X) (hE' : ∀ X, Ix X → E X)
    (hround : ∀ (l k : Nat) (args : Array Value) (X : World), k < N → I k X → w.heap.size ≤ X.heap.size → Arg (w.heap.size + 2) k args X →
      assign.wpIn (F.inRound l) (n - 1 - 1) P (Exit.then (fun a' Y => KeepsFrom w.heap.size X Y ∧ I k Y ∧ ∀ o o', Y.heap[l]? = some o → o.isCells = false → w.heap.size ≤ l →
        body.wpIn (F.inRound l) (n - 1 - 1) P (leftPost w.heap.size I (fun c X => c = .exit id ∧ Ix X) k (Y.putObj l o')) a' (Y.putObj l o')) (fun _ _ _ => False)) { tmps := (ps.zip args).foldl (fun t (p, v) => t.setIfInBounds p v) a.tmps, defers := [] } X)
    (hend : ∀ (D : Nat) (X : World), w.heap.size ≤ D → E X → X.heap[D]? = some (.deferred (some [])) → Q .normal { a with defers := { target := .collected D, args := #[] } :: a.defers } X) :
    (Code.rangeFunc g ps assign body).wpIn F n P (Exit.inBlock id Q) a w := by
  refine wpIn_rangeFunc_gives hro h1 hg hFg eg hseq hps I (fun c X => c = .exit id ∧ Ix X) hI (fun c X Y h hb => ⟨h.1, hIx X Y h.2 hb⟩) hOk h0 hround ?_ ?_
  · intro D X hD hi hX
    exact hend D X hD (hE X hi) hX
  · rintro D c X hD ⟨rfl, hi⟩ hX
    refine wpIn_exit ?_
    show Exit.inBlock id Q (.exit id) _ _
    simp only [Exit.inBlock, ↓reduceIte]
    exact hend D X hD (hE' X hi) hX
end
/-- Marks among the deferred calls are taken one by one. -/
theorem leaves_marks {F : Fence} {n : Nat} {P : Program} {fn : Func} {tmps : Array Value} {R : Ending → World → Prop} :
    ∀ (ds : List Nat) (W : World), ds.Nodup → (∀ D ∈ ds, W.heap[D]? = some (.deferred (some []))) →
      (∀ W', W'.heap.size = W.heap.size → W'.os = W.os → W'.tape = W.tape → W'.output = W.output → (∀ k, k ∉ ds → W'.heap[k]? = W.heap[k]?) → LeavesIn F n P fn tmps R [] .returning W') →
      LeavesInM F n P fn tmps R (ds.map fun D => { target := .collected D, args := #[] }) .returning W
  | [], W, _, _, h => h W rfl rfl rfl rfl (fun _ _ => rfl)
  | D :: ds, W, hn, hm, h => by
    obtain ⟨hn1, hn2⟩ := List.nodup_cons.1 hn
    have hD := hm D (by simp)
    refine ⟨by simp, .inl ⟨D, _, rfl, run_takeDeferred hD, ?_⟩⟩
    refine leaves_marks ds _ hn2 (fun D' hD' => (World.putObj_heap_other (fun e => by subst e; exact hn1 hD')).trans (hm D' (by simp [hD']))) (fun W' h1 h2 h3 h4 h5 => ?_)
    refine h W' (by rw [h1]; simp) (by rw [h2]; rfl) (by rw [h3]; rfl) (by rw [h4]; rfl) (fun k hk => ?_)
    have hk' : k ≠ D ∧ k ∉ ds := by simpa using hk
    rw [h5 k hk'.2]
    exact World.putObj_heap_other hk'.1
/-- What a run of calls since the world w5 has left alone. -/
structure Within (w5 : World) (b5 : Nat) (D5 : ND) (b : Nat) (D : ND) (W : World) : Prop where
  kp : Kp (wr D5 b5) w5 W
  sub : ∀ k, wr D b k → wr D5 b5 k ∨ w5.heap.size ≤ k
theorem Within.start (w5 : World) (b5 : Nat) (D5 : ND) : Within w5 b5 D5 b5 D5 w5 := ⟨Kp.refl _ _, fun _ hk => .inl hk⟩
theorem Within.below {w5 : World} {b5 b : Nat} {D5 D : ND} {W W' : World} (h : Within w5 b5 D5 b D W) (hb : Below W.heap.size W W') : Within w5 b5 D5 b D W' := ⟨h.kp.below hb h.kp.size, h.sub⟩
theorem Within.step {w5 : World} {b5 b b' : Nat} {D5 D D' : ND} {W W' : World} (h : Within w5 b5 D5 b D W) (hk : Kp (wr D b) W W') (hw : ∀ k, wr D' b' k → wr D b k ∨ W.heap.size ≤ k) : Within w5 b5 D5 b' D' W' :=
  ⟨h.kp.trans hk (fun k hk' e => (h.sub k e).resolve_right (by omega)), fun k hk' => (hw k hk').elim (h.sub k) (fun e => .inr (Nat.le_trans h.kp.size e))⟩
theorem Within.far {w5 : World} {b5 b : Nat} {D5 D : ND} {W W' : World} (h : Within w5 b5 D5 b D W) {S : Nat → Prop} (hk : Kp S W W') (hS : ∀ k, S k → w5.heap.size ≤ k) : Within w5 b5 D5 b D W' :=
  ⟨h.kp.trans hk (fun k hk' e => by have := hS k e; omega), h.sub⟩
end Go.Proofs.Ytnkcgalbaeppmaa
