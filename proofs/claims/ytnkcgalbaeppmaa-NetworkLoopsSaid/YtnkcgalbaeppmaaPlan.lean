/- A law for a region that draws its order, by a plan: reads that are taken first, and acts that the edges force, in turns. -/
import Derived.Test.YtnkcgalbaeppmaaEarlyIn
namespace Go.Proofs.Ytnkcgalbaeppmaa
/-- A step of a plan: a read that is taken first, or an act that must come next. -/
inductive Step where
  | rd (i : Nat)
  | act (i : Nat)
  | rp (i : Nat)
def Step.isAct : Step → Bool
  | .rd _ => false
  | .act _ => true
  | .rp _ => true
section
variable {F : Fence} {n : Nat} {P : Program} {ops : Array Oper} {Q : Exit → Act → World → Prop} {md : Region.Mode} {S : World → Prop} {late : List Nat}
/-- What holds behind an act. -/
def actPost (S : World → Prop) (late : List Nat) (i : Nat) (K : Act → World → Prop) (a : Act) (w : World) : Prop := (i ∉ late → S w) ∧ K a w
/-- The plan, walked. -/
def wpPlan (P : Program) (ops : Array Oper) (Q : Exit → Act → World → Prop) (S : World → Prop) (late : List Nat) : List Step → Act → World → Prop
  | [], a, w => Q .normal a w
  | .rd i :: p, a, w => ∃ oi v, ops[i]? = some oi ∧ YieldsIf P ops S oi v a ∧ wpPlan P ops Q S late p (a.put oi.dst v) w
  | .rp i :: p, a, w => ∃ oi v, ops[i]? = some oi ∧ YieldsIf P ops (fun _ => True) oi v a ∧ wpPlan P ops Q S late p (a.put oi.dst v) w
  | .act i :: p, a, w => ∃ oi, ops[i]? = some oi ∧ wpList P ops (Exit.then (actPost S late i (wpPlan P ops Q S late p)) Q) [oi] a w
def planB (md : Region.Mode) (ops : Array Oper) (late : List Nat) : List Step → Array Bool → Bool
  | [], listed => (Region.ready md ops listed).isEmpty
  | .rd i :: p, listed => (Region.ready md ops listed).contains i && Region.free md ops listed i && late.all (fun j => j != i && waitsB md ops 12 j i) && planB md ops late p (listed.setIfInBounds i true)
  | .rp i :: p, listed => (Region.ready md ops listed).contains i && Region.free md ops listed i && late.contains i && p.all Step.isAct && planB md ops late p (listed.setIfInBounds i true)
  | .act i :: p, listed => (Region.ready md ops listed == [i]) && (!late.contains i || p.all Step.isAct) && planB md ops late p (listed.setIfInBounds i true)
/-- A read that rests on nothing may be taken first, wherever it stands. -/
theorem wpAnyN_pure {i : Nat} {oi : Oper} {v : Value} (hi : ops[i]? = some oi) (hsel : Region.noSelect ops = true)
    (hQ : ∀ c a w, Q (.panic c) (a.put oi.dst v) w → Q (.panic c) a w) (hil : i ∈ late) :
    ∀ (f : Nat) (listed : Array Bool) (a : Act) (w : World), Closed md ops listed →
      (∀ j oj, ops[j]? = some oj → j ≠ i → listed.getD j true = false → (∀ e ∈ oj.after, Region.binds md e = true → e.on ≠ i) → oi.apart ops oj = true) →
      i ∈ Region.ready md ops listed → YieldsIf P ops (fun _ => True) oi v a →
      wpAnyN P md ops Q late S f (listed.setIfInBounds i true) (a.put oi.dst v) w → wpAnyN P md ops Q late S (f + 1) listed a w := by
  intro f
  induction f with
  | zero =>
    intro listed a w _ _ hr hy H
    refine ⟨fun h => (by rw [h] at hr; cases hr), fun j hj => ?_⟩
    rcases Decidable.em (j = i) with hji | hji
    · subst hji; exact hy.wpOp hi trivial ⟨fun h => absurd hil h, H⟩
    · have h1 := ready_mono hj hji
      rw [H.1] at h1
      cases h1
  | succ f ih =>
    intro listed a w hcl hfree hr hy H
    refine ⟨fun h => (by rw [h] at hr; cases hr), fun j hj => ?_⟩
    rcases Decidable.em (j = i) with hji | hji
    · subst hji; exact hy.wpOp hi trivial ⟨fun h => absurd hil h, H⟩
    · have h1 := H.2 j (ready_mono hj hji)
      obtain ⟨hjun, oj, hoj, hall⟩ := mem_ready.1 hj
      have hun : listed.getD i false = false := getD_both (mem_ready.1 hr).1
      have hnot : ∀ e ∈ oj.after, Region.binds md e = true → e.on ≠ i := fun e he hb heq => by
        have h2 := hall e he hb
        rw [heq, hun] at h2
        cases h2
      have h2 := wpOp_putIf hoj (hfree j oj hoj hji hjun hnot) (fun cs b => Region.noSelect_spec hsel i oi cs b hi) (fun cs b => Region.noSelect_spec hsel j oj cs b hoj) hQ hy h1
      refine wpOp_mono (fun a' w' h3 => ?_) h2
      refine ⟨h3.2.1, ih (listed.setIfInBounds j true) a' w' (hcl.set hj) ?_ (ready_mono hr (Ne.symm hji)) h3.1 ?_⟩
      · intro k ok hk hki hkun hno
        refine hfree k ok hk hki ?_ hno
        rcases Decidable.em (j = k) with hjk | hjk
        · subst hjk; exact hjun
        · rw [getD_set_ne true hjk] at hkun; exact hkun
      · rw [Array.setIfInBounds_comm _ _ hji]
        exact h3.2.2
theorem wpAnyN_plan (hsel : Region.noSelect ops = true) (hQ : ∀ d v c a w, Q (.panic c) (a.put d v) w → Q (.panic c) a w) :
    ∀ (p : List Step) (listed : Array Bool) (a : Act) (w : World), Closed md ops listed → planB md ops late p listed = true → (p.all Step.isAct = false → S w) → wpPlan P ops Q S late p a w → wpAnyN P md ops Q late S p.length listed a w
  | [], listed, a, w, _, hc, _, h => by
    simp [planB] at hc
    exact ⟨hc, h⟩
  | .rd i :: p, listed, a, w, hcl, hc, hS, h => by
    obtain ⟨oi, v, hi, hy, hrest⟩ := h
    simp only [planB, Bool.and_eq_true, List.all_eq_true, bne_iff_ne] at hc
    obtain ⟨⟨⟨hc1, hc2⟩, hc3⟩, hc4⟩ := hc
    have hSw : S w := hS (by simp [Step.isAct])
    have := wpAnyN_plan hsel hQ p (listed.setIfInBounds i true) (a.put oi.dst v) w (hcl.set (by simpa using hc1)) hc4 (fun _ => hSw) hrest
    exact wpAnyN_first hi hsel (hQ _ _) hc3 _ listed a w hcl (Region.free_spec hi hc2) (by simpa using hc1) hy hSw this
  | .rp i :: p, listed, a, w, hcl, hc, hS, h => by
    obtain ⟨oi, v, hi, hy, hrest⟩ := h
    simp only [planB, Bool.and_eq_true] at hc
    obtain ⟨⟨⟨⟨hc1, hc2⟩, hc3⟩, hc5⟩, hc4⟩ := hc
    have := wpAnyN_plan hsel hQ p (listed.setIfInBounds i true) (a.put oi.dst v) w (hcl.set (by simpa using hc1)) hc4 (fun hp => by rw [hc5] at hp; cases hp) hrest
    exact wpAnyN_pure hi hsel (hQ _ _) (by simpa using hc3) _ listed a w hcl (Region.free_spec hi hc2) (by simpa using hc1) hy this
  | .act i :: p, listed, a, w, hcl, hc, hS, h => by
    obtain ⟨oi, hi, h⟩ := h
    simp only [planB, Bool.and_eq_true, beq_iff_eq] at hc
    obtain ⟨⟨hr, hc1⟩, hc2⟩ := hc
    rw [List.length_cons]
    have hri : i ∈ Region.ready md ops listed := by rw [hr]; simp
    refine ⟨fun h0 => (by rw [hr] at h0; cases h0), fun j hj => ?_⟩
    rw [hr] at hj
    obtain rfl : j = i := by simpa using hj
    refine wpOp_mono (fun a' w' h' => ⟨h'.1, wpAnyN_plan hsel hQ p (listed.setIfInBounds j true) a' w' (hcl.set hri) hc2 (fun hp => h'.1 (fun hl => ?_)) h'.2⟩) (wpOp_of_one hi h)
    have hl' : late.contains j = true := by simpa using hl
    rw [hl', hp] at hc1
    cases hc1
theorem plan_rd {i : Nat} {p : List Step} {a : Act} {w : World} {oi : Oper} {v : Value} (hi : nth ops.toList i = some oi) (hw : Region.wanted oi (yielded ops a.tmps) = true) (hy : ∀ w, S w → (execOp a.eval oi).run P w = .ok (.value v) w) (h : wpPlan P ops Q S late p (a.put oi.dst v) w) : wpPlan P ops Q S late (.rd i :: p) a w := ⟨oi, v, nth_ops hi, .inl ⟨hw, hy⟩, h⟩
theorem plan_no {i : Nat} {p : List Step} {a : Act} {w : World} {oi : Oper} (hi : nth ops.toList i = some oi) (hw : Region.wanted oi (yielded ops a.tmps) = false) (h : wpPlan P ops Q S late p (a.put oi.dst undef) w) : wpPlan P ops Q S late (.rd i :: p) a w := ⟨oi, undef, nth_ops hi, .inr ⟨hw, rfl⟩, h⟩
theorem plan_rp {i : Nat} {p : List Step} {a : Act} {w : World} {oi : Oper} {v : Value} (hi : nth ops.toList i = some oi) (hw : Region.wanted oi (yielded ops a.tmps) = true) (hy : ∀ w, True → (execOp a.eval oi).run P w = .ok (.value v) w) (h : wpPlan P ops Q S late p (a.put oi.dst v) w) : wpPlan P ops Q S late (.rp i :: p) a w := ⟨oi, v, nth_ops hi, .inl ⟨hw, hy⟩, h⟩
theorem plan_act {i : Nat} {p : List Step} {a : Act} {w : World} {oi : Oper} (hi : nth ops.toList i = some oi) (h : wpList P ops (Exit.then (actPost S late i (wpPlan P ops Q S late p)) Q) [oi] a w) : wpPlan P ops Q S late (.act i :: p) a w := ⟨oi, nth_ops hi, h⟩
theorem plan_end {a : Act} {w : World} (h : Q .normal a w) : wpPlan P ops Q S late [] a w := h
theorem act_on {i : Nat} {K : Act → World → Prop} {a : Act} {w : World} (hS : S w) (h : K a w) : actPost S late i K a w := ⟨fun _ => hS, h⟩
theorem act_late {i : Nat} {K : Act → World → Prop} {a : Act} {w : World} (hl : late.contains i = true) (h : K a w) : actPost S late i K a w := ⟨fun h' => absurd (by simpa using hl) h', h⟩
/-- THE LAW. -/
theorem wp_region_plan {id : Nat} {a : Act} {w : World} (p : List Step) (late : List Nat) (S : World → Prop)
    (hm : P.follows .mixedOrders = true) (hB : (Region.noSelect ops && ((p.length == ops.size) && planB .any ops late p (Array.replicate ops.size false))) = true)
    (hS : S w.drew) (h : ∀ W, W = w.drew → wpPlan P ops (Good Q) S late p a W) : (Code.region id ops true).wp P Q a w := by
  simp only [Bool.and_eq_true, beq_iff_eq] at hB
  obtain ⟨h1, h2, h3⟩ := hB
  refine Code.wp_mono Good.imp (wp_region_any hm (wpAny_of_N (late := late) (S := S) _ _ _ _ ?_))
  have := wpAnyN_plan (P := P) (Q := Good Q) (S := S) (late := late) h1 (fun _ _ _ _ _ hp => hp) p (Array.replicate ops.size false) a w.drew Closed.start h3 (fun _ => hS) (h _ rfl)
  rw [h2] at this
  exact this
/-- THE LAW, fenced. -/
theorem wpIn_region_plan {id : Nat} {a : Act} {w : World} (hF : F.plain = Fence.wide) (p : List Step) (late : List Nat) (S : World → Prop)
    (hm : P.follows .mixedOrders = true) (hB : (noDefer ops && (Region.noSelect ops && ((p.length == ops.size) && planB .any ops late p (Array.replicate ops.size false)))) = true)
    (hS : S w.drew) (h : ∀ W, W = w.drew → wpPlan P ops (Good Q) S late p a W) : (Code.region id ops true).wpIn F n P Q a w := by
  simp only [Bool.and_eq_true, beq_iff_eq] at hB
  obtain ⟨hd, h1, h2, h3⟩ := hB
  refine wpIn_mono (Q := Good Q) (wpIn_region_any hm (wpAnyIn_of hF hd good_lets _ _ _ _ (wpAny_of_N (late := late) (S := S) _ _ _ _ ?_))) Good.imp
  have := wpAnyN_plan (P := P) (Q := Good Q) (S := S) (late := late) h1 (fun _ _ _ _ _ hp => hp) p (Array.replicate ops.size false) a w.drew Closed.start h3 (fun _ => hS) (h _ rfl)
  rw [h2] at this
  exact this
end
end Go.Proofs.Ytnkcgalbaeppmaa
