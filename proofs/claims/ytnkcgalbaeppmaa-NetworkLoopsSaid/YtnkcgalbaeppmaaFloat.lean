/- A law for a region that draws its order, in which one act (an allocation) floats: it may come ahead of the call, or behind it. -/
import Derived.Test.YtnkcgalbaeppmaaM1
namespace Go.Proofs.Ytnkcgalbaeppmaa
section
variable {P : Program} {ops : Array Oper} {Q : Exit → Act → World → Prop} {md : Region.Mode} {S : World → Prop}
def earlyC (md : Region.Mode) (ops : Array Oper) (late : List Nat) (chk : Array Bool → Bool) : List Nat → Array Bool → Bool
  | [], listed => chk listed
  | i :: pre, listed => (Region.ready md ops listed).contains i && Region.free md ops listed i && late.all (fun j => j != i && waitsB md ops 12 j i) && earlyC md ops late chk pre (listed.setIfInBounds i true)
theorem wpAnyN_earlyC {late : List Nat} {chk : Array Bool → Bool} (hsel : Region.noSelect ops = true) (hQ : ∀ d v c a w, Q (.panic c) (a.put d v) w → Q (.panic c) a w) :
    ∀ (pre : List Nat) (f : Nat) (listed : Array Bool) (a a' : Act) (w : World), Closed md ops listed → earlyC md ops late chk pre listed = true → Reads P ops S pre a a' → S w →
      (∀ listed', Closed md ops listed' → chk listed' = true → wpAnyN P md ops Q late S f listed' a' w) → wpAnyN P md ops Q late S (pre.length + f) listed a w
  | [], f, listed, a, a', w, hcl, hc, hr, _, h => by
    have e : a = a' := hr
    subst e
    simpa using h listed hcl hc
  | i :: pre, f, listed, a, a', w, hcl, hc, hr, hS, h => by
    obtain ⟨oi, v, hi, hy, hrest⟩ := hr
    simp only [earlyC, Bool.and_eq_true, List.all_eq_true, bne_iff_ne] at hc
    obtain ⟨⟨⟨hc1, hc2⟩, hc3⟩, hc4⟩ := hc
    have := wpAnyN_earlyC hsel hQ pre f (listed.setIfInBounds i true) (a.put oi.dst v) a' w (hcl.set (by simpa using hc1)) hc4 hrest hS h
    rw [List.length_cons, show pre.length + 1 + f = (pre.length + f) + 1 by omega]
    exact wpAnyN_first hi hsel (hQ _ _) hc3 _ listed a w hcl (Region.free_spec hi hc2) (by simpa using hc1) hy hS this
/-- One act that must come next. -/
theorem wpAnyN_next {late : List Nat} {i : Nat} {o : Oper} {f : Nat} {listed : Array Bool} {a : Act} {w : World} {K : Act → World → Prop} (hr : Region.ready md ops listed = [i]) (hi : ops[i]? = some o)
    (h : wpList P ops (Exit.then K Q) [o] a w) (hk : ∀ a' w', K a' w' → S w' ∧ wpAnyN P md ops Q late S f (listed.setIfInBounds i true) a' w') : wpAnyN P md ops Q late S (f + 1) listed a w := by
  refine ⟨fun h0 => (by rw [hr] at h0; cases h0), fun j hj => ?_⟩
  rw [hr] at hj
  obtain rfl : j = i := by simpa using hj
  exact wpOp_mono (fun a' w' h' => ⟨fun _ => (hk a' w' h').1, (hk a' w' h').2⟩) (wpOp_of_one hi h)
/-- Two acts, of which either may come next. -/
theorem wpAnyN_two {late : List Nat} {i j : Nat} {o o' : Oper} {f : Nat} {listed : Array Bool} {a : Act} {w : World} {K K' : Act → World → Prop} (hr : Region.ready md ops listed = [i, j]) (hi : ops[i]? = some o) (hj : ops[j]? = some o')
    (h : wpList P ops (Exit.then K Q) [o] a w) (hk : ∀ a' w', K a' w' → S w' ∧ wpAnyN P md ops Q late S f (listed.setIfInBounds i true) a' w')
    (h' : wpList P ops (Exit.then K' Q) [o'] a w) (hk' : ∀ a' w', K' a' w' → S w' ∧ wpAnyN P md ops Q late S f (listed.setIfInBounds j true) a' w') : wpAnyN P md ops Q late S (f + 1) listed a w := by
  refine ⟨fun h0 => (by rw [hr] at h0; cases h0), fun k hkk => ?_⟩
  rw [hr] at hkk
  rcases List.mem_cons.1 hkk with rfl | hkk
  · exact wpOp_mono (fun a' w' h1 => ⟨fun _ => (hk a' w' h1).1, (hk a' w' h1).2⟩) (wpOp_of_one hi h)
  · obtain rfl : k = j := by simpa using hkk
    exact wpOp_mono (fun a' w' h1 => ⟨fun _ => (hk' a' w' h1).1, (hk' a' w' h1).2⟩) (wpOp_of_one hj h')
def floatB (ops : Array Oper) (late : List Nat) (c x : Nat) (mid aft : List Nat) (L : Array Bool) : Bool :=
  (Region.ready .any ops L == [c, x]) && (earlyC .any ops late (fun L2 => forcedB .any ops ((x :: aft) ++ late) L2) mid (L.setIfInBounds c true) &&
    ((Region.ready .any ops (L.setIfInBounds x true) == [c]) && earlyC .any ops late (fun L2 => forcedB .any ops (aft ++ late) L2) mid ((L.setIfInBounds x true).setIfInBounds c true)))
/-- THE LAW. -/
theorem wp_region_float {id : Nat} {a : Act} {w : World} (pre : List Nat) (c x : Nat) (mid aft late : List Nat) {oc ox : Oper} {ao lo : List Oper} (S : World → Prop) (a' : Act)
    (hm : P.follows .mixedOrders = true)
    (hB : (Region.noSelect ops && ((pre.length + (mid.length + (aft.length + late.length + 2)) == ops.size) && earlyC .any ops late (floatB ops late c x mid aft) pre (Array.replicate ops.size false))) = true)
    (hoc : nth ops.toList c = some oc) (hox : nth ops.toList x = some ox) (hao : OpsAt ops aft ao) (hlo : OpsAt ops late lo)
    (hS : S w.drew) (hr : Reads P ops S pre a a')
    (hA : ∀ W, W = w.drew → wpList P ops (Exit.then (fun a1 w1 => S w1 ∧ ∃ a2, Reads P ops S mid a1 a2 ∧ wpTail P ops (NoPanic Q) S lo (ox :: ao) a2 w1) (NoPanic Q)) [oc] a' W)
    (hBB : ∀ W, W = w.drew → wpList P ops (Exit.then (fun a1 w1 => S w1 ∧ wpList P ops (Exit.then (fun a2 w2 => S w2 ∧ ∃ a3, Reads P ops S mid a2 a3 ∧ wpTail P ops (NoPanic Q) S lo ao a3 w2) (NoPanic Q)) [oc] a1 w1) (NoPanic Q)) [ox] a' W) :
    (Code.region id ops true).wp P Q a w := by
  refine wp_region_noPanic (wp_region_any hm (wpAny_of_N (late := late) (S := S) _ _ _ _ ?_))
  simp only [Bool.and_eq_true, beq_iff_eq] at hB
  obtain ⟨h1, h2, h3⟩ := hB
  have hQ : ∀ (d : Option Tmp) (v : Value) c a w, NoPanic Q (.panic c) (a.put d v) w → NoPanic Q (.panic c) a w := fun _ _ _ _ _ hp => hp
  have := wpAnyN_earlyC (P := P) (Q := NoPanic Q) (S := S) (late := late) (chk := floatB ops late c x mid aft) h1 hQ pre (mid.length + (aft.length + late.length + 2)) (Array.replicate ops.size false) a a' w.drew Closed.start h3 hr hS
    (fun L hcl hf => by
      simp only [floatB, Bool.and_eq_true, beq_iff_eq] at hf
      obtain ⟨g1, g2, g3, g4⟩ := hf
      have hci : c ∈ Region.ready .any ops L := by rw [g1]; simp
      have hxi : x ∈ Region.ready .any ops L := by rw [g1]; simp
      have hcl1 := hcl.set hci
      have hcl2 := hcl.set hxi
      have hci2 : c ∈ Region.ready .any ops (L.setIfInBounds x true) := by rw [g3]; simp
      have hcl3 := hcl2.set hci2
      rw [show mid.length + (aft.length + late.length + 2) = (mid.length + ((x :: aft).length + late.length)) + 1 by simp; omega]
      refine wpAnyN_two g1 (nth_ops hoc) (nth_ops hox) (hA _ rfl) (fun a1 w1 ⟨s1, a2, r2, t2⟩ => ⟨s1, ?_⟩) (hBB _ rfl) (fun a1 w1 ⟨s1, t1⟩ => ⟨s1, ?_⟩)
      · exact wpAnyN_earlyC h1 hQ mid ((x :: aft).length + late.length) _ a1 a2 w1 hcl1 g2 r2 s1 (fun L2 _ hf2 =>
          wpAnyN_tail hlo.map (x :: aft) (ox :: ao) (OpsAt.cons hox hao).map L2 a2 w1 hf2 t2)
      · rw [show mid.length + ((x :: aft).length + late.length) = (mid.length + (aft.length + late.length)) + 1 by simp; omega]
        refine wpAnyN_next g3 (nth_ops hoc) t1 (fun a2 w2 ⟨s2, a3, r3, t3⟩ => ⟨s2, ?_⟩)
        exact wpAnyN_earlyC h1 hQ mid (aft.length + late.length) _ a2 a3 w2 hcl3 g4 r3 s2 (fun L2 _ hf2 => wpAnyN_tail hlo.map aft ao hao.map L2 a3 w2 hf2 t3))
  rw [h2] at this
  exact this
end
end Go.Proofs.Ytnkcgalbaeppmaa
