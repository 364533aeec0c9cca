/- A law for a region that draws its order: its reads are taken first, in an order of the prover's choice; what acts is a chain that the edges force. What the reads rest on (S) is to be kept behind those acts that a read may follow, and behind no others: so the last store may hit a cell that the region has read. -/
import Derived.OrdersHeld
import Derived.StillTail
import Derived.Deep.RegionHeld3
namespace Go.Proofs.Ytnkcgalbaeppmaa
section
variable {P : Program} {ops : Array Oper} {Q : Exit → Act → World → Prop} {md : Region.Mode} {S : World → Prop}

/-- Whatever order comes; behind an act outside 'late', S holds. -/
def wpAnyN (P : Program) (md : Region.Mode) (ops : Array Oper) (Q : Exit → Act → World → Prop) (late : List Nat) (S : World → Prop) : Nat → Array Bool → Act → World → Prop
  | 0, listed, a, w => Region.ready md ops listed = [] ∧ Q .normal a w
  | f + 1, listed, a, w =>
    (Region.ready md ops listed = [] → Q .normal a w) ∧
    ∀ i ∈ Region.ready md ops listed, wpOp P ops Q i (fun a' w' => (i ∉ late → S w') ∧ wpAnyN P md ops Q late S f (listed.setIfInBounds i true) a' w') a w

theorem wpAny_of_N {late : List Nat} : ∀ (f : Nat) (listed : Array Bool) (a : Act) (w : World), wpAnyN P md ops Q late S f listed a w → wpAny P md ops Q f listed a w
  | 0, _, _, _, h => h
  | f + 1, _, _, _, h => ⟨h.1, fun i hi => wpOp_mono (fun a' w' h' => wpAny_of_N f _ a' w' h'.2) (h.2 i hi)⟩

/-- What has come has come behind all that it waits for. -/
def Closed (md : Region.Mode) (ops : Array Oper) (listed : Array Bool) : Prop :=
  ∀ j oj, ops[j]? = some oj → listed.getD j false = true → ∀ e ∈ oj.after, Region.binds md e = true → listed.getD e.on false = true
theorem Closed.start : Closed md ops (Array.replicate ops.size false) := fun j oj _ hl => by
  rw [getD_replicate_false] at hl; cases hl
theorem Closed.set {listed : Array Bool} (h : Closed md ops listed) {i : Nat} (hi : i ∈ Region.ready md ops listed) : Closed md ops (listed.setIfInBounds i true) := by
  obtain ⟨_, oi, hoi, hall⟩ := mem_ready.1 hi
  intro j oj hj hl e he hb
  rcases Decidable.em (i = j) with hij | hij
  · subst hij
    obtain rfl : oj = oi := Option.some.inj (hj.symm.trans hoi)
    exact getD_set_true (hall e he hb)
  · rw [getD_set_ne false hij] at hl
    exact getD_set_true (h j oj hj hl e he hb)
/-- j waits for i, through others too. -/
def waitsB (md : Region.Mode) (ops : Array Oper) : Nat → Nat → Nat → Bool
  | 0, _, _ => false
  | f + 1, j, i => match ops[j]? with
    | some oj => oj.after.any (fun e => Region.binds md e && e.on == i) || oj.after.any (fun e => Region.binds md e && waitsB md ops f e.on i)
    | none => false
theorem waitsB_spec {listed : Array Bool} (hc : Closed md ops listed) {i : Nat} : ∀ (f j : Nat) (oj : Oper), waitsB md ops f j i = true → ops[j]? = some oj → (∀ e ∈ oj.after, Region.binds md e = true → listed.getD e.on false = true) → listed.getD i false = true
  | 0, _, _, h, _, _ => by simp [waitsB] at h
  | f + 1, j, oj, h, hj, hall => by
    simp only [waitsB, hj, Bool.or_eq_true] at h
    rcases h with h | h
    · obtain ⟨e, he, hb⟩ := Array.any_eq_true'.1 h
      simp only [Bool.and_eq_true, beq_iff_eq] at hb
      have := hall e he hb.1
      rw [hb.2] at this
      exact this
    · obtain ⟨e, he, hb⟩ := Array.any_eq_true'.1 h
      simp only [Bool.and_eq_true] at hb
      have h1 := hall e he hb.1
      cases ho : ops[e.on]? with
      | none => cases f <;> simp [waitsB, ho] at hb
      | some o => exact waitsB_spec hc f e.on o hb.2 ho (fun e' he' hb' => hc e.on o ho h1 e' he' hb')

/-- A read that may come up, and that all late acts wait for, may be taken first. -/
theorem wpAnyN_first {late : List Nat} {i : Nat} {oi : Oper} {v : Value} (hi : ops[i]? = some oi) (hsel : Region.noSelect ops = true)
    (hQ : ∀ c a w, Q (.panic c) (a.put oi.dst v) w → Q (.panic c) a w) (hlate : ∀ j, j ∈ late → j ≠ i ∧ waitsB md ops 12 j i = true) :
    ∀ (f : Nat) (listed : Array Bool) (a : Act) (w : World), Closed md ops listed →
      (∀ j oj, ops[j]? = some oj → j ≠ i → listed.getD j true = false → (∀ e ∈ oj.after, Region.binds md e = true → e.on ≠ i) → oi.apart ops oj = true) →
      i ∈ Region.ready md ops listed → YieldsIf P ops S oi v a → S w →
      wpAnyN P md ops Q late S f (listed.setIfInBounds i true) (a.put oi.dst v) w → wpAnyN P md ops Q late S (f + 1) listed a w := by
  have hil : i ∉ late := fun h => (hlate i h).1 rfl
  intro f
  induction f with
  | zero =>
    intro listed a w _ _ hr hy hS H
    refine ⟨fun h => (by rw [h] at hr; cases hr), fun j hj => ?_⟩
    rcases Decidable.em (j = i) with hji | hji
    · subst hji; exact hy.wpOp hi hS ⟨fun _ => hS, H⟩
    · have h1 := ready_mono hj hji
      rw [H.1] at h1
      cases h1
  | succ f ih =>
    intro listed a w hcl hfree hr hy hS H
    refine ⟨fun h => (by rw [h] at hr; cases hr), fun j hj => ?_⟩
    rcases Decidable.em (j = i) with hji | hji
    · subst hji; exact hy.wpOp hi hS ⟨fun _ => hS, H⟩
    · have h1 := H.2 j (ready_mono hj hji)
      obtain ⟨hjun, oj, hoj, hall⟩ := mem_ready.1 hj
      have hun : listed.getD i false = false := getD_both (mem_ready.1 hr).1
      have hnot : ∀ e ∈ oj.after, Region.binds md e = true → e.on ≠ i := fun e he hb heq => by
        have h2 := hall e he hb
        rw [heq, hun] at h2
        cases h2
      have hjl : j ∉ late := fun h => by
        have h3 := waitsB_spec hcl 12 j oj (hlate j h).2 hoj hall
        rw [hun] at h3
        cases h3
      have h2 := wpOp_putIf hoj (hfree j oj hoj hji hjun hnot) (fun cs b => Region.noSelect_spec hsel i oi cs b hi) (fun cs b => Region.noSelect_spec hsel j oj cs b hoj) hQ hy h1
      refine wpOp_mono (fun a' w' h3 => ?_) h2
      have hS' := h3.2.1 hjl
      refine ⟨fun _ => hS', ih (listed.setIfInBounds j true) a' w' (hcl.set hj) ?_ (ready_mono hr (Ne.symm hji)) h3.1 hS' ?_⟩
      · intro k ok hk hki hkun hno
        refine hfree k ok hk hki ?_ hno
        rcases Decidable.em (j = k) with hjk | hjk
        · subst hjk; exact hjun
        · rw [getD_set_ne true hjk] at hkun; exact hkun
      · rw [Array.setIfInBounds_comm _ _ hji]
        exact h3.2.2

/-- The reads in the prover's order: each yields its value in every world that meets S. -/
def Reads (P : Program) (ops : Array Oper) (S : World → Prop) : List Nat → Act → Act → Prop
  | [], a, a' => a = a'
  | i :: l, a, a' => ∃ oi v, ops[i]? = some oi ∧ YieldsIf P ops S oi v a ∧ Reads P ops S l (a.put oi.dst v) a'

/-- What the edges force: the acts l, one after the other, and nothing besides. -/
def forcedB (md : Region.Mode) (ops : Array Oper) : List Nat → Array Bool → Bool
  | [], listed => (Region.ready md ops listed).isEmpty
  | i :: l, listed => (Region.ready md ops listed == [i]) && forcedB md ops l (listed.setIfInBounds i true)

def earlyB (md : Region.Mode) (ops : Array Oper) (late chain : List Nat) : List Nat → Array Bool → Bool
  | [], listed => forcedB md ops chain listed
  | i :: pre, listed => (Region.ready md ops listed).contains i && Region.free md ops listed i && late.all (fun j => j != i && waitsB md ops 12 j i) && earlyB md ops late chain pre (listed.setIfInBounds i true)

theorem wpAnyN_early {late chain : List Nat} (hsel : Region.noSelect ops = true) (hQ : ∀ d v c a w, Q (.panic c) (a.put d v) w → Q (.panic c) a w) :
    ∀ (pre : List Nat) (f : Nat) (listed : Array Bool) (a a' : Act) (w : World), Closed md ops listed → earlyB md ops late chain pre listed = true → Reads P ops S pre a a' → S w →
      (∀ listed', forcedB md ops chain listed' = true → wpAnyN P md ops Q late S f listed' a' w) → wpAnyN P md ops Q late S (pre.length + f) listed a w
  | [], f, listed, a, a', w, _, hc, hr, _, h => by
    have e : a = a' := hr
    subst e
    simpa using h listed hc
  | i :: pre, f, listed, a, a', w, hcl, hc, hr, hS, h => by
    obtain ⟨oi, v, hi, hy, hrest⟩ := hr
    simp only [earlyB, Bool.and_eq_true, List.all_eq_true, bne_iff_ne] at hc
    obtain ⟨⟨⟨hc1, hc2⟩, hc3⟩, hc4⟩ := hc
    have := wpAnyN_early hsel hQ pre f (listed.setIfInBounds i true) (a.put oi.dst v) a' w (hcl.set (by simpa using hc1)) hc4 hrest hS h
    rw [List.length_cons, show pre.length + 1 + f = (pre.length + f) + 1 by omega]
    exact wpAnyN_first hi hsel (hQ _ _) hc3 _ listed a w hcl (Region.free_spec hi hc2) (by simpa using hc1) hy hS this

/-- The acts that a read may follow, one by one, each with S behind it; then the late ones, by the walk. -/
def wpTail (P : Program) (ops : Array Oper) (Q : Exit → Act → World → Prop) (S : World → Prop) (late : List Oper) : List Oper → Act → World → Prop
  | [], a, w => wpList P ops Q late a w
  | o :: l, a, w => wpList P ops (Exit.then (fun a' w' => S w' ∧ wpTail P ops Q S late l a' w') Q) [o] a w

theorem wp_then {o : Oper} {a : Act} {w : World} {K : Act → World → Prop} (h : o.wp P a w K (Exit.then K Q)) : o.wp P a w K Q := by
  unfold Oper.wp at *
  generalize (execOp a.eval o).run P w = r at *
  cases r with
  | ok n w' =>
    cases n <;> simp only [Oper.upon] at h ⊢ <;> first
      | exact h
      | exact Calls.mono h (fun e w'' he => by cases e <;> exact he)
  | halt x w' => cases x <;> simp only [Oper.upon] at h ⊢ <;> exact h

theorem wpOp_of_one {i : Nat} {o : Oper} {a : Act} {w : World} {K : Act → World → Prop} (hi : ops[i]? = some o) (h : wpList P ops (Exit.then K Q) [o] a w) : wpOp P ops Q i K a w := by
  unfold wpOp
  simp only [hi]
  unfold wpList at h
  split
  · rename_i hw
    rw [if_pos hw] at h
    rcases h with h | h
    · exact .inl (wp_then h)
    · exact .inr h
  · rename_i hw
    rw [if_neg hw] at h
    exact h

theorem wpOp_of_list {i : Nat} {o : Oper} {a : Act} {w : World} {rest : List Oper} (hi : ops[i]? = some o) (h : wpList P ops Q (o :: rest) a w) : wpOp P ops Q i (wpList P ops Q rest) a w := by
  unfold wpOp
  simp only [hi]
  unfold wpList at h
  exact h

theorem wpAnyN_late {late : List Nat} : ∀ (l : List Nat) (os : List Oper), (l.map (ops[·]?) = os.map some) → (∀ i ∈ l, i ∈ late) → ∀ (listed : Array Bool) (a : Act) (w : World), forcedB md ops l listed = true → wpList P ops Q os a w → wpAnyN P md ops Q late S l.length listed a w
  | [], [], _, _, listed, a, w, hf, h => by
    simp [forcedB] at hf
    exact ⟨hf, h⟩
  | i :: l, o :: os, hm, hl, listed, a, w, hf, h => by
    simp only [List.map_cons, List.cons.injEq] at hm
    simp only [forcedB, Bool.and_eq_true, beq_iff_eq] at hf
    rw [List.length_cons]
    refine ⟨fun h0 => (by rw [hf.1] at h0; cases h0), fun j hj => ?_⟩
    rw [hf.1] at hj
    obtain rfl : j = i := by simpa using hj
    refine wpOp_mono (fun a' w' h' => ⟨fun hn => absurd (hl j (by simp)) hn, wpAnyN_late l os hm.2 (fun k hk => hl k (by simp [hk])) _ a' w' hf.2 h'⟩) (wpOp_of_list hm.1 h)
  | [], _ :: _, hm, _, _, _, _, _, _ => by simp at hm
  | _ :: _, [], hm, _, _, _, _, _, _ => by simp at hm

theorem wpAnyN_tail {late : List Nat} {lo : List Oper} (hlo : late.map (ops[·]?) = lo.map some) : ∀ (l : List Nat) (os : List Oper), (l.map (ops[·]?) = os.map some) → ∀ (listed : Array Bool) (a : Act) (w : World), forcedB md ops (l ++ late) listed = true → wpTail P ops Q S lo os a w →
      wpAnyN P md ops Q late S (l.length + late.length) listed a w
  | [], [], _, listed, a, w, hf, h => by
    simp only [List.length_nil, Nat.zero_add]
    exact wpAnyN_late late lo hlo (fun _ h => h) listed a w hf h
  | i :: l, o :: os, hm, listed, a, w, hf, h => by
    simp only [List.map_cons, List.cons.injEq] at hm
    simp only [List.cons_append, forcedB, Bool.and_eq_true, beq_iff_eq] at hf
    rw [List.length_cons, show l.length + 1 + late.length = (l.length + late.length) + 1 by omega]
    refine ⟨fun h0 => (by rw [hf.1] at h0; cases h0), fun j hj => ?_⟩
    rw [hf.1] at hj
    obtain rfl : j = i := by simpa using hj
    exact wpOp_mono (fun a' w' h' => ⟨fun _ => h'.1, wpAnyN_tail hlo l os hm.2 _ a' w' hf.2 h'.2⟩) (wpOp_of_one hm.1 h)
  | [], _ :: _, hm, _, _, _, _, _ => by simp at hm
  | _ :: _, [], hm, _, _, _, _, _ => by simp at hm

def nth : List Oper → Nat → Option Oper
  | [], _ => none
  | o :: _, 0 => some o
  | _ :: l, i + 1 => nth l i
theorem nth_eq : ∀ (l : List Oper) (i : Nat), nth l i = l[i]?
  | [], _ => by simp [nth]
  | o :: _, 0 => by simp [nth]
  | _ :: l, i + 1 => by simp [nth, nth_eq l i]
theorem nth_ops {i : Nat} {o : Oper} (h : nth ops.toList i = some o) : ops[i]? = some o := by rw [← Array.getElem?_toList, ← nth_eq]; exact h
inductive OpsAt (ops : Array Oper) : List Nat → List Oper → Prop
  | nil : OpsAt ops [] []
  | cons {i : Nat} {l : List Nat} {o : Oper} {os : List Oper} : nth ops.toList i = some o → OpsAt ops l os → OpsAt ops (i :: l) (o :: os)
theorem OpsAt.map {l : List Nat} {os : List Oper} (h : OpsAt ops l os) : l.map (ops[·]?) = os.map some := by
  induction h with
  | nil => rfl
  | cons h _ ih => simp [nth_ops h, ih]
theorem Reads.cons {i : Nat} {l : List Nat} {a a' : Act} {oi : Oper} {v : Value} (hi : ops[i]? = some oi) (hy : YieldsIf P ops S oi v a) (h : Reads P ops S l (a.put oi.dst v) a') : Reads P ops S (i :: l) a a' := ⟨oi, v, hi, hy, h⟩
theorem Reads.cons1 {i : Nat} {l : List Nat} {a a' : Act} {oi : Oper} {v : Value} (hi : nth ops.toList i = some oi) (hw : Region.wanted oi (yielded ops a.tmps) = true) (hy : ∀ w, S w → (execOp a.eval oi).run P w = .ok (.value v) w) (h : Reads P ops S l (a.put oi.dst v) a') : Reads P ops S (i :: l) a a' := ⟨oi, v, nth_ops hi, .inl ⟨hw, hy⟩, h⟩
theorem Reads.cons0 {i : Nat} {l : List Nat} {a a' : Act} {oi : Oper} (hi : nth ops.toList i = some oi) (hw : Region.wanted oi (yielded ops a.tmps) = false) (h : Reads P ops S l (a.put oi.dst undef) a') : Reads P ops S (i :: l) a a' := ⟨oi, undef, nth_ops hi, .inr ⟨hw, rfl⟩, h⟩
theorem Reads.nil {a : Act} : Reads P ops S [] a a := rfl

/-- THE LAW. pre: the reads, in an order; acts: what acts while a read may still be to come; late: what acts when all reads have come. -/
theorem wp_region_early {id : Nat} {a : Act} {w : World} (pre acts late : List Nat) {ao lo : List Oper} (S : World → Prop) (a' : Act)
    (hm : P.follows .mixedOrders = true)
    (hB : (Region.noSelect ops && (pre.length + (acts.length + late.length) == ops.size) && earlyB .any ops late (acts ++ late) pre (Array.replicate ops.size false)) = true)
    (hao : OpsAt ops acts ao) (hlo : OpsAt ops late lo)
    (hS : S w.drew) (hr : Reads P ops S pre a a') (h : ∀ W, W = w.drew → wpTail P ops (NoPanic Q) S lo ao a' W) : (Code.region id ops true).wp P Q a w := by
  refine wp_region_noPanic (wp_region_any hm (wpAny_of_N (late := late) (S := S) _ _ _ _ ?_))
  simp only [Bool.and_eq_true, beq_iff_eq] at hB
  obtain ⟨⟨h1, h2⟩, h3⟩ := hB
  have := wpAnyN_early (P := P) (Q := NoPanic Q) (S := S) (late := late) (chain := acts ++ late) h1 (fun _ _ _ _ _ hp => hp) pre (acts.length + late.length) (Array.replicate ops.size false) a a' w.drew Closed.start h3 hr hS
    (fun listed' hf => wpAnyN_tail hlo.map acts ao hao.map listed' a' w.drew hf (h _ rfl))
  rw [h2] at this
  exact this
end
end Go.Proofs.Ytnkcgalbaeppmaa
