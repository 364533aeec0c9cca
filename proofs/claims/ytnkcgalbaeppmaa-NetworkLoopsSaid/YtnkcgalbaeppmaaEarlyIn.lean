/- The law for a region that draws its order, inside a wide fence and in a round: its reads first, in an order of the prover's choice; then the chain of acts, walked as outside. -/
import Derived.Test.YtnkcgalbaeppmaaFloat
import Derived.OrdersIn
import Derived.RangeFuncCalls
namespace Go.Proofs.Ytnkcgalbaeppmaa
section
variable {F : Fence} {n : Nat} {P : Program} {ops : Array Oper} {Q : Exit → Act → World → Prop} {md : Region.Mode} {S : World → Prop}
/-- Q, but False at a panic and where memory has run out. -/
def Good (Q : Exit → Act → World → Prop) : Exit → Act → World → Prop
  | .panic _, _, _ => False
  | .outgrown, _, _ => False
  | e, a, w => Q e a w
theorem Good.normal {a : Act} {w : World} (h : Q .normal a w) : Good Q .normal a w := h
theorem Good.imp : ∀ (e : Exit) (a : Act) (w : World), Good Q e a w → Q e a w := fun e a w h => by
  cases e <;> first | exact h | exact (h : False).elim
theorem callsIn_of_plain (hF : F.plain = Fence.wide) {f : FuncId} {args : Array Value} {w : World} {R : Ending → World → Prop} (h : Calls P f args w R) : CallsIn F n P f args w R := by
  have h1 : CallsIn F.plain n P f args w R := by rw [hF]; exact callsIn_wide.2 h
  exact h1
theorem rowsIn_of_plain (hF : F.plain = Fence.wide) {row : String} {args : Array Value} {w : World} {R : Value → World → Prop} (h : Rows P row args w R) : RowsIn F n P row args w R := by
  have h1 : RowsIn F.plain n P row args w R := by
    rw [hF]
    exact fun c cs _ => let ⟨v, w', r, s⟩ := h c cs; ⟨v, w', r, stepsIn_wide.2 s⟩
  exact h1
theorem wide_fn (hF : F.plain = Fence.wide) (f : FuncId) : F.fn f := by
  have : F.plain.fn f := by rw [hF]; trivial
  exact this
theorem wide_depth (hF : F.plain = Fence.wide) : F.depth = none := by
  have : F.plain.depth = none := by rw [hF]; rfl
  exact this
theorem operIn_of_plain (hF : F.plain = Fence.wide) {o : Oper} (hd : ∀ c, o.op ≠ .defer c) {a : Act} {w : World} {K : Act → World → Prop} (h : o.wp P a w K Q) : o.wpIn F n P a w K Q := by
  have hdep : F.depth.isSome = true → 1 ≤ n := by rw [wide_depth hF]; intro h; cases h
  refine ⟨fun f _ => wide_fn hF f, ?_⟩
  rw [Oper.semAt_eq _ _ _ hd]
  unfold Oper.wp at h
  generalize (execOp a.eval o).run P w = r at *
  cases r with
  | ok x w' =>
    cases x <;> simp only [Oper.upon, Oper.uponIn] at h ⊢ <;> first
      | exact h
      | exact ⟨hdep, callsIn_of_plain hF h⟩
      | exact ⟨hdep, rowsIn_of_plain hF h⟩
  | halt x w' => cases x <;> simp only [Oper.upon, Oper.uponIn] at h ⊢ <;> exact h
def noDefer (ops : Array Oper) : Bool := ops.toList.all fun o => match o.op with | .defer _ => false | _ => true
theorem noDefer_spec (h : noDefer ops = true) {i : Nat} {o : Oper} (hi : ops[i]? = some o) : ∀ c, o.op ≠ .defer c := fun c hc => by
  simp only [noDefer, List.all_eq_true] at h
  have := h o (by rw [← Array.getElem?_toList] at hi; exact List.mem_of_getElem? hi)
  rw [hc] at this
  cases this
theorem wpOpIn_of (hF : F.plain = Fence.wide) (hd : noDefer ops = true) (hQ : ¬ LetsOut Q) {i : Nat} {a : Act} {w : World} {K K' : Act → World → Prop} (hK : ∀ a w, K a w → K' a w) (h : wpOp P ops Q i K a w) : wpOpIn F n P ops Q i K' a w := by
  unfold wpOp at h
  unfold wpOpIn
  cases hi : ops[i]? with
  | none => simp only [hi] at h ⊢; exact hK _ _ h
  | some o =>
    simp only [hi] at h ⊢
    split
    · rename_i hw
      rw [if_pos hw] at h
      rcases h with h | h
      · exact Oper.wpIn_mono hK (operIn_of_plain hF (noDefer_spec hd hi) h)
      · exact absurd h.2 hQ
    · rename_i hw
      rw [if_neg hw] at h
      exact ⟨fun f _ => wide_fn hF f, hK _ _ h⟩
theorem wpAnyIn_of (hF : F.plain = Fence.wide) (hd : noDefer ops = true) (hQ : ¬ LetsOut Q) : ∀ (f : Nat) (listed : Array Bool) (a : Act) (w : World), wpAny P md ops Q f listed a w → wpAnyIn F n P md ops Q f listed a w
  | 0, _, _, _, h => h
  | f + 1, _, _, _, h => ⟨h.1, fun i hi => wpOpIn_of hF hd hQ (fun a w h' => wpAnyIn_of hF hd hQ f _ a w h') (h.2 i hi)⟩
theorem good_lets : ¬ LetsOut (Good Q) := fun ⟨_, _, h⟩ => h
/-- THE LAW, fenced. -/
theorem wpIn_region_early {id : Nat} {a : Act} {w : World} (hF : F.plain = Fence.wide) (pre acts late : List Nat) {ao lo : List Oper} (S : World → Prop) (a' : Act)
    (hm : P.follows .mixedOrders = true)
    (hB : (noDefer ops && (Region.noSelect ops && (pre.length + (acts.length + late.length) == ops.size) && earlyB .any ops late (acts ++ late) pre (Array.replicate ops.size false))) = true)
    (hao : OpsAt ops acts ao) (hlo : OpsAt ops late lo)
    (hS : S w.drew) (hr : Reads P ops S pre a a') (h : ∀ W, W = w.drew → wpTail P ops (Good Q) S lo ao a' W) : (Code.region id ops true).wpIn F n P Q a w := by
  simp only [Bool.and_eq_true, beq_iff_eq] at hB
  obtain ⟨hd, ⟨h1, h2⟩, h3⟩ := hB
  refine wpIn_mono (Q := Good Q) (wpIn_region_any hm (wpAnyIn_of hF hd good_lets _ _ _ _ (wpAny_of_N (late := late) (S := S) _ _ _ _ ?_))) Good.imp
  have := wpAnyN_early (P := P) (Q := Good Q) (S := S) (late := late) (chain := acts ++ late) h1 (fun _ _ _ _ _ hp => hp) pre (acts.length + late.length) (Array.replicate ops.size false) a a' w.drew Closed.start h3 hr hS
    (fun listed' hf => wpAnyN_tail hlo.map acts ao hao.map listed' a' w.drew hf (h _ rfl))
  rw [h2] at this
  exact this
end
end Go.Proofs.Ytnkcgalbaeppmaa
