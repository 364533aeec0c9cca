/- The law's examples: the states. -/
import Derived.Test.YtnkcgalbaeppmaaRf1
import Derived.Test.YtnkcgalbaeppmaaPub4
import Derived.Test.YtnkcgalbaeppmaaPub6
import Derived.Test.YtnkcgalbaeppmaaPub7
import Derived.Test.YtnkcgalbaeppmaaPub8
import Derived.Test.YtnkcgalbaeppmaaPub9
import Derived.Test.YtnkcgalbaeppmaaPub10
namespace Go.Proofs.Ytnkcgalbaeppmaa
open Go.RowKit
/-- A network in memory laid since B0. -/
structure Held (B0 : Nat) (w0 w : World) (b : Nat) (N : NetM) (D : ND) : Prop where
  rep : RepOk w b N D
  ge : ∀ k, fp D b k → B0 ≤ k
  bel : Below B0 w0 w
theorem Held.turn {B0 : Nat} {w0 w w' : World} {b : Nat} {N N' : NetM} {D D' : ND} (h : Held B0 w0 w b N D) (hr : RepOk w' b N' D') (t : Turns D D' b w w') (hB : B0 ≤ w0.heap.size) : Held B0 w0 w' b N' D' :=
  ⟨hr, fun k hk => (t.fp k hk).elim (h.ge k) (fun h1 => Nat.le_trans (Nat.le_trans hB h.bel.size) h1), Below.kp h.bel t.kp hB (fun k hk => h.ge k (.inl hk))⟩
theorem Held.below {B0 : Nat} {w0 w w' : World} {b : Nat} {N : NetM} {D : ND} (h : Held B0 w0 w b N D) (hb : Below w.heap.size w w') (hB : B0 ≤ w0.heap.size) : Held B0 w0 w' b N D :=
  ⟨h.rep.below hb (Nat.le_refl _), h.ge, h.bel.trans (hb.mono (Nat.le_trans hB h.bel.size))⟩
theorem Held.far {B0 : Nat} {w0 w : World} {b : Nat} {N : NetM} {D : ND} (h : Held B0 w0 w b N D) {p : Addr} (hp : ¬ fp D b p.block) (hB : B0 ≤ p.block) (u : Value) : Held B0 w0 (w.setCell p u) b N D :=
  ⟨h.rep.far hp u, h.ge, h.bel.setCell hB u⟩
/-- A block that is none of the network's. -/
def Mine (D : ND) (b : Nat) (w : World) (k : Nat) : Prop := ¬ fp D b k ∧ k < w.heap.size
theorem Mine.turn {D D' : ND} {b k : Nat} {w w' : World} (h : Mine D b w k) (t : Turns D D' b w w') : Mine D' b w' k :=
  ⟨fun hk => (t.fp k hk).elim h.1 (fun h1 => by have := h.2; omega), Nat.lt_of_lt_of_le h.2 t.kp.size⟩
theorem Mine.keep {D D' : ND} {b k : Nat} {w w' : World} (h : Mine D b w k) (t : Turns D D' b w w') : w'.heap[k]? = w.heap[k]? := t.kp.block k h.2 (fun hk => h.1 (.inl hk))
theorem Mine.below {D : ND} {b k : Nat} {w w' : World} (h : Mine D b w k) (hb : Below w.heap.size w w') : Mine D b w' k := ⟨h.1, Nat.lt_of_lt_of_le h.2 hb.size⟩
theorem Mine.new {w w' : World} {b : Nat} {N : NetM} {D : ND} (h : RepOk w b N D) {k : Nat} (hk : w.heap.size ≤ k) (hk' : k < w'.heap.size) : Mine D b w' k := ⟨fun h1 => by have := h.fp_lt k h1; omega, hk'⟩

/-- A network made anew. -/
def N0 : NetM := ⟨[], [], 0, [], []⟩
def D0 : ND := ⟨.slice none 0 0, .slice none 0 0, .map none, .slice none 0 0, [], []⟩
theorem rep_new {w : World} {b : Nat} (h : w.heap[b]? = some (.cells #[.slice none 0 0, .slice none 0 0, .int .i64 0, .map none, .slice none 0 0] 31 (0, 0))) : RepOk w b N0 D0 :=
  ⟨h, World.ownsRow_nil _ _ _ _, Both.nil, World.ownsRow_nil _ _ _ _, Both.nil, World.ownsRow_nil _ _ _ _, .inl ⟨rfl, rfl⟩, fun i j x y k hx => by simp [D0] at hx, fun x hx => by simp [D0] at hx⟩
theorem fp_new {b k : Nat} (h : fp D0 b k) : k = b := by
  rcases h with (h | h | h | h | h | ⟨x, hx, _⟩) | ⟨x, hx, _⟩
  · exact h
  · simp [D0, Value.ownBlock] at h
  · simp [D0, Value.ownBlock] at h
  · simp [D0, Value.ownBlock] at h
  · simp [D0, mapBlk] at h
  · simp [D0] at hx
  · simp [D0] at hx

def sa : ByteArray := ⟨#[97]⟩
def sb : ByteArray := ⟨#[98]⟩
def sc : ByteArray := ⟨#[99]⟩
def kP : Pk := ⟨sa, sb, [1, 2]⟩
def kQ : Pk := ⟨sa, sb, [1, 253]⟩
def N1 : NetM := ⟨[kP], [⟨kP, 0, 0⟩], 1, [], [⟨1, 0, -1⟩]⟩
def N2 : NetM := ⟨[kP], [⟨kP, 0, 0⟩, ⟨kP, 1, 0⟩], 2, [], [⟨1, 0, -1⟩, ⟨4, 1, 0⟩]⟩
def N3 : NetM := ⟨[kP], [⟨kP, 0, 0⟩, ⟨kQ, 1, 0⟩], 2, [], [⟨1, 0, -1⟩, ⟨4, 1, 0⟩, ⟨5, 1, -1⟩]⟩
def N4 : NetM := ⟨[kP], [⟨kP, 0, 0⟩, ⟨kQ, 1, 0⟩, ⟨kP, 2, 0⟩], 3, [], [⟨1, 0, -1⟩, ⟨4, 1, 0⟩, ⟨5, 1, -1⟩, ⟨7, 2, 0⟩]⟩
def N5 : NetM := ⟨[kP], [⟨kP, 0, 0⟩, ⟨kP, 2, 0⟩], 3, [], [⟨1, 0, -1⟩, ⟨4, 1, 0⟩, ⟨5, 1, -1⟩, ⟨7, 2, 0⟩, ⟨2, 1, -1⟩]⟩
def N6 : NetM := ⟨[kP], [⟨kP, 0, 0⟩, ⟨⟨sa, sc, [1, 2]⟩, 2, 0⟩], 3, [], [⟨1, 0, -1⟩, ⟨4, 1, 0⟩, ⟨5, 1, -1⟩, ⟨7, 2, 0⟩, ⟨2, 1, -1⟩, ⟨6, 2, -1⟩]⟩
def N7 : NetM := ⟨[kP], [⟨kP, 0, 0⟩, ⟨⟨sa, sc, [1, 2]⟩, 2, 0⟩], 3, [(sa, sb)], [⟨1, 0, -1⟩, ⟨4, 1, 0⟩, ⟨5, 1, -1⟩, ⟨7, 2, 0⟩, ⟨2, 1, -1⟩, ⟨6, 2, -1⟩]⟩
theorem k1 : N0.send kP = (N1, 0, 0) := by kernel_rfl
theorem k2 : N1.dup 0 = (N2, 1, 0) := by kernel_rfl
theorem k3 : N2.alter 1 1 255 = (N3, 0) := by kernel_rfl
theorem k4 : N3.genuine 0 = (true, 0) := by kernel_rfl
theorem k5 : N3.genuine 1 = (false, 0) := by kernel_rfl
theorem k6 : N3.replay 0 = (N4, 2, 0) := by kernel_rfl
theorem k7 : N4.deliver 1 = (N5, kQ, 0) := by kernel_rfl
theorem k8 : N5.deliver 1 = (N5, Pk.zero, 9) := by kernel_rfl
theorem k9 : N5.redirect 2 sc = (N6, 0) := by kernel_rfl
theorem k10 : N6.source 2 = (0, 0) := by kernel_rfl
theorem k11 : N6.genuine 2 = (false, 0) := by kernel_rfl
theorem k12 : N6.block (sa, sb) = (N7, 0) := by kernel_rfl
theorem k13 : N7.deliver 0 = (N7, Pk.zero, 8) := by kernel_rfl
theorem k14 : N7.alter 0 2 1 = (N7, 3) := by kernel_rfl
theorem k15 : N7.alter 0 0 0 = (N7, 2) := by kernel_rfl
theorem k16 : sameR kQ kQ = true := by simp [sameR]
theorem kPok : kP.ok := ⟨by decide, by decide, by decide⟩
theorem kQok : kQ.ok := ⟨by decide, by decide, by decide⟩
theorem kCok : (⟨sa, sc, [1, 2]⟩ : Pk).ok := ⟨by decide, by decide, by decide⟩
theorem lim0 : N0.lim := ⟨by decide, by decide, by decide, by decide, by decide, by simp [N0], by simp [N0], by simp [N0]⟩
theorem lim1 : N1.lim := ⟨by decide, by decide, by decide, by decide, by decide, by simp [N1, kPok], by simp [N1, kPok], by simp [N1]⟩
theorem lim2 : N2.lim := ⟨by decide, by decide, by decide, by decide, by decide, by simp [N2, kPok], by simp [N2, kPok], by simp [N2]⟩
theorem lim3 : N3.lim := ⟨by decide, by decide, by decide, by decide, by decide, by simp [N3, kPok], by simp [N3, kPok, kQok], by simp [N3]⟩
theorem lim4 : N4.lim := ⟨by decide, by decide, by decide, by decide, by decide, by simp [N4, kPok], by simp [N4, kPok, kQok], by simp [N4]⟩
theorem lim5 : N5.lim := ⟨by decide, by decide, by decide, by decide, by decide, by simp [N5, kPok], by simp [N5, kPok, kQok], by simp [N5]⟩
theorem lim6 : N6.lim := ⟨by decide, by decide, by decide, by decide, by decide, by simp [N6, kPok], by simp [N6, kPok, kCok], by simp [N6]⟩
theorem lim7 : N7.lim := ⟨by decide, by decide, by decide, by decide, by decide, by simp [N7, kPok], by simp [N7, kPok, kCok], by simp [N7]⟩
theorem few0 : N0.few 9 := ⟨by decide, by decide⟩
theorem few1 : N1.few 9 := ⟨by decide, by decide⟩
theorem few2 : N2.few 9 := ⟨by decide, by decide⟩
theorem few3 : N3.few 9 := ⟨by decide, by decide⟩
theorem few4 : N4.few 9 := ⟨by decide, by decide⟩
theorem few5 : N5.few 9 := ⟨by decide, by decide⟩
theorem few6 : N6.few 9 := ⟨by decide, by decide⟩
theorem few7 : N7.few 9 := ⟨by decide, by decide⟩
theorem u56 : Try.prog.underlying 56 = some (.func #[91] #[] false) := by kernel_rfl
theorem u53 : Try.prog.underlying 53 = some (.func #[88] #[] false) := by kernel_rfl
theorem run_equalIn_func_nil {P : Program} (d : Nat) (t : TypeId) (f : Fn) (a b : Array Value) (w : World) (p r : Array TypeId) (v : Bool) (h : P.underlying t = some (.func p r v)) : (Op.equalIn (d + 1) t (.func f a b) .nilFunc).run P w = .ok false w := by
  unfold Op.equalIn
  simp [run_underlying h]
theorem run_eql_func_nil {P : Program} (t : TypeId) (f : Fn) (a b : Array Value) (w : World) (p r : Array TypeId) (v : Bool) (h : P.underlying t = some (.func p r v)) : (binOp .eql t (.func f a b) .nilFunc).run P w = .ok (.bool false) w := by
  simp only [binOp]
  simp [show Op.equal t (.func f a b) .nilFunc = Op.equalIn (9999 + 1) t (.func f a b) .nilFunc from rfl, run_equalIn_func_nil 9999 t f a b w p r v h]
end Go.Proofs.Ytnkcgalbaeppmaa
