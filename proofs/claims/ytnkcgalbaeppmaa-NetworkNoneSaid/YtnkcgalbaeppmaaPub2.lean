/- The network's methods that put a packet in flight, and Drop. -/
import Derived.Test.YtnkcgalbaeppmaaPub1
namespace Go.Proofs.Ytnkcgalbaeppmaa
open Go.RowKit

/-- Room for some more calls. -/
structure NetM.few (N : NetM) (c : Nat) : Prop where
  next : N.next ≤ c
  ev : N.ev.length ≤ c

theorem lim_ev {N : NetM} (h : N.lim) {c : Nat} (hf : N.few c) (hc : c ≤ 40000) (x : EvM) : ({ N with ev := N.ev ++ [x] } : NetM).lim :=
  ⟨h.hist, h.fl, by have := hf.ev; simp; omega, h.next0, h.next1, h.histok, h.flok, h.srcok⟩
theorem lim_push {N : NetM} (h : N.lim) {c : Nat} (hf : N.few c) (hc : c ≤ 40000) {m : Pk} (hm : m.ok) {src : Int} (h1 : -1 ≤ src) (h2 : src < (N.hist.length : Int)) (hfull : N.fl.length < 64) :
    ({ N with fl := N.fl ++ [⟨m, N.next, src⟩], next := N.next + 1 } : NetM).lim :=
  ⟨h.hist, by simp; omega, h.ev, by have := h.next0; show (0 : Int) ≤ N.next + 1; omega, by have := hf.next; show N.next + 1 ≤ (50000 : Int); omega, h.histok,
    (fun x hx => (List.mem_append.1 hx).elim (h.flok x) (fun hx => by obtain rfl : x = ⟨m, N.next, src⟩ := by simpa using hx
                                                                      exact hm)),
    (fun x hx => (List.mem_append.1 hx).elim (h.srcok x) (fun hx => by obtain rfl : x = ⟨m, N.next, src⟩ := by simpa using hx
                                                                       exact ⟨h1, h2⟩))⟩
theorem lim_erase {N : NetM} (h : N.lim) (i : Nat) : ({ N with fl := N.fl.eraseIdx i } : NetM).lim :=
  ⟨h.hist, by have := h.fl; have := List.length_eraseIdx_le N.fl i; show (N.fl.eraseIdx i).length ≤ 64; omega, h.ev, h.next0, h.next1, h.histok, fun x hx => h.flok x (List.mem_of_mem_eraseIdx hx), fun x hx => h.srcok x (List.mem_of_mem_eraseIdx hx)⟩

/-- A packet comes into flight. -/
def NetM.put (N : NetM) (m : Pk) (src kind fr : Int) : NetM := { N with fl := N.fl ++ [⟨m, N.next, src⟩], next := N.next + 1, ev := N.ev ++ [⟨kind, N.next, fr⟩] }
/-- Inject. -/
def NetM.inject (N : NetM) (m : Pk) : NetM × Int × Int :=
  if validB m then if 64 ≤ N.fl.length then (N, 0, 7) else (N.put m (-1) 8 (-1), N.next, 0) else (N, 0, 2)
/-- What a call that answers two numbers leaves. -/
def Two3 (b : Nat) (D : ND) (w : World) (r : NetM × Int × Int) (e : Ending) (w' : World) : Prop :=
  e = .returned (.tuple #[.int .i64 r.2.1, .int .i64 r.2.2]) ∧ ∃ D', RepOk w' b r.1 D' ∧ Turns D D' b w w'

theorem full_rep (b : Nat) (N : NetM) (D : ND) (w : World) (h : RepOk w b N D) (hl : N.lim) :
    Calls Try.prog 46 #[.pointer (some ⟨b, 0, none⟩)] w fun e w' => e = .returned (.bool (decide (64 ≤ N.fl.length))) ∧ w = w' := by
  obtain ⟨a, cap, hfv, _⟩ := ownsRow_slice h.fl
  have hb := h.blk
  rw [hfv] at hb
  refine (full_any b _ _ _ a _ cap _ w hb (by have := hl.fl; omega)).mono ?_
  rintro e w' ⟨rfl, rfl⟩
  exact ⟨ret_bool (by simp; omega), rfl⟩

set_option maxHeartbeats 800000 in
theorem inject_any (b : Nat) (N : NetM) (D : ND) (p : PV) (m : Pk) (w : World) (c : Nat) (h : RepOk w b N D) (hl : N.lim) (hf : N.few c) (hc : c ≤ 40000) (hp : PIn w p m) (hpb : ∀ k, p.blk = some k → ¬ fp D b k) (hm : m.ok) :
    Calls Try.prog 20 #[.pointer (some ⟨b, 0, none⟩), p.val] w (Two3 b D w (N.inject m)) := by
  have hbn : p.bn ≤ 100000 := by have := hm.bs; have := hp.n; omega
  have hb0 : Below w.heap.size w (w.alloc (.cells #[.string p.f, .string p.t, .slice p.ba p.bn p.bc] 40)) := (Below.refl _ _).alloc (Nat.le_refl _) _
  cases hv : validB m
  · have HF : Hid (N.inject m = (N, 0, 2)) := by simp [Hid, NetM.inject, hv]
    have HV := Lib.hid hv
    clear hv
    simp only [PV.val]
    go_enter Try.func20, Try.ntmps20
    go_wp2_with fail
    refine (valid_any p m _ hp.f hp.t hp.n hm).mono ?_
    rintro e w1 ⟨rfl, hb⟩
    have hv := HV.out
    have hb1 := hb0.trans (hb.mono hb0.size)
    have h1 := h.below hb1 (Nat.le_refl _)
    clear hp hpb h hb hb0
    go_wp2_with fail
    go_ret2
    exact ⟨by rw [HF.out]; rfl, D, by rw [HF.out]; exact h1, Turns.of_below hb1⟩
  · by_cases hfull : 64 ≤ N.fl.length
    · have HF : Hid (N.inject m = (N, 0, 7)) := by simp [Hid, NetM.inject, hv, hfull]
      have HV := Lib.hid hv
      have HU : Hid (decide (64 ≤ N.fl.length) = true) := by simpa [Hid] using hfull
      clear hv hfull
      simp only [PV.val]
      go_enter Try.func20, Try.ntmps20
      go_wp2_with fail
      refine (valid_any p m _ hp.f hp.t hp.n hm).mono ?_
      rintro e w1 ⟨rfl, hb⟩
      have hv := HV.out
      have hb1 := hb0.trans (hb.mono hb0.size)
      have h1 := h.below hb1 (Nat.le_refl _)
      clear hp hpb h hb hb0
      go_wp2_with fail
      refine (full_rep b N D _ h1 hl).mono ?_
      rintro e w2 ⟨rfl, rfl⟩
      have hu := HU.out
      go_wp2_with fail
      go_ret2
      exact ⟨by rw [HF.out]; rfl, D, by rw [HF.out]; exact h1, Turns.of_below hb1⟩
    · have HF : Hid (N.inject m = (N.put m (-1) 8 (-1), N.next, 0)) := by simp [Hid, NetM.inject, hv, hfull]
      have HV := Lib.hid hv
      have HU : Hid (decide (64 ≤ N.fl.length) = false) := by simpa [Hid] using hfull
      have hlf : N.fl.length < 64 := by omega
      clear hv hfull
      simp only [PV.val]
      go_enter Try.func20, Try.ntmps20
      go_wp2_with fail
      refine (valid_any p m _ hp.f hp.t hp.n hm).mono ?_
      rintro e w1 ⟨rfl, hb⟩
      have hv := HV.out
      have hb1 := hb0.trans (hb.mono hb0.size)
      have h1 := h.below hb1 (Nat.le_refl _)
      have hp1 := hp.below hb1 (Nat.le_refl _)
      have e1 := (hb.block w.heap.size (by simp)).trans (heap_alloc_new w _)
      obtain ⟨p0, p1, p2, _, _, _, _⟩ := blk3 e1
      clear hp h hb hb0 e1
      go_wp2_with fail
      refine (full_rep b N D _ h1 hl).mono ?_
      rintro e w2 ⟨rfl, rfl⟩
      have hu := HU.out
      go_wp2_with fail
      refine (launch_rep b N D p m (-1) w1 h1 hl hp1 (fun k hk e => hpb k hk (.inl (.inl e))) hbn).mono ?_
      rintro e w2 ⟨rfl, D2, h2, t2⟩
      clear p0 p1 p2
      go_wp2_with fail
      refine (note_rep b _ D2 8 N.next (-1) w2 h2 (lim_push hl hf hc hm (by omega) (by omega) hlf)).mono ?_
      rintro e w3 ⟨rfl, D3, h3, t3⟩
      go_wp2_with fail
      go_ret2
      exact ⟨by rw [HF.out]; rfl, D3, by rw [HF.out]; exact h3, (Turns.of_below' hb1 t2).trans t3⟩
end Go.Proofs.Ytnkcgalbaeppmaa
