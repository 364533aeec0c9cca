/- The network's methods: Replay, Drop. -/
import Derived.Test.YtnkcgalbaeppmaaPub2
namespace Go.Proofs.Ytnkcgalbaeppmaa
open Go.RowKit

theorem hist_cells {w : World} {B g n cap : Nat} {hs : List PV} (h : w.ownsRow B 40 3 (.slice (some ⟨g, 0, none⟩) n cap) n (hs.flatMap PV.cells)) {k : Nat} {x : PV} (hx : hs[k]? = some x) :
    w.cell? ⟨g, k * 3, none⟩ = some (.string x.f) ∧ w.cell? ⟨g, k * 3 + 1, none⟩ = some (.string x.t) ∧ w.cell? ⟨g, k * 3 + 2, none⟩ = some (.slice x.ba x.bn x.bc) := by
  have h0 := own_cell PV.cells_len h hx (j := 0) (by decide)
  have h1 := own_cell PV.cells_len h hx (j := 1) (by decide)
  have h2 := own_cell PV.cells_len h hx (j := 2) (by decide)
  exact ⟨h0, h1, h2⟩

/-- Replay. -/
def NetM.replay (N : NetM) (ix : Int) : NetM × Int × Int :=
  if 0 ≤ ix then match N.hist[ix.toNat]? with
    | some m => if 64 ≤ N.fl.length then (N, 0, 7) else (N.put m ix 7 ix, N.next, 0)
    | none => (N, 0, 9)
  else (N, 0, 9)

set_option maxHeartbeats 800000 in
theorem replay_any (b : Nat) (N : NetM) (D : ND) (ix : Int) (w : World) (c : Nat) (h : RepOk w b N D) (hl : N.lim) (hf : N.few c) (hc : c ≤ 40000) :
    Calls Try.prog 21 #[.pointer (some ⟨b, 0, none⟩), .int .i64 ix] w (Two3 b D w (N.replay ix)) := by
  obtain ⟨ha, hcap, hhv, hh1, hh2, hh3, hh4⟩ := ownsRow_slice h.hist
  have hbk := h.blk
  rw [hhv] at hbk
  have c0 := hbk.c0
  have hlen : (N.hist.length : Int) ≤ 1024 := by have := hl.hist; omega
  by_cases hix : ix < 0
  · have HF : Hid (N.replay ix = (N, 0, 9)) := by simp [Hid, NetM.replay]; omega
    clear hbk
    go_enter Try.func21, Try.ntmps21
    go_wp2_with fail
    go_ret2
    exact ⟨by rw [HF.out]; rfl, D, by rw [HF.out]; exact h, Turns.of_below (Below.refl _ _)⟩
  · by_cases hix2 : (N.hist.length : Int) ≤ ix
    · have HF : Hid (N.replay ix = (N, 0, 9)) := by
        have : N.hist[ix.toNat]? = none := List.getElem?_eq_none (by omega)
        simp [Hid, NetM.replay, this]
      clear hbk
      go_enter Try.func21, Try.ntmps21
      go_wp2_with fail
      go_ret2
      exact ⟨by rw [HF.out]; rfl, D, by rw [HF.out]; exact h, Turns.of_below (Below.refl _ _)⟩
    · obtain ⟨i, rfl⟩ := Int.eq_ofNat_of_zero_le (show 0 ≤ ix by omega)
      have hi : i < N.hist.length := by omega
      obtain ⟨m, hm⟩ : ∃ m, N.hist[i]? = some m := ⟨_, List.getElem?_eq_getElem hi⟩
      obtain ⟨p, hp, hpm⟩ := h.histp.at hm
      have i0 : (0 : Int) ≤ (i : Int) := by omega
      have i1 : (i : Int) < (N.hist.length : Int) := by omega
      obtain ⟨g, rfl, _, hgl⟩ : ∃ g, ha = some ⟨g, 0, none⟩ ∧ 0 ≤ g ∧ g < w.heap.size := by
        cases ha with
        | none => have := (hh3 rfl).1; omega
        | some x => obtain ⟨g, rfl, h1, h2⟩ := hh4 x rfl; exact ⟨g, rfl, h1, h2⟩
      have hhi := h.hist
      rw [hhv] at hhi
      by_cases hfull : 64 ≤ N.fl.length
      · have HF : Hid (N.replay (i : Int) = (N, 0, 7)) := by simp [Hid, NetM.replay, hm, hfull]
        have HU : Hid (decide (64 ≤ N.fl.length) = true) := by simpa [Hid] using hfull
        clear hfull hm hp hix hix2
        go_enter Try.func21, Try.ntmps21
        go_wp2_with fail
        refine (full_rep b N D _ h hl).mono ?_
        rintro e w2 ⟨rfl, rfl⟩
        have hu := HU.out
        go_wp2_with fail
        go_ret2
        exact ⟨by rw [HF.out]; rfl, D, by rw [HF.out]; exact h, Turns.of_below (Below.refl _ _)⟩
      · have HF : Hid (N.replay (i : Int) = (N.put m i 7 i, N.next, 0)) := by simp [Hid, NetM.replay, hm, hfull]
        have HU : Hid (decide (64 ≤ N.fl.length) = false) := by simpa [Hid] using hfull
        have hlf : N.fl.length < 64 := by omega
        have hok := hl.histok m (List.mem_of_getElem? hm)
        obtain ⟨d0, d1, d2⟩ := hist_cells hhi hp
        have hbn : p.bn ≤ 100000 := by have := hok.bs; have := hpm.n; omega
        have hpb : ∀ k, p.blk = some k → k ≠ b := fun k hk e => by
          obtain ⟨c, hc⟩ := hpm.block hk
          exact absurd (cells_inj hc (e ▸ h.blk)) (by decide)
        clear hfull hm hp hix hix2 hhi
        go_enter Try.func21, Try.ntmps21
        go_wp2_with fail
        refine (full_rep b N D _ h hl).mono ?_
        rintro e w2 ⟨rfl, rfl⟩
        have hu := HU.out
        go_wp2_with fail
        refine (launch_rep b N D p m i w h hl hpm.pin hpb hbn).mono ?_
        rintro e w2 ⟨rfl, D2, h2, t2⟩
        clear d0 d1 d2 c0 hu
        go_wp2_with fail
        refine (note_rep b _ D2 7 N.next i w2 h2 (lim_push hl hf hc hok (by omega) i1 hlf)).mono ?_
        rintro e w3 ⟨rfl, D3, h3, t3⟩
        go_wp2_with fail
        go_ret2
        exact ⟨by rw [HF.out]; rfl, D3, by rw [HF.out]; exact h3, t2.trans t3⟩

/-- What a call that answers one number leaves. -/
def One3 (b : Nat) (D : ND) (w : World) (r : NetM × Int) (e : Ending) (w' : World) : Prop :=
  e = .returned (.int .i64 r.2) ∧ ∃ D', RepOk w' b r.1 D' ∧ Turns D D' b w w'
/-- Drop. -/
def NetM.drop (N : NetM) (id : Int) : NetM × Int :=
  match place id N.fl with
  | none => (N, 9)
  | some i => ({ N with fl := N.fl.eraseIdx i, ev := N.ev ++ [⟨3, id, -1⟩] }, 0)
set_option maxHeartbeats 800000 in
theorem drop_any (b : Nat) (N : NetM) (D : ND) (id : Int) (w : World) (c : Nat) (h : RepOk w b N D) (hl : N.lim) (hf : N.few c) (hc : c ≤ 40000) :
    Calls Try.prog 24 #[.pointer (some ⟨b, 0, none⟩), .int .i64 id] w (One3 b D w (N.drop id)) := by
  cases hp : place id N.fl with
  | none =>
    have HF : Hid (N.drop id = (N, 9)) := by simp [Hid, NetM.drop, hp]
    have HP := Lib.hid hp
    clear hp
    go_enter Try.func24, Try.ntmps24
    go_wp2_with fail
    refine (find_none b N D id _ h hl HP.out).mono ?_
    rintro e w1 ⟨rfl, hb⟩
    go_wp2_with fail
    go_ret
    exact ⟨by rw [HF.out]; rfl, D, by rw [HF.out]; exact h.below hb (Nat.le_refl _), Turns.of_below hb⟩
  | some i =>
    obtain ⟨m, hm, hid⟩ := place_some hp
    obtain ⟨x, hx, hxm⟩ := h.flp.at hm
    have HF : Hid (N.drop id = ({ N with fl := N.fl.eraseIdx i, ev := N.ev ++ [⟨3, id, -1⟩] }, 0)) := by simp [Hid, NetM.drop, hp]
    have HP := Lib.hid hp
    have i0 : (0 : Int) ≤ (i : Int) := by omega
    clear hp hm hid
    have HX := Lib.hid hx
    clear hx
    go_enter Try.func24, Try.ntmps24
    go_wp2_with fail
    refine (find_some b N D id i _ h hl HP.out).mono ?_
    rintro e w1 ⟨rfl, hb⟩
    have h1 := h.below hb (Nat.le_refl _)
    go_wp2_with fail
    refine (take_rep b N D i x w1 h1 hl HX.out).mono ?_
    rintro e w2 ⟨rfl, D2, h2, t2, _⟩
    go_wp2_with fail
    refine (note_rep b _ D2 3 id (-1) w2 h2 (lim_erase hl i)).mono ?_
    rintro e w3 ⟨rfl, D3, h3, t3⟩
    go_wp2_with fail
    go_ret
    exact ⟨by rw [HF.out]; rfl, D3, by rw [HF.out]; exact h3, (Turns.of_below' hb t2).trans t3⟩
end Go.Proofs.Ytnkcgalbaeppmaa
