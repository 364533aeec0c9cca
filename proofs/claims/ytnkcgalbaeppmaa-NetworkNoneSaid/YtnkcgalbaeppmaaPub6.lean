/- The network's method Alter. -/
import Derived.Test.YtnkcgalbaeppmaaPub5
namespace Go.Proofs.Ytnkcgalbaeppmaa
open Go.RowKit

/-- A byte is turned by a mask. -/
def flip (bs : List Int) (o : Nat) (mask : Int) : List Int := bs.set o (bits BinOp.xor IntKind.u8 (bs[o]?.getD 0) mask)
theorem flip_length (bs : List Int) (o : Nat) (mask : Int) : (flip bs o mask).length = bs.length := by simp [flip]
/-- Alter. -/
def NetM.alter (N : NetM) (id off mask : Int) : NetM × Int :=
  if mask = 0 then (N, 2) else match place id N.fl with
    | none => (N, 9)
    | some i => match N.fl[i]? with
      | none => (N, 9)
      | some m => if 0 ≤ off ∧ off < m.pk.bs.length then ({ N with fl := N.fl.set i { m with pk := { m.pk with bs := flip m.pk.bs off.toNat mask } }, ev := N.ev ++ [⟨5, id, -1⟩] }, 0) else (N, 3)

/-- A byte of a packet in flight is turned. -/
theorem rep_setByte {w : World} {b : Nat} {N : NetM} {D : ND} (h : RepOk w b N D) {i gb o : Nat} {x : FV} {m : FlM} (hx : D.fs[i]? = some x) (hm : N.fl[i]? = some m) (hba : x.p.ba = some ⟨gb, 0, none⟩) (mask : Int) :
    RepOk (w.setCell ⟨gb, o, none⟩ (.int .u8 (bits BinOp.xor IntKind.u8 (m.pk.bs[o]?.getD 0) mask))) b { N with fl := N.fl.set i { m with pk := { m.pk with bs := flip m.pk.bs o mask } } } D ∧
      Turns D D b w (w.setCell ⟨gb, o, none⟩ (.int .u8 (bits BinOp.xor IntKind.u8 (m.pk.bs[o]?.getD 0) mask))) := by
  have hxm : FOwn w x m := h.flp.2 i x m hx hm
  have hmem := List.mem_of_getElem? hx
  have hbk : x.p.blk = some gb := by simp [PV.blk, hba, Value.ownBlock]
  have hfp : wr D b gb := .inr (.inr (.inr (.inr (.inr ⟨x, hmem, hbk⟩))))
  have hS : ∀ k, (k = gb) → ∃ cur T, w.heap[k]? = some (.cells cur T (0, 0)) ∧ T ∈ [5] := by
    rintro k rfl
    obtain ⟨c, hc⟩ := hxm.p.block hbk; exact ⟨c, 5, hc, by simp⟩
  have hA := h.apartT hS
  generalize hv : (bits BinOp.xor IntKind.u8 (m.pk.bs[o]?.getD 0) mask) = v
  have hk : Kp (fun k => k = gb) w (w.setCell ⟨gb, o, none⟩ (.int .u8 v)) := (Kp.refl (fun k => k = gb) w).setCell (fun _ => rfl) _
  have hown := hxm.p.b
  rw [hba] at hown
  have hst := (hown.stored o (.int .u8 v)).1
  refine ⟨⟨h.blk.kp hk (hA b _ 31 h.blk (by decide)), ?_, ?_, ?_, ?_, ?_, ?_, h.apart, h.apart2⟩, ⟨hk.mono (fun k _ e => by subst e; exact hfp), fun k hk => .inl hk, fun k hk => .inl hk⟩⟩
  · exact ownsRow_kp h.hist hk (fun k h1 => by obtain ⟨c, hc⟩ := h.hblk h1; exact hA k c 40 hc (by decide))
  · exact h.histp.mono fun y q hy hq => hq.kp hk (fun k h1 e => by subst e; exact h.apart2 x hmem y hy k hbk h1)
  · simp only [List.length_set]
    exact ownsRow_kp h.fl hk (fun k h1 => by obtain ⟨c, hc⟩ := h.fblk h1; exact hA k c 86 hc (by decide))
  · refine ⟨by simp [h.flp.1], fun j a c ha hc => ?_⟩
    by_cases hij : i = j
    · subst hij
      rw [hx] at ha; cases ha
      rw [List.getElem?_set] at hc
      simp only [if_true] at hc
      split at hc
      · cases hc
        refine ⟨⟨hxm.p.f, hxm.p.t, by rw [flip_length]; exact hxm.p.n, ?_⟩, hxm.id, hxm.src⟩
        rw [hba]
        simp only [flip, hv, List.map_set]
        exact hst
      · cases hc
    · rw [List.getElem?_set_ne hij] at hc
      have := h.flp.2 j a c ha hc
      exact ⟨this.p.kp hk (fun k h1 e => by subst e; exact h.apart i j x a k hx ha hij hbk h1), this.id, this.src⟩
  · exact ownsRow_kp h.ev hk (fun k h1 => by obtain ⟨c, hc⟩ := h.eblk h1; exact hA k c 61 hc (by decide))
  · exact h.map.same fun k h1 => hk.block k (h.map.lt k h1) (h.apartM hS k h1)

set_option maxHeartbeats 800000 in
theorem alter_any (b : Nat) (N : NetM) (D : ND) (id off mask : Int) (w : World) (c : Nat) (h : RepOk w b N D) (hl : N.lim) (hf : N.few c) (hc : c ≤ 40000) :
    Calls Try.prog 25 #[.pointer (some ⟨b, 0, none⟩), .int .i64 id, .int .i64 off, .int .u8 mask] w (One3 b D w (N.alter id off mask)) := by
  by_cases hm0 : mask = 0
  · have HF : Hid (N.alter id off mask = (N, 2)) := by simp [Hid, NetM.alter, hm0]
    have hm1 : (mask == 0) = true := by simpa using hm0
    clear hm0
    go_enter Try.func25, Try.ntmps25
    go_wp2_with fail
    go_ret
    exact ⟨by rw [HF.out]; rfl, D, by rw [HF.out]; exact h, Turns.of_below (Below.refl _ _)⟩
  have hm1 : (mask == 0) = false := by simpa using hm0
  have HM0 := Lib.hid hm0
  clear hm0
  cases hp : place id N.fl with
  | none =>
    have HF : Hid (N.alter id off mask = (N, 9)) := by simp [Hid, NetM.alter, HM0.out, hp]
    have HP := Lib.hid hp
    clear hp
    go_enter Try.func25, Try.ntmps25
    go_wp2_with fail
    refine (find_none b N D id _ h hl HP.out).mono ?_
    rintro e w1 ⟨rfl, hb⟩
    go_wp2_with fail
    go_ret
    exact ⟨by rw [HF.out]; rfl, D, by rw [HF.out]; exact h.below hb (Nat.le_refl _), Turns.of_below hb⟩
  | some i =>
    obtain ⟨m, hm, hid⟩ := place_some hp
    obtain ⟨x, hx, hxm⟩ := h.flp.at hm
    have hi : i < N.fl.length := (List.getElem?_eq_some_iff.1 hm).1
    have HP := Lib.hid hp
    have i0 : (0 : Int) ≤ (i : Int) := by omega
    have i1 : (i : Int) < (N.fl.length : Int) := by omega
    have i2 : (N.fl.length : Int) ≤ 64 := by have := hl.fl; omega
    obtain ⟨g, cap, hfv, _, hg⟩ := h.fl.form (by omega)
    have HX := Lib.hid hx
    have HM := Lib.hid hm
    have hok := hl.flok m (List.mem_of_getElem? hm)
    have hxn := hxm.p.n
    have HN := Lib.hid hxn
    have b1 : x.p.bn ≤ 100 := by have := hok.bs; omega
    have b2 : (x.p.bn : Int) ≤ 100 := by omega
    by_cases hoff : 0 ≤ off ∧ off < m.pk.bs.length
    · have HF : Hid (N.alter id off mask = ({ N with fl := N.fl.set i { m with pk := { m.pk with bs := flip m.pk.bs off.toNat mask } }, ev := N.ev ++ [⟨5, id, -1⟩] }, 0)) := by simp [Hid, NetM.alter, HM0.out, hp, hm, hoff]
      obtain ⟨o, rfl⟩ := Int.eq_ofNat_of_zero_le hoff.1
      have o0 : (0 : Int) ≤ (o : Int) := by omega
      have o1 : (o : Int) < (x.p.bn : Int) := by omega
      have o2 : o < x.p.bn := by omega
      obtain ⟨gb, cb, hgb⟩ : ∃ gb cb, x.p.ba = some ⟨gb, 0, none⟩ ∧ x.p.bc = cb := by
        obtain ⟨gb, cb, hv, _, _⟩ := hxm.p.b.form (by omega)
        injection hv with h1 h2 h3
        exact ⟨gb, cb, h1, h3⟩
      obtain ⟨hgb, _⟩ := hgb
      have HG := Lib.hid hgb
      clear hp hm hid hx hoff hxn
      go_enter Try.func25, Try.ntmps25
      go_wp2_with fail
      refine (find_some b N D id i _ h hl HP.out).mono ?_
      rintro e w1 ⟨rfl, hb⟩
      have h1 := h.below hb (Nat.le_refl _)
      obtain ⟨h2, t2⟩ := rep_setByte (o := o) h1 HX.out HM.out HG.out mask
      have hxm1 := hxm.p.below hb (Nat.le_refl _)
      have hbk := h1.blk
      have hfl := h1.fl
      rw [hfv] at hbk hfl
      obtain ⟨d0, d1, d2, d3, d4⟩ := fly_cells hfl HX.out
      rw [HG.out] at d2
      have c1 := hbk.c1
      have hbb := hxm1.b
      rw [HG.out] at hbb
      have dd : w1.cell? ⟨gb, o, none⟩ = some (.int .u8 (m.pk.bs[o]?.getD 0)) := by
        rw [hbb.cellAt o (by omega), List.getElem?_map, List.getElem?_eq_getElem (by have := HN.out; omega)]; rfl
      have df : w1.frozen? ⟨gb, o, none⟩ = false := hbb.frozenAt o
      clear hbk hfl hfv h h1 hbb hxm1 hxm hgb
      go_wp2_with fail
      refine (note_rep b _ D 5 id (-1) _ h2 (lim_set hl HM.out ⟨hok.fr, hok.to, by rw [flip_length]; exact hok.bs⟩ rfl)).mono ?_
      rintro e w3 ⟨rfl, D3, h3, t3⟩
      clear c1 d0 d1 d2 d3 d4 dd df
      go_wp2_with fail
      go_ret
      exact ⟨by rw [HF.out]; rfl, D3, by rw [HF.out]; exact h3, (Turns.of_below' hb t2).trans t3⟩
    · have HF : Hid (N.alter id off mask = (N, 3)) := by simp only [Hid, NetM.alter, HM0.out, hp, hm, if_neg hoff]; rfl
      clear hp hm hid hx
      by_cases ho : off < 0
      · clear hoff hxn
        go_enter Try.func25, Try.ntmps25
        go_wp2_with fail
        refine (find_some b N D id i _ h hl HP.out).mono ?_
        rintro e w1 ⟨rfl, hb⟩
        have h1 := h.below hb (Nat.le_refl _)
        clear h
        go_wp2_with fail
        go_ret
        exact ⟨by rw [HF.out]; rfl, D, by rw [HF.out]; exact h1, Turns.of_below hb⟩
      · obtain ⟨o, rfl⟩ := Int.eq_ofNat_of_zero_le (show 0 ≤ off by omega)
        have o2 : x.p.bn ≤ o := by omega
        have o0 : (0 : Int) ≤ (o : Int) := by omega
        clear hoff ho hxn
        go_enter Try.func25, Try.ntmps25
        go_wp2_with fail
        refine (find_some b N D id i _ h hl HP.out).mono ?_
        rintro e w1 ⟨rfl, hb⟩
        have h1 := h.below hb (Nat.le_refl _)
        have hbk := h1.blk
        have hfl := h1.fl
        rw [hfv] at hbk hfl
        obtain ⟨d0, d1, d2, d3, d4⟩ := fly_cells hfl HX.out
        have c1 := hbk.c1
        clear hbk hfl hfv h
        go_wp2_with fail
        go_ret
        exact ⟨by rw [HF.out]; rfl, D, by rw [HF.out]; exact h1, Turns.of_below hb⟩
end Go.Proofs.Ytnkcgalbaeppmaa
