/- The network's methods that turn a packet in flight: Redirect, Alter. -/
import Derived.Test.YtnkcgalbaeppmaaPub3
namespace Go.Proofs.Ytnkcgalbaeppmaa
open Go.RowKit

/-- Redirect. -/
def NetM.redirect (N : NetM) (id : Int) (to : ByteArray) : NetM × Int :=
  if hostB to then match place id N.fl with
    | none => (N, 9)
    | some i => match N.fl[i]? with
      | some m => ({ N with fl := N.fl.set i { m with pk := { m.pk with to } }, ev := N.ev ++ [⟨6, id, -1⟩] }, 0)
      | none => (N, 9)
  else (N, 2)

theorem flat_set {α : Type} (c : α → List Value) (s : Nat) (hc : ∀ x, (c x).length = s) (u : Value) : ∀ (l : List α) (k j : Nat) (x y : α), l[k]? = some x → j < s → c y = (c x).set j u → (l.flatMap c).set (k * s + j) u = (l.set k y).flatMap c
  | [], k, j, x, y, h, _, _ => by simp at h
  | z :: l, 0, j, x, y, h, hj, hy => by
    simp at h; subst h
    simp only [List.flatMap_cons, Nat.zero_mul, Nat.zero_add, List.set_cons_zero]
    rw [List.set_append_left _ _ (by rw [hc]; exact hj), hy]
  | z :: l, k + 1, j, x, y, h, hj, hy => by
    simp at h
    have ih := flat_set c s hc u l k j x y h hj hy
    simp only [List.flatMap_cons, List.set_cons_succ]
    have e : (k + 1) * s + j = s + (k * s + j) := by rw [Nat.add_mul]; omega
    rw [List.set_append_right _ _ (by rw [hc, e]; omega), hc, e, Nat.add_sub_cancel_left, ih]

/-- The receiver of a packet in flight is turned. -/
theorem rep_setTo {w : World} {b : Nat} {N : NetM} {D : ND} (h : RepOk w b N D) {i g cap : Nat} {x : FV} {m : FlM} (hx : D.fs[i]? = some x) (hm : N.fl[i]? = some m) (hfv : D.fv = .slice (some ⟨g, 0, none⟩) N.fl.length cap) (to : ByteArray) :
    RepOk (w.setCell ⟨g, i * 5 + 1, none⟩ (.string to)) b { N with fl := N.fl.set i { m with pk := { m.pk with to } } } { D with fs := D.fs.set i { x with p := { x.p with t := to } } } ∧
      Turns D { D with fs := D.fs.set i { x with p := { x.p with t := to } } } b w (w.setCell ⟨g, i * 5 + 1, none⟩ (.string to)) := by
  have hgg : D.fv.ownBlock = some g := by rw [hfv]; rfl
  have hS : ∀ k, (k = g) → ∃ cur T, w.heap[k]? = some (.cells cur T (0, 0)) ∧ T ∈ [86] := by
    rintro k rfl
    obtain ⟨c, hc⟩ := h.fblk hgg; exact ⟨c, 86, hc, by simp⟩
  have hA := h.apartT hS
  have hk : Kp (fun k => k = g) w (w.setCell ⟨g, i * 5 + 1, none⟩ (.string to)) := (Kp.refl (fun k => k = g) w).setCell (fun _ => rfl) _
  have hxm : FOwn w x m := h.flp.2 i x m hx hm
  have hil : i < N.fl.length := (List.getElem?_eq_some_iff.1 hm).1
  have hfl := h.fl
  rw [hfv] at hfl
  have hst := hfl.stored (i * 5 + 1) (.string to)
  have hset := flat_set FV.cells 5 FV.cells_len (.string to) D.fs i 1 x { x with p := { x.p with t := to } } hx (by decide) rfl
  have keep : ∀ (p : PV) (q : Pk), POwn w p q → POwn (w.setCell ⟨g, i * 5 + 1, none⟩ (.string to)) p q := fun p q hq => hq.kp hk (fun k h1 => by obtain ⟨c, hc⟩ := hq.block h1; exact hA k c 5 hc (by decide))
  have hmem : ∀ y, y ∈ D.fs.set i { x with p := { x.p with t := to } } → ∃ z ∈ D.fs, z.p.blk = y.p.blk := fun y hy => by
    rcases List.mem_or_eq_of_mem_set hy with hy | rfl
    · exact ⟨y, hy, rfl⟩
    · exact ⟨x, List.mem_of_getElem? hx, rfl⟩
  have hat : ∀ (j : Nat) (y : FV), (D.fs.set i { x with p := { x.p with t := to } })[j]? = some y → ∃ z, D.fs[j]? = some z ∧ z.p.blk = y.p.blk := fun j y hy => by
    by_cases hij : i = j
    · subst hij
      rw [List.getElem?_set] at hy
      simp only [if_true] at hy
      split at hy
      · cases hy; exact ⟨x, hx, rfl⟩
      · cases hy
    · rw [List.getElem?_set_ne hij] at hy; exact ⟨y, hy, rfl⟩
  refine ⟨⟨h.blk.kp hk (fun e => h.fv31 hgg e.symm), ?_, ?_, ?_, ?_, ?_, ?_, ?_, ?_⟩, ⟨hk.mono (fun k _ e => by subst e; exact .inr (.inr (.inl hgg))), ?_, fun k hk => .inl hk⟩⟩
  · exact ownsRow_kp h.hist hk (fun k h1 => by obtain ⟨c, hc⟩ := h.hblk h1; exact hA k c 40 hc (by decide))
  · exact h.histp.mono fun x y hx hm => keep x y hm
  · simp only [List.length_set]
    rw [hfv, ← hset]
    exact hst.1
  · refine Both.set i (fun j a c hj ha hc => ?_) h.flp.1 ⟨⟨(keep _ _ hxm.p).f, rfl, (keep _ _ hxm.p).n, (keep _ _ hxm.p).b⟩, hxm.id, hxm.src⟩
    have := h.flp.2 j a c ha hc
    exact ⟨keep _ _ this.p, this.id, this.src⟩
  · exact ownsRow_kp h.ev hk (fun k h1 => by obtain ⟨c, hc⟩ := h.eblk h1; exact hA k c 61 hc (by decide))
  · exact h.map.same fun k h1 => hk.block k (h.map.lt k h1) (h.apartM hS k h1)
  · intro a c y z k hy hz hac h1 h2
    obtain ⟨y', hy', ey⟩ := hat a y hy
    obtain ⟨z', hz', ez⟩ := hat c z hz
    exact h.apart a c y' z' k hy' hz' hac (ey.trans h1) (ez.trans h2)
  · intro y hy p' hp' k h1 h2
    obtain ⟨z, hz, ez⟩ := hmem y hy
    exact h.apart2 z hz p' hp' k (ez.trans h1) h2
  · rintro k (rfl | h1 | h1 | h1 | h1 | ⟨y, hy, h1⟩)
    · exact .inl (.inl rfl)
    · exact .inl (.inr (.inl h1))
    · exact .inl (.inr (.inr (.inl h1)))
    · exact .inl (.inr (.inr (.inr (.inl h1))))
    · exact .inl (.inr (.inr (.inr (.inr (.inl h1)))))
    · obtain ⟨z, hz, ez⟩ := hmem y hy
      exact .inl (.inr (.inr (.inr (.inr (.inr ⟨z, hz, ez.trans h1⟩)))))

theorem lim_set {N : NetM} (h : N.lim) {i : Nat} {m m' : FlM} (hm : N.fl[i]? = some m) (hok : m'.pk.ok) (hs : m'.src = m.src) : ({ N with fl := N.fl.set i m' } : NetM).lim :=
  ⟨h.hist, by have := h.fl; show (N.fl.set i m').length ≤ 64; rw [List.length_set]; exact this, h.ev, h.next0, h.next1, h.histok,
    (fun x hx => (List.mem_or_eq_of_mem_set hx).elim (h.flok x) (fun e => e ▸ hok)),
    (fun x hx => (List.mem_or_eq_of_mem_set hx).elim (h.srcok x) (fun e => by subst e; rw [hs]; exact h.srcok m (List.mem_of_getElem? hm)))⟩

set_option maxHeartbeats 800000 in
theorem redirect_any (b : Nat) (N : NetM) (D : ND) (id : Int) (to : ByteArray) (w : World) (c : Nat) (h : RepOk w b N D) (hl : N.lim) (hf : N.few c) (hc : c ≤ 40000) (ht : to.size ≤ 100) :
    Calls Try.prog 26 #[.pointer (some ⟨b, 0, none⟩), .int .i64 id, .string to] w (One3 b D w (N.redirect id to)) := by
  cases hv : hostB to
  · have HF : Hid (N.redirect id to = (N, 2)) := by simp [Hid, NetM.redirect, hv]
    have HV := Lib.hid hv
    clear hv
    go_enter Try.func26, Try.ntmps26
    go_wp2_with fail
    refine (validHost_any to _ ht).mono ?_
    rintro e w1 ⟨rfl, rfl⟩
    have hv := HV.out
    go_wp2_with fail
    go_ret
    exact ⟨by rw [HF.out]; rfl, D, by rw [HF.out]; exact h, Turns.of_below (Below.refl _ _)⟩
  · have HV := Lib.hid hv
    cases hp : place id N.fl with
    | none =>
      have HF : Hid (N.redirect id to = (N, 9)) := by simp [Hid, NetM.redirect, hp, hv]
      have HP := Lib.hid hp
      clear hp hv
      go_enter Try.func26, Try.ntmps26
      go_wp2_with fail
      refine (validHost_any to _ ht).mono ?_
      rintro e w1 ⟨rfl, rfl⟩
      have hv := HV.out
      go_wp2_with fail
      refine (find_none b N D id _ h hl HP.out).mono ?_
      rintro e w1 ⟨rfl, hb⟩
      go_wp2_with fail
      go_ret
      exact ⟨by rw [HF.out]; rfl, D, by rw [HF.out]; exact h.below hb (Nat.le_refl _), Turns.of_below hb⟩
    | some i =>
      obtain ⟨m, hm, hid⟩ := place_some hp
      obtain ⟨x, hx, hxm⟩ := h.flp.at hm
      have hi : i < N.fl.length := (List.getElem?_eq_some_iff.1 hm).1
      have HF : Hid (N.redirect id to = ({ N with fl := N.fl.set i { m with pk := { m.pk with to } }, ev := N.ev ++ [⟨6, id, -1⟩] }, 0)) := by simp [Hid, NetM.redirect, hp, hv, hm]
      have HP := Lib.hid hp
      have i0 : (0 : Int) ≤ (i : Int) := by omega
      have i1 : (i : Int) < (N.fl.length : Int) := by omega
      have i2 : (N.fl.length : Int) ≤ 64 := by have := hl.fl; omega
      obtain ⟨g, cap, hfv, _, hg⟩ := h.fl.form (by omega)
      have HX := Lib.hid hx
      have HM := Lib.hid hm
      clear hp hm hid hx hv
      go_enter Try.func26, Try.ntmps26
      go_wp2_with fail
      refine (validHost_any to _ ht).mono ?_
      rintro e w1 ⟨rfl, rfl⟩
      have hv := HV.out
      go_wp2_with fail
      refine (find_some b N D id i _ h hl HP.out).mono ?_
      rintro e w1 ⟨rfl, hb⟩
      have h1 := h.below hb (Nat.le_refl _)
      obtain ⟨h2, t2⟩ := rep_setTo h1 HX.out HM.out hfv to
      have hbk := h1.blk
      have hfl := h1.fl
      rw [hfv] at hbk hfl
      obtain ⟨d0, d1, d2, d3, d4⟩ := fly_cells hfl HX.out
      have c1 := hbk.c1
      have fz : w1.frozen? ⟨g, i * 5 + 1, none⟩ = false := hfl.frozenAt _
      have hok := hl.flok m (List.mem_of_getElem? HM.out)
      clear hv hbk hfl hfv h h1
      go_wp2_with fail
      refine (note_rep b _ _ 6 id (-1) _ h2 (lim_set hl HM.out ⟨hok.fr, ht, hok.bs⟩ rfl)).mono ?_
      rintro e w3 ⟨rfl, D3, h3, t3⟩
      clear c1 d0 d1 d2 d3 d4 fz
      go_wp2_with fail
      go_ret
      exact ⟨by rw [HF.out]; rfl, D3, by rw [HF.out]; exact h3, (Turns.of_below' hb t2).trans t3⟩
end Go.Proofs.Ytnkcgalbaeppmaa
