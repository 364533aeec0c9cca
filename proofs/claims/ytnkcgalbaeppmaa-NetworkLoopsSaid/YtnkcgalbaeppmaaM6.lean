/- Texts joined into one: Pub4 Pub5 Pub6 Pub7. -/
import Derived.Test.YtnkcgalbaeppmaaM3
import Derived.ScopeJumps
import Derived.WalkMore
/- The network's method Duplicate. -/
namespace Go.Proofs.Ytnkcgalbaeppmaa
open Go.RowKit

/-- Duplicate. -/
def NetM.dup (N : NetM) (id : Int) : NetM × Int × Int :=
  match place id N.fl with
  | none => (N, 0, 9)
  | some i => if 64 ≤ N.fl.length then (N, 0, 7) else
    match N.fl[i]? with
    | some m => (N.put m.pk m.src 4 id, N.next, 0)
    | none => (N, 0, 9)

set_option maxHeartbeats 800000 in
set_option maxRecDepth 100000 in
theorem dup_any (b : Nat) (N : NetM) (D : ND) (id : Int) (w : World) (c : Nat) (h : RepOk w b N D) (hl : N.lim) (hf : N.few c) (hc : c ≤ 40000) :
    Calls Try.prog 22 #[.pointer (some ⟨b, 0, none⟩), .int .i64 id] w (Two3 b D w (N.dup id)) := by
  cases hp : place id N.fl with
  | none =>
    have HF : Hid (N.dup id = (N, 0, 9)) := by simp [Hid, NetM.dup, hp]
    have HP := Lib.hid hp
    clear hp
    go_enter Try.func22, Try.ntmps22
    go_wp2_with fail
    refine (find_none b N D id _ h hl HP.out).mono ?_
    rintro e w1 ⟨rfl, hb⟩
    go_wp2_with fail
    go_ret2
    exact ⟨by rw [HF.out]; rfl, D, by rw [HF.out]; exact h.below hb (Nat.le_refl _), Turns.of_below hb⟩
  | some i =>
    obtain ⟨m, hm, hid⟩ := place_some hp
    obtain ⟨x, hx, hxm⟩ := h.flp.at hm
    have hi : i < N.fl.length := (List.getElem?_eq_some_iff.1 hm).1
    have HP := Lib.hid hp
    have i0 : (0 : Int) ≤ (i : Int) := by omega
    have i1 : (i : Int) < (N.fl.length : Int) := by omega
    have i2 : (N.fl.length : Int) ≤ 64 := by have := hl.fl; omega
    by_cases hfull : 64 ≤ N.fl.length
    · have HF : Hid (N.dup id = (N, 0, 7)) := by simp [Hid, NetM.dup, hp, hfull]
      have HU : Hid (decide (64 ≤ N.fl.length) = true) := by simpa [Hid] using hfull
      clear hp hm hid hx hfull
      go_enter Try.func22, Try.ntmps22
      go_wp2_with fail
      refine (find_some b N D id i _ h hl HP.out).mono ?_
      rintro e w1 ⟨rfl, hb⟩
      have h1 := h.below hb (Nat.le_refl _)
      go_wp2_with fail
      refine (full_rep b N D _ h1 hl).mono ?_
      rintro e w2 ⟨rfl, rfl⟩
      have hu := HU.out
      go_wp2_with fail
      go_ret2
      exact ⟨by rw [HF.out]; rfl, D, by rw [HF.out]; exact h1, Turns.of_below hb⟩
    · have HF : Hid (N.dup id = (N.put m.pk m.src 4 id, N.next, 0)) := by simp [Hid, NetM.dup, hp, hfull, hm]
      have HU : Hid (decide (64 ≤ N.fl.length) = false) := by simpa [Hid] using hfull
      have hlf : N.fl.length < 64 := by omega
      have hok := hl.flok m (List.mem_of_getElem? hm)
      have hsrc := hl.srcok m (List.mem_of_getElem? hm)
      have hbn : x.p.bn ≤ 100000 := by have := hok.bs; have := hxm.p.n; omega
      have hpb : ∀ k, x.p.blk = some k → k ≠ b := fun k hk e => by
        obtain ⟨c, hc⟩ := hxm.p.block hk
        exact absurd (cells_inj hc (e ▸ h.blk)) (by decide)
      obtain ⟨g, cap, hfv, _, hg⟩ := h.fl.form (by omega)
      have HX := Lib.hid hx
      clear hp hm hid hx hfull
      go_enter Try.func22, Try.ntmps22
      go_wp2_with fail
      refine (find_some b N D id i _ h hl HP.out).mono ?_
      rintro e w1 ⟨rfl, hb⟩
      have h1 := h.below hb (Nat.le_refl _)
      go_wp2_with fail
      refine (full_rep b N D _ h1 hl).mono ?_
      rintro e w2 ⟨rfl, rfl⟩
      have hu := HU.out
      go_wp2_with fail
      have hxp : PIn w1 x.p m.pk := (hxm.p.below hb (Nat.le_refl _)).pin
      have hbk := h1.blk
      have hfl := h1.fl
      rw [hfv] at hbk hfl
      have hcl := fly_cells hfl HX.out
      have c1 := hbk.c1
      have HS := Lib.hid hxm.src
      clear hu hfv h hbk hfl
      apply wp_region_early [0, 1, 2, 3, 4, 5, 6, 7, 8, 9, 10, 11, 12, 13, 14, 15, 16] [] [17, 18] (fun w' => w'.cell? ⟨b, 1, none⟩ = some (.slice (some ⟨g, 0, none⟩) N.fl.length cap) ∧ w'.cell? ⟨g, i * 5, none⟩ = some (.string x.p.f) ∧ w'.cell? ⟨g, i * 5 + 1, none⟩ = some (.string x.p.t) ∧ w'.cell? ⟨g, i * 5 + 2, none⟩ = some (.slice x.p.ba x.p.bn x.p.bc) ∧ w'.cell? ⟨g, i * 5 + 4, none⟩ = some (.int .i64 x.src))
      case hm => kernel_rfl
      case hB => kernel_rfl
      case hao => exact .nil
      case hlo => exact .cons rfl (.cons rfl .nil)
      case hS => exact ⟨c1, hcl.1, hcl.2.1, hcl.2.2.1, hcl.2.2.2.2⟩
      case hr =>
        iterate 17
          apply Reads.cons1 rfl rfl
          · intro w' hS
            obtain ⟨s0, s1, s2, s3, s4⟩ := hS
            go_simp
            try rfl
        exact Reads.nil
      intro W hW
      have hW1 : RepOk W b N D := by subst hW; exact h1.below ((Below.refl w1.heap.size w1).drew) (Nat.le_refl _)
      have hW2 : PIn W x.p m.pk := by subst hW; exact hxp.drew
      have hW3 : Turns D D b w W := by subst hW; exact Turns.of_below hb.drew
      clear hW h1 hxp hb hcl c1
      unfold wpTail
      simp only [Act.put, List.setIfInBounds_toArray, List.set_cons_succ, List.set_cons_zero]
      go_wp2_with fail
      refine (launch_rep b N D x.p m.pk x.src W hW1 hl hW2 hpb hbn).mono ?_
      rintro e w2 ⟨rfl, D2, h2, t2⟩
      go_wp2_with fail
      refine NoPanic.normal ?_
      go_wp2_with fail
      refine (note_rep b _ D2 4 N.next id w2 h2 (lim_push hl hf hc hok (by rw [HS.out]; exact hsrc.1) (by rw [HS.out]; exact hsrc.2) hlf)).mono ?_
      rintro e w3 ⟨rfl, D3, h3, t3⟩
      go_wp2_with fail
      go_ret2
      exact ⟨by rw [HF.out]; rfl, D3, by rw [HF.out, ← HS.out]; exact h3, (hW3.trans t2).trans t3⟩
end Go.Proofs.Ytnkcgalbaeppmaa
/- The network's methods that turn a packet in flight: Redirect, Alter. -/
namespace Go.Proofs.Ytnkcgalbaeppmaa
open Go.RowKit

/-- Redirect. -/
def NetM.redirect (N : NetM) (id : Int) (to : ByteArray) : NetM × Int :=
  if hostB to then match place id N.fl with
    | none => (N, 9)
    | some i => match N.fl[i]? with
      | some m => ({ N with fl := N.fl.set i { m with pk := { m.pk with to } }, ev := N.ev ++ [⟨6, id, -1⟩] }, 0)
      | none => (N, 9)
  else (N, 2)

theorem flat_set {α : Type} (c : α → List Value) (s : Nat) (hc : ∀ x, (c x).length = s) (u : Value) : ∀ (l : List α) (k j : Nat) (x y : α), l[k]? = some x → j < s → c y = (c x).set j u → (l.flatMap c).set (k * s + j) u = (l.set k y).flatMap c
  | [], k, j, x, y, h, _, _ => by simp at h
  | z :: l, 0, j, x, y, h, hj, hy => by
    simp at h; subst h
    simp only [List.flatMap_cons, Nat.zero_mul, Nat.zero_add, List.set_cons_zero]
    rw [List.set_append_left _ _ (by rw [hc]; exact hj), hy]
  | z :: l, k + 1, j, x, y, h, hj, hy => by
    simp at h
    have ih := flat_set c s hc u l k j x y h hj hy
    simp only [List.flatMap_cons, List.set_cons_succ]
    have e : (k + 1) * s + j = s + (k * s + j) := by rw [Nat.add_mul]; omega
    rw [List.set_append_right _ _ (by rw [hc, e]; omega), hc, e, Nat.add_sub_cancel_left, ih]

/-- The receiver of a packet in flight is turned. -/
theorem rep_setTo {w : World} {b : Nat} {N : NetM} {D : ND} (h : RepOk w b N D) {i g cap : Nat} {x : FV} {m : FlM} (hx : D.fs[i]? = some x) (hm : N.fl[i]? = some m) (hfv : D.fv = .slice (some ⟨g, 0, none⟩) N.fl.length cap) (to : ByteArray) :
    RepOk (w.setCell ⟨g, i * 5 + 1, none⟩ (.string to)) b { N with fl := N.fl.set i { m with pk := { m.pk with to } } } { D with fs := D.fs.set i { x with p := { x.p with t := to } } } ∧
      Turns D { D with fs := D.fs.set i { x with p := { x.p with t := to } } } b w (w.setCell ⟨g, i * 5 + 1, none⟩ (.string to)) := by
  have hgg : D.fv.ownBlock = some g := by rw [hfv]; rfl
  have hS : ∀ k, (k = g) → ∃ cur T, w.heap[k]? = some (.cells cur T (0, 0)) ∧ T ∈ [86] := by
    rintro k rfl
    obtain ⟨c, hc⟩ := h.fblk hgg; exact ⟨c, 86, hc, by simp⟩
  have hA := h.apartT hS
  have hk : Kp (fun k => k = g) w (w.setCell ⟨g, i * 5 + 1, none⟩ (.string to)) := (Kp.refl (fun k => k = g) w).setCell (fun _ => rfl) _
  have hxm : FOwn w x m := h.flp.2 i x m hx hm
  have hil : i < N.fl.length := (List.getElem?_eq_some_iff.1 hm).1
  have hfl := h.fl
  rw [hfv] at hfl
  have hst := hfl.stored (i * 5 + 1) (.string to)
  have hset := flat_set FV.cells 5 FV.cells_len (.string to) D.fs i 1 x { x with p := { x.p with t := to } } hx (by decide) rfl
  have keep : ∀ (p : PV) (q : Pk), POwn w p q → POwn (w.setCell ⟨g, i * 5 + 1, none⟩ (.string to)) p q := fun p q hq => hq.kp hk (fun k h1 => by obtain ⟨c, hc⟩ := hq.block h1; exact hA k c 5 hc (by decide))
  have hmem : ∀ y, y ∈ D.fs.set i { x with p := { x.p with t := to } } → ∃ z ∈ D.fs, z.p.blk = y.p.blk := fun y hy => by
    rcases List.mem_or_eq_of_mem_set hy with hy | rfl
    · exact ⟨y, hy, rfl⟩
    · exact ⟨x, List.mem_of_getElem? hx, rfl⟩
  have hat : ∀ (j : Nat) (y : FV), (D.fs.set i { x with p := { x.p with t := to } })[j]? = some y → ∃ z, D.fs[j]? = some z ∧ z.p.blk = y.p.blk := fun j y hy => by
    by_cases hij : i = j
    · subst hij
      rw [List.getElem?_set] at hy
      simp only [if_true] at hy
      split at hy
      · cases hy; exact ⟨x, hx, rfl⟩
      · cases hy
    · rw [List.getElem?_set_ne hij] at hy; exact ⟨y, hy, rfl⟩
  refine ⟨⟨h.blk.kp hk (fun e => h.fv31 hgg e.symm), ?_, ?_, ?_, ?_, ?_, ?_, ?_, ?_⟩, ⟨hk.mono (fun k _ e => by subst e; exact .inr (.inr (.inl hgg))), ?_, fun k hk => .inl hk⟩⟩
  · exact ownsRow_kp h.hist hk (fun k h1 => by obtain ⟨c, hc⟩ := h.hblk h1; exact hA k c 40 hc (by decide))
  · exact h.histp.mono fun x y hx hm => keep x y hm
  · simp only [List.length_set]
    rw [hfv, ← hset]
    exact hst.1
  · refine Both.set i (fun j a c hj ha hc => ?_) h.flp.1 ⟨⟨(keep _ _ hxm.p).f, rfl, (keep _ _ hxm.p).n, (keep _ _ hxm.p).b⟩, hxm.id, hxm.src⟩
    have := h.flp.2 j a c ha hc
    exact ⟨keep _ _ this.p, this.id, this.src⟩
  · exact ownsRow_kp h.ev hk (fun k h1 => by obtain ⟨c, hc⟩ := h.eblk h1; exact hA k c 61 hc (by decide))
  · exact h.map.same fun k h1 => hk.block k (h.map.lt k h1) (h.apartM hS k h1)
  · intro a c y z k hy hz hac h1 h2
    obtain ⟨y', hy', ey⟩ := hat a y hy
    obtain ⟨z', hz', ez⟩ := hat c z hz
    exact h.apart a c y' z' k hy' hz' hac (ey.trans h1) (ez.trans h2)
  · intro y hy p' hp' k h1 h2
    obtain ⟨z, hz, ez⟩ := hmem y hy
    exact h.apart2 z hz p' hp' k (ez.trans h1) h2
  · rintro k (rfl | h1 | h1 | h1 | h1 | ⟨y, hy, h1⟩)
    · exact .inl (.inl rfl)
    · exact .inl (.inr (.inl h1))
    · exact .inl (.inr (.inr (.inl h1)))
    · exact .inl (.inr (.inr (.inr (.inl h1))))
    · exact .inl (.inr (.inr (.inr (.inr (.inl h1)))))
    · obtain ⟨z, hz, ez⟩ := hmem y hy
      exact .inl (.inr (.inr (.inr (.inr (.inr ⟨z, hz, ez.trans h1⟩)))))

theorem lim_set {N : NetM} (h : N.lim) {i : Nat} {m m' : FlM} (hm : N.fl[i]? = some m) (hok : m'.pk.ok) (hs : m'.src = m.src) : ({ N with fl := N.fl.set i m' } : NetM).lim :=
  ⟨h.hist, by have := h.fl; show (N.fl.set i m').length ≤ 64; rw [List.length_set]; exact this, h.ev, h.next0, h.next1, h.histok,
    (fun x hx => (List.mem_or_eq_of_mem_set hx).elim (h.flok x) (fun e => e ▸ hok)),
    (fun x hx => (List.mem_or_eq_of_mem_set hx).elim (h.srcok x) (fun e => by subst e; rw [hs]; exact h.srcok m (List.mem_of_getElem? hm)))⟩

set_option maxHeartbeats 800000 in
theorem redirect_any (b : Nat) (N : NetM) (D : ND) (id : Int) (to : ByteArray) (w : World) (c : Nat) (h : RepOk w b N D) (hl : N.lim) (_hf : N.few c) (_hc : c ≤ 40000) (ht : to.size ≤ 100) :
    Calls Try.prog 26 #[.pointer (some ⟨b, 0, none⟩), .int .i64 id, .string to] w (One3 b D w (N.redirect id to)) := by
  cases hv : hostB to
  · have HF : Hid (N.redirect id to = (N, 2)) := by simp [Hid, NetM.redirect, hv]
    have HV := Lib.hid hv
    clear hv
    go_enter Try.func26, Try.ntmps26
    go_wp2_with fail
    refine (validHost_any to _ ht).mono ?_
    rintro e w1 ⟨rfl, rfl⟩
    have hv := HV.out
    go_wp2_with fail
    go_ret
    exact ⟨by rw [HF.out]; rfl, D, by rw [HF.out]; exact h, Turns.of_below (Below.refl _ _)⟩
  · have HV := Lib.hid hv
    cases hp : place id N.fl with
    | none =>
      have HF : Hid (N.redirect id to = (N, 9)) := by simp [Hid, NetM.redirect, hp, hv]
      have HP := Lib.hid hp
      clear hp hv
      go_enter Try.func26, Try.ntmps26
      go_wp2_with fail
      refine (validHost_any to _ ht).mono ?_
      rintro e w1 ⟨rfl, rfl⟩
      have hv := HV.out
      go_wp2_with fail
      refine (find_none b N D id _ h hl HP.out).mono ?_
      rintro e w1 ⟨rfl, hb⟩
      go_wp2_with fail
      go_ret
      exact ⟨by rw [HF.out]; rfl, D, by rw [HF.out]; exact h.below hb (Nat.le_refl _), Turns.of_below hb⟩
    | some i =>
      obtain ⟨m, hm, hid⟩ := place_some hp
      obtain ⟨x, hx, hxm⟩ := h.flp.at hm
      have hi : i < N.fl.length := (List.getElem?_eq_some_iff.1 hm).1
      have HF : Hid (N.redirect id to = ({ N with fl := N.fl.set i { m with pk := { m.pk with to } }, ev := N.ev ++ [⟨6, id, -1⟩] }, 0)) := by simp [Hid, NetM.redirect, hp, hv, hm]
      have HP := Lib.hid hp
      have i0 : (0 : Int) ≤ (i : Int) := by omega
      have i1 : (i : Int) < (N.fl.length : Int) := by omega
      have i2 : (N.fl.length : Int) ≤ 64 := by have := hl.fl; omega
      obtain ⟨g, cap, hfv, _, hg⟩ := h.fl.form (by omega)
      have HX := Lib.hid hx
      have HM := Lib.hid hm
      clear hp hm hid hx hv
      go_enter Try.func26, Try.ntmps26
      go_wp2_with fail
      refine (validHost_any to _ ht).mono ?_
      rintro e w1 ⟨rfl, rfl⟩
      have hv := HV.out
      go_wp2_with fail
      refine (find_some b N D id i _ h hl HP.out).mono ?_
      rintro e w1 ⟨rfl, hb⟩
      have h1 := h.below hb (Nat.le_refl _)
      obtain ⟨h2, t2⟩ := rep_setTo h1 HX.out HM.out hfv to
      have hbk := h1.blk
      have hfl := h1.fl
      rw [hfv] at hbk hfl
      obtain ⟨d0, d1, d2, d3, d4⟩ := fly_cells hfl HX.out
      have c1 := hbk.c1
      have fz : w1.frozen? ⟨g, i * 5 + 1, none⟩ = false := hfl.frozenAt _
      have hok := hl.flok m (List.mem_of_getElem? HM.out)
      clear hv hbk hfl hfv h h1
      go_wp2_with fail
      refine (note_rep b _ _ 6 id (-1) _ h2 (lim_set hl HM.out ⟨hok.fr, ht, hok.bs⟩ rfl)).mono ?_
      rintro e w3 ⟨rfl, D3, h3, t3⟩
      clear c1 d0 d1 d2 d3 d4 fz
      go_wp2_with fail
      go_ret
      exact ⟨by rw [HF.out]; rfl, D3, by rw [HF.out]; exact h3, (Turns.of_below' hb t2).trans t3⟩
end Go.Proofs.Ytnkcgalbaeppmaa
/- The network's method Alter. -/
namespace Go.Proofs.Ytnkcgalbaeppmaa
open Go.RowKit

/-- A byte is turned by a mask. -/
def flip (bs : List Int) (o : Nat) (mask : Int) : List Int := bs.set o (bits BinOp.xor IntKind.u8 (bs[o]?.getD 0) mask)
theorem flip_length (bs : List Int) (o : Nat) (mask : Int) : (flip bs o mask).length = bs.length := by simp [flip]
/-- Alter. -/
def NetM.alter (N : NetM) (id off mask : Int) : NetM × Int :=
  if mask = 0 then (N, 2) else match place id N.fl with
    | none => (N, 9)
    | some i => match N.fl[i]? with
      | none => (N, 9)
      | some m => if 0 ≤ off ∧ off < m.pk.bs.length then ({ N with fl := N.fl.set i { m with pk := { m.pk with bs := flip m.pk.bs off.toNat mask } }, ev := N.ev ++ [⟨5, id, -1⟩] }, 0) else (N, 3)

/-- A byte of a packet in flight is turned. -/
theorem rep_setByte {w : World} {b : Nat} {N : NetM} {D : ND} (h : RepOk w b N D) {i gb o : Nat} {x : FV} {m : FlM} (hx : D.fs[i]? = some x) (hm : N.fl[i]? = some m) (hba : x.p.ba = some ⟨gb, 0, none⟩) (mask : Int) :
    RepOk (w.setCell ⟨gb, o, none⟩ (.int .u8 (bits BinOp.xor IntKind.u8 (m.pk.bs[o]?.getD 0) mask))) b { N with fl := N.fl.set i { m with pk := { m.pk with bs := flip m.pk.bs o mask } } } D ∧
      Turns D D b w (w.setCell ⟨gb, o, none⟩ (.int .u8 (bits BinOp.xor IntKind.u8 (m.pk.bs[o]?.getD 0) mask))) := by
  have hxm : FOwn w x m := h.flp.2 i x m hx hm
  have hmem := List.mem_of_getElem? hx
  have hbk : x.p.blk = some gb := by simp [PV.blk, hba, Value.ownBlock]
  have hfp : wr D b gb := .inr (.inr (.inr (.inr (.inr ⟨x, hmem, hbk⟩))))
  have hS : ∀ k, (k = gb) → ∃ cur T, w.heap[k]? = some (.cells cur T (0, 0)) ∧ T ∈ [5] := by
    rintro k rfl
    obtain ⟨c, hc⟩ := hxm.p.block hbk; exact ⟨c, 5, hc, by simp⟩
  have hA := h.apartT hS
  generalize hv : (bits BinOp.xor IntKind.u8 (m.pk.bs[o]?.getD 0) mask) = v
  have hk : Kp (fun k => k = gb) w (w.setCell ⟨gb, o, none⟩ (.int .u8 v)) := (Kp.refl (fun k => k = gb) w).setCell (fun _ => rfl) _
  have hown := hxm.p.b
  rw [hba] at hown
  have hst := (hown.stored o (.int .u8 v)).1
  refine ⟨⟨h.blk.kp hk (hA b _ 31 h.blk (by decide)), ?_, ?_, ?_, ?_, ?_, ?_, h.apart, h.apart2⟩, ⟨hk.mono (fun k _ e => by subst e; exact hfp), fun k hk => .inl hk, fun k hk => .inl hk⟩⟩
  · exact ownsRow_kp h.hist hk (fun k h1 => by obtain ⟨c, hc⟩ := h.hblk h1; exact hA k c 40 hc (by decide))
  · exact h.histp.mono fun y q hy hq => hq.kp hk (fun k h1 e => by subst e; exact h.apart2 x hmem y hy k hbk h1)
  · simp only [List.length_set]
    exact ownsRow_kp h.fl hk (fun k h1 => by obtain ⟨c, hc⟩ := h.fblk h1; exact hA k c 86 hc (by decide))
  · refine ⟨by simp [h.flp.1], fun j a c ha hc => ?_⟩
    by_cases hij : i = j
    · subst hij
      rw [hx] at ha; cases ha
      rw [List.getElem?_set] at hc
      simp only [if_true] at hc
      split at hc
      · cases hc
        refine ⟨⟨hxm.p.f, hxm.p.t, by rw [flip_length]; exact hxm.p.n, ?_⟩, hxm.id, hxm.src⟩
        rw [hba]
        simp only [flip, hv, List.map_set]
        exact hst
      · cases hc
    · rw [List.getElem?_set_ne hij] at hc
      have := h.flp.2 j a c ha hc
      exact ⟨this.p.kp hk (fun k h1 e => by subst e; exact h.apart i j x a k hx ha hij hbk h1), this.id, this.src⟩
  · exact ownsRow_kp h.ev hk (fun k h1 => by obtain ⟨c, hc⟩ := h.eblk h1; exact hA k c 61 hc (by decide))
  · exact h.map.same fun k h1 => hk.block k (h.map.lt k h1) (h.apartM hS k h1)

set_option maxHeartbeats 800000 in
theorem alter_any (b : Nat) (N : NetM) (D : ND) (id off mask : Int) (w : World) (c : Nat) (h : RepOk w b N D) (hl : N.lim) (_hf : N.few c) (_hc : c ≤ 40000) :
    Calls Try.prog 25 #[.pointer (some ⟨b, 0, none⟩), .int .i64 id, .int .i64 off, .int .u8 mask] w (One3 b D w (N.alter id off mask)) := by
  by_cases hm0 : mask = 0
  · have HF : Hid (N.alter id off mask = (N, 2)) := by simp [Hid, NetM.alter, hm0]
    have hm1 : (mask == 0) = true := by simpa using hm0
    clear hm0
    go_enter Try.func25, Try.ntmps25
    go_wp2_with fail
    go_ret
    exact ⟨by rw [HF.out]; rfl, D, by rw [HF.out]; exact h, Turns.of_below (Below.refl _ _)⟩
  have hm1 : (mask == 0) = false := by simpa using hm0
  have HM0 := Lib.hid hm0
  clear hm0
  cases hp : place id N.fl with
  | none =>
    have HF : Hid (N.alter id off mask = (N, 9)) := by simp [Hid, NetM.alter, HM0.out, hp]
    have HP := Lib.hid hp
    clear hp
    go_enter Try.func25, Try.ntmps25
    go_wp2_with fail
    refine (find_none b N D id _ h hl HP.out).mono ?_
    rintro e w1 ⟨rfl, hb⟩
    go_wp2_with fail
    go_ret
    exact ⟨by rw [HF.out]; rfl, D, by rw [HF.out]; exact h.below hb (Nat.le_refl _), Turns.of_below hb⟩
  | some i =>
    obtain ⟨m, hm, hid⟩ := place_some hp
    obtain ⟨x, hx, hxm⟩ := h.flp.at hm
    have hi : i < N.fl.length := (List.getElem?_eq_some_iff.1 hm).1
    have HP := Lib.hid hp
    have i0 : (0 : Int) ≤ (i : Int) := by omega
    have i1 : (i : Int) < (N.fl.length : Int) := by omega
    have i2 : (N.fl.length : Int) ≤ 64 := by have := hl.fl; omega
    obtain ⟨g, cap, hfv, _, hg⟩ := h.fl.form (by omega)
    have HX := Lib.hid hx
    have HM := Lib.hid hm
    have hok := hl.flok m (List.mem_of_getElem? hm)
    have hxn := hxm.p.n
    have HN := Lib.hid hxn
    have b1 : x.p.bn ≤ 100 := by have := hok.bs; omega
    have b2 : (x.p.bn : Int) ≤ 100 := by omega
    by_cases hoff : 0 ≤ off ∧ off < m.pk.bs.length
    · have HF : Hid (N.alter id off mask = ({ N with fl := N.fl.set i { m with pk := { m.pk with bs := flip m.pk.bs off.toNat mask } }, ev := N.ev ++ [⟨5, id, -1⟩] }, 0)) := by simp [Hid, NetM.alter, HM0.out, hp, hm, hoff]
      obtain ⟨o, rfl⟩ := Int.eq_ofNat_of_zero_le hoff.1
      have o0 : (0 : Int) ≤ (o : Int) := by omega
      have o1 : (o : Int) < (x.p.bn : Int) := by omega
      have o2 : o < x.p.bn := by omega
      obtain ⟨gb, cb, hgb⟩ : ∃ gb cb, x.p.ba = some ⟨gb, 0, none⟩ ∧ x.p.bc = cb := by
        obtain ⟨gb, cb, hv, _, _⟩ := hxm.p.b.form (by omega)
        injection hv with h1 h2 h3
        exact ⟨gb, cb, h1, h3⟩
      obtain ⟨hgb, _⟩ := hgb
      have HG := Lib.hid hgb
      clear hp hm hid hx hoff hxn
      go_enter Try.func25, Try.ntmps25
      go_wp2_with fail
      refine (find_some b N D id i _ h hl HP.out).mono ?_
      rintro e w1 ⟨rfl, hb⟩
      have h1 := h.below hb (Nat.le_refl _)
      obtain ⟨h2, t2⟩ := rep_setByte (o := o) h1 HX.out HM.out HG.out mask
      have hxm1 := hxm.p.below hb (Nat.le_refl _)
      have hbk := h1.blk
      have hfl := h1.fl
      rw [hfv] at hbk hfl
      obtain ⟨d0, d1, d2, d3, d4⟩ := fly_cells hfl HX.out
      rw [HG.out] at d2
      have c1 := hbk.c1
      have hbb := hxm1.b
      rw [HG.out] at hbb
      have dd : w1.cell? ⟨gb, o, none⟩ = some (.int .u8 (m.pk.bs[o]?.getD 0)) := by
        rw [hbb.cellAt o (by omega), List.getElem?_map, List.getElem?_eq_getElem (by have := HN.out; omega)]; rfl
      have df : w1.frozen? ⟨gb, o, none⟩ = false := hbb.frozenAt o
      clear hbk hfl hfv h h1 hbb hxm1 hxm hgb
      go_wp2_with fail
      refine (note_rep b _ D 5 id (-1) _ h2 (lim_set hl HM.out ⟨hok.fr, hok.to, by rw [flip_length]; exact hok.bs⟩ rfl)).mono ?_
      rintro e w3 ⟨rfl, D3, h3, t3⟩
      clear c1 d0 d1 d2 d3 d4 dd df
      go_wp2_with fail
      go_ret
      exact ⟨by rw [HF.out]; rfl, D3, by rw [HF.out]; exact h3, (Turns.of_below' hb t2).trans t3⟩
    · have HF : Hid (N.alter id off mask = (N, 3)) := by simp only [Hid, NetM.alter, HM0.out, hp, hm, if_neg hoff]; rfl
      clear hp hm hid hx
      by_cases ho : off < 0
      · clear hoff hxn
        go_enter Try.func25, Try.ntmps25
        go_wp2_with fail
        refine (find_some b N D id i _ h hl HP.out).mono ?_
        rintro e w1 ⟨rfl, hb⟩
        have h1 := h.below hb (Nat.le_refl _)
        clear h
        go_wp2_with fail
        go_ret
        exact ⟨by rw [HF.out]; rfl, D, by rw [HF.out]; exact h1, Turns.of_below hb⟩
      · obtain ⟨o, rfl⟩ := Int.eq_ofNat_of_zero_le (show 0 ≤ off by omega)
        have o2 : x.p.bn ≤ o := by omega
        have o0 : (0 : Int) ≤ (o : Int) := by omega
        clear hoff ho hxn
        go_enter Try.func25, Try.ntmps25
        go_wp2_with fail
        refine (find_some b N D id i _ h hl HP.out).mono ?_
        rintro e w1 ⟨rfl, hb⟩
        have h1 := h.below hb (Nat.le_refl _)
        have hbk := h1.blk
        have hfl := h1.fl
        rw [hfv] at hbk hfl
        obtain ⟨d0, d1, d2, d3, d4⟩ := fly_cells hfl HX.out
        have c1 := hbk.c1
        clear hbk hfl hfv h
        go_wp2_with fail
        go_ret
        exact ⟨by rw [HF.out]; rfl, D, by rw [HF.out]; exact h1, Turns.of_below hb⟩
end Go.Proofs.Ytnkcgalbaeppmaa
/- The network's method Send. -/
namespace Go.Proofs.Ytnkcgalbaeppmaa
open Go.RowKit

/-- A packet comes into the history. -/
theorem rep_pushHist {w w' : World} {b : Nat} {N : NetM} {D : ND} (h : RepOk w b N D) {g cap : Nat} {q : PV} {m : Pk} (hb : NetBlk w' b (.slice (some ⟨g, 0, none⟩) (N.hist.length + 1) cap) D.fv N.next D.mv D.ev)
    (hf : w'.ownsRow 0 40 3 (.slice (some ⟨g, 0, none⟩) (N.hist.length + 1) cap) (N.hist.length + 1) (D.hs.flatMap PV.cells ++ q.cells)) (hq : POwn w' q m) (hqb : ∀ k, q.blk = some k → w.heap.size ≤ k)
    (hat : D.hv.ownBlock = some g ∨ w.heap.size ≤ g) (hk : Kp (fun k => k = b ∨ D.hv.ownBlock = some k) w w') :
    RepOk w' b { N with hist := N.hist ++ [m] } { D with hv := .slice (some ⟨g, 0, none⟩) (N.hist.length + 1) cap, hs := D.hs ++ [q] } ∧
      Turns D { D with hv := .slice (some ⟨g, 0, none⟩) (N.hist.length + 1) cap, hs := D.hs ++ [q] } b w w' := by
  have hS : ∀ k, (k = b ∨ D.hv.ownBlock = some k) → ∃ cur T, w.heap[k]? = some (.cells cur T (0, 0)) ∧ T ∈ [31, 40] := by
    rintro k (rfl | hk)
    · exact ⟨_, 31, h.blk, by simp⟩
    · obtain ⟨c, hc⟩ := h.hblk hk; exact ⟨c, 40, hc, by simp⟩
  have hA := h.apartT hS
  refine ⟨⟨hb, ?_, ?_, ?_, ?_, ?_, ?_, h.apart, ?_⟩, ⟨hk.mono ?_, ?_, ?_⟩⟩
  · have : (D.hs ++ [q]).flatMap PV.cells = D.hs.flatMap PV.cells ++ q.cells := by simp
    simp only [this, List.length_append, List.length_cons, List.length_nil, Nat.zero_add]
    exact hf
  · exact (h.histp.mono fun x y hx hm => hm.kp hk (fun k h1 => by obtain ⟨c, hc⟩ := hm.block h1; exact hA k c 5 hc (by decide))).snoc hq
  · exact ownsRow_kp h.fl hk (fun k h1 => by obtain ⟨c, hc⟩ := h.fblk h1; exact hA k c 86 hc (by decide))
  · exact h.flp.mono fun x y hx hm => ⟨hm.p.kp hk (fun k h1 => by obtain ⟨c, hc⟩ := hm.p.block h1; exact hA k c 5 hc (by decide)), hm.id, hm.src⟩
  · exact ownsRow_kp h.ev hk (fun k h1 => by obtain ⟨c, hc⟩ := h.eblk h1; exact hA k c 61 hc (by decide))
  · exact h.map.same fun k h1 => hk.block k (h.map.lt k h1) (h.apartM hS k h1)
  · intro x hx p hp k h1 h2
    rcases List.mem_append.1 hp with hp | hp
    · exact h.apart2 x hx p hp k h1 h2
    · obtain rfl : p = q := by simpa using hp
      have h3 := hqb k h2
      obtain ⟨m', _, hm'⟩ := h.flp.left hx
      have := hm'.p.lt h1
      omega
  · rintro k _ (rfl | h1)
    · exact .inl rfl
    · exact .inr (.inl h1)
  · rintro k (rfl | h1 | h1 | h1 | h1 | h1)
    · exact .inl (.inl rfl)
    · have : g = k := by simpa [Value.ownBlock] using h1
      subst this
      exact hat.imp (fun h2 => .inr (.inl h2)) (fun h2 => h2)
    · exact .inl (.inr (.inr (.inl h1)))
    · exact .inl (.inr (.inr (.inr (.inl h1))))
    · exact .inl (.inr (.inr (.inr (.inr (.inl h1)))))
    · exact .inl (.inr (.inr (.inr (.inr (.inr h1)))))
  · rintro k ⟨p, hp, h1⟩
    rcases List.mem_append.1 hp with hp | hp
    · exact .inl ⟨p, hp, h1⟩
    · obtain rfl : p = q := by simpa using hp
      exact .inr (hqb k h1)

/-- Send. -/
def NetM.send (N : NetM) (m : Pk) : NetM × Int × Int :=
  if validB m then if 64 ≤ N.fl.length ∨ 1024 ≤ N.hist.length then (N, 0, 7) else (({ N with hist := N.hist ++ [m] } : NetM).put m N.hist.length 1 (-1), N.next, 0) else (N, 0, 2)

theorem lim_hist {N : NetM} (h : N.lim) {m : Pk} (hm : m.ok) (hfull : N.hist.length < 1024) : ({ N with hist := N.hist ++ [m] } : NetM).lim :=
  ⟨by simp; omega, h.fl, h.ev, h.next0, h.next1,
    (fun x hx => (List.mem_append.1 hx).elim (h.histok x) (fun hx => by obtain rfl : x = m := by simpa using hx
                                                                        exact hm)), h.flok,
    fun x hx => by have := h.srcok x hx; exact ⟨this.1, by simp; omega⟩⟩

set_option maxHeartbeats 1600000 in
set_option maxRecDepth 100000 in
theorem send_any (b : Nat) (N : NetM) (D : ND) (p : PV) (m : Pk) (w : World) (c : Nat) (h : RepOk w b N D) (hl : N.lim) (hf : N.few c) (hc : c ≤ 40000) (hp : PIn w p m) (hpb : ∀ k, p.blk = some k → ¬ fp D b k) (hm : m.ok) :
    Calls Try.prog 19 #[.pointer (some ⟨b, 0, none⟩), p.val] w (Two3 b D w (N.send m)) := by
  have hbn : p.bn ≤ 100000 := by have := hm.bs; have := hp.n; omega
  have hb0 : Below w.heap.size w (w.alloc (.cells #[.string p.f, .string p.t, .slice p.ba p.bn p.bc] 40)) := (Below.refl _ _).alloc (Nat.le_refl _) _
  have hhl : (N.hist.length : Int) ≤ 1024 := by have := hl.hist; omega
  cases hv : validB m
  · have HF : Hid (N.send m = (N, 0, 2)) := by simp [Hid, NetM.send, hv]
    have HV := Lib.hid hv
    clear hv
    simp only [PV.val]
    go_enter Try.func19, Try.ntmps19
    go_wp2_with fail
    refine wp_scope_jumps 0 (fun a' w' => a'.defers = [] ∧ a'.tmps.size = 46 ∧ a'.tmps.getD 5 undef = .int .i64 2 ∧ RepOk w' b N D ∧ Below w.heap.size w w') (fun _ _ => 0) rfl ?_ ?_
    · go_wp2_with fail
      refine (valid_any p m _ hp.f hp.t hp.n hm).mono ?_
      rintro e w1 ⟨rfl, hb⟩
      have hv := HV.out
      have hb1 := hb0.trans (hb.mono hb0.size)
      have h1 := h.below hb1 (Nat.le_refl _)
      clear hp hpb h hb hb0
      go_wp2_with fail
      refine wp_goto ?_
      exact ⟨rfl, rfl, rfl, rfl, h1, hb1⟩
    · rintro ⟨t, d⟩ w1 ⟨rfl, hsz, h5, h1, hb1⟩
      simp only at hsz h5
      clear h hp hpb
      go_wp2_with fail
      show bodyPost _ _ _ .ret _ _
      go_ret2
      exact ⟨by rw [HF.out]; simp [hsz], D, by rw [HF.out]; exact h1, Turns.of_below hb1⟩
  · have HV := Lib.hid hv
    have hbw : b < w.heap.size := h.blk.lt
    have hvlt : ∀ k, D.hv.ownBlock = some k → k < w.heap.size := fun k hk => (h.hist.lt k hk).2
    obtain ⟨ha, hcap, hhv, hh1, hh2, hh3, hh4⟩ := ownsRow_slice h.hist
    by_cases hfull : 64 ≤ N.fl.length ∨ 1024 ≤ N.hist.length
    · have HF : Hid (N.send m = (N, 0, 7)) := by simp [Hid, NetM.send, hv, hfull]
      clear hv
      simp only [PV.val]
      go_enter Try.func19, Try.ntmps19
      go_wp2_with fail
      refine wp_scope_jumps 0 (fun a' w' => a'.defers = [] ∧ a'.tmps.size = 46 ∧ a'.tmps.getD 5 undef = .int .i64 7 ∧ RepOk w' b N D ∧ Below w.heap.size w w') (fun _ _ => 0) rfl ?_ ?_
      · by_cases hU : 64 ≤ N.fl.length
        · have HU : Hid (decide (64 ≤ N.fl.length) = true) := by simpa [Hid] using hU
          clear hU hfull
          go_wp2_with fail
          refine (valid_any p m _ hp.f hp.t hp.n hm).mono ?_
          rintro e w1 ⟨rfl, hb⟩
          have hv := HV.out
          have hb1 := hb0.trans (hb.mono hb0.size)
          have h1 := h.below hb1 (Nat.le_refl _)
          clear hp hpb h hb hb0
          go_wp2_with fail
          refine (full_rep b N D _ h1 hl).mono ?_
          rintro e w2 ⟨rfl, rfl⟩
          have hu := HU.out
          go_wp2_with fail
          refine wp_goto ?_
          exact ⟨rfl, rfl, rfl, rfl, h1, hb1⟩
        · have HU : Hid (decide (64 ≤ N.fl.length) = false) := by simpa [Hid] using hU
          have hL : (1024 : Int) ≤ (N.hist.length : Int) := by omega
          have hL2 : 1024 ≤ N.hist.length := by omega
          clear hU hfull
          go_wp2_with fail
          refine (valid_any p m _ hp.f hp.t hp.n hm).mono ?_
          rintro e w1 ⟨rfl, hb⟩
          have hv := HV.out
          have hb1 := hb0.trans (hb.mono hb0.size)
          have h1 := h.below hb1 (Nat.le_refl _)
          clear hp hpb h hb hb0
          go_wp2_with fail
          refine (full_rep b N D _ h1 hl).mono ?_
          rintro e w2 ⟨rfl, rfl⟩
          have hu := HU.out
          have hbk := h1.blk
          rw [hhv] at hbk
          have c0 := hbk.c0
          clear hbk hhv
          go_wp2_with fail
          refine wp_goto ?_
          exact ⟨rfl, rfl, rfl, rfl, h1, hb1⟩
      · rintro ⟨t, d⟩ w1 ⟨rfl, hsz, h5, h1, hb1⟩
        simp only at hsz h5
        clear h hp hpb
        go_wp2_with fail
        show bodyPost _ _ _ .ret _ _
        go_ret2
        exact ⟨by rw [HF.out]; simp [hsz], D, by rw [HF.out]; exact h1, Turns.of_below hb1⟩
    · have HF : Hid (N.send m = (({ N with hist := N.hist ++ [m] } : NetM).put m N.hist.length 1 (-1), N.next, 0)) := by simp [Hid, NetM.send, hv, hfull]
      have HU : Hid (decide (64 ≤ N.fl.length) = false) := by simp [Hid]; omega
      have hL : (N.hist.length : Int) < 1024 := by omega
      have hL2 : N.hist.length < 1024 := by omega
      have hL3 : N.fl.length < 64 := by omega
      clear hv hfull
      simp only [PV.val]
      go_enter Try.func19, Try.ntmps19
      go_wp2_with fail
      refine wp_scope_jumps 0 (fun a' w' => False) (fun _ _ => 0) rfl ?_ (fun _ _ h => h.elim)
      go_wp2_with fail
      refine (valid_any p m _ hp.f hp.t hp.n hm).mono ?_
      rintro e w1 ⟨rfl, hb⟩
      have hv := HV.out
      have hb1 := hb0.trans (hb.mono hb0.size)
      have h1 := h.below hb1 (Nat.le_refl _)
      have hp1 := hp.below hb1 (Nat.le_refl _)
      have hB1 := (hb.block w.heap.size (by simp)).trans (heap_alloc_new w _)
      clear hp h hb
      go_wp2_with fail
      refine (full_rep b N D _ h1 hl).mono ?_
      rintro e w2 ⟨rfl, rfl⟩
      have hu := HU.out
      have hbk := h1.blk
      rw [hhv] at hbk
      have c0 := hbk.c0
      have HH := Lib.hid hhv
      have hlt0 : ∀ k, D.hv.ownBlock = some k → k < w.heap.size := hvlt
      have hbB : b < w.heap.size := hbw
      clear hbk hhv hvlt
      go_wp2_with fail
      clear c0 hu hv
      obtain ⟨B, hBe⟩ : ∃ B, B = w.heap.size := ⟨_, rfl⟩
      rw [← hBe] at hB1 hlt0 hbB ⊢
      have HB := Lib.hid hBe
      clear hBe
      have hbS := h1.blk
      apply wp_region_early [0, 1, 2, 3, 4, 5] [6, 7, 8] [9, 10, 11] (fun w' => NetBlk w' b D.hv D.fv N.next D.mv D.ev ∧ w'.heap[B]? = some (.cells #[.string p.f, .string p.t, .slice p.ba p.bn p.bc] 40))
      case hm => kernel_rfl
      case hB => kernel_rfl
      case hao => exact .cons rfl (.cons rfl (.cons rfl .nil))
      case hlo => exact .cons rfl (.cons rfl (.cons rfl .nil))
      case hS => exact ⟨hbS, hB1⟩
      case hr =>
        iterate 6
          apply Reads.cons1 rfl rfl
          · intro w' hS
            have s0 := hS.1.c0
            obtain ⟨p0, p1, p2, _, _, _, _⟩ := blk3 hS.2
            clear hS
            go_simp
            try rfl
        exact Reads.nil
      intro W hW
      have h2 : RepOk W b N D := by subst hW; exact h1.below ((Below.refl w1.heap.size w1).drew) (Nat.le_refl _)
      have hp2 : PIn W p m := by subst hW; exact hp1.drew
      have t1 : Turns D D b w W := by subst hW; exact Turns.of_below hb1.drew
      have hB2 : W.heap[B]? = some (.cells #[.string p.f, .string p.t, .slice p.ba p.bn p.bc] 40) := by subst hW; exact hB1
      clear hW h1 hp1 hB1 hb1 hb0 hbS
      unfold wpTail
      simp only [Act.put, List.setIfInBounds_toArray, List.set_cons_succ, List.set_cons_zero]
      go_wp2_with fail
      refine (clone_any p m W hp2 hbn).mono ?_
      rintro e W2 ⟨⟨qf, qt, qa, qn, qc⟩, rfl, hq, hqb, hbl⟩
      simp only [PV.val]
      have h3 := h2.below hbl (Nat.le_refl _)
      have hp3 := hp2.below hbl (Nat.le_refl _)
      have hB3 := (hbl.block B (lt_of_heap hB2)).trans hB2
      have t2 : Turns D D b w W2 := t1.below hbl
      have hqb2 : ∀ k, PV.blk ⟨qf, qt, qa, qn, qc⟩ = some k → W.heap.size ≤ k := hqb
      go_wp2_with fail
      refine ⟨⟨h3.blk, hB3⟩, ?_⟩
      unfold wpTail
      go_wp2_with fail
      refine ⟨⟨h3.blk.same (Below.heap_alloc _ _ _ h3.blk.lt), (Below.heap_alloc _ _ _ (lt_of_heap hB3)).trans hB3⟩, ?_⟩
      unfold wpTail
      refine wpList_push rfl _ _ 26 rfl T26 rfl h3.hist #[.string qf, .string qt, .slice qa qn qc] rfl (by simp [Value.oneCell']) rfl (by omega) ?_
      intro g cap W3 hown hk hat hlt
      have hk0 : Kp (fun k => k = b ∨ D.hv.ownBlock = some k) W2 W3 := hk.mono (fun _ _ h => .inr h)
      have hb3 : NetBlk W3 b D.hv D.fv N.next D.mv D.ev := h3.blk.kp hk (fun e => h3.hv31 e rfl)
      have hB4 := (hk.block B (lt_of_heap hB3) (fun e => by have := hlt0 _ e; omega)).trans hB3
      have hq3 : POwn W3 ⟨qf, qt, qa, qn, qc⟩ m := hq.kp hk (fun k hk e => by
        obtain ⟨c1, h1⟩ := hq.block hk
        exact ownsRow_ne h3.hist h1 (by decide) e)
      have hkb : Kp (fun k => k = b ∨ D.hv.ownBlock = some k) W2 W3 := hk0
      have hat2 : D.hv.ownBlock = some g ∨ W2.heap.size ≤ g := hat
      have hp4 : PIn W3 p m := hp3.kp hk0 (fun k h4 e => hpb k h4 (e.elim (fun e => .inl (.inl e)) (fun e => .inl (.inr (.inl e)))))
      refine wpList_nil ⟨⟨hb3, hB4⟩, ?_⟩
      unfold wpTail
      have d1 := hb3.fz 0
      have d2 := hb3.c0
      have d3 : b < W3.heap.size := hb3.lt
      go_wp2
      refine NoPanic.normal ?_
      obtain ⟨h5, t5⟩ := rep_pushHist (w' := W3.setCell ⟨b, 0, none⟩ (.slice (some ⟨g, 0, none⟩) (N.hist.length + 1) cap)) h2 (hb3.set0 _) (own_setCell hown (ownsRow_ne hown (k := b) hb3 (by decide)) _)
        (⟨hq3.f, hq3.t, hq3.n, own_setCell hq3.b (ownsRow_ne hq3.b (k := b) hb3 (by decide)) _⟩ : POwn _ ⟨qf, qt, qa, qn, qc⟩ m) hqb2 (hat2.imp (fun e => e) (fun e => Nat.le_trans hbl.size e))
        ((Kp.of_below hbl).trans (hkb.setCell (fun _ => .inl rfl) _) (fun _ _ e => e))
      have hp5 : PIn (W3.setCell ⟨b, 0, none⟩ (.slice (some ⟨g, 0, none⟩) (N.hist.length + 1) cap)) p m := hp4.kp ((Kp.refl (fun k => k = b) W3).setCell (fun _ => rfl) _) (fun k h4 e => hpb k h4 (.inl (.inl e)))
      have hB5 : (W3.setCell ⟨b, 0, none⟩ (.slice (some ⟨g, 0, none⟩) (N.hist.length + 1) cap)).heap[B]? = some (.cells #[.string p.f, .string p.t, .slice p.ba p.bn p.bc] 40) := (Below.heap_setCell _ _ _ _ (fun e => by simp at e; omega)).trans hB4
      have hhv5 : (({ D with hv := .slice (some ⟨g, 0, none⟩) (N.hist.length + 1) cap, hs := D.hs ++ [⟨qf, qt, qa, qn, qc⟩] } : ND)).hv = .slice (some ⟨g, 0, none⟩) (N.hist.length + 1) cap := rfl
      have t6 := t1.trans t5
      have hpb5 : ∀ k, p.blk = some k → k ≠ b := fun k h4 e => hpb k h4 (.inl (.inl e))
      revert h5 t6 hp5 hB5 hhv5
      generalize W3.setCell ⟨b, 0, none⟩ (.slice (some ⟨g, 0, none⟩) (N.hist.length + 1) cap) = W5
      generalize ({ D with hv := .slice (some ⟨g, 0, none⟩) (N.hist.length + 1) cap, hs := D.hs ++ [⟨qf, qt, qa, qn, qc⟩] } : ND) = D5
      intro h5 hp5 hB5 hhv5 t6
      have hb5 := h5.blk
      rw [hhv5] at hb5
      have e0 := hb5.c0
      have e1 := blk3 hB5
      have l1 : (N.hist.length : Int) + 1 ≤ 1024 := by omega
      clear hhv5 hb5 t5 hp4 hp3 hp2 h3 h2 t1 t2 hB2 hB3 hB4 hb3 hq hq3 hown hk hk0 hkb hat hat2 d1 d2 d3 hpb hbl hqb hqb2 hlt hL2
      go_wp2_with fail
      apply wp_region_early [0, 1, 2, 3, 4, 5, 6, 7] [] [8, 9] (fun w' => w'.cell? ⟨b, 0, none⟩ = some (.slice (some ⟨g, 0, none⟩) (N.hist.length + 1) cap) ∧ w'.cell? ⟨B, 0, none⟩ = some (.string p.f) ∧ w'.cell? ⟨B, 1, none⟩ = some (.string p.t) ∧ w'.cell? ⟨B, 2, none⟩ = some (.slice p.ba p.bn p.bc))
      case hm => kernel_rfl
      case hB => kernel_rfl
      case hao => exact .nil
      case hlo => exact .cons rfl (.cons rfl .nil)
      case hS => exact ⟨e0, e1.1, e1.2.1, e1.2.2.1⟩
      case hr =>
        iterate 8
          apply Reads.cons1 rfl rfl
          · intro w' hS
            obtain ⟨s0, s1, s2, s3⟩ := hS
            go_simp
            try rfl
        exact Reads.nil
      intro W hW
      have h7 : RepOk W b { N with hist := N.hist ++ [m] } D5 := by subst hW; exact h5.below ((Below.refl W5.heap.size W5).drew) (Nat.le_refl _)
      have hp7 : PIn W p m := by subst hW; exact hp5.drew
      have t7 : Turns D D5 b w W := by subst hW; exact t6.below (Below.refl _ _).drew
      clear hW h5 hp5 t6 hB5 e0 e1
      unfold wpTail
      simp only [Act.put, List.setIfInBounds_toArray, List.set_cons_succ, List.set_cons_zero]
      go_wp2_with fail
      refine (launch_rep b _ D5 p m N.hist.length W h7 (lim_hist hl hm (by omega)) hp7 hpb5 hbn).mono ?_
      rintro e w2 ⟨rfl, D8, h8, t8⟩
      go_wp2_with fail
      refine NoPanic.normal ?_
      go_wp2_with fail
      refine (note_rep b _ D8 1 N.next (-1) w2 h8 (lim_push (lim_hist hl hm (by omega)) ⟨hf.next, hf.ev⟩ hc hm (by omega) (by simp; omega) hL3)).mono ?_
      rintro e w3 ⟨rfl, D9, h9, t9⟩
      go_wp2_with fail
      show bodyPost _ _ _ .ret _ _
      go_ret2
      exact ⟨by rw [HF.out]; rfl, D9, by rw [HF.out]; exact h9, (t7.trans t8).trans t9⟩
end Go.Proofs.Ytnkcgalbaeppmaa
