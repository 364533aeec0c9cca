/- The network's method Deliver. -/
import Derived.Test.YtnkcgalbaeppmaaPub3
namespace Go.Proofs.Ytnkcgalbaeppmaa
open Go.RowKit

theorem RepOk.far {w : World} {b : Nat} {N : NetM} {D : ND} (h : RepOk w b N D) {p : Addr} (hp : ¬ fp D b p.block) (u : Value) : RepOk (w.setCell p u) b N D :=
  h.same fun k hk => Below.heap_setCell _ _ _ _ (fun e => hp (e ▸ hk))

def PV.zero : PV := ⟨ByteArray.empty, ByteArray.empty, none, 0, 0⟩
def Pk.zero : Pk := ⟨ByteArray.empty, ByteArray.empty, []⟩
theorem PIn.zero (w : World) : PIn w PV.zero Pk.zero := ⟨rfl, rfl, rfl, Lib.BytesIn.nil _ _ _⟩

/-- Deliver. -/
def NetM.deliver (N : NetM) (id : Int) : NetM × Pk × Int :=
  match place id N.fl with
  | none => (N, Pk.zero, 9)
  | some i => match N.fl[i]? with
    | none => (N, Pk.zero, 9)
    | some m => if memM (m.pk.fr, m.pk.to) N.blk then (N, Pk.zero, 8) else ({ N with fl := N.fl.eraseIdx i, ev := N.ev ++ [⟨2, id, -1⟩] }, m.pk, 0)

def DlvPost (b : Nat) (D : ND) (w : World) (r : NetM × Pk × Int) (e : Ending) (w' : World) : Prop :=
  ∃ (q : PV) (D' : ND), e = .returned (.tuple #[q.val, .int .i64 r.2.2]) ∧ RepOk w' b r.1 D' ∧ Turns D D' b w w' ∧ PIn w' q r.2.1 ∧ (∀ k, q.blk = some k → ¬ fp D' b k)

set_option maxHeartbeats 1600000 in
set_option maxRecDepth 100000 in
theorem deliver_any (b : Nat) (N : NetM) (D : ND) (id : Int) (w : World) (c : Nat) (h : RepOk w b N D) (hl : N.lim) (hf : N.few c) (hc : c ≤ 40000) :
    Calls Try.prog 23 #[.pointer (some ⟨b, 0, none⟩), .int .i64 id] w (DlvPost b D w (N.deliver id)) := by
  have hb0 : Below w.heap.size w (w.alloc (.cells #[.string { data := #[] }, .string { data := #[] }, .slice none 0 0] 40)) := (Below.refl _ _).alloc (Nat.le_refl _) _
  have h0 := h.below hb0 (Nat.le_refl _)
  cases hp : place id N.fl with
  | none =>
    have HF : Hid (N.deliver id = (N, Pk.zero, 9)) := by simp [Hid, NetM.deliver, hp]
    have HP := Lib.hid hp
    clear hp
    go_enter Try.func23, Try.ntmps23
    go_wp2_with fail
    refine (find_none b N D id _ h0 hl HP.out).mono ?_
    rintro e w1 ⟨rfl, hb⟩
    have hb1 := hb0.trans (hb.mono hb0.size)
    have e1 := (hb.block w.heap.size (by simp)).trans (heap_alloc_new w _)
    obtain ⟨p0, p1, p2, q0, q1, q2, ql⟩ := blk3 e1
    have h1 := h.below hb1 (Nat.le_refl _)
    have hlt := h.fp_lt
    clear h h0 hb hb0 e1
    go_wp2_with fail
    refine bodyPost_ret (v := .tuple #[PV.zero.val, .int .i64 9]) (by simp [results, Try.results23, PV.val, PV.zero, go_sem, p0, p1, p2]; rfl) rfl ?_
    have hnf : ¬ fp D b w.heap.size := fun hk => by have := hlt _ hk; omega
    refine ⟨PV.zero, D, by rw [HF.out], by rw [HF.out]; exact ((h1.far hnf _).far hnf _).far hnf _, ?_, by rw [HF.out]; exact PIn.zero _, fun k hk => by cases hk⟩
    · exact Turns.of_below (((hb1.setCell (Nat.le_refl _) _).setCell (Nat.le_refl _) _).setCell (Nat.le_refl _) _)
  | some i =>
    obtain ⟨m, hm, hid⟩ := place_some hp
    obtain ⟨x, hx, hxm⟩ := h.flp.at hm
    have hi : i < N.fl.length := (List.getElem?_eq_some_iff.1 hm).1
    have HP := Lib.hid hp
    have i0 : (0 : Int) ≤ (i : Int) := by omega
    have i1 : (i : Int) < (N.fl.length : Int) := by omega
    have i2 : (N.fl.length : Int) ≤ 64 := by have := hl.fl; omega
    obtain ⟨g, cap, hfv, _, hg⟩ := h.fl.form (by omega)
    have HX := Lib.hid hx
    have HM := Lib.hid hm
    clear hp hm hid hx
    go_enter Try.func23, Try.ntmps23
    go_wp2_with fail
    refine (find_some b N D id i _ h0 hl HP.out).mono ?_
    rintro e w1 ⟨rfl, hb⟩
    have hb1 := hb0.trans (hb.mono hb0.size)
    have h1 := h.below hb1 (Nat.le_refl _)
    have e1 := (hb.block w.heap.size (by simp)).trans (heap_alloc_new w _)
    have hbk := h1.blk
    have hfl := h1.fl
    rw [hfv] at hbk hfl
    have hcl := fly_cells hfl HX.out
    have c1 := hbk.c1
    have c3 := hbk.c3
    have hmap := h1.map
    have hlt := h.fp_lt
    clear hfv h h0 hb hb0 hbk hfl
    go_wp2_with fail
    apply wp_region_early (List.range 24) [] [] (fun w' => w'.cell? ⟨b, 1, none⟩ = some (.slice (some ⟨g, 0, none⟩) N.fl.length cap) ∧ w'.cell? ⟨b, 3, none⟩ = some D.mv ∧ w'.cell? ⟨g, i * 5, none⟩ = some (.string x.p.f) ∧ w'.cell? ⟨g, i * 5 + 1, none⟩ = some (.string x.p.t) ∧ MapAt w' D.mv N.blk)
    case hm => kernel_rfl
    case hB => kernel_rfl
    case hao => exact .nil
    case hlo => exact .nil
    case hS => exact ⟨c1, c3, hcl.1, hcl.2.1, hmap⟩
    case hr =>
      simp only [List.range_succ, List.range_zero, List.nil_append, List.cons_append]
      iterate 23
        apply Reads.cons1 rfl rfl
        · intro w' hS
          obtain ⟨s0, s1, s2, s3, s4⟩ := hS
          go_simp
          try rfl
      apply Reads.cons1 rfl rfl
      · intro w' hS
        obtain ⟨s0, s1, s2, s3, s4⟩ := hS
        have s5 := run_lookup_pair (x.p.f, x.p.t) w' D.mv N.blk s4
        simp only [Pr.val] at s5
        go_simp
        try rfl
      exact Reads.nil
    intro W hW
    have hb2 : Below w.heap.size w W := by subst hW; exact hb1.drew
    have h2 : RepOk W b N D := by subst hW; exact h1.below ((Below.refl w1.heap.size w1).drew) (Nat.le_refl _)
    have e2 : W.heap[w.heap.size]? = some (.cells #[.string { data := #[] }, .string { data := #[] }, .slice none 0 0] 40) := by subst hW; exact e1
    have hpx : PIn W x.p m.pk := by subst hW; exact (hxm.p.below hb1 (Nat.le_refl _)).pin.drew
    clear hW hb1 h1 e1 hcl c1 c3 hmap
    unfold wpTail
    simp only [Act.put, List.setIfInBounds_toArray, List.set_cons_succ, List.set_cons_zero]
    refine wpList_nil (NoPanic.normal ?_)
    obtain ⟨p0, p1, p2, q0, q1, q2, ql⟩ := blk3 e2
    cases hmb : memM (x.p.f, x.p.t) N.blk
    · have HF : Hid (N.deliver id = ({ N with fl := N.fl.eraseIdx i, ev := N.ev ++ [⟨2, id, -1⟩] }, m.pk, 0)) := by
        rw [hxm.p.f, hxm.p.t] at hmb
        simp [Hid, NetM.deliver, HP.out, HM.out, hmb]
      go_wp2_with fail
      refine (note_rep b N D 2 id (-1) W h2 hl).mono ?_
      rintro e w2 ⟨rfl, D2, h3, t3⟩
      have hnf : ¬ fp D b w.heap.size := fun hk => by have := hlt _ hk; omega
      have e3 := (t3.kp.block w.heap.size ql (fun h => hnf (.inl h))).trans e2
      have hnf3 : ¬ fp D2 b w.heap.size := fun hk => (t3.fp _ hk).elim hnf (fun h => by omega)
      obtain ⟨x2, hx2, hxm2⟩ := h3.flp.at (i := i) (y := m) HM.out
      clear p0 p1 p2 q0 q1 q2 hmb
      go_wp2_with fail
      refine (take_rep b _ D2 i x2 w2 h3 (lim_ev hl hf hc _) hx2).mono ?_
      rintro e w3 ⟨rfl, D4, h4, t4, hbk4, hk4⟩
      have ql3 : w.heap.size < w2.heap.size := lt_of_heap e3
      have e4 := (t4.kp.block w.heap.size ql3 (fun h => hnf3 (.inl h))).trans e3
      have hnf4 : ¬ fp D4 b w.heap.size := fun hk => (t4.fp _ hk).elim hnf3 (fun h => by omega)
      have hp4 : PIn w3 x2.p m.pk := (hxm2.p.kp hk4 (fun k hk ⟨c, T, hc, hT⟩ => by
        obtain ⟨c', hc'⟩ := hxm2.p.block hk
        have := cells_inj hc hc'
        subst this
        exact absurd hT (by decide))).pin
      have ht : Turns D D4 b w w3 := ((Turns.of_below hb2).trans t3).trans t4
      have hB5 : x2.p.blk ≠ some w.heap.size := fun e => by
        obtain ⟨c', hc'⟩ := hxm2.p.block e
        exact absurd (cells_inj hc' e3) (by decide)
      obtain ⟨p0, p1, p2, q0, q1, q2, _⟩ := blk3 e4
      obtain ⟨⟨xf, xt, xa, xn, xc⟩, xid, xsrc⟩ := x2
      simp only [PV.val] at hp4 hbk4 hB5 ⊢
      have hlt3 : w.heap.size < w3.heap.size := lt_of_heap e4
      clear e2 e3 e4 h2 h3 t3 t4 hk4 hpx hx2 hxm2
      go_wp2_with fail
      refine bodyPost_ret (v := .tuple #[PV.val ⟨xf, xt, xa, xn, xc⟩, .int .i64 0]) (by simp [results, Try.results23, PV.val, go_sem, p0, p1, p2]) rfl ?_
      refine ⟨⟨xf, xt, xa, xn, xc⟩, D4, by rw [HF.out], by rw [HF.out]; exact ((h4.far hnf4 _).far hnf4 _).far hnf4 _, ?_, ?_, hbk4⟩
      · exact ⟨((ht.kp.setCell (fun h => absurd h (Nat.lt_irrefl _)) _).setCell (fun h => absurd h (Nat.lt_irrefl _)) _).setCell (fun h => absurd h (Nat.lt_irrefl _)) _, ht.wr, ht.hp⟩
      · rw [HF.out]
        exact hp4.kp (S := fun k => k = w.heap.size) ((((Kp.refl (fun k => k = w.heap.size) w3).setCell (fun _ => rfl) _).setCell (fun _ => rfl) _).setCell (fun _ => rfl) _) (fun k hk e => hB5 (e ▸ hk))
    · have HF : Hid (N.deliver id = (N, Pk.zero, 8)) := by
        rw [hxm.p.f, hxm.p.t] at hmb
        simp [Hid, NetM.deliver, HP.out, HM.out, hmb]
      go_wp2_with fail
      refine bodyPost_ret (v := .tuple #[PV.zero.val, .int .i64 8]) (by simp [results, Try.results23, PV.val, PV.zero, go_sem, p0, p1, p2]; rfl) rfl ?_
      have hnf : ¬ fp D b w.heap.size := fun hk => by have := hlt _ hk; omega
      refine ⟨PV.zero, D, by rw [HF.out], by rw [HF.out]; exact ((h2.far hnf _).far hnf _).far hnf _, ?_, by rw [HF.out]; exact PIn.zero _, fun k hk => by cases hk⟩
      · exact Turns.of_below (((hb2.setCell (Nat.le_refl _) _).setCell (Nat.le_refl _) _).setCell (Nat.le_refl _) _)
end Go.Proofs.Ytnkcgalbaeppmaa
