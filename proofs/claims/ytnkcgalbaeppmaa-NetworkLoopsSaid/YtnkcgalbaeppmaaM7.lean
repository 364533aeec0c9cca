/- Texts joined into one: Pub8 Pub9 Pub10 Kn1. -/
import Derived.Test.YtnkcgalbaeppmaaM3
import Derived.Test.YtnkcgalbaeppmaaM5
import Derived.Test.YtnkcgalbaeppmaaM6
/- The network's method Deliver. -/
namespace Go.Proofs.Ytnkcgalbaeppmaa
open Go.RowKit

theorem RepOk.far {w : World} {b : Nat} {N : NetM} {D : ND} (h : RepOk w b N D) {p : Addr} (hp : ¬ fp D b p.block) (u : Value) : RepOk (w.setCell p u) b N D :=
  h.same fun _k hk => Below.heap_setCell _ _ _ _ (fun e => hp (e ▸ hk))

def PV.zero : PV := ⟨ByteArray.empty, ByteArray.empty, none, 0, 0⟩
def Pk.zero : Pk := ⟨ByteArray.empty, ByteArray.empty, []⟩
theorem PIn.zero (w : World) : PIn w PV.zero Pk.zero := ⟨rfl, rfl, rfl, Lib.BytesIn.nil _ _ _⟩

/-- Deliver. -/
def NetM.deliver (N : NetM) (id : Int) : NetM × Pk × Int :=
  match place id N.fl with
  | none => (N, Pk.zero, 9)
  | some i => match N.fl[i]? with
    | none => (N, Pk.zero, 9)
    | some m => if memM (m.pk.fr, m.pk.to) N.blk then (N, Pk.zero, 8) else ({ N with fl := N.fl.eraseIdx i, ev := N.ev ++ [⟨2, id, -1⟩] }, m.pk, 0)

def DlvPost (b : Nat) (D : ND) (w : World) (r : NetM × Pk × Int) (e : Ending) (w' : World) : Prop :=
  ∃ (q : PV) (D' : ND), e = .returned (.tuple #[q.val, .int .i64 r.2.2]) ∧ RepOk w' b r.1 D' ∧ Turns D D' b w w' ∧ PIn w' q r.2.1 ∧ (∀ k, q.blk = some k → ¬ fp D' b k)

set_option maxHeartbeats 1600000 in
set_option maxRecDepth 100000 in
theorem deliver_any (b : Nat) (N : NetM) (D : ND) (id : Int) (w : World) (c : Nat) (h : RepOk w b N D) (hl : N.lim) (hf : N.few c) (hc : c ≤ 40000) :
    Calls Try.prog 23 #[.pointer (some ⟨b, 0, none⟩), .int .i64 id] w (DlvPost b D w (N.deliver id)) := by
  have hb0 : Below w.heap.size w (w.alloc (.cells #[.string { data := #[] }, .string { data := #[] }, .slice none 0 0] 40)) := (Below.refl _ _).alloc (Nat.le_refl _) _
  have h0 := h.below hb0 (Nat.le_refl _)
  cases hp : place id N.fl with
  | none =>
    have HF : Hid (N.deliver id = (N, Pk.zero, 9)) := by simp [Hid, NetM.deliver, hp]
    have HP := Lib.hid hp
    clear hp
    go_enter Try.func23, Try.ntmps23
    go_wp2_with fail
    refine (find_none b N D id _ h0 hl HP.out).mono ?_
    rintro e w1 ⟨rfl, hb⟩
    have hb1 := hb0.trans (hb.mono hb0.size)
    have e1 := (hb.block w.heap.size (by simp)).trans (heap_alloc_new w _)
    obtain ⟨p0, p1, p2, q0, q1, q2, ql⟩ := blk3 e1
    have h1 := h.below hb1 (Nat.le_refl _)
    have hlt := h.fp_lt
    clear h h0 hb hb0 e1
    go_wp2_with fail
    refine bodyPost_ret (v := .tuple #[PV.zero.val, .int .i64 9]) (by simp [results, Try.results23, PV.val, PV.zero, go_sem, p0, p1, p2]; rfl) rfl ?_
    have hnf : ¬ fp D b w.heap.size := fun hk => by have := hlt _ hk; omega
    refine ⟨PV.zero, D, by rw [HF.out], by rw [HF.out]; exact ((h1.far hnf _).far hnf _).far hnf _, ?_, by rw [HF.out]; exact PIn.zero _, fun k hk => by cases hk⟩
    · exact Turns.of_below (((hb1.setCell (Nat.le_refl _) _).setCell (Nat.le_refl _) _).setCell (Nat.le_refl _) _)
  | some i =>
    obtain ⟨m, hm, hid⟩ := place_some hp
    obtain ⟨x, hx, hxm⟩ := h.flp.at hm
    have hi : i < N.fl.length := (List.getElem?_eq_some_iff.1 hm).1
    have HP := Lib.hid hp
    have i0 : (0 : Int) ≤ (i : Int) := by omega
    have i1 : (i : Int) < (N.fl.length : Int) := by omega
    have i2 : (N.fl.length : Int) ≤ 64 := by have := hl.fl; omega
    obtain ⟨g, cap, hfv, _, hg⟩ := h.fl.form (by omega)
    have HX := Lib.hid hx
    have HM := Lib.hid hm
    clear hp hm hid hx
    go_enter Try.func23, Try.ntmps23
    go_wp2_with fail
    refine (find_some b N D id i _ h0 hl HP.out).mono ?_
    rintro e w1 ⟨rfl, hb⟩
    have hb1 := hb0.trans (hb.mono hb0.size)
    have h1 := h.below hb1 (Nat.le_refl _)
    have e1 := (hb.block w.heap.size (by simp)).trans (heap_alloc_new w _)
    have hbk := h1.blk
    have hfl := h1.fl
    rw [hfv] at hbk hfl
    have hcl := fly_cells hfl HX.out
    have c1 := hbk.c1
    have c3 := hbk.c3
    have hmap := h1.map
    have hlt := h.fp_lt
    clear hfv h h0 hb hb0 hbk hfl
    go_wp2_with fail
    apply wp_region_early (List.range 24) [] [] (fun w' => w'.cell? ⟨b, 1, none⟩ = some (.slice (some ⟨g, 0, none⟩) N.fl.length cap) ∧ w'.cell? ⟨b, 3, none⟩ = some D.mv ∧ w'.cell? ⟨g, i * 5, none⟩ = some (.string x.p.f) ∧ w'.cell? ⟨g, i * 5 + 1, none⟩ = some (.string x.p.t) ∧ MapAt w' D.mv N.blk)
    case hm => kernel_rfl
    case hB => kernel_rfl
    case hao => exact .nil
    case hlo => exact .nil
    case hS => exact ⟨c1, c3, hcl.1, hcl.2.1, hmap⟩
    case hr =>
      simp only [List.range_succ, List.range_zero, List.nil_append, List.cons_append]
      iterate 23
        apply Reads.cons1 rfl rfl
        · intro w' hS
          obtain ⟨s0, s1, s2, s3, s4⟩ := hS
          go_simp
          try rfl
      apply Reads.cons1 rfl rfl
      · intro w' hS
        obtain ⟨s0, s1, s2, s3, s4⟩ := hS
        have s5 := run_lookup_pair (x.p.f, x.p.t) w' D.mv N.blk s4
        simp only [Pr.val] at s5
        go_simp
        try rfl
      exact Reads.nil
    intro W hW
    have hb2 : Below w.heap.size w W := by subst hW; exact hb1.drew
    have h2 : RepOk W b N D := by subst hW; exact h1.below ((Below.refl w1.heap.size w1).drew) (Nat.le_refl _)
    have e2 : W.heap[w.heap.size]? = some (.cells #[.string { data := #[] }, .string { data := #[] }, .slice none 0 0] 40) := by subst hW; exact e1
    have hpx : PIn W x.p m.pk := by subst hW; exact (hxm.p.below hb1 (Nat.le_refl _)).pin.drew
    clear hW hb1 h1 e1 hcl c1 c3 hmap
    unfold wpTail
    simp only [Act.put, List.setIfInBounds_toArray, List.set_cons_succ, List.set_cons_zero]
    refine wpList_nil (NoPanic.normal ?_)
    obtain ⟨p0, p1, p2, q0, q1, q2, ql⟩ := blk3 e2
    cases hmb : memM (x.p.f, x.p.t) N.blk
    · have HF : Hid (N.deliver id = ({ N with fl := N.fl.eraseIdx i, ev := N.ev ++ [⟨2, id, -1⟩] }, m.pk, 0)) := by
        rw [hxm.p.f, hxm.p.t] at hmb
        simp [Hid, NetM.deliver, HP.out, HM.out, hmb]
      go_wp2_with fail
      refine (note_rep b N D 2 id (-1) W h2 hl).mono ?_
      rintro e w2 ⟨rfl, D2, h3, t3⟩
      have hnf : ¬ fp D b w.heap.size := fun hk => by have := hlt _ hk; omega
      have e3 := (t3.kp.block w.heap.size ql (fun h => hnf (.inl h))).trans e2
      have hnf3 : ¬ fp D2 b w.heap.size := fun hk => (t3.fp _ hk).elim hnf (fun h => by omega)
      obtain ⟨x2, hx2, hxm2⟩ := h3.flp.at (i := i) (y := m) HM.out
      clear p0 p1 p2 q0 q1 q2 hmb
      go_wp2_with fail
      refine (take_rep b _ D2 i x2 w2 h3 (lim_ev hl hf hc _) hx2).mono ?_
      rintro e w3 ⟨rfl, D4, h4, t4, hbk4, hk4⟩
      have ql3 : w.heap.size < w2.heap.size := lt_of_heap e3
      have e4 := (t4.kp.block w.heap.size ql3 (fun h => hnf3 (.inl h))).trans e3
      have hnf4 : ¬ fp D4 b w.heap.size := fun hk => (t4.fp _ hk).elim hnf3 (fun h => by omega)
      have hp4 : PIn w3 x2.p m.pk := (hxm2.p.kp hk4 (fun k hk ⟨c, T, hc, hT⟩ => by
        obtain ⟨c', hc'⟩ := hxm2.p.block hk
        have := cells_inj hc hc'
        subst this
        exact absurd hT (by decide))).pin
      have ht : Turns D D4 b w w3 := ((Turns.of_below hb2).trans t3).trans t4
      have hB5 : x2.p.blk ≠ some w.heap.size := fun e => by
        obtain ⟨c', hc'⟩ := hxm2.p.block e
        exact absurd (cells_inj hc' e3) (by decide)
      obtain ⟨p0, p1, p2, q0, q1, q2, _⟩ := blk3 e4
      obtain ⟨⟨xf, xt, xa, xn, xc⟩, xid, xsrc⟩ := x2
      simp only [PV.val] at hp4 hbk4 hB5 ⊢
      have hlt3 : w.heap.size < w3.heap.size := lt_of_heap e4
      clear e2 e3 e4 h2 h3 t3 t4 hk4 hpx hx2 hxm2
      go_wp2_with fail
      refine bodyPost_ret (v := .tuple #[PV.val ⟨xf, xt, xa, xn, xc⟩, .int .i64 0]) (by simp [results, Try.results23, PV.val, go_sem, p0, p1, p2]) rfl ?_
      refine ⟨⟨xf, xt, xa, xn, xc⟩, D4, by rw [HF.out], by rw [HF.out]; exact ((h4.far hnf4 _).far hnf4 _).far hnf4 _, ?_, ?_, hbk4⟩
      · exact ⟨((ht.kp.setCell (fun h => absurd h (Nat.lt_irrefl _)) _).setCell (fun h => absurd h (Nat.lt_irrefl _)) _).setCell (fun h => absurd h (Nat.lt_irrefl _)) _, ht.wr, ht.hp⟩
      · rw [HF.out]
        exact hp4.kp (S := fun k => k = w.heap.size) ((((Kp.refl (fun k => k = w.heap.size) w3).setCell (fun _ => rfl) _).setCell (fun _ => rfl) _).setCell (fun _ => rfl) _) (fun k hk e => hB5 (e ▸ hk))
    · have HF : Hid (N.deliver id = (N, Pk.zero, 8)) := by
        rw [hxm.p.f, hxm.p.t] at hmb
        simp [Hid, NetM.deliver, HP.out, HM.out, hmb]
      go_wp2_with fail
      refine bodyPost_ret (v := .tuple #[PV.zero.val, .int .i64 8]) (by simp [results, Try.results23, PV.val, PV.zero, go_sem, p0, p1, p2]; rfl) rfl ?_
      have hnf : ¬ fp D b w.heap.size := fun hk => by have := hlt _ hk; omega
      refine ⟨PV.zero, D, by rw [HF.out], by rw [HF.out]; exact ((h2.far hnf _).far hnf _).far hnf _, ?_, by rw [HF.out]; exact PIn.zero _, fun k hk => by cases hk⟩
      · exact Turns.of_below (((hb2.setCell (Nat.le_refl _) _).setCell (Nat.le_refl _) _).setCell (Nat.le_refl _) _)
end Go.Proofs.Ytnkcgalbaeppmaa
/- The network's methods Block and Unblock. -/
namespace Go.Proofs.Ytnkcgalbaeppmaa
open Go.RowKit

section
variable {P : Program} {w : World}
theorem stop_mapUpdate {ops : Array Oper} {Q : Exit → Act → World → Prop} {t : TypeId} {m k x : Operand} {d : Option Tmp} {ty : TypeId} {pos : String} {af : Array Edge} {gd : Option (Nat × Bool)} {rest : List Oper} {a : Act}
    (h : Wrapped (wpList P ops Q (⟨d, .mapUpdate t m k x, ty, pos, af, gd⟩ :: rest) a w)) : wpList P ops Q (⟨d, .mapUpdate t m k x, ty, pos, af, gd⟩ :: rest) a w := h
theorem wpList_mapUpdate_run {ops : Array Oper} {rest : List Oper} {o : Oper} {a : Act} {Q : Exit → Act → World → Prop} (hgd : o.guard = none) (m k x : Operand) (t : TypeId)
    (ho : o.op = .mapUpdate t m k x) {vm vk vx : Value} {w' : World} (hm : a.eval m = vm) (hk : a.eval k = vk) (hx : a.eval x = vx)
    (hr : (Instr.mapUpdate t vm vk vx).run P w = .ok () w') (h : wpList P ops Q rest (a.put o.dst undef) w') : wpList P ops Q (o :: rest) a w :=
  wpList_plain hgd fun K hK => by
    unfold Oper.wp execOp
    simp only [ho, Sem.run_bind, Sem.run_pure, hm, hk, hx, hr, Result.andThen_ok]
    exact hK _ _ h
theorem wpList_delete_run {ops : Array Oper} {rest : List Oper} {o : Oper} {a : Act} {Q : Exit → Act → World → Prop} (hgd : o.guard = none) (s x : Operand) (t u : TypeId)
    (ho : o.op = .call { callee := .builtin .delete, args := #[s, x], argTypes := #[t, u] }) {v v1 v2 : Value} {w' : World} (hs : a.eval s = v1) (hx : a.eval x = v2)
    (hr : (Builtin.delete_ #[t, u] o.type #[v1, v2]).run P w = .ok v w') (h : wpList P ops Q rest (a.put o.dst v) w') : wpList P ops Q (o :: rest) a w :=
  wpList_plain hgd fun K hK => by
    unfold Oper.wp execOp
    simp only [ho, resolve, invoke, builtin, Sem.run_bind, Sem.run_pure, Result.andThen_ok, List.map_toArray, List.map_cons, List.map_nil, hs, hx, hr]
    exact hK _ _ h
end

/-- The map is turned. -/
theorem rep_map {w w' : World} {b : Nat} {N : NetM} {D : ND} (h : RepOk w b N D) {mv : Value} {M : List Pr} (hb : NetBlk w' b D.hv D.fv N.next mv D.ev) (hm : MapAt w' mv M)
    (hk : Kp (fun k => k = b ∨ mapBlk D.mv = some k) w w') (hat : ∀ k, mapBlk mv = some k → mapBlk D.mv = some k ∨ w.heap.size ≤ k) :
    RepOk w' b { N with blk := M } { D with mv := mv } ∧ Turns D { D with mv := mv } b w w' := by
  have hA : ∀ k cur T, w.heap[k]? = some (.cells cur T (0, 0)) → T ≠ 31 → ¬ (k = b ∨ mapBlk D.mv = some k) := fun k cur T hc hT e => by
    rcases e with rfl | e
    · exact hT (cells_inj hc h.blk)
    · exact h.map.ne hc e
  refine ⟨⟨hb, ?_, ?_, ?_, ?_, ?_, hm, h.apart, h.apart2⟩, ⟨hk.mono ?_, ?_, fun k hk => .inl hk⟩⟩
  · exact ownsRow_kp h.hist hk (fun k h1 => by obtain ⟨c, hc⟩ := h.hblk h1; exact hA k c 40 hc (by decide))
  · exact h.histp.mono fun x y hx hm => hm.kp hk (fun k h1 => by obtain ⟨c, hc⟩ := hm.block h1; exact hA k c 5 hc (by decide))
  · exact ownsRow_kp h.fl hk (fun k h1 => by obtain ⟨c, hc⟩ := h.fblk h1; exact hA k c 86 hc (by decide))
  · exact h.flp.mono fun x y hx hm => ⟨hm.p.kp hk (fun k h1 => by obtain ⟨c, hc⟩ := hm.p.block h1; exact hA k c 5 hc (by decide)), hm.id, hm.src⟩
  · exact ownsRow_kp h.ev hk (fun k h1 => by obtain ⟨c, hc⟩ := h.eblk h1; exact hA k c 61 hc (by decide))
  · rintro k _ (rfl | h1)
    · exact .inl rfl
    · exact .inr (.inr (.inr (.inr (.inl h1))))
  · rintro k (rfl | h1 | h1 | h1 | h1 | h1)
    · exact .inl (.inl rfl)
    · exact .inl (.inr (.inl h1))
    · exact .inl (.inr (.inr (.inl h1)))
    · exact .inl (.inr (.inr (.inr (.inl h1))))
    · exact (hat k h1).imp (fun h2 => .inr (.inr (.inr (.inr (.inl h2))))) (fun h2 => h2)
    · exact .inl (.inr (.inr (.inr (.inr (.inr h1)))))

/-- Block, Unblock. -/
def NetM.block (N : NetM) (p : Pr) : NetM × Int :=
  if hostB p.1 && hostB p.2 then ({ N with blk := if memM p N.blk then N.blk else N.blk ++ [p] }, 0) else (N, 2)
def NetM.unblock (N : NetM) (p : Pr) : NetM × Int :=
  if hostB p.1 && hostB p.2 then ({ N with blk := N.blk.eraseP (prB p) }, 0) else (N, 2)

set_option maxHeartbeats 800000 in
theorem block_any (b : Nat) (N : NetM) (D : ND) (s t : ByteArray) (w : World) (h : RepOk w b N D) (hs : s.size ≤ 100) (ht : t.size ≤ 100) :
    Calls Try.prog 27 #[.pointer (some ⟨b, 0, none⟩), .string s, .string t] w (One3 b D w (N.block (s, t))) := by
  have bad : ∀ (w1 : World), w = w1 → (N.block (s, t) = (N, 2)) → One3 b D w (N.block (s, t)) (.returned (.int .i64 2)) w1 := fun w1 e hf => by
    subst e; exact ⟨by rw [hf], D, by rw [hf]; exact h, Turns.of_below (Below.refl _ _)⟩
  have Bad := Lib.hid bad
  clear bad
  cases h1 : hostB s
  · have HF : Hid (N.block (s, t) = (N, 2)) := by simp [Hid, NetM.block, h1]
    have HV := Lib.hid h1
    clear h1
    go_enter Try.func27, Try.ntmps27
    go_wp2_with fail
    refine (validHost_any s _ hs).mono ?_
    rintro e w1 ⟨rfl, rfl⟩
    have hv := HV.out
    go_wp2_with fail
    go_ret
    exact Bad.out _ rfl HF.out
  · cases h2 : hostB t
    · have HF : Hid (N.block (s, t) = (N, 2)) := by simp [Hid, NetM.block, h2]
      have HV := Lib.hid h1
      have HV2 := Lib.hid h2
      clear h1 h2
      go_enter Try.func27, Try.ntmps27
      go_wp2_with fail
      refine (validHost_any s _ hs).mono ?_
      rintro e w1 ⟨rfl, rfl⟩
      have hv := HV.out
      go_wp2_with fail
      refine (validHost_any t _ ht).mono ?_
      rintro e w1 ⟨rfl, rfl⟩
      have hv2 := HV2.out
      go_wp2_with fail
      go_ret
      exact Bad.out _ rfl HF.out
    · have HF : Hid (N.block (s, t) = ({ N with blk := if memM (s, t) N.blk then N.blk else N.blk ++ [(s, t)] }, 0)) := by simp [Hid, NetM.block, h1, h2]
      have HV := Lib.hid h1
      have HV2 := Lib.hid h2
      have c3 := h.blk.c3
      have hbl := h.blk.lt
      rcases h.map with ⟨hmv, hM⟩ | ⟨r, es, clock, hmv, hr, _, _⟩
      · have q28 : ∀ w, (binOp .eql 28 (.map none) (.map none)).run Try.prog w = .ok (.bool true) w := fun w => by
          simpa using run_eql_map_nil (P := Try.prog) w 28 95 4 none u28
        have hmm := @run_makeMap Try.prog
        rw [hmv] at c3
        have f3 := h.blk.fz 3
        clear h1 h2
        go_enter Try.func27, Try.ntmps27
        go_wp2_with fail
        refine (validHost_any s _ hs).mono ?_
        rintro e w1 ⟨rfl, rfl⟩
        have hv := HV.out
        go_wp2_with fail
        refine (validHost_any t _ ht).mono ?_
        rintro e w1 ⟨rfl, rfl⟩
        have hv2 := HV2.out
        go_wp2_with (with_reducible apply stop_mapUpdate)
        have hsz : (w.setCell ⟨b, 3, none⟩ (.map (some w.heap.size))).heap.size = w.heap.size := by simp [World.setCell]
        have hb2 : NetBlk ((w.setCell ⟨b, 3, none⟩ (.map (some w.heap.size))).alloc (.map #[] 0)) b D.hv D.fv N.next (.map (some w.heap.size)) D.ev := (h.blk.set3 _).same (Below.heap_alloc _ _ _ (by rw [hsz]; exact hbl))
        have hm2 : MapAt ((w.setCell ⟨b, 3, none⟩ (.map (some w.heap.size))).alloc (.map #[] 0)) (.map (some w.heap.size)) [] :=
          .inr ⟨_, #[], 0, rfl, by have := heap_alloc_new (w.setCell ⟨b, 3, none⟩ (.map (some w.heap.size))) (.map #[] 0); rwa [hsz] at this, rfl, fun e he => by simp at he⟩
        obtain ⟨w3, hr3, hm3, hk3⟩ := run_update_pair (s, t) _ _ _ hm2
        have hk2 : Kp (fun k => k = b ∨ mapBlk D.mv = some k) w ((w.setCell ⟨b, 3, none⟩ (.map (some w.heap.size))).alloc (.map #[] 0)) := ((Kp.refl _ w).setCell (fun _ => .inl rfl) _).alloc _
        have hm3' : MapAt w3 (.map (some w.heap.size)) (if memM (s, t) N.blk then N.blk else N.blk ++ [(s, t)]) := by rw [hM]; exact hm3
        obtain ⟨h4, t4⟩ := rep_map h (hb2.kp hk3 (by show ¬ b = w.heap.size; omega)) hm3' (hk2.trans hk3 (fun k hk e => by exfalso; have e' : k = w.heap.size := e; omega)) (fun k hk => .inr (by cases hk; exact Nat.le_refl _))
        refine wpList_mapUpdate_run rfl _ _ _ _ rfl rfl rfl rfl hr3 ?_
        clear hr3 hm2 hm3 hm3' hk2 hk3 hb2 hmm q28 c3 f3 hmv hM
        go_wp2_with fail
        go_ret
        exact ⟨by rw [HF.out]; rfl, _, by rw [HF.out]; exact h4, t4⟩
      · have q28 : ∀ w, (binOp .eql 28 (.map (some r)) (.map none)).run Try.prog w = .ok (.bool false) w := fun w => by
          simpa using run_eql_map_nil (P := Try.prog) w 28 95 4 (some r) u28
        have hma := h.map
        rw [hmv] at c3 hma
        clear h1 h2 hr
        go_enter Try.func27, Try.ntmps27
        go_wp2_with fail
        refine (validHost_any s _ hs).mono ?_
        rintro e w1 ⟨rfl, rfl⟩
        have hv := HV.out
        go_wp2_with fail
        refine (validHost_any t _ ht).mono ?_
        rintro e w1 ⟨rfl, rfl⟩
        have hv2 := HV2.out
        go_wp2_with (with_reducible apply stop_mapUpdate)
        obtain ⟨w3, hr3, hm3, hk3⟩ := run_update_pair (s, t) w _ _ hma
        have hrb : mapBlk D.mv = some r := by rw [hmv]; rfl
        have hbr : ¬ b = r := fun e => h.mv31 hrb e.symm
        obtain ⟨h4, t4⟩ := rep_map h (mv := .map (some r)) ((hmv ▸ h.blk).kp hk3 hbr) hm3 (hk3.mono (fun k hk e => .inr (by subst e; exact hrb))) (fun k hk => .inl (by cases hk; exact hrb))
        refine wpList_mapUpdate_run rfl _ _ _ _ rfl rfl rfl rfl hr3 ?_
        clear hr3 hm3 hk3 q28 c3 hmv hma
        go_wp2_with fail
        go_ret
        exact ⟨by rw [HF.out]; rfl, _, by rw [HF.out]; exact h4, t4⟩

set_option maxHeartbeats 800000 in
theorem unblock_any (b : Nat) (N : NetM) (D : ND) (s t : ByteArray) (w : World) (h : RepOk w b N D) (hs : s.size ≤ 100) (ht : t.size ≤ 100) :
    Calls Try.prog 28 #[.pointer (some ⟨b, 0, none⟩), .string s, .string t] w (One3 b D w (N.unblock (s, t))) := by
  have bad : ∀ (w1 : World), w = w1 → (N.unblock (s, t) = (N, 2)) → One3 b D w (N.unblock (s, t)) (.returned (.int .i64 2)) w1 := fun w1 e hf => by
    subst e; exact ⟨by rw [hf], D, by rw [hf]; exact h, Turns.of_below (Below.refl _ _)⟩
  have Bad := Lib.hid bad
  clear bad
  cases h1 : hostB s
  · have HF : Hid (N.unblock (s, t) = (N, 2)) := by simp [Hid, NetM.unblock, h1]
    have HV := Lib.hid h1
    clear h1
    go_enter Try.func28, Try.ntmps28
    go_wp2_with fail
    refine (validHost_any s _ hs).mono ?_
    rintro e w1 ⟨rfl, rfl⟩
    have hv := HV.out
    go_wp2_with fail
    go_ret
    exact Bad.out _ rfl HF.out
  · cases h2 : hostB t
    · have HF : Hid (N.unblock (s, t) = (N, 2)) := by simp [Hid, NetM.unblock, h2]
      have HV := Lib.hid h1
      have HV2 := Lib.hid h2
      clear h1 h2
      go_enter Try.func28, Try.ntmps28
      go_wp2_with fail
      refine (validHost_any s _ hs).mono ?_
      rintro e w1 ⟨rfl, rfl⟩
      have hv := HV.out
      go_wp2_with fail
      refine (validHost_any t _ ht).mono ?_
      rintro e w1 ⟨rfl, rfl⟩
      have hv2 := HV2.out
      go_wp2_with fail
      go_ret
      exact Bad.out _ rfl HF.out
    · have HF : Hid (N.unblock (s, t) = ({ N with blk := N.blk.eraseP (prB (s, t)) }, 0)) := by simp [Hid, NetM.unblock, h1, h2]
      have HV := Lib.hid h1
      have HV2 := Lib.hid h2
      have c3 := h.blk.c3
      clear h1 h2
      go_enter Try.func28, Try.ntmps28
      go_wp2_with fail
      refine (validHost_any s _ hs).mono ?_
      rintro e w1 ⟨rfl, rfl⟩
      have hv := HV.out
      go_wp2_with fail
      refine (validHost_any t _ ht).mono ?_
      rintro e w1 ⟨rfl, rfl⟩
      have hv2 := HV2.out
      go_wp2_with (with_reducible apply stop_builtin .delete)
      obtain ⟨w3, hr3, hm3, hk3⟩ := run_delete_pair (s, t) w D.mv 0 95 _ h.map
      have hbr : ¬ mapBlk D.mv = some b := fun e => h.mv31 e rfl
      obtain ⟨h4, t4⟩ := rep_map h (mv := D.mv) (h.blk.kp hk3 hbr) hm3 (hk3.mono (fun k hk e => .inr e)) (fun k hk => .inl hk)
      refine wpList_delete_run rfl _ _ _ _ rfl rfl rfl hr3 ?_
      clear hr3 hm3 hk3 c3
      go_wp2_with fail
      go_ret
      exact ⟨by rw [HF.out]; rfl, _, by rw [HF.out]; exact h4, t4⟩
end Go.Proofs.Ytnkcgalbaeppmaa
/- The network's method Genuine. -/
namespace Go.Proofs.Ytnkcgalbaeppmaa
open Go.RowKit

/-- Genuine. -/
def NetM.genuine (N : NetM) (id : Int) : Bool × Int :=
  match place id N.fl with
  | none => (false, 9)
  | some i => match N.fl[i]? with
    | none => (false, 9)
    | some m => if 0 ≤ m.src then match N.hist[m.src.toNat]? with
      | some q => (sameB m.pk q, 0)
      | none => (false, 0)
      else (false, 0)
def TwoB (x : Bool) (y : Int) (w : World) (e : Ending) (w' : World) : Prop := e = .returned (.tuple #[.bool x, .int .i64 y]) ∧ Below w.heap.size w w'

set_option maxHeartbeats 1600000 in
set_option maxRecDepth 100000 in
theorem genuine_any (b : Nat) (N : NetM) (D : ND) (id : Int) (w : World) (h : RepOk w b N D) (hl : N.lim) :
    Calls Try.prog 11 #[.pointer (some ⟨b, 0, none⟩), .int .i64 id] w (TwoB (N.genuine id).1 (N.genuine id).2 w) := by
  cases hp : place id N.fl with
  | none =>
    have HF : Hid ((N.genuine id).1 = false ∧ (N.genuine id).2 = 9) := by simp [Hid, NetM.genuine, hp]
    have HP := Lib.hid hp
    clear hp
    go_enter Try.func11, Try.ntmps11
    go_wp2_with fail
    refine (find_none b N D id _ h hl HP.out).mono ?_
    rintro e w1 ⟨rfl, hb⟩
    go_wp2_with fail
    go_ret2
    exact ⟨by rw [HF.out.1, HF.out.2]; rfl, hb⟩
  | some i =>
    obtain ⟨m, hm, hid⟩ := place_some hp
    obtain ⟨x, hx, hxm⟩ := h.flp.at hm
    have hi : i < N.fl.length := (List.getElem?_eq_some_iff.1 hm).1
    have HP := Lib.hid hp
    have i0 : (0 : Int) ≤ (i : Int) := by omega
    have i1 : (i : Int) < (N.fl.length : Int) := by omega
    have i2 : (N.fl.length : Int) ≤ 64 := by have := hl.fl; omega
    obtain ⟨g, cap, hfv, _, hg⟩ := h.fl.form (by omega)
    have HX := Lib.hid hx
    have hsrc := hl.srcok m (List.mem_of_getElem? hm)
    have hrw : m.src = x.src := hxm.src.symm
    rw [hrw] at hsrc
    by_cases hs : 0 ≤ x.src
    · obtain ⟨j, hj⟩ := Int.eq_ofNat_of_zero_le hs
      have hjl : j < N.hist.length := by omega
      obtain ⟨q, hq⟩ : ∃ q, N.hist[j]? = some q := ⟨_, List.getElem?_eq_getElem hjl⟩
      obtain ⟨pq, hpq, hpqm⟩ := h.histp.at hq
      have HF : Hid ((N.genuine id).1 = sameB m.pk q ∧ (N.genuine id).2 = 0) := by
        simp [Hid, NetM.genuine, hp, hm, hrw, hj, hq]
      have j0 : (0 : Int) ≤ (j : Int) := by omega
      have j1 : (j : Int) < (N.hist.length : Int) := by omega
      have j2 : (N.hist.length : Int) ≤ 1024 := by have := hl.hist; omega
      obtain ⟨gh, caph, hhv, _, hgh⟩ := h.hist.form (by omega)
      have HQ := Lib.hid hpq
      clear hp hm hid hx hs hsrc hrw hq hpq
      go_enter Try.func11, Try.ntmps11
      go_wp2_with fail
      refine (find_some b N D id i _ h hl HP.out).mono ?_
      rintro e w1 ⟨rfl, hb⟩
      have h1 := h.below hb (Nat.le_refl _)
      have hbk := h1.blk
      have hfl := h1.fl
      have hhi := h1.hist
      rw [hfv, hhv] at hbk
      rw [hfv] at hfl
      rw [hhv] at hhi
      obtain ⟨d0, d1, d2, d3, d4⟩ := fly_cells hfl HX.out
      have hcl := hist_cells hhi HQ.out
      have c1 := hbk.c1
      have c0 := hbk.c0
      rw [hj] at d4
      have lb : b < w1.heap.size := hbk.lt
      have lg : g < w1.heap.size := Nat.lt_of_lt_of_le hg hb.size
      have lgh : gh < w1.heap.size := Nat.lt_of_lt_of_le hgh hb.size
      have hb2 := hb.alloc hb.size (.cells #[.string x.p.f, .string x.p.t, .slice x.p.ba x.p.bn x.p.bc, .int .i64 x.id, .int .i64 j] 86)
      have e2 := heap_alloc_new w1 (.cells #[.string x.p.f, .string x.p.t, .slice x.p.ba x.p.bn x.p.bc, .int .i64 x.id, .int .i64 j] 86)
      go_wp2_with fail
      generalize w1.alloc (.cells #[.string x.p.f, .string x.p.t, .slice x.p.ba x.p.bn x.p.bc, .int .i64 x.id, .int .i64 j] 86) = w2 at hb2 e2 ⊢
      have hpx := (hxm.p.below hb2 (Nat.le_refl _)).pin
      have hqx := (hpqm.below hb2 (Nat.le_refl _)).pin
      have h3 := h.below hb2 (Nat.le_refl _)
      have hhi3 := h3.hist
      have hbk3 := h3.blk
      rw [hhv] at hhi3 hbk3
      have hcl := hist_cells hhi3 HQ.out
      have c0' := hbk3.c0
      obtain ⟨q0, q1, q2, q3, q4, _, _⟩ := blk5 e2
      clear hfv hhv h h1 h3 hhi3 hbk3 hfl hbk hhi c1 c0 d0 d1 d2 d3 d4 hb e2
      generalize w1.heap.size = B at q0 q1 q2 q3 q4 ⊢
      apply wp_region_early [0, 1, 2, 3, 4, 5, 6, 7, 8, 9, 10, 11, 12, 13] [] [14, 15, 16, 17] (fun w' => w'.cell? ⟨b, 0, none⟩ = some (.slice (some ⟨gh, 0, none⟩) N.hist.length caph) ∧ w'.cell? ⟨gh, j * 3, none⟩ = some (.string pq.f) ∧ w'.cell? ⟨gh, j * 3 + 1, none⟩ = some (.string pq.t) ∧ w'.cell? ⟨gh, j * 3 + 2, none⟩ = some (.slice pq.ba pq.bn pq.bc) ∧ w'.cell? ⟨B, 0, none⟩ = some (.string x.p.f) ∧ w'.cell? ⟨B, 1, none⟩ = some (.string x.p.t) ∧ w'.cell? ⟨B, 2, none⟩ = some (.slice x.p.ba x.p.bn x.p.bc) ∧ w'.cell? ⟨B, 4, none⟩ = some (.int .i64 j))
      case hm => kernel_rfl
      case hB => kernel_rfl
      case hao => exact .nil
      case hlo => exact .cons rfl (.cons rfl (.cons rfl (.cons rfl .nil)))
      case hS => exact ⟨c0', hcl.1, hcl.2.1, hcl.2.2, q0, q1, q2, q4⟩
      case hr =>
        iterate 2
          apply Reads.cons1 rfl rfl
          · intro w' hS
            obtain ⟨s0, s1, s2, s3, s4, s5, s6, s7⟩ := hS
            go_simp
            try rfl
        apply Reads.cons1 (v := .bool true) rfl rfl
        · intro w' hS
          have hd : decide ((0 : Int) ≤ (j : Int)) = true := by simp
          go_simp
          try rfl
        iterate 11
          simp only [Act.put, List.setIfInBounds_toArray, List.set_cons_succ, List.set_cons_zero]
          apply Reads.cons1 rfl rfl
          · intro w' hS
            obtain ⟨s0, s1, s2, s3, s4, s5, s6, s7⟩ := hS
            go_simp
            try rfl
        exact Reads.nil
      intro W hW
      have hb3 : Below w.heap.size w W := by subst hW; exact hb2.drew
      have hpW : PIn W x.p m.pk := by subst hW; exact hpx.drew
      have hqW : PIn W pq q := by subst hW; exact hqx.drew
      clear hW hb2 hpx hqx hcl c0' q0 q1 q2 q3 q4
      unfold wpTail
      simp only [Act.put, List.setIfInBounds_toArray, List.set_cons_succ, List.set_cons_zero]
      go_wp2_with fail
      refine (equal_any x.p pq m.pk q W hpW hqW).mono ?_
      rintro e w3 ⟨rfl, hb4⟩
      go_wp2_with fail
      refine NoPanic.normal ?_
      go_wp2_with fail
      go_ret2
      exact ⟨by rw [HF.out.1, HF.out.2]; rfl, hb3.trans (hb4.mono hb3.size)⟩
    · have HF : Hid ((N.genuine id).1 = false ∧ (N.genuine id).2 = 0) := by
        simp [Hid, NetM.genuine, hp, hm, hrw, hs]
      have hneg : x.src < 0 := by omega
      have hge : (0 ≤ x.src) = False := by simpa using hneg
      clear hp hm hid hx hs hsrc hrw
      go_enter Try.func11, Try.ntmps11
      go_wp2_with fail
      refine (find_some b N D id i _ h hl HP.out).mono ?_
      rintro e w1 ⟨rfl, hb⟩
      have h1 := h.below hb (Nat.le_refl _)
      have hbk := h1.blk
      have hfl := h1.fl
      rw [hfv] at hbk
      rw [hfv] at hfl
      obtain ⟨d0, d1, d2, d3, d4⟩ := fly_cells hfl HX.out
      have c1 := hbk.c1
      have lb : b < w1.heap.size := hbk.lt
      have lg : g < w1.heap.size := Nat.lt_of_lt_of_le hg hb.size
      have hb2 := hb.alloc hb.size (.cells #[.string x.p.f, .string x.p.t, .slice x.p.ba x.p.bn x.p.bc, .int .i64 x.id, .int .i64 x.src] 86)
      have e2 := heap_alloc_new w1 (.cells #[.string x.p.f, .string x.p.t, .slice x.p.ba x.p.bn x.p.bc, .int .i64 x.id, .int .i64 x.src] 86)
      go_wp2_with fail
      generalize w1.alloc (.cells #[.string x.p.f, .string x.p.t, .slice x.p.ba x.p.bn x.p.bc, .int .i64 x.id, .int .i64 x.src] 86) = w2 at hb2 e2 ⊢
      obtain ⟨q0, q1, q2, q3, q4, _, _⟩ := blk5 e2
      clear hfv h h1 hfl hbk c1 d0 d1 d2 d3 d4 hb e2
      generalize w1.heap.size = B at q0 q1 q2 q3 q4 ⊢
      apply wp_region_early [0, 1, 2, 3, 4, 5, 6, 7, 8, 9, 10, 11, 12, 13, 14, 15] [] [16, 17] (fun w' => w'.cell? ⟨B, 4, none⟩ = some (.int .i64 x.src))
      case hm => kernel_rfl
      case hB => kernel_rfl
      case hao => exact .nil
      case hlo => exact .cons rfl (.cons rfl .nil)
      case hS => exact q4
      case hr =>
        iterate 2
          apply Reads.cons1 rfl rfl
          · intro w' hS
            go_simp
            try rfl
        apply Reads.cons1 (v := .bool false) rfl rfl
        · intro w' hS
          have hd : decide ((0 : Int) ≤ x.src) = false := by simpa using hneg
          go_simp
          try rfl
        apply Reads.cons1 rfl rfl
        · intro w' hS
          go_simp
          try rfl
        iterate 11
          simp only [Act.put, List.setIfInBounds_toArray, List.set_cons_succ, List.set_cons_zero]
          apply Reads.cons0 rfl rfl
        simp only [Act.put, List.setIfInBounds_toArray, List.set_cons_succ, List.set_cons_zero]
        apply Reads.cons1 rfl rfl
        · intro w' hS
          go_simp
          try rfl
        exact Reads.nil
      intro W hW
      have hb3 : Below w.heap.size w W := by subst hW; exact hb2.drew
      clear hW hb2 q0 q1 q2 q3 q4
      unfold wpTail
      simp only [Act.put, List.setIfInBounds_toArray, List.set_cons_succ, List.set_cons_zero]
      go_wp2_with fail
      refine NoPanic.normal ?_
      go_wp2_with fail
      go_ret2
      exact ⟨by rw [HF.out.1, HF.out.2]; rfl, hb3⟩
end Go.Proofs.Ytnkcgalbaeppmaa
/- The law's examples: the states. -/
namespace Go.Proofs.Ytnkcgalbaeppmaa
open Go.RowKit
/-- A network in memory laid since B0. -/
structure Held (B0 : Nat) (w0 w : World) (b : Nat) (N : NetM) (D : ND) : Prop where
  rep : RepOk w b N D
  ge : ∀ k, fp D b k → B0 ≤ k
  bel : Below B0 w0 w
theorem Held.turn {B0 : Nat} {w0 w w' : World} {b : Nat} {N N' : NetM} {D D' : ND} (h : Held B0 w0 w b N D) (hr : RepOk w' b N' D') (t : Turns D D' b w w') (hB : B0 ≤ w0.heap.size) : Held B0 w0 w' b N' D' :=
  ⟨hr, fun k hk => (t.fp k hk).elim (h.ge k) (fun h1 => Nat.le_trans (Nat.le_trans hB h.bel.size) h1), Below.kp h.bel t.kp hB (fun k hk => h.ge k (.inl hk))⟩
theorem Held.below {B0 : Nat} {w0 w w' : World} {b : Nat} {N : NetM} {D : ND} (h : Held B0 w0 w b N D) (hb : Below w.heap.size w w') (hB : B0 ≤ w0.heap.size) : Held B0 w0 w' b N D :=
  ⟨h.rep.below hb (Nat.le_refl _), h.ge, h.bel.trans (hb.mono (Nat.le_trans hB h.bel.size))⟩
theorem Held.far {B0 : Nat} {w0 w : World} {b : Nat} {N : NetM} {D : ND} (h : Held B0 w0 w b N D) {p : Addr} (hp : ¬ fp D b p.block) (hB : B0 ≤ p.block) (u : Value) : Held B0 w0 (w.setCell p u) b N D :=
  ⟨h.rep.far hp u, h.ge, h.bel.setCell hB u⟩
/-- A block that is none of the network's. -/
def Mine (D : ND) (b : Nat) (w : World) (k : Nat) : Prop := ¬ fp D b k ∧ k < w.heap.size
theorem Mine.turn {D D' : ND} {b k : Nat} {w w' : World} (h : Mine D b w k) (t : Turns D D' b w w') : Mine D' b w' k :=
  ⟨fun hk => (t.fp k hk).elim h.1 (fun h1 => by have := h.2; omega), Nat.lt_of_lt_of_le h.2 t.kp.size⟩
theorem Mine.keep {D D' : ND} {b k : Nat} {w w' : World} (h : Mine D b w k) (t : Turns D D' b w w') : w'.heap[k]? = w.heap[k]? := t.kp.block k h.2 (fun hk => h.1 (.inl hk))
theorem Mine.below {D : ND} {b k : Nat} {w w' : World} (h : Mine D b w k) (hb : Below w.heap.size w w') : Mine D b w' k := ⟨h.1, Nat.lt_of_lt_of_le h.2 hb.size⟩
theorem Mine.new {w w' : World} {b : Nat} {N : NetM} {D : ND} (h : RepOk w b N D) {k : Nat} (hk : w.heap.size ≤ k) (hk' : k < w'.heap.size) : Mine D b w' k := ⟨fun h1 => by have := h.fp_lt k h1; omega, hk'⟩

/-- A network made anew. -/
def N0 : NetM := ⟨[], [], 0, [], []⟩
def D0 : ND := ⟨.slice none 0 0, .slice none 0 0, .map none, .slice none 0 0, [], []⟩
theorem rep_new {w : World} {b : Nat} (h : w.heap[b]? = some (.cells #[.slice none 0 0, .slice none 0 0, .int .i64 0, .map none, .slice none 0 0] 31 (0, 0))) : RepOk w b N0 D0 :=
  ⟨h, World.ownsRow_nil _ _ _ _, Both.nil, World.ownsRow_nil _ _ _ _, Both.nil, World.ownsRow_nil _ _ _ _, .inl ⟨rfl, rfl⟩, fun i j x y k hx => by simp [D0] at hx, fun x hx => by simp [D0] at hx⟩
theorem fp_new {b k : Nat} (h : fp D0 b k) : k = b := by
  rcases h with (h | h | h | h | h | ⟨x, hx, _⟩) | ⟨x, hx, _⟩
  · exact h
  · simp [D0, Value.ownBlock] at h
  · simp [D0, Value.ownBlock] at h
  · simp [D0, Value.ownBlock] at h
  · simp [D0, mapBlk] at h
  · simp [D0] at hx
  · simp [D0] at hx

def sa : ByteArray := ⟨#[97]⟩
def sb : ByteArray := ⟨#[98]⟩
def sc : ByteArray := ⟨#[99]⟩
def kP : Pk := ⟨sa, sb, [1, 2]⟩
def kQ : Pk := ⟨sa, sb, [1, 253]⟩
def N1 : NetM := ⟨[kP], [⟨kP, 0, 0⟩], 1, [], [⟨1, 0, -1⟩]⟩
def N2 : NetM := ⟨[kP], [⟨kP, 0, 0⟩, ⟨kP, 1, 0⟩], 2, [], [⟨1, 0, -1⟩, ⟨4, 1, 0⟩]⟩
def N3 : NetM := ⟨[kP], [⟨kP, 0, 0⟩, ⟨kQ, 1, 0⟩], 2, [], [⟨1, 0, -1⟩, ⟨4, 1, 0⟩, ⟨5, 1, -1⟩]⟩
def N4 : NetM := ⟨[kP], [⟨kP, 0, 0⟩, ⟨kQ, 1, 0⟩, ⟨kP, 2, 0⟩], 3, [], [⟨1, 0, -1⟩, ⟨4, 1, 0⟩, ⟨5, 1, -1⟩, ⟨7, 2, 0⟩]⟩
def N5 : NetM := ⟨[kP], [⟨kP, 0, 0⟩, ⟨kP, 2, 0⟩], 3, [], [⟨1, 0, -1⟩, ⟨4, 1, 0⟩, ⟨5, 1, -1⟩, ⟨7, 2, 0⟩, ⟨2, 1, -1⟩]⟩
def N6 : NetM := ⟨[kP], [⟨kP, 0, 0⟩, ⟨⟨sa, sc, [1, 2]⟩, 2, 0⟩], 3, [], [⟨1, 0, -1⟩, ⟨4, 1, 0⟩, ⟨5, 1, -1⟩, ⟨7, 2, 0⟩, ⟨2, 1, -1⟩, ⟨6, 2, -1⟩]⟩
def N7 : NetM := ⟨[kP], [⟨kP, 0, 0⟩, ⟨⟨sa, sc, [1, 2]⟩, 2, 0⟩], 3, [(sa, sb)], [⟨1, 0, -1⟩, ⟨4, 1, 0⟩, ⟨5, 1, -1⟩, ⟨7, 2, 0⟩, ⟨2, 1, -1⟩, ⟨6, 2, -1⟩]⟩
theorem k1 : N0.send kP = (N1, 0, 0) := by kernel_rfl
theorem k2 : N1.dup 0 = (N2, 1, 0) := by kernel_rfl
theorem k3 : N2.alter 1 1 255 = (N3, 0) := by kernel_rfl
theorem k4 : N3.genuine 0 = (true, 0) := by kernel_rfl
theorem k5 : N3.genuine 1 = (false, 0) := by kernel_rfl
theorem k6 : N3.replay 0 = (N4, 2, 0) := by kernel_rfl
theorem k7 : N4.deliver 1 = (N5, kQ, 0) := by kernel_rfl
theorem k8 : N5.deliver 1 = (N5, Pk.zero, 9) := by kernel_rfl
theorem k9 : N5.redirect 2 sc = (N6, 0) := by kernel_rfl
theorem k10 : N6.source 2 = (0, 0) := by kernel_rfl
theorem k11 : N6.genuine 2 = (false, 0) := by kernel_rfl
theorem k12 : N6.block (sa, sb) = (N7, 0) := by kernel_rfl
theorem k13 : N7.deliver 0 = (N7, Pk.zero, 8) := by kernel_rfl
theorem k14 : N7.alter 0 2 1 = (N7, 3) := by kernel_rfl
theorem k15 : N7.alter 0 0 0 = (N7, 2) := by kernel_rfl
theorem k16 : sameR kQ kQ = true := by simp [sameR]
theorem kPok : kP.ok := ⟨by decide, by decide, by decide⟩
theorem kQok : kQ.ok := ⟨by decide, by decide, by decide⟩
theorem kCok : (⟨sa, sc, [1, 2]⟩ : Pk).ok := ⟨by decide, by decide, by decide⟩
theorem lim0 : N0.lim := ⟨by decide, by decide, by decide, by decide, by decide, by simp [N0], by simp [N0], by simp [N0]⟩
theorem lim1 : N1.lim := ⟨by decide, by decide, by decide, by decide, by decide, by simp [N1, kPok], by simp [N1, kPok], by simp [N1]⟩
theorem lim2 : N2.lim := ⟨by decide, by decide, by decide, by decide, by decide, by simp [N2, kPok], by simp [N2, kPok], by simp [N2]⟩
theorem lim3 : N3.lim := ⟨by decide, by decide, by decide, by decide, by decide, by simp [N3, kPok], by simp [N3, kPok, kQok], by simp [N3]⟩
theorem lim4 : N4.lim := ⟨by decide, by decide, by decide, by decide, by decide, by simp [N4, kPok], by simp [N4, kPok, kQok], by simp [N4]⟩
theorem lim5 : N5.lim := ⟨by decide, by decide, by decide, by decide, by decide, by simp [N5, kPok], by simp [N5, kPok], by simp [N5]⟩
theorem lim6 : N6.lim := ⟨by decide, by decide, by decide, by decide, by decide, by simp [N6, kPok], by simp [N6, kPok, kCok], by simp [N6]⟩
theorem lim7 : N7.lim := ⟨by decide, by decide, by decide, by decide, by decide, by simp [N7, kPok], by simp [N7, kPok, kCok], by simp [N7]⟩
theorem few0 : N0.few 9 := ⟨by decide, by decide⟩
theorem few1 : N1.few 9 := ⟨by decide, by decide⟩
theorem few2 : N2.few 9 := ⟨by decide, by decide⟩
theorem few3 : N3.few 9 := ⟨by decide, by decide⟩
theorem few4 : N4.few 9 := ⟨by decide, by decide⟩
theorem few5 : N5.few 9 := ⟨by decide, by decide⟩
theorem few6 : N6.few 9 := ⟨by decide, by decide⟩
theorem few7 : N7.few 9 := ⟨by decide, by decide⟩
theorem u56 : Try.prog.underlying 56 = some (.func #[91] #[] false) := by kernel_rfl
theorem u53 : Try.prog.underlying 53 = some (.func #[88] #[] false) := by kernel_rfl
theorem run_equalIn_func_nil {P : Program} (d : Nat) (t : TypeId) (f : Fn) (a b : Array Value) (w : World) (p r : Array TypeId) (v : Bool) (h : P.underlying t = some (.func p r v)) : (Op.equalIn (d + 1) t (.func f a b) .nilFunc).run P w = .ok false w := by
  unfold Op.equalIn
  simp [run_underlying h]
theorem run_eql_func_nil {P : Program} (t : TypeId) (f : Fn) (a b : Array Value) (w : World) (p r : Array TypeId) (v : Bool) (h : P.underlying t = some (.func p r v)) : (binOp .eql t (.func f a b) .nilFunc).run P w = .ok (.bool false) w := by
  simp only [binOp]
  simp [show Op.equal t (.func f a b) .nilFunc = Op.equalIn (9999 + 1) t (.func f a b) .nilFunc from rfl, run_equalIn_func_nil 9999 t f a b w p r v h]
end Go.Proofs.Ytnkcgalbaeppmaa
