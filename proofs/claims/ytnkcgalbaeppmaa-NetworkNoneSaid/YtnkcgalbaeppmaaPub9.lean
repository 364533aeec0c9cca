/- The network's methods Block and Unblock. -/
import Derived.Test.YtnkcgalbaeppmaaPub3
namespace Go.Proofs.Ytnkcgalbaeppmaa
open Go.RowKit

section
variable {P : Program} {w : World}
theorem stop_mapUpdate {ops : Array Oper} {Q : Exit → Act → World → Prop} {t : TypeId} {m k x : Operand} {d : Option Tmp} {ty : TypeId} {pos : String} {af : Array Edge} {gd : Option (Nat × Bool)} {rest : List Oper} {a : Act}
    (h : Wrapped (wpList P ops Q (⟨d, .mapUpdate t m k x, ty, pos, af, gd⟩ :: rest) a w)) : wpList P ops Q (⟨d, .mapUpdate t m k x, ty, pos, af, gd⟩ :: rest) a w := h
theorem wpList_mapUpdate_run {ops : Array Oper} {rest : List Oper} {o : Oper} {a : Act} {Q : Exit → Act → World → Prop} (hgd : o.guard = none) (m k x : Operand) (t : TypeId)
    (ho : o.op = .mapUpdate t m k x) {vm vk vx : Value} {w' : World} (hm : a.eval m = vm) (hk : a.eval k = vk) (hx : a.eval x = vx)
    (hr : (Instr.mapUpdate t vm vk vx).run P w = .ok () w') (h : wpList P ops Q rest (a.put o.dst undef) w') : wpList P ops Q (o :: rest) a w :=
  wpList_plain hgd fun K hK => by
    unfold Oper.wp execOp
    simp only [ho, Sem.run_bind, Sem.run_pure, hm, hk, hx, hr, Result.andThen_ok]
    exact hK _ _ h
theorem wpList_delete_run {ops : Array Oper} {rest : List Oper} {o : Oper} {a : Act} {Q : Exit → Act → World → Prop} (hgd : o.guard = none) (s x : Operand) (t u : TypeId)
    (ho : o.op = .call { callee := .builtin .delete, args := #[s, x], argTypes := #[t, u] }) {v v1 v2 : Value} {w' : World} (hs : a.eval s = v1) (hx : a.eval x = v2)
    (hr : (Builtin.delete_ #[t, u] o.type #[v1, v2]).run P w = .ok v w') (h : wpList P ops Q rest (a.put o.dst v) w') : wpList P ops Q (o :: rest) a w :=
  wpList_plain hgd fun K hK => by
    unfold Oper.wp execOp
    simp only [ho, resolve, invoke, builtin, Sem.run_bind, Sem.run_pure, Result.andThen_ok, List.map_toArray, List.map_cons, List.map_nil, hs, hx, hr]
    exact hK _ _ h
end

/-- The map is turned. -/
theorem rep_map {w w' : World} {b : Nat} {N : NetM} {D : ND} (h : RepOk w b N D) {mv : Value} {M : List Pr} (hb : NetBlk w' b D.hv D.fv N.next mv D.ev) (hm : MapAt w' mv M)
    (hk : Kp (fun k => k = b ∨ mapBlk D.mv = some k) w w') (hat : ∀ k, mapBlk mv = some k → mapBlk D.mv = some k ∨ w.heap.size ≤ k) :
    RepOk w' b { N with blk := M } { D with mv := mv } ∧ Turns D { D with mv := mv } b w w' := by
  have hA : ∀ k cur T, w.heap[k]? = some (.cells cur T (0, 0)) → T ≠ 31 → ¬ (k = b ∨ mapBlk D.mv = some k) := fun k cur T hc hT e => by
    rcases e with rfl | e
    · exact hT (cells_inj hc h.blk)
    · exact h.map.ne hc e
  refine ⟨⟨hb, ?_, ?_, ?_, ?_, ?_, hm, h.apart, h.apart2⟩, ⟨hk.mono ?_, ?_, fun k hk => .inl hk⟩⟩
  · exact ownsRow_kp h.hist hk (fun k h1 => by obtain ⟨c, hc⟩ := h.hblk h1; exact hA k c 40 hc (by decide))
  · exact h.histp.mono fun x y hx hm => hm.kp hk (fun k h1 => by obtain ⟨c, hc⟩ := hm.block h1; exact hA k c 5 hc (by decide))
  · exact ownsRow_kp h.fl hk (fun k h1 => by obtain ⟨c, hc⟩ := h.fblk h1; exact hA k c 86 hc (by decide))
  · exact h.flp.mono fun x y hx hm => ⟨hm.p.kp hk (fun k h1 => by obtain ⟨c, hc⟩ := hm.p.block h1; exact hA k c 5 hc (by decide)), hm.id, hm.src⟩
  · exact ownsRow_kp h.ev hk (fun k h1 => by obtain ⟨c, hc⟩ := h.eblk h1; exact hA k c 61 hc (by decide))
  · rintro k _ (rfl | h1)
    · exact .inl rfl
    · exact .inr (.inr (.inr (.inr (.inl h1))))
  · rintro k (rfl | h1 | h1 | h1 | h1 | h1)
    · exact .inl (.inl rfl)
    · exact .inl (.inr (.inl h1))
    · exact .inl (.inr (.inr (.inl h1)))
    · exact .inl (.inr (.inr (.inr (.inl h1))))
    · exact (hat k h1).imp (fun h2 => .inr (.inr (.inr (.inr (.inl h2))))) (fun h2 => h2)
    · exact .inl (.inr (.inr (.inr (.inr (.inr h1)))))

/-- Block, Unblock. -/
def NetM.block (N : NetM) (p : Pr) : NetM × Int :=
  if hostB p.1 && hostB p.2 then ({ N with blk := if memM p N.blk then N.blk else N.blk ++ [p] }, 0) else (N, 2)
def NetM.unblock (N : NetM) (p : Pr) : NetM × Int :=
  if hostB p.1 && hostB p.2 then ({ N with blk := N.blk.eraseP (prB p) }, 0) else (N, 2)

set_option maxHeartbeats 800000 in
theorem block_any (b : Nat) (N : NetM) (D : ND) (s t : ByteArray) (w : World) (h : RepOk w b N D) (hs : s.size ≤ 100) (ht : t.size ≤ 100) :
    Calls Try.prog 27 #[.pointer (some ⟨b, 0, none⟩), .string s, .string t] w (One3 b D w (N.block (s, t))) := by
  have bad : ∀ (w1 : World), w = w1 → (N.block (s, t) = (N, 2)) → One3 b D w (N.block (s, t)) (.returned (.int .i64 2)) w1 := fun w1 e hf => by
    subst e; exact ⟨by rw [hf], D, by rw [hf]; exact h, Turns.of_below (Below.refl _ _)⟩
  have Bad := Lib.hid bad
  clear bad
  cases h1 : hostB s
  · have HF : Hid (N.block (s, t) = (N, 2)) := by simp [Hid, NetM.block, h1]
    have HV := Lib.hid h1
    clear h1
    go_enter Try.func27, Try.ntmps27
    go_wp2_with fail
    refine (validHost_any s _ hs).mono ?_
    rintro e w1 ⟨rfl, rfl⟩
    have hv := HV.out
    go_wp2_with fail
    go_ret
    exact Bad.out _ rfl HF.out
  · cases h2 : hostB t
    · have HF : Hid (N.block (s, t) = (N, 2)) := by simp [Hid, NetM.block, h2]
      have HV := Lib.hid h1
      have HV2 := Lib.hid h2
      clear h1 h2
      go_enter Try.func27, Try.ntmps27
      go_wp2_with fail
      refine (validHost_any s _ hs).mono ?_
      rintro e w1 ⟨rfl, rfl⟩
      have hv := HV.out
      go_wp2_with fail
      refine (validHost_any t _ ht).mono ?_
      rintro e w1 ⟨rfl, rfl⟩
      have hv2 := HV2.out
      go_wp2_with fail
      go_ret
      exact Bad.out _ rfl HF.out
    · have HF : Hid (N.block (s, t) = ({ N with blk := if memM (s, t) N.blk then N.blk else N.blk ++ [(s, t)] }, 0)) := by simp [Hid, NetM.block, h1, h2]
      have HV := Lib.hid h1
      have HV2 := Lib.hid h2
      have c3 := h.blk.c3
      have hbl := h.blk.lt
      rcases h.map with ⟨hmv, hM⟩ | ⟨r, es, clock, hmv, hr, _, _⟩
      · have q28 : ∀ w, (binOp .eql 28 (.map none) (.map none)).run Try.prog w = .ok (.bool true) w := fun w => by
          simpa using run_eql_map_nil (P := Try.prog) w 28 95 4 none u28
        have hmm := @run_makeMap Try.prog
        rw [hmv] at c3
        have f3 := h.blk.fz 3
        clear h1 h2
        go_enter Try.func27, Try.ntmps27
        go_wp2_with fail
        refine (validHost_any s _ hs).mono ?_
        rintro e w1 ⟨rfl, rfl⟩
        have hv := HV.out
        go_wp2_with fail
        refine (validHost_any t _ ht).mono ?_
        rintro e w1 ⟨rfl, rfl⟩
        have hv2 := HV2.out
        go_wp2_with (with_reducible apply stop_mapUpdate)
        have hsz : (w.setCell ⟨b, 3, none⟩ (.map (some w.heap.size))).heap.size = w.heap.size := by simp [World.setCell]
        have hb2 : NetBlk ((w.setCell ⟨b, 3, none⟩ (.map (some w.heap.size))).alloc (.map #[] 0)) b D.hv D.fv N.next (.map (some w.heap.size)) D.ev := (h.blk.set3 _).same (Below.heap_alloc _ _ _ (by rw [hsz]; exact hbl))
        have hm2 : MapAt ((w.setCell ⟨b, 3, none⟩ (.map (some w.heap.size))).alloc (.map #[] 0)) (.map (some w.heap.size)) [] :=
          .inr ⟨_, #[], 0, rfl, by have := heap_alloc_new (w.setCell ⟨b, 3, none⟩ (.map (some w.heap.size))) (.map #[] 0); rwa [hsz] at this, rfl, fun e he => by simp at he⟩
        obtain ⟨w3, hr3, hm3, hk3⟩ := run_update_pair (s, t) _ _ _ hm2
        have hk2 : Kp (fun k => k = b ∨ mapBlk D.mv = some k) w ((w.setCell ⟨b, 3, none⟩ (.map (some w.heap.size))).alloc (.map #[] 0)) := ((Kp.refl _ w).setCell (fun _ => .inl rfl) _).alloc _
        have hm3' : MapAt w3 (.map (some w.heap.size)) (if memM (s, t) N.blk then N.blk else N.blk ++ [(s, t)]) := by rw [hM]; exact hm3
        obtain ⟨h4, t4⟩ := rep_map h (hb2.kp hk3 (by show ¬ b = w.heap.size; omega)) hm3' (hk2.trans hk3 (fun k hk e => by exfalso; have e' : k = w.heap.size := e; omega)) (fun k hk => .inr (by cases hk; exact Nat.le_refl _))
        refine wpList_mapUpdate_run rfl _ _ _ _ rfl rfl rfl rfl hr3 ?_
        clear hr3 hm2 hm3 hm3' hk2 hk3 hb2 hmm q28 c3 f3 hmv hM
        go_wp2_with fail
        go_ret
        exact ⟨by rw [HF.out]; rfl, _, by rw [HF.out]; exact h4, t4⟩
      · have q28 : ∀ w, (binOp .eql 28 (.map (some r)) (.map none)).run Try.prog w = .ok (.bool false) w := fun w => by
          simpa using run_eql_map_nil (P := Try.prog) w 28 95 4 (some r) u28
        have hma := h.map
        rw [hmv] at c3 hma
        clear h1 h2 hr
        go_enter Try.func27, Try.ntmps27
        go_wp2_with fail
        refine (validHost_any s _ hs).mono ?_
        rintro e w1 ⟨rfl, rfl⟩
        have hv := HV.out
        go_wp2_with fail
        refine (validHost_any t _ ht).mono ?_
        rintro e w1 ⟨rfl, rfl⟩
        have hv2 := HV2.out
        go_wp2_with (with_reducible apply stop_mapUpdate)
        obtain ⟨w3, hr3, hm3, hk3⟩ := run_update_pair (s, t) w _ _ hma
        have hrb : mapBlk D.mv = some r := by rw [hmv]; rfl
        have hbr : ¬ b = r := fun e => h.mv31 hrb e.symm
        obtain ⟨h4, t4⟩ := rep_map h (mv := .map (some r)) ((hmv ▸ h.blk).kp hk3 hbr) hm3 (hk3.mono (fun k hk e => .inr (by subst e; exact hrb))) (fun k hk => .inl (by cases hk; exact hrb))
        refine wpList_mapUpdate_run rfl _ _ _ _ rfl rfl rfl rfl hr3 ?_
        clear hr3 hm3 hk3 q28 c3 hmv hma
        go_wp2_with fail
        go_ret
        exact ⟨by rw [HF.out]; rfl, _, by rw [HF.out]; exact h4, t4⟩

set_option maxHeartbeats 800000 in
theorem unblock_any (b : Nat) (N : NetM) (D : ND) (s t : ByteArray) (w : World) (h : RepOk w b N D) (hs : s.size ≤ 100) (ht : t.size ≤ 100) :
    Calls Try.prog 28 #[.pointer (some ⟨b, 0, none⟩), .string s, .string t] w (One3 b D w (N.unblock (s, t))) := by
  have bad : ∀ (w1 : World), w = w1 → (N.unblock (s, t) = (N, 2)) → One3 b D w (N.unblock (s, t)) (.returned (.int .i64 2)) w1 := fun w1 e hf => by
    subst e; exact ⟨by rw [hf], D, by rw [hf]; exact h, Turns.of_below (Below.refl _ _)⟩
  have Bad := Lib.hid bad
  clear bad
  cases h1 : hostB s
  · have HF : Hid (N.unblock (s, t) = (N, 2)) := by simp [Hid, NetM.unblock, h1]
    have HV := Lib.hid h1
    clear h1
    go_enter Try.func28, Try.ntmps28
    go_wp2_with fail
    refine (validHost_any s _ hs).mono ?_
    rintro e w1 ⟨rfl, rfl⟩
    have hv := HV.out
    go_wp2_with fail
    go_ret
    exact Bad.out _ rfl HF.out
  · cases h2 : hostB t
    · have HF : Hid (N.unblock (s, t) = (N, 2)) := by simp [Hid, NetM.unblock, h2]
      have HV := Lib.hid h1
      have HV2 := Lib.hid h2
      clear h1 h2
      go_enter Try.func28, Try.ntmps28
      go_wp2_with fail
      refine (validHost_any s _ hs).mono ?_
      rintro e w1 ⟨rfl, rfl⟩
      have hv := HV.out
      go_wp2_with fail
      refine (validHost_any t _ ht).mono ?_
      rintro e w1 ⟨rfl, rfl⟩
      have hv2 := HV2.out
      go_wp2_with fail
      go_ret
      exact Bad.out _ rfl HF.out
    · have HF : Hid (N.unblock (s, t) = ({ N with blk := N.blk.eraseP (prB (s, t)) }, 0)) := by simp [Hid, NetM.unblock, h1, h2]
      have HV := Lib.hid h1
      have HV2 := Lib.hid h2
      have c3 := h.blk.c3
      clear h1 h2
      go_enter Try.func28, Try.ntmps28
      go_wp2_with fail
      refine (validHost_any s _ hs).mono ?_
      rintro e w1 ⟨rfl, rfl⟩
      have hv := HV.out
      go_wp2_with fail
      refine (validHost_any t _ ht).mono ?_
      rintro e w1 ⟨rfl, rfl⟩
      have hv2 := HV2.out
      go_wp2_with (with_reducible apply stop_builtin .delete)
      obtain ⟨w3, hr3, hm3, hk3⟩ := run_delete_pair (s, t) w D.mv 0 95 _ h.map
      have hbr : ¬ mapBlk D.mv = some b := fun e => h.mv31 e rfl
      obtain ⟨h4, t4⟩ := rep_map h (mv := D.mv) (h.blk.kp hk3 hbr) hm3 (hk3.mono (fun k hk e => .inr e)) (fun k hk => .inl hk)
      refine wpList_delete_run rfl _ _ _ _ rfl rfl rfl hr3 ?_
      clear hr3 hm3 hk3 c3
      go_wp2_with fail
      go_ret
      exact ⟨by rw [HF.out]; rfl, _, by rw [HF.out]; exact h4, t4⟩
end Go.Proofs.Ytnkcgalbaeppmaa
