/- The law Loops: the walk. -/
import Derived.Test.YtnkcgalbaeppmaaLp0
namespace Go.Proofs.Ytnkcgalbaeppmaa
open Go.RowKit
attribute [local go_sem] Oper.semAt_some
theorem Acts.below {w w' : World} {p : Option Addr} {l : List AV} (h : Acts w p l) (hb : Below w.heap.size w w') : Acts w' p l :=
  ⟨fun hl => by obtain ⟨b, o, hp, ha⟩ := h.at_ hl; exact ⟨b, o, hp, fun k x hx => (ha k x hx).below hb (Nat.le_refl _)⟩,
    fun x hx => by obtain ⟨bs, hp, ho⟩ := h.pk x hx; exact ⟨bs, hp.below hb, fun h0 k hk => Nat.lt_of_lt_of_le (ho h0 k hk) hb.size⟩⟩
/-- The three iterators, where no call turns what they hold. -/
structure Its (W : World) (b : Nat) (D : ND) (N : NetM) (B1 : Nat) (v1 : Value) (qs : List FV) (B2 : Nat) (v2 : Value) (hs : List PV) (B3 : Nat) (v3 : Value) : Prop where
  fl : FlSeq B1 v1 qs N.fl W
  hi : PkSeq B2 v2 hs N.hist W
  ev : EvSeq B3 v3 N.ev W
  sep : ∀ k, (k = B1 ∨ v1.ownBlock = some k ∨ (∃ x ∈ qs, x.p.blk = some k) ∨ k = B2 ∨ v2.ownBlock = some k ∨ (∃ x ∈ hs, x.blk = some k) ∨ k = B3 ∨ v3.ownBlock = some k) → ¬ wr D b k ∧ k < W.heap.size
theorem Its.within {w5 : World} {b b' : Nat} {D D' : ND} {N : NetM} {B1 : Nat} {v1 : Value} {qs : List FV} {B2 : Nat} {v2 : Value} {hs : List PV} {B3 : Nat} {v3 : Value} (h : Its w5 b D N B1 v1 qs B2 v2 hs B3 v3) {W : World} (hw : Within w5 b D b' D' W) :
    FlSeq B1 v1 qs N.fl W ∧ PkSeq B2 v2 hs N.hist W ∧ EvSeq B3 v3 N.ev W := by
  have t : ∀ k, (k = B1 ∨ v1.ownBlock = some k ∨ (∃ x ∈ qs, x.p.blk = some k) ∨ k = B2 ∨ v2.ownBlock = some k ∨ (∃ x ∈ hs, x.blk = some k) ∨ k = B3 ∨ v3.ownBlock = some k) → W.heap[k]? = w5.heap[k]? := fun k hk => hw.kp.block k (h.sep k hk).2 (h.sep k hk).1
  refine ⟨⟨(t B1 (.inl rfl)).trans h.fl.box, ownsRow_same h.fl.own (fun k hk => t k (.inr (.inl hk))), h.fl.p.mono fun x y hx hm => ⟨hm.p.same (fun k hk => t k (.inr (.inr (.inl ⟨x, hx, hk⟩)))), hm.id, hm.src⟩⟩,
    ⟨(t B2 (.inr (.inr (.inr (.inl rfl))))).trans h.hi.box, ownsRow_same h.hi.own (fun k hk => t k (.inr (.inr (.inr (.inr (.inl hk)))))), h.hi.p.mono fun x y hx hm => hm.same (fun k hk => t k (.inr (.inr (.inr (.inr (.inr (.inl ⟨x, hx, hk⟩)))))))⟩,
    ⟨(t B3 (.inr (.inr (.inr (.inr (.inr (.inr (.inl rfl)))))))).trans h.ev.1, ownsRow_same h.ev.2 (fun k hk => t k (.inr (.inr (.inr (.inr (.inr (.inr (.inr hk))))))))⟩⟩
/-- What the two turns rest on. -/
structure LI (w : World) (rb : Nat) (many : Int) (V : RefV) (R : RefM) (N : NetM) (B1 : Nat) (v1 : Value) (qs : List FV) (B2 : Nat) (v2 : Value) (hs : List PV) (B3 : Nat) (v3 : Value) (W : World) : Prop where
  ref : RefAt W V R
  rbx : W.heap[rb]? = some (.cells #[V.al, V.hi, V.ev, V.bl] 35 (0, 0))
  fl : FlSeq B1 v1 qs N.fl W
  hi : PkSeq B2 v2 hs N.hist W
  ev : EvSeq B3 v3 N.ev W
  mn : W.heap[w.heap.size]? = some (.cells #[.int .i64 many] 3 (0, 0))
  res : W.heap[w.heap.size + 1]? = some (.cells #[.bool false] 4 (0, 0))
theorem LI.below {w : World} {rb : Nat} {many : Int} {V : RefV} {R : RefM} {N : NetM} {B1 : Nat} {v1 : Value} {qs : List FV} {B2 : Nat} {v2 : Value} {hs : List PV} {B3 : Nat} {v3 : Value} {W W' : World} (h : LI w rb many V R N B1 v1 qs B2 v2 hs B3 v3 W) {B : Nat} (hb : Below B W W') (hB : W.heap.size ≤ B) : LI w rb many V R N B1 v1 qs B2 v2 hs B3 v3 W' := by
  have t : ∀ {j : Nat} {o : Obj}, W.heap[j]? = some o → W'.heap[j]? = some o := fun hj => (hb.block _ (Nat.lt_of_lt_of_le (lt_of_heap hj) hB)).trans hj
  exact ⟨h.ref.below hb hB, t h.rbx, ⟨t h.fl.box, ownsRow_below h.fl.own hb hB, h.fl.p.mono fun x y hx hm => ⟨hm.p.below hb hB, hm.id, hm.src⟩⟩, ⟨t h.hi.box, ownsRow_below h.hi.own hb hB, h.hi.p.mono fun x y hx hm => hm.below hb hB⟩, ⟨t h.ev.1, ownsRow_below h.ev.2 hb hB⟩, t h.mn, t h.res⟩
set_option maxHeartbeats 12800000 in
set_option maxRecDepth 100000 in
theorem loops_any (p : Option Addr) (cp : Nat) (l : List AV) (p' : Option Addr) (cp' : Nat) (more : List AV) (many : Int) (w : World) (acts0 : Acts w p l) (acts1 : Acts w p' more) :
    Calls Try.prog 5 #[.slice p l.length cp, .slice p' more.length cp', .int .i64 many] w fun e w' => e = .returned (.bool true) ∧ Below w.heap.size w w' := by
  have hmix : Try.prog.follows .mixedOrders = true := by kernel_rfl
  have hq53 := fun w f a b => run_eql_func_nil (P := Try.prog) 53 f a b w _ _ _ u53
  have hq56 := fun w f a b => run_eql_func_nil (P := Try.prog) 56 f a b w _ _ _ u56
  have e0 := top1 w (.cells #[.int .i64 many] 3) (.cells #[.bool false] 4)
  have e1 := top0 w (.cells #[.int .i64 many] 3) (.cells #[.bool false] 4)
  have hb1 : Below w.heap.size w ((w.alloc (.cells #[.int .i64 many] 3)).alloc (.cells #[.bool false] 4)) := ((Below.refl _ w).alloc (Nat.le_refl _) _).alloc (by simp) _
  refine (callsIn_wide (n := 9)).1 (callsIn_of_wp_marks Try.func5 rfl trivial ?_ rfl)
  simp only [Try.ntmps5, List.size_toArray, List.length_cons, List.length_nil, Nat.reduceAdd, Nat.reduceSub, Array.replicate_succ, Array.replicate_zero, List.push_toArray, List.append_toArray, List.nil_append, List.cons_append]
  gi_wp2
  have acts_l := acts0.below hb1
  have acts_more := acts1.below hb1
  clear acts0 acts1
  generalize (w.alloc (.cells #[.int .i64 many] 3)).alloc (.cells #[.bool false] 4) = w1 at e0 e1 hb1 acts_l acts_more ⊢
  have hs01 := lt_of_heap e1
  refine ⟨trivial, callsIn_wide.2 ((few_any p cp l 20 w1 acts_l.at_ (by decide)).mono ?_)⟩
  rintro e w2 ⟨rfl, h12⟩
  obtain rfl : w1 = w2 := by first | exact h12 | exact h12.symm
  clear h12
  cases hf1 : fewB l 20
  · gi_wp2
    refine ⟨trivial, ?_⟩
    rename_i hK
    refine hK _ _ ?_
    clear hK
    gi_wp2
    refine ⟨trivial, callsIn_wide.2 ((known_any w1).mono ?_)⟩
    rintro e w3 ⟨rfl, hb⟩
    have f1 := (hb.block _ (lt_of_heap e1)).trans e1
    obtain ⟨v0, _, _⟩ := blk1 f1
    gi_wp2
    refine ⟨.bool true, by simp [results, Try.results5, go_sem, World.cell?, World.setCell, Array.getElem?_modify, f1], rfl, ?_⟩
    exact (hb1.trans (hb.mono hb1.size)).setCell (p := ⟨w.heap.size + 1, 0, none⟩) (by simp) _
  obtain ⟨hlen1, small_l⟩ := fewB_small hf1
  have hl20 : l.length ≤ 20 := by omega
  clear hlen1 hf1
  gi_wp2
  refine ⟨trivial, callsIn_wide.2 ((few_any p' cp' more 20 w1 acts_more.at_ (by decide)).mono ?_)⟩
  rintro e w3 ⟨rfl, h23⟩
  obtain rfl : w1 = w3 := by first | exact h23 | exact h23.symm
  clear h23
  cases hf2 : fewB more 20
  · gi_wp2
    refine ⟨trivial, callsIn_wide.2 ((known_any w1).mono ?_)⟩
    rintro e w4 ⟨rfl, hb⟩
    have f1 := (hb.block _ (lt_of_heap e1)).trans e1
    obtain ⟨v0, _, _⟩ := blk1 f1
    gi_wp2
    refine ⟨.bool true, by simp [results, Try.results5, go_sem, World.cell?, World.setCell, Array.getElem?_modify, f1], rfl, ?_⟩
    exact (hb1.trans (hb.mono hb1.size)).setCell (p := ⟨w.heap.size + 1, 0, none⟩) (by simp) _
  obtain ⟨hlen2, small_more⟩ := fewB_small hf2
  have hm20 : more.length ≤ 20 := by omega
  clear hlen2 hf2
  have hrun := run0 w1
  gi_wp2
  generalize (w1.alloc (.cells #[.slice none 0 0, .slice none 0 0, .int .i64 0, .map none, .slice none 0 0] 31)).alloc (.cells #[.slice none 0 0, .slice none 0 0, .slice none 0 0, .slice none 0 0] 35) = w2 at hrun ⊢
  gi_loopw [7, 9, 10] (fun n fine i wr => ∃ (k b : Nat) (N : NetM) (D : ND) (V : RefV) (R : RefM), k ≤ l.length ∧ i = .int .i64 k ∧ fine = .bool true ∧ n = .pointer (some ⟨b, 0, none⟩) ∧ Run w1 k wr (w1.heap.size + 1) b N D V R) (fun _ _ i _ => l.length - (intOf i).toNat)
  case atStart => exact ⟨0, _, _, _, _, _, Nat.zero_le _, rfl, rfl, rfl, hrun⟩
  case round =>
    obtain ⟨k, b, N, D, V, R, hk, rfl, rfl, rfl, hR⟩ := hrel
    clear hrun
    by_cases hlt : k < l.length
    · skip
      obtain ⟨x, hx⟩ : ∃ x, l[k]? = some x := ⟨_, List.getElem?_eq_getElem hlt⟩
      obtain ⟨bl, ol, hp, hat⟩ := acts_l.at_ (by omega)
      have hax := (hat k x hx).below hR.bel (Nat.le_refl _)
      subst hp
      have HXM := Lib.hid (List.mem_of_getElem? hx)
      have HX := Lib.hid hx
      have hat0 := hat
      obtain ⟨aa, ac, ha, hc, ea, ec, ba, bc, h1, h2, h3, h4⟩ := hR.st.ref.forms
      obtain ⟨al, hi, ev, blv, ps, hs'⟩ := V
      simp only at h1 h2 h3 h4
      subst h1 h2 h3 h4
      have i0 : (0 : Int) ≤ (k : Int) := by omega
      have i1 : (k : Int) < (l.length : Int) := by omega
      have i2 : (l.length : Int) ≤ 40 := by omega
      clear hat hx
      have hbox := hR.box
      simp only at hbox
      gi_wp2
      apply wpIn_region_plan rfl [.rd 0, .rd 1, .rd 2, .rd 3, .rd 4, .rd 5, .act 6, .act 7, .rp 8, .rp 9, .rp 10, .act 11, .act 12, .act 13] [8, 9, 10, 11, 12, 13] (fun w' => w'.heap[w1.heap.size + 1]? = some (.cells #[.slice aa R.all.length ac, .slice ha R.hist.length hc, .slice ea R.ev.length ec, .slice ba R.blk.length bc] 35) ∧ ActAt w' bl (ol + k * 7) x)
      case hm => kernel_rfl
      case hB => kernel_rfl
      case hS => exact ⟨hbox, hax.below (Below.refl wr.heap.size wr).drew (Nat.le_refl _)⟩
      intro W hW
      have hbW : Below wr.heap.size wr W := by subst hW; exact (Below.refl _ _).drew
      clear hW
      iterate 6
        try simp only [Act.put, List.setIfInBounds_toArray, List.set_cons_succ, List.set_cons_zero]
        apply plan_rd rfl rfl
        · intro w' hS
          obtain ⟨y0, y1, y2, y3, _, _⟩ := blk4 hS.1
          have s0 := hS.2.c0
          have s1 := hS.2.c1
          have s2 := hS.2.c2
          have s3 := hS.2.c3
          have s4 := hS.2.c4
          have s5 := hS.2.c5
          have s6 := hS.2.c6
          clear hS
          go_simp
          try rfl
      have hRW := hR.below hbW
      have haW := hax.below hbW (Nat.le_refl _)
      clear hbW hR hax hbox
      obtain ⟨m, hxs⟩ := acts_l.src HXM.out (small_l x HXM.out) hRW.bel hRW.new
      apply plan_act rfl
      try simp only [Act.put, List.setIfInBounds_toArray, List.set_cons_succ, List.set_cons_zero]
      go_wp2_with fail
      refine (do_any (k) _ R b N D x m W hRW.st (by omega) hxs).mono ?_
      rintro e W2 ⟨⟨al5, hi5, ev5, bl5, ps5, hs5⟩, D5, b5, rfl, hst, hkp, hwr, hnw⟩
      obtain ⟨hbox2, hbel2, hnew2, hfarX⟩ := hRW.after hst hkp hwr
      have haX : ActAt W2 bl (ol + k * 7) x := haW.kp hkp (hfarX _ (World.block_lt_of_cell? w1 _ (hat0 k x HX.out).c0))
      generalize (N.step x m) = NS at hst
      generalize (R.step x m) = RS at hst
      obtain ⟨xa, xc, xb, xd, xe, xf, xg, xh, z1, z2, z3, z4⟩ := hst.ref.forms
      simp only at z1 z2 z3 z4
      subst z1 z2 z3 z4
      simp only [RefV.val]
      have hrn := hRW.rnew
      simp only at hbox2
      clear hRW haW hkp hxs
      go_wp2_with fail
      refine act_on ⟨hbox2, haX⟩ ?_
      apply plan_act rfl
      try simp only [Act.put, List.setIfInBounds_toArray, List.set_cons_succ, List.set_cons_zero]
      go_wp2_with fail
      refine act_on ⟨hbox2, haX⟩ ?_
      iterate 3
        try simp only [Act.put, List.setIfInBounds_toArray, List.set_cons_succ, List.set_cons_zero]
        apply plan_rp rfl rfl
        · intro w' _
          go_simp
          try rfl
      apply plan_act rfl
      try simp only [Act.put, List.setIfInBounds_toArray, List.set_cons_succ, List.set_cons_zero]
      go_wp2_with fail
      refine act_late rfl ?_
      obtain ⟨u0, u1, u2, u3, uf, ul⟩ := blk4 hbox2
      apply plan_act rfl
      try simp only [Act.put, List.setIfInBounds_toArray, List.set_cons_succ, List.set_cons_zero]
      go_wp2_with fail
      refine act_late rfl ?_
      have hkY := ((((Kp.refl (fun j => j = w1.heap.size + 1) W2).setCell (p := ⟨w1.heap.size + 1, 0, none⟩) (fun _ => rfl) (.slice xa RS.all.length xc)).setCell (p := ⟨w1.heap.size + 1, 1, none⟩) (fun _ => rfl) (.slice xb RS.hist.length xd)).setCell (p := ⟨w1.heap.size + 1, 2, none⟩) (fun _ => rfl) (.slice xe RS.ev.length xf)).setCell (p := ⟨w1.heap.size + 1, 3, none⟩) (fun _ => rfl) (.slice xg RS.blk.length xh)
      have hboxY : ((((W2.setCell ⟨w1.heap.size + 1, 0, none⟩ (.slice xa RS.all.length xc)).setCell ⟨w1.heap.size + 1, 1, none⟩ (.slice xb RS.hist.length xd)).setCell ⟨w1.heap.size + 1, 2, none⟩ (.slice xe RS.ev.length xf)).setCell ⟨w1.heap.size + 1, 3, none⟩ (.slice xg RS.blk.length xh)).heap[w1.heap.size + 1]? = some (.cells #[.slice xa RS.all.length xc, .slice xb RS.hist.length xd, .slice xe RS.ev.length xf, .slice xg RS.blk.length xh] 35) := by simp [World.setCell, Array.getElem?_modify, hbox2]
      have hRY : Run w1 (k + 1) ((((W2.setCell ⟨w1.heap.size + 1, 0, none⟩ (.slice xa RS.all.length xc)).setCell ⟨w1.heap.size + 1, 1, none⟩ (.slice xb RS.hist.length xd)).setCell ⟨w1.heap.size + 1, 2, none⟩ (.slice xe RS.ev.length xf)).setCell ⟨w1.heap.size + 1, 3, none⟩ (.slice xg RS.blk.length xh)) (w1.heap.size + 1) b5 NS D5 ⟨.slice xa RS.all.length xc, .slice xb RS.hist.length xd, .slice xe RS.ev.length xf, .slice xg RS.blk.length xh, ps5, hs5⟩ RS := Run.stored hst hbox2 hkY hboxY hbel2 hnew2 hrn
      clear u0 u1 u2 u3 uf ul hbox2 hboxY hst hbel2 hnew2 haX hwr hnw hkY
      generalize ((((W2.setCell ⟨w1.heap.size + 1, 0, none⟩ (.slice xa RS.all.length xc)).setCell ⟨w1.heap.size + 1, 1, none⟩ (.slice xb RS.hist.length xd)).setCell ⟨w1.heap.size + 1, 2, none⟩ (.slice xe RS.ev.length xf)).setCell ⟨w1.heap.size + 1, 3, none⟩ (.slice xg RS.blk.length xh)) = Y at hRY ⊢
      apply plan_act rfl
      try simp only [Act.put, List.setIfInBounds_toArray, List.set_cons_succ, List.set_cons_zero]
      go_wp2_with fail
      refine act_late rfl ?_
      refine plan_end (Good.normal ?_)
      gi_wp2
      go_roundw
      case rel => exact ⟨k + 1, b5, NS, D5, _, RS, by omega, by go_num, rfl, rfl, hRY⟩
      case measure => simp [intOf]; omega

    · obtain rfl : k = l.length := by omega
      have hlR := hR.st.ok.lim (by omega)
      have hl := hR.st.lk.lim hR.st.ok (by omega)
      have hfpw := hR.st.rep.fp_lt
      gi_wp2
      refine ⟨trivial, callsIn_wide.2 ((flight_any wr b N D hR.st.rep hl).mono ?_)⟩
      rintro e w3 ⟨B1, v1, qs, rfl, hbx1, hB1, hfa, hb3⟩
      have hR3 := hR.below hb3
      have fl3 : FlSeq B1 v1 qs N.fl w3 := ⟨hbx1, hfa.own, hfa.p⟩
      have sp1 : ∀ k, (k = B1 ∨ v1.ownBlock = some k ∨ ∃ x ∈ qs, x.p.blk = some k) → wr.heap.size ≤ k ∧ k < w3.heap.size := fun k hk => by
        rcases hk with rfl | hk | ⟨x, hx, hk⟩
        · exact ⟨hB1, lt_of_heap hbx1⟩
        · exact ⟨hfa.vb k hk, (hfa.own.lt k hk).2⟩
        · exact ⟨hfa.qb x hx k hk, hfa.qlt hx hk⟩
      clear hbx1 hfa hR
      gi_wp2
      refine ⟨trivial, callsIn_wide.2 ((history_any w3 b N D hR3.st.rep hl).mono ?_)⟩
      rintro e w4 ⟨B2, v2, rfl, hbx2, hB2, hown2, hb4⟩
      have hR4 := hR3.below hb4
      have fl4 : FlSeq B1 v1 qs N.fl w4 := ⟨(hb4.block _ (lt_of_heap fl3.box)).trans fl3.box, ownsRow_below fl3.own hb4 (Nat.le_refl _), fl3.p.mono fun x y hx hm => ⟨hm.p.below hb4 (Nat.le_refl _), hm.id, hm.src⟩⟩
      have hi4 : PkSeq B2 v2 D.hs N.hist w4 := ⟨hbx2, ownsRow_base hown2 (Nat.zero_le _), hR4.st.rep.histp⟩
      have sp2 : ∀ k, (k = B2 ∨ v2.ownBlock = some k) → w3.heap.size ≤ k ∧ k < w4.heap.size := fun k hk => by
        rcases hk with rfl | hk
        · exact ⟨hB2, lt_of_heap hbx2⟩
        · exact hown2.lt k hk
      clear hbx2 hown2 hR3 fl3
      gi_wp2
      refine ⟨trivial, callsIn_wide.2 ((events_any w4 b N D hR4.st.rep hl).mono ?_)⟩
      rintro e w5 ⟨B3, v3, rfl, hbx3, hB3, hown3, hb5⟩
      have hR5 := hR4.below hb5
      have fl5 : FlSeq B1 v1 qs N.fl w5 := ⟨(hb5.block _ (lt_of_heap fl4.box)).trans fl4.box, ownsRow_below fl4.own hb5 (Nat.le_refl _), fl4.p.mono fun x y hx hm => ⟨hm.p.below hb5 (Nat.le_refl _), hm.id, hm.src⟩⟩
      have hi5 : PkSeq B2 v2 D.hs N.hist w5 := ⟨(hb5.block _ (lt_of_heap hi4.box)).trans hi4.box, ownsRow_below hi4.own hb5 (Nat.le_refl _), hi4.p.mono fun x y hx hm => hm.below hb5 (Nat.le_refl _)⟩
      have ev5 : EvSeq B3 v3 N.ev w5 := ⟨hbx3, ownsRow_base hown3 (Nat.zero_le _)⟩
      have hz3 := hb3.size
      have hz4 := hb4.size
      have hz5 := hb5.size
      have hits : Its w5 b D N B1 v1 qs B2 v2 D.hs B3 v3 := ⟨fl5, hi5, ev5, fun k hk => by
        rcases hk with hk | hk | hk | hk | hk | hk | hk | hk
        · have := sp1 k (.inl hk); exact ⟨fun h => by have := hfpw k (.inl h); omega, by omega⟩
        · have := sp1 k (.inr (.inl hk)); exact ⟨fun h => by have := hfpw k (.inl h); omega, by omega⟩
        · have := sp1 k (.inr (.inr hk)); exact ⟨fun h => by have := hfpw k (.inl h); omega, by omega⟩
        · have := sp2 k (.inl hk); exact ⟨fun h => by have := hfpw k (.inl h); omega, by omega⟩
        · have := sp2 k (.inr hk); exact ⟨fun h => by have := hfpw k (.inl h); omega, by omega⟩
        · obtain ⟨x, hx, hk⟩ := hk
          exact ⟨hR5.st.rep.hp_wr ⟨x, hx, hk⟩, by obtain ⟨m, _, hm⟩ := hR5.st.rep.histp.left hx; exact hm.lt hk⟩
        · subst hk; have := lt_of_heap hbx3; exact ⟨fun h => by have := hfpw _ (.inl h); omega, this⟩
        · have := hown3.lt k hk; exact ⟨fun h => by have := hfpw k (.inl h); omega, this.2⟩⟩
      clear hbx3 hown3 hR4 fl4 hi4 fl5 hi5 ev5 sp1 sp2 hb3 hb4 hb5 hfpw
      obtain ⟨aa, ac, ha, hc, ea, ec, ba, bc, h1, h2, h3, h4⟩ := hR5.st.ref.forms
      obtain ⟨al, hi, ev, blv, ps, hs'⟩ := V
      simp only at h1 h2 h3 h4
      subst h1 h2 h3 h4
      have hbox := hR5.box
      simp only at hbox
      obtain ⟨y0, y1, y2, y3, _, _⟩ := blk4 hbox
      gi_wp2
      have hbx := (Below.refl w5.heap.size w5).alloc (Nat.le_refl _) (.cells #[.slice aa R.all.length ac, .slice ha R.hist.length hc, .slice ea R.ev.length ec, .slice ba R.blk.length bc] 35)
      have hR6 : Run w1 (l.length + 0) (w5.alloc (.cells #[.slice aa R.all.length ac, .slice ha R.hist.length hc, .slice ea R.ev.length ec, .slice ba R.blk.length bc] 35)) w5.heap.size b N D ⟨.slice aa R.all.length ac, .slice ha R.hist.length hc, .slice ea R.ev.length ec, .slice ba R.blk.length bc, ps, hs'⟩ R := ⟨hR5.st.below hbx, heap_alloc_new w5 _, hR5.new, hR5.bel.trans (hbx.mono hR5.bel.size), hR5.bel.size⟩
      have hW6 : Within w5 b D b D (w5.alloc (.cells #[.slice aa R.all.length ac, .slice ha R.hist.length hc, .slice ea R.ev.length ec, .slice ba R.blk.length bc] 35)) := (Within.start w5 b D).below hbx
      clear hbx y0 y1 y2 y3
      generalize w5.alloc (.cells #[.slice aa R.all.length ac, .slice ha R.hist.length hc, .slice ea R.ev.length ec, .slice ba R.blk.length bc] 35) = w6 at hR6 hW6 ⊢
      gi_loopw [7, 9, 15] (fun n fine i wr => ∃ (k b' : Nat) (N' : NetM) (D' : ND) (V' : RefV) (R' : RefM), k ≤ more.length ∧ i = .int .i64 k ∧ fine = .bool true ∧ n = .pointer (some ⟨b', 0, none⟩) ∧ Run w1 (l.length + k) wr w5.heap.size b' N' D' V' R' ∧ Within w5 b D b' D' wr) (fun _ _ i _ => more.length - (intOf i).toNat)
      case atStart => exact ⟨0, _, _, _, _, _, Nat.zero_le _, rfl, rfl, rfl, hR6, hW6⟩
      case round =>
        obtain ⟨k, b', N', D', V', R', hk, rfl, rfl, rfl, hR, hW⟩ := hrel
        clear hR6 hW6
        by_cases hlt : k < more.length
        · skip
          obtain ⟨x, hx⟩ : ∃ x, more[k]? = some x := ⟨_, List.getElem?_eq_getElem hlt⟩
          obtain ⟨bl, ol, hp, hat⟩ := acts_more.at_ (by omega)
          have hax := (hat k x hx).below hR.bel (Nat.le_refl _)
          subst hp
          have HXM := Lib.hid (List.mem_of_getElem? hx)
          have HX := Lib.hid hx
          have hat0 := hat
          obtain ⟨aa2, ac2, ha2, hc2, ea2, ec2, ba2, bc2, h1, h2, h3, h4⟩ := hR.st.ref.forms
          obtain ⟨al2, hi2, ev2, blv2, ps2, hs2'⟩ := V'
          simp only at h1 h2 h3 h4
          subst h1 h2 h3 h4
          have i0 : (0 : Int) ≤ (k : Int) := by omega
          have i1 : (k : Int) < (more.length : Int) := by omega
          have i2 : (more.length : Int) ≤ 40 := by omega
          clear hat hx
          have hbox := hR.box
          simp only at hbox
          gi_wp2
          apply wpIn_region_plan rfl [.rd 0, .rd 1, .rd 2, .rd 3, .rd 4, .rd 5, .act 6, .act 7, .rp 8, .rp 9, .rp 10, .act 11, .act 12, .act 13] [8, 9, 10, 11, 12, 13] (fun w' => w'.heap[w5.heap.size]? = some (.cells #[.slice aa2 R'.all.length ac2, .slice ha2 R'.hist.length hc2, .slice ea2 R'.ev.length ec2, .slice ba2 R'.blk.length bc2] 35) ∧ ActAt w' bl (ol + k * 7) x)
          case hm => kernel_rfl
          case hB => kernel_rfl
          case hS => exact ⟨hbox, hax.below (Below.refl wr.heap.size wr).drew (Nat.le_refl _)⟩
          intro W hW
          have hbW : Below wr.heap.size wr W := by subst hW; exact (Below.refl _ _).drew
          clear hW
          iterate 6
            try simp only [Act.put, List.setIfInBounds_toArray, List.set_cons_succ, List.set_cons_zero]
            apply plan_rd rfl rfl
            · intro w' hS
              obtain ⟨y0, y1, y2, y3, _, _⟩ := blk4 hS.1
              have s0 := hS.2.c0
              have s1 := hS.2.c1
              have s2 := hS.2.c2
              have s3 := hS.2.c3
              have s4 := hS.2.c4
              have s5 := hS.2.c5
              have s6 := hS.2.c6
              clear hS
              go_simp
              try rfl
          have hRW := hR.below hbW
          have haW := hax.below hbW (Nat.le_refl _)
          have hWW := hW.below hbW
          clear hbW hR hax hbox
          obtain ⟨m, hxs⟩ := acts_more.src HXM.out (small_more x HXM.out) hRW.bel hRW.new
          apply plan_act rfl
          try simp only [Act.put, List.setIfInBounds_toArray, List.set_cons_succ, List.set_cons_zero]
          go_wp2_with fail
          refine (do_any (l.length + k) _ R' b' N' D' x m W hRW.st (by omega) hxs).mono ?_
          rintro e W2 ⟨⟨al5, hi5, ev5, bl5, ps5, hs5⟩, D5, b5, rfl, hst, hkp, hwr, hnw⟩
          obtain ⟨hbox2, hbel2, hnew2, hfarX⟩ := hRW.after hst hkp hwr
          have haX : ActAt W2 bl (ol + k * 7) x := haW.kp hkp (hfarX _ (World.block_lt_of_cell? w1 _ (hat0 k x HX.out).c0))
          have hW2 := hWW.step hkp hwr
          generalize (N'.step x m) = NS at hst
          generalize (R'.step x m) = RS at hst
          obtain ⟨xa, xc, xb, xd, xe, xf, xg, xh, z1, z2, z3, z4⟩ := hst.ref.forms
          simp only at z1 z2 z3 z4
          subst z1 z2 z3 z4
          simp only [RefV.val]
          have hrn := hRW.rnew
          simp only at hbox2
          clear hRW haW hkp hxs
          go_wp2_with fail
          refine act_on ⟨hbox2, haX⟩ ?_
          apply plan_act rfl
          try simp only [Act.put, List.setIfInBounds_toArray, List.set_cons_succ, List.set_cons_zero]
          go_wp2_with fail
          refine act_on ⟨hbox2, haX⟩ ?_
          iterate 3
            try simp only [Act.put, List.setIfInBounds_toArray, List.set_cons_succ, List.set_cons_zero]
            apply plan_rp rfl rfl
            · intro w' _
              go_simp
              try rfl
          apply plan_act rfl
          try simp only [Act.put, List.setIfInBounds_toArray, List.set_cons_succ, List.set_cons_zero]
          go_wp2_with fail
          refine act_late rfl ?_
          obtain ⟨u0, u1, u2, u3, uf, ul⟩ := blk4 hbox2
          apply plan_act rfl
          try simp only [Act.put, List.setIfInBounds_toArray, List.set_cons_succ, List.set_cons_zero]
          go_wp2_with fail
          refine act_late rfl ?_
          have hkY := ((((Kp.refl (fun j => j = w5.heap.size) W2).setCell (p := ⟨w5.heap.size, 0, none⟩) (fun _ => rfl) (.slice xa RS.all.length xc)).setCell (p := ⟨w5.heap.size, 1, none⟩) (fun _ => rfl) (.slice xb RS.hist.length xd)).setCell (p := ⟨w5.heap.size, 2, none⟩) (fun _ => rfl) (.slice xe RS.ev.length xf)).setCell (p := ⟨w5.heap.size, 3, none⟩) (fun _ => rfl) (.slice xg RS.blk.length xh)
          have hboxY : ((((W2.setCell ⟨w5.heap.size, 0, none⟩ (.slice xa RS.all.length xc)).setCell ⟨w5.heap.size, 1, none⟩ (.slice xb RS.hist.length xd)).setCell ⟨w5.heap.size, 2, none⟩ (.slice xe RS.ev.length xf)).setCell ⟨w5.heap.size, 3, none⟩ (.slice xg RS.blk.length xh)).heap[w5.heap.size]? = some (.cells #[.slice xa RS.all.length xc, .slice xb RS.hist.length xd, .slice xe RS.ev.length xf, .slice xg RS.blk.length xh] 35) := by simp [World.setCell, Array.getElem?_modify, hbox2]
          have hRY : Run w1 (l.length + k + 1) ((((W2.setCell ⟨w5.heap.size, 0, none⟩ (.slice xa RS.all.length xc)).setCell ⟨w5.heap.size, 1, none⟩ (.slice xb RS.hist.length xd)).setCell ⟨w5.heap.size, 2, none⟩ (.slice xe RS.ev.length xf)).setCell ⟨w5.heap.size, 3, none⟩ (.slice xg RS.blk.length xh)) (w5.heap.size) b5 NS D5 ⟨.slice xa RS.all.length xc, .slice xb RS.hist.length xd, .slice xe RS.ev.length xf, .slice xg RS.blk.length xh, ps5, hs5⟩ RS := Run.stored hst hbox2 hkY hboxY hbel2 hnew2 hrn
          have hWY := hW2.far hkY (fun j e => by omega)
          clear hW hWW hW2
          clear u0 u1 u2 u3 uf ul hbox2 hboxY hst hbel2 hnew2 haX hwr hnw hkY
          generalize ((((W2.setCell ⟨w5.heap.size, 0, none⟩ (.slice xa RS.all.length xc)).setCell ⟨w5.heap.size, 1, none⟩ (.slice xb RS.hist.length xd)).setCell ⟨w5.heap.size, 2, none⟩ (.slice xe RS.ev.length xf)).setCell ⟨w5.heap.size, 3, none⟩ (.slice xg RS.blk.length xh)) = Y at hRY hWY ⊢
          apply plan_act rfl
          try simp only [Act.put, List.setIfInBounds_toArray, List.set_cons_succ, List.set_cons_zero]
          go_wp2_with fail
          refine act_late rfl ?_
          refine plan_end (Good.normal ?_)
          gi_wp2
          go_roundw
          case rel => exact ⟨k + 1, b5, NS, D5, _, RS, by omega, by go_num, rfl, rfl, hRY, hWY⟩
          case measure => simp [intOf]; omega

        · obtain rfl : k = more.length := by omega
          obtain ⟨W0, hW0⟩ : ∃ W0, W0 = wr := ⟨_, rfl⟩
          subst hW0
          obtain ⟨if1, if2, if3⟩ := hits.within hW
          have LK := hR5.st.lk
          have HL : LI w (w1.heap.size + 1) many ⟨.slice aa R.all.length ac, .slice ha R.hist.length hc, .slice ea R.ev.length ec, .slice ba R.blk.length bc, ps, hs'⟩ R N B1 v1 qs B2 v2 D.hs B3 v3 W0 := ⟨hR5.st.ref.same (fun j hj => hW.kp.block j (hR5.st.ref.lt j hj) (hR5.st.ap j hj)), (hW.kp.block _ (lt_of_heap hbox) (fun h => hR5.st.rep.notbox35 (.inl h) hbox)).trans hbox, if1, if2, if3, (hR.bel.block _ (by omega)).trans e0, (hR.bel.block _ (by omega)).trans e1⟩
          have hbw0 : Below w.heap.size w W0 := hb1.trans (hR.bel.mono hb1.size)
          have hww : w.heap.size + 1 < W0.heap.size := lt_of_heap HL.res
          clear hits hW hR hR5 hbox if1 if2 if3 e0 e1 hb1
          gi_wp2
          have hT := heap_alloc_new W0 (.cells #[.int .i64 0] 3)
          have hbU : Below W0.heap.size W0 (W0.alloc (.cells #[.int .i64 0] 3)) := (Below.refl _ _).alloc (Nat.le_refl _) _
          generalize hTe : W0.heap.size = T at hT ⊢
          have hT0 : W0.heap.size ≤ T := by omega
          clear hTe
          generalize W0.alloc (.cells #[.int .i64 0] 3) = U at hT hbU ⊢
          refine wpIn_loop_turns ?_
          intro K1 hK1
          obtain ⟨z0, zf, _⟩ := blk1 hT
          gi_wp2
          have hUs : W0.heap.size ≤ U.heap.size := hbU.size
          have hTU : T < U.heap.size := lt_of_heap hT
          obtain ⟨hcA, hcB0, hcC0⟩ := top3 U (.cells #[.int .i64 0] 3) (.cells #[.int .i64 0] 3) (.cells #[.int .i64 0] 3)
          have hx3 : Below U.heap.size U (((U.alloc (.cells #[.int .i64 0] 3)).alloc (.cells #[.int .i64 0] 3)).alloc (.cells #[.int .i64 0] 3)) := (((Below.refl _ _).alloc (Nat.le_refl _) _).alloc (by simp) _).alloc (by simp; omega) _
          have hbX : Below W0.heap.size W0 (((U.alloc (.cells #[.int .i64 0] 3)).alloc (.cells #[.int .i64 0] 3)).alloc (.cells #[.int .i64 0] 3)) := hbU.trans (hx3.mono hbU.size)
          have tX := (hx3.block _ hTU).trans hT
          clear z0 zf hx3 hT
          generalize ((U.alloc (.cells #[.int .i64 0] 3)).alloc (.cells #[.int .i64 0] 3)).alloc (.cells #[.int .i64 0] 3) = X0 at hcA hcB0 hcC0 hbX tX ⊢
          generalize U.heap.size = C at hcA hcB0 hcC0 hUs hTU ⊢
          have hzA := lt_of_heap hcC0
          have hltA0 : C < X0.heap.size := lt_of_heap hcA
          refine wpIn_range_inBlock rfl (by decide) (gf := 40) (lb := #[.pointer (some ⟨B1, 0, none⟩)]) rfl trivial (enters_of Try.func40 (by kernel_rfl) rfl)
            (flight_gives 8 (by decide) B1 v1 qs N.fl (by have := hl.fl; omega) hl.flok) (fun B k args X h => by obtain ⟨x, q, _, rfl, _⟩ := h; rfl)
            (fun k X => Kp (fun j => j = C) X0 X ∧ X.heap[C]? = some (.cells #[.int .i64 k] 3 (0, 0))) (fun X => Kp (fun j => j = C) X0 X ∧ ∃ v : Int, X.heap[C]? = some (.cells #[.int .i64 v] 3 (0, 0))) (fun X => Kp (fun j => j = C) X0 X ∧ ∃ v : Int, X.heap[C]? = some (.cells #[.int .i64 v] 3 (0, 0)))
            (fun k X Y h hb => ⟨h.1.below hb (Nat.le_refl _), (hb.block _ (by omega)).trans h.2⟩) (fun X Y h hb => ⟨h.1.below hb (Nat.le_refl _), h.2.elim fun v hv => ⟨v, (hb.block _ (by omega)).trans hv⟩⟩)
            (fun k X h => (HL.below (Below.kp hbX h.1 (Nat.le_refl _) (fun j e => by omega)) (Nat.le_refl _)).fl)
            ⟨Kp.refl _ _, hcA⟩ (fun X h => ⟨h.1, _, h.2⟩) (fun X h => h) ?roundA0 ?endA0
          case roundA0 =>
            rintro lp k args X hk ⟨hkp, hc0⟩ hsz ⟨x, ⟨qf, qt, qa, qn, qc⟩, hx, rfl, hq, hqb⟩
            simp only [PV.val]
            obtain ⟨m, hm, rfl⟩ : ∃ m, N.fl[k]? = some m ∧ x = (m.id, m.pk) := by
              simp only [idPk, List.getElem?_map] at hx
              cases hm : N.fl[k]? with
              | none => rw [hm] at hx; cases hx
              | some m => rw [hm] at hx; exact ⟨m, rfl, (Option.some.inj hx).symm⟩
            obtain ⟨n, y, O⟩ := LK.fly hm
            simp only at hq
            rw [O.id]
            clear hx
            gi_wp2
            have hXs := hkp.size
            refine ⟨(KeepsOthers.alloc _ _).from _, ⟨hkp.alloc _, (Below.heap_alloc X _ (C) (by omega)).trans hc0⟩, ?_⟩
            intro o o' hlo hoc hll
            have eP0 := heap_alloc_new X (.cells #[.string qf, .string qt, .slice qa qn qc] 40)
            have hq1 := hq.below ((Below.refl X.heap.size X).alloc (Nat.le_refl _) (.cells #[.string qf, .string qt, .slice qa qn qc] 40)) (Nat.le_refl _)
            have hlP : X.heap.size ≠ lp := fun e => by subst e; rw [eP0] at hlo; cases hlo; cases hoc
            have hql : ∀ j, PV.blk ⟨qf, qt, qa, qn, qc⟩ = some j → j ≠ lp := fun j hj e => by
              obtain ⟨cq, hcq⟩ := hq1.block hj
              subst e
              rw [hcq] at hlo; cases hlo; cases hoc
            have hZ : Kp (fun j => j = C) X0 ((X.alloc (.cells #[.string qf, .string qt, .slice qa qn qc] 40)).putObj lp o') := (hkp.alloc _).below (below_put (B := X0.heap.size) o' hll hlo) (Nat.le_refl _)
            have eP := (World.putObj_heap_other (w := X.alloc (.cells #[.string qf, .string qt, .slice qa qn qc] 40)) (o := o') hlP).trans eP0
            have eC := (World.putObj_heap_other (w := X.alloc (.cells #[.string qf, .string qt, .slice qa qn qc] 40)) (o := o') (show C ≠ lp by omega)).trans ((Below.heap_alloc X _ (C) (by omega)).trans hc0)
            have hqZ : POwn ((X.alloc (.cells #[.string qf, .string qt, .slice qa qn qc] 40)).putObj lp o') ⟨qf, qt, qa, qn, qc⟩ m.pk := hq1.same fun j hj => World.putObj_heap_other (hql j hj)
            clear hq1 hq eP0 hlo hqb hql hlP hkp hc0
            generalize (X.alloc (.cells #[.string qf, .string qt, .slice qa qn qc] 40)).putObj lp o' = Z at hZ eP eC hqZ ⊢
            generalize X.heap.size = A at eP hsz hXs ⊢
            have HZ := HL.below (Below.kp hbX hZ (Nat.le_refl _) (fun j e => by omega)) (Nat.le_refl _)
            have tZ := (hZ.block _ (lt_of_heap tX) (by omega)).trans tX
            have hnl := (List.getElem?_eq_some_iff.1 O.all).1
            have hla := hlR.all
            obtain ⟨xr, hxr, hxm⟩ := HZ.ref.allp.at O.all
            have hall := HZ.ref.all
            simp only at hxr hall
            obtain ⟨g, cap, hgv, _, lg⟩ := hall.form (by omega)
            injection hgv with hv1 _ hv2
            subst hv1 hv2
            obtain ⟨d0, d1, d2, d3, d4⟩ := all_cells hall hxr
            have hyp := hxm.p
            have i0 : (0 : Int) ≤ (n : Int) := by omega
            have i1 : (n : Int) < (R.all.length : Int) := by omega
            have i2 : (R.all.length : Int) ≤ 50000 := by omega
            clear hall hxr hxm
            have rbZ := HZ.rbx
            simp only at rbZ
            gi_wp2
            apply wpIn_region_plan rfl [.rd 0, .rd 1, .act 2, .act 3, .act 4, .rd 5, .rd 6, .rd 7, .rd 8, .rd 9, .rd 10, .rd 11, .act 12, .act 13, .act 14] [13, 14] (fun w' => w'.heap[C]? = some (.cells #[.int .i64 k] 3 (0, 0)) ∧ w'.heap[w1.heap.size + 1]? = some (.cells #[.slice (some ⟨g, 0, none⟩) R.all.length ac, .slice ha R.hist.length hc, .slice ea R.ev.length ec, .slice ba R.blk.length bc] 35) ∧ w'.heap[A]? = some (.cells #[.string qf, .string qt, .slice qa qn qc] 40) ∧
              w'.cell? ⟨g, n * 5, none⟩ = some (.string xr.p.f) ∧ w'.cell? ⟨g, n * 5 + 1, none⟩ = some (.string xr.p.t) ∧ w'.cell? ⟨g, n * 5 + 2, none⟩ = some (.slice xr.p.ba xr.p.bn xr.p.bc))
            case hm => kernel_rfl
            case hB => kernel_rfl
            case hS => exact ⟨eC, rbZ, eP, d0, d1, d2⟩
            intro W hW
            have hbW : Below Z.heap.size Z W := by subst hW; exact (Below.refl _ _).drew
            clear hW
            iterate 2
              try simp only [Act.put, List.setIfInBounds_toArray, List.set_cons_succ, List.set_cons_zero]
              apply plan_rd rfl rfl
              · intro w' hS
                obtain ⟨sK, sB, sP, s0, s1, s2⟩ := hS
                obtain ⟨sK, _, _⟩ := blk1 sK
                obtain ⟨y0, y1, y2, y3, _, _⟩ := blk4 sB
                obtain ⟨p0, p1, p2, _, _, _, _⟩ := blk3 sP
                go_simp
                try rfl
            have HS := Lib.hid (keepS hbW (Nat.le_refl _) ⟨eC, rbZ, eP, d0, d1, d2⟩)
            apply plan_act rfl
            try simp only [Act.put, List.setIfInBounds_toArray, List.set_cons_succ, List.set_cons_zero]
            go_wp2_with fail
            refine (flies_any _ R n W (HZ.ref.below hbW (Nat.le_refl _)) hlR).mono ?_
            rw [O.flies]
            rintro e W1 ⟨rfl, hbl1⟩
            have HS1 := Lib.hid (keepS hbl1 (Nat.le_refl _) HS.out)
            have hbb1 := hbW.trans (hbl1.mono hbW.size)
            clear hbl1 HS hbW
            go_wp2_with fail
            refine act_on HS1.out ?_
            iterate 2
              apply plan_act rfl
              try simp only [Act.put, List.setIfInBounds_toArray, List.set_cons_succ, List.set_cons_zero]
              go_wp2_with fail
              refine act_on HS1.out ?_
            iterate 7
              try simp only [Act.put, List.setIfInBounds_toArray, List.set_cons_succ, List.set_cons_zero]
              apply plan_rd rfl rfl
              · intro w' hS
                obtain ⟨sK, sB, sP, s0, s1, s2⟩ := hS
                obtain ⟨sK, _, _⟩ := blk1 sK
                obtain ⟨y0, y1, y2, y3, _, _⟩ := blk4 sB
                obtain ⟨p0, p1, p2, _, _, _, _⟩ := blk3 sP
                go_simp
                try rfl
            apply plan_act rfl
            try simp only [Act.put, List.setIfInBounds_toArray, List.set_cons_succ, List.set_cons_zero]
            go_wp2_with fail
            refine (same_any ⟨qf, qt, qa, qn, qc⟩ xr.p m.pk y.pk W1 (hqZ.below hbb1 (Nat.le_refl _)).pin (hyp.below hbb1 (Nat.le_refl _)).pin).mono ?_
            rw [O.pk, sameR_refl]
            rintro e W2 ⟨rfl, hbl2⟩
            have HS2 := Lib.hid (keepS hbl2 (Nat.le_refl _) HS1.out)
            have hb2 := hbb1.trans (hbl2.mono hbb1.size)
            clear hbl2 HS1 hbb1
            go_wp2_with fail
            refine act_on HS2.out ?_
            iterate 2
              apply plan_act rfl
              try simp only [Act.put, List.setIfInBounds_toArray, List.set_cons_succ, List.set_cons_zero]
              go_wp2_with fail
              refine act_late rfl ?_
            refine plan_end (Good.normal ?_)
            have wC := (hb2.block _ (lt_of_heap eC)).trans eC
            have wT := (hb2.block _ (lt_of_heap tZ)).trans tZ
            have wM := (hb2.block _ (lt_of_heap HZ.mn)).trans HZ.mn
            have hF : KeepsOthers Z W2 := keepsOthers_of_below hb2
            have hK2 : Kp (fun j => j = C) X0 W2 := hZ.below hb2 (by have := lt_of_heap eP; omega)
            obtain ⟨n0, n1, _⟩ := blk1 wC
            obtain ⟨n2, _, _⟩ := blk1 wT
            obtain ⟨n3, _, _⟩ := blk1 wM
            have hTC : T ≠ C := by omega
            have hTC' : C ≠ T := by omega
            have hMC' : C ≠ w.heap.size := by omega
            have hMC : w.heap.size ≠ C := by omega
            have j9 : (k : Int) < (50000 : Int) := by have : k < N.fl.length := hk; have hflx := hl.fl; have hhix := hl.hist; have hevx := hl.ev; omega
            have j8 : (0 : Int) ≤ (k : Int) := by omega
            clear HZ
            by_cases hmk : many ≤ (k : Int) + 1
            · gi_wp2
              refine ⟨(hF.trans (KeepsOthers.setCell _ _ _)).from _, rfl, hK2.setCell (fun _ => rfl) _, (k : Int) + 1, ?_⟩
              simp [World.setCell, Array.getElem?_modify, wC]
            · have hmk' : (k : Int) + 1 < many := by omega
              gi_wp2
              refine ⟨(hF.trans (KeepsOthers.setCell _ _ _)).from _, hK2.setCell (fun _ => rfl) _, ?_⟩
              simp [World.setCell, Array.getElem?_modify, wC]
          case endA0 =>
            rintro DA XA hDDA ⟨hkDA, vDA, hcDA⟩ mDA
            have bA : Below W0.heap.size W0 XA := Below.kp hbX hkDA (Nat.le_refl _) (fun j e => by omega)
            have tA := (hkDA.block _ (lt_of_heap tX) (by omega)).trans tX
            have hcB := (hkDA.block _ (lt_of_heap hcB0) (by omega)).trans hcB0
            have hcC1 := (hkDA.block _ (lt_of_heap hcC0) (by omega)).trans hcC0
            have hzB := hkDA.size
            clear tX hcB0 hcC0 hkDA
            gi_wp2
            have hltB0 : C + 1 < XA.heap.size := lt_of_heap hcB
            refine wpIn_range_inBlock rfl (by decide) (gf := 42) (lb := #[.pointer (some ⟨B2, 0, none⟩)]) rfl trivial (enters_of Try.func42 (by kernel_rfl) rfl)
              (history_gives 8 (by decide) B2 v2 D.hs N.hist (by have := hl.hist; omega) hl.histok) (fun B k args X h => by obtain ⟨x, q, _, rfl, _⟩ := h; rfl)
              (fun k X => Kp (fun j => j = C + 1) XA X ∧ X.heap[C + 1]? = some (.cells #[.int .i64 k] 3 (0, 0))) (fun X => Kp (fun j => j = C + 1) XA X ∧ ∃ v : Int, X.heap[C + 1]? = some (.cells #[.int .i64 v] 3 (0, 0))) (fun X => Kp (fun j => j = C + 1) XA X ∧ ∃ v : Int, X.heap[C + 1]? = some (.cells #[.int .i64 v] 3 (0, 0)))
              (fun k X Y h hb => ⟨h.1.below hb (Nat.le_refl _), (hb.block _ (by omega)).trans h.2⟩) (fun X Y h hb => ⟨h.1.below hb (Nat.le_refl _), h.2.elim fun v hv => ⟨v, (hb.block _ (by omega)).trans hv⟩⟩)
              (fun k X h => (HL.below (Below.kp bA h.1 (Nat.le_refl _) (fun j e => by omega)) (Nat.le_refl _)).hi)
              ⟨Kp.refl _ _, hcB⟩ (fun X h => ⟨h.1, _, h.2⟩) (fun X h => h) ?roundB0 ?endB0
            case roundB0 =>
              rintro lp k args X hk ⟨hkp, hc0⟩ hsz ⟨x, ⟨qf, qt, qa, qn, qc⟩, hx, rfl, hq, hqb⟩
              simp only [PV.val]
              obtain ⟨m, hm, rfl⟩ := numbered_get hx
              simp only at hq
              clear hx
              gi_wp2
              have hXs := hkp.size
              refine ⟨(KeepsOthers.alloc _ _).from _, ⟨hkp.alloc _, (Below.heap_alloc X _ (C + 1) (by omega)).trans hc0⟩, ?_⟩
              intro o o' hlo hoc hll
              have eP0 := heap_alloc_new X (.cells #[.string qf, .string qt, .slice qa qn qc] 40)
              have hq1 := hq.below ((Below.refl X.heap.size X).alloc (Nat.le_refl _) (.cells #[.string qf, .string qt, .slice qa qn qc] 40)) (Nat.le_refl _)
              have hlP : X.heap.size ≠ lp := fun e => by subst e; rw [eP0] at hlo; cases hlo; cases hoc
              have hql : ∀ j, PV.blk ⟨qf, qt, qa, qn, qc⟩ = some j → j ≠ lp := fun j hj e => by
                obtain ⟨cq, hcq⟩ := hq1.block hj
                subst e
                rw [hcq] at hlo; cases hlo; cases hoc
              have hZ : Kp (fun j => j = C + 1) XA ((X.alloc (.cells #[.string qf, .string qt, .slice qa qn qc] 40)).putObj lp o') := (hkp.alloc _).below (below_put (B := XA.heap.size) o' hll hlo) (Nat.le_refl _)
              have eP := (World.putObj_heap_other (w := X.alloc (.cells #[.string qf, .string qt, .slice qa qn qc] 40)) (o := o') hlP).trans eP0
              have eC := (World.putObj_heap_other (w := X.alloc (.cells #[.string qf, .string qt, .slice qa qn qc] 40)) (o := o') (show C + 1 ≠ lp by omega)).trans ((Below.heap_alloc X _ (C + 1) (by omega)).trans hc0)
              have hqZ : POwn ((X.alloc (.cells #[.string qf, .string qt, .slice qa qn qc] 40)).putObj lp o') ⟨qf, qt, qa, qn, qc⟩ m := hq1.same fun j hj => World.putObj_heap_other (hql j hj)
              clear hq1 hq eP0 hlo hqb hql hlP hkp hc0
              generalize (X.alloc (.cells #[.string qf, .string qt, .slice qa qn qc] 40)).putObj lp o' = Z at hZ eP eC hqZ ⊢
              generalize X.heap.size = A at eP hsz hXs ⊢
              have HZ := HL.below (Below.kp bA hZ (Nat.le_refl _) (fun j e => by omega)) (Nat.le_refl _)
              have tZ := (hZ.block _ (lt_of_heap tA) (by omega)).trans tA
              have hmR : R.hist[k]? = some m := by rw [← LK.hist]; exact hm
              obtain ⟨yv, hyv, hyp⟩ := HZ.ref.histp.at hmR
              have hhi := HZ.ref.hist
              simp only at hhi hyv
              have hkl : k < R.hist.length := (List.getElem?_eq_some_iff.1 hmR).1
              obtain ⟨g, cap, hgv, _, lg⟩ := hhi.form (by omega)
              injection hgv with hv1 _ hv2
              subst hv1 hv2
              obtain ⟨d0, d1, d2⟩ := hist_cells hhi hyv
              have i0 : (0 : Int) ≤ (k : Int) := by omega
              have i1 : (k : Int) < (R.hist.length : Int) := by omega
              have i2 : (R.hist.length : Int) ≤ 1024 := by have := hlR.hist; omega
              have i5 : decide (R.hist.length ≤ k) = false := by simp; omega
              clear hhi hyv hmR
              have rbZ := HZ.rbx
              simp only at rbZ
              gi_wp2
              apply wpIn_region_plan rfl [.rd 0, .rd 1, .rd 2, .rd 3, .rd 4, .rd 5, .rd 6, .rd 7, .rd 8, .rd 9, .rd 10, .rd 11, .rd 12, .rd 13, .rd 14, .rd 15, .rd 16, .act 17, .act 18, .act 19] [18, 19] (fun w' => w'.heap[C + 1]? = some (.cells #[.int .i64 k] 3 (0, 0)) ∧ w'.heap[w1.heap.size + 1]? = some (.cells #[.slice aa R.all.length ac, .slice (some ⟨g, 0, none⟩) R.hist.length hc, .slice ea R.ev.length ec, .slice ba R.blk.length bc] 35) ∧ w'.heap[A]? = some (.cells #[.string qf, .string qt, .slice qa qn qc] 40) ∧
                w'.cell? ⟨g, k * 3, none⟩ = some (.string yv.f) ∧ w'.cell? ⟨g, k * 3 + 1, none⟩ = some (.string yv.t) ∧ w'.cell? ⟨g, k * 3 + 2, none⟩ = some (.slice yv.ba yv.bn yv.bc))
              case hm => kernel_rfl
              case hB => kernel_rfl
              case hS => exact ⟨eC, rbZ, eP, d0, d1, d2⟩
              intro W hW
              have hbW : Below Z.heap.size Z W := by subst hW; exact (Below.refl _ _).drew
              clear hW
              iterate 17
                try simp only [Act.put, List.setIfInBounds_toArray, List.set_cons_succ, List.set_cons_zero]
                apply plan_rd rfl rfl
                · intro w' hS
                  obtain ⟨sK, sB, sP, s0, s1, s2⟩ := hS
                  obtain ⟨sK, _, _⟩ := blk1 sK
                  obtain ⟨y0, y1, y2, y3, _, _⟩ := blk4 sB
                  obtain ⟨p0, p1, p2, _, _, _, _⟩ := blk3 sP
                  go_simp
                  try rfl
              have HS := Lib.hid (keepS3 hbW (Nat.le_refl _) ⟨eC, rbZ, eP, d0, d1, d2⟩)
              apply plan_act rfl
              try simp only [Act.put, List.setIfInBounds_toArray, List.set_cons_succ, List.set_cons_zero]
              go_wp2_with fail
              refine (same_any ⟨qf, qt, qa, qn, qc⟩ yv m m W (hqZ.below hbW (Nat.le_refl _)).pin (hyp.below hbW (Nat.le_refl _)).pin).mono ?_
              rw [sameR_refl]
              rintro e W2 ⟨rfl, hbl2⟩
              have HS2 := Lib.hid (keepS3 hbl2 (Nat.le_refl _) HS.out)
              have hb2 := hbW.trans (hbl2.mono hbW.size)
              clear hbl2 HS hbW
              go_wp2_with fail
              refine act_on HS2.out ?_
              iterate 2
                apply plan_act rfl
                try simp only [Act.put, List.setIfInBounds_toArray, List.set_cons_succ, List.set_cons_zero]
                go_wp2_with fail
                refine act_late rfl ?_
              refine plan_end (Good.normal ?_)
              have wC := (hb2.block _ (lt_of_heap eC)).trans eC
              have wT := (hb2.block _ (lt_of_heap tZ)).trans tZ
              have wM := (hb2.block _ (lt_of_heap HZ.mn)).trans HZ.mn
              have hF : KeepsOthers Z W2 := keepsOthers_of_below hb2
              have hK2 : Kp (fun j => j = C + 1) XA W2 := hZ.below hb2 (by have := lt_of_heap eP; omega)
              obtain ⟨n0, n1, _⟩ := blk1 wC
              obtain ⟨n2, _, _⟩ := blk1 wT
              obtain ⟨n3, _, _⟩ := blk1 wM
              have hTC : T ≠ C + 1 := by omega
              have hTC' : C + 1 ≠ T := by omega
              have hMC' : C + 1 ≠ w.heap.size := by omega
              have hMC : w.heap.size ≠ C + 1 := by omega
              have j9 : (k : Int) < (50000 : Int) := by have : k < N.hist.length := hk; have hflx := hl.fl; have hhix := hl.hist; have hevx := hl.ev; omega
              have j8 : (0 : Int) ≤ (k : Int) := by omega
              clear HZ
              by_cases hmk : many ≤ (k : Int) + 1
              · gi_wp2
                refine ⟨(hF.trans (KeepsOthers.setCell _ _ _)).from _, rfl, hK2.setCell (fun _ => rfl) _, (k : Int) + 1, ?_⟩
                simp [World.setCell, Array.getElem?_modify, wC]
              · have hmk' : (k : Int) + 1 < many := by omega
                gi_wp2
                refine ⟨(hF.trans (KeepsOthers.setCell _ _ _)).from _, hK2.setCell (fun _ => rfl) _, ?_⟩
                simp [World.setCell, Array.getElem?_modify, wC]
            case endB0 =>
              rintro DB XB hDDB ⟨hkDB, vDB, hcDB⟩ mDB
              have bB : Below W0.heap.size W0 XB := Below.kp bA hkDB (Nat.le_refl _) (fun j e => by omega)
              have tB := (hkDB.block _ (lt_of_heap tA) (by omega)).trans tA
              have hcC := (hkDB.block _ (lt_of_heap hcC1) (by omega)).trans hcC1
              have kA1 := (hkDB.block _ (lt_of_heap hcDA) (by omega)).trans hcDA
              have mA1 := (hkDB.block _ (lt_of_heap mDA) (by omega)).trans mDA
              have hlDA := lt_of_heap mDA
              have hzC := hkDB.size
              clear tA hcC1 hcDA mDA hkDB
              gi_wp2
              have hltC0 : C + 1 + 1 < XB.heap.size := lt_of_heap hcC
              refine wpIn_range_inBlock rfl (by decide) (gf := 44) (lb := #[.pointer (some ⟨B3, 0, none⟩)]) rfl trivial (enters_of Try.func44 (by kernel_rfl) rfl)
                (events_gives Fence.wide 8 trivial rfl (by decide) B3 v3 N.ev hl.ev) (fun B k args X h => by obtain ⟨x, _, rfl⟩ := h; rfl)
                (fun k X => Kp (fun j => j = C + 1 + 1) XB X ∧ X.heap[C + 1 + 1]? = some (.cells #[.int .i64 k] 3 (0, 0))) (fun X => Kp (fun j => j = C + 1 + 1) XB X ∧ ∃ v : Int, X.heap[C + 1 + 1]? = some (.cells #[.int .i64 v] 3 (0, 0))) (fun X => Kp (fun j => j = C + 1 + 1) XB X ∧ ∃ v : Int, X.heap[C + 1 + 1]? = some (.cells #[.int .i64 v] 3 (0, 0)))
                (fun k X Y h hb => ⟨h.1.below hb (Nat.le_refl _), (hb.block _ (by omega)).trans h.2⟩) (fun X Y h hb => ⟨h.1.below hb (Nat.le_refl _), h.2.elim fun v hv => ⟨v, (hb.block _ (by omega)).trans hv⟩⟩)
                (fun k X h => (HL.below (Below.kp bB h.1 (Nat.le_refl _) (fun j e => by omega)) (Nat.le_refl _)).ev)
                ⟨Kp.refl _ _, hcC⟩ (fun X h => ⟨h.1, _, h.2⟩) (fun X h => h) ?roundC0 ?endC0
              case roundC0 =>
                rintro lp k args X hk ⟨hkp, hc0⟩ hsz ⟨x, hx, rfl⟩
                simp only [EvM.val]
                gi_wp2
                have hXs := hkp.size
                refine ⟨(KeepsOthers.alloc _ _).from _, ⟨hkp.alloc _, (Below.heap_alloc X _ (C + 1 + 1) (by omega)).trans hc0⟩, ?_⟩
                intro o o' hlo hoc hll
                have eP0 := heap_alloc_new X (.cells #[.int .i64 x.kind, .int .i64 x.id, .int .i64 x.fr] 61)
                have hlP : X.heap.size ≠ lp := fun e => by subst e; rw [eP0] at hlo; cases hlo; cases hoc
                have hZ : Kp (fun j => j = C + 1 + 1) XB ((X.alloc (.cells #[.int .i64 x.kind, .int .i64 x.id, .int .i64 x.fr] 61)).putObj lp o') := (hkp.alloc _).below (below_put (B := XB.heap.size) o' hll hlo) (Nat.le_refl _)
                have eP := (World.putObj_heap_other (w := X.alloc (.cells #[.int .i64 x.kind, .int .i64 x.id, .int .i64 x.fr] 61)) (o := o') hlP).trans eP0
                have eC := (World.putObj_heap_other (w := X.alloc (.cells #[.int .i64 x.kind, .int .i64 x.id, .int .i64 x.fr] 61)) (o := o') (show C + 1 + 1 ≠ lp by omega)).trans ((Below.heap_alloc X _ (C + 1 + 1) (by omega)).trans hc0)
                clear eP0 hlo hlP hkp hc0
                generalize (X.alloc (.cells #[.int .i64 x.kind, .int .i64 x.id, .int .i64 x.fr] 61)).putObj lp o' = Z at hZ eP eC ⊢
                generalize X.heap.size = A at eP hsz hXs ⊢
                have HZ := HL.below (Below.kp bB hZ (Nat.le_refl _) (fun j e => by omega)) (Nat.le_refl _)
                have tZ := (hZ.block _ (lt_of_heap tB) (by omega)).trans tB
                have hmR : R.ev[k]? = some x := by rw [← LK.ev]; exact hx
                have hhi := HZ.ref.ev
                simp only at hhi
                have hkl : k < R.ev.length := (List.getElem?_eq_some_iff.1 hmR).1
                have hEl := hlR.ev
                obtain ⟨g, cap, hgv, _, lg⟩ := hhi.form (by omega)
                injection hgv with hv1 _ hv2
                subst hv1 hv2
                obtain ⟨d0, d1, d2⟩ := ev_cells hhi hmR
                have i0 : (0 : Int) ≤ (k : Int) := by omega
                have i1 : (k : Int) < (R.ev.length : Int) := by omega
                have i2 : (R.ev.length : Int) ≤ 50000 := by omega
                have i5 : decide (R.ev.length ≤ k) = false := by simp; omega
                clear hhi hx hmR
                have rbZ := HZ.rbx
                simp only at rbZ
                gi_wp2
                apply wpIn_region_plan rfl [.rd 0, .rd 1, .rd 2, .rd 3, .rd 4, .rd 5, .rd 6, .rd 7, .rd 8, .rd 9, .rd 10, .rd 11, .rd 12, .rd 13, .rd 14, .rd 15, .rd 16, .rd 17, .rd 18] [] (fun w' => w'.heap[C + 1 + 1]? = some (.cells #[.int .i64 k] 3 (0, 0)) ∧ w'.heap[w1.heap.size + 1]? = some (.cells #[.slice aa R.all.length ac, .slice ha R.hist.length hc, .slice (some ⟨g, 0, none⟩) R.ev.length ec, .slice ba R.blk.length bc] 35) ∧ w'.heap[A]? = some (.cells #[.int .i64 x.kind, .int .i64 x.id, .int .i64 x.fr] 61) ∧
                  w'.cell? ⟨g, k * 3, none⟩ = some (.int .i64 x.kind) ∧ w'.cell? ⟨g, k * 3 + 1, none⟩ = some (.int .i64 x.id) ∧ w'.cell? ⟨g, k * 3 + 2, none⟩ = some (.int .i64 x.fr))
                case hm => kernel_rfl
                case hB => kernel_rfl
                case hS => exact ⟨eC, rbZ, eP, d0, d1, d2⟩
                intro W2 hW
                have hb2 : Below Z.heap.size Z W2 := by subst hW; exact (Below.refl _ _).drew
                clear hW
                iterate 19
                  try simp only [Act.put, List.setIfInBounds_toArray, List.set_cons_succ, List.set_cons_zero]
                  apply plan_rd rfl rfl
                  · intro w' hS
                    obtain ⟨sK, sB, sP, s0, s1, s2⟩ := hS
                    obtain ⟨sK, _, _⟩ := blk1 sK
                    obtain ⟨y0, y1, y2, y3, _, _⟩ := blk4 sB
                    obtain ⟨p0, p1, p2, _, _, _, _⟩ := blk3 sP
                    go_simp
                    try rfl
                refine plan_end (Good.normal ?_)
                try simp only [Act.put, List.setIfInBounds_toArray, List.set_cons_succ, List.set_cons_zero]
                have wC := (hb2.block _ (lt_of_heap eC)).trans eC
                have wT := (hb2.block _ (lt_of_heap tZ)).trans tZ
                have wM := (hb2.block _ (lt_of_heap HZ.mn)).trans HZ.mn
                have hF : KeepsOthers Z W2 := keepsOthers_of_below hb2
                have hK2 : Kp (fun j => j = C + 1 + 1) XB W2 := hZ.below hb2 (by have := lt_of_heap eP; omega)
                obtain ⟨n0, n1, _⟩ := blk1 wC
                obtain ⟨n2, _, _⟩ := blk1 wT
                obtain ⟨n3, _, _⟩ := blk1 wM
                have hTC : T ≠ C + 1 + 1 := by omega
                have hTC' : C + 1 + 1 ≠ T := by omega
                have hMC' : C + 1 + 1 ≠ w.heap.size := by omega
                have hMC : w.heap.size ≠ C + 1 + 1 := by omega
                have j9 : (k : Int) < (50000 : Int) := by have : k < N.ev.length := hk; have hflx := hl.fl; have hhix := hl.hist; have hevx := hl.ev; omega
                have j8 : (0 : Int) ≤ (k : Int) := by omega
                clear HZ
                by_cases hmk : many ≤ (k : Int) + 1
                · gi_wp2
                  refine ⟨(hF.trans (KeepsOthers.setCell _ _ _)).from _, rfl, hK2.setCell (fun _ => rfl) _, (k : Int) + 1, ?_⟩
                  simp [World.setCell, Array.getElem?_modify, wC]
                · have hmk' : (k : Int) + 1 < many := by omega
                  gi_wp2
                  refine ⟨(hF.trans (KeepsOthers.setCell _ _ _)).from _, hK2.setCell (fun _ => rfl) _, ?_⟩
                  simp [World.setCell, Array.getElem?_modify, wC]
              case endC0 =>
                rintro DC XC hDDC ⟨hkDC, vDC, hcDC⟩ mDC
                have bC : Below W0.heap.size W0 XC := Below.kp bB hkDC (Nat.le_refl _) (fun j e => by omega)
                have tC := (hkDC.block _ (lt_of_heap tB) (by omega)).trans tB
                have kA2 := (hkDC.block _ (lt_of_heap kA1) (by omega)).trans kA1
                have kB2 := (hkDC.block _ (lt_of_heap hcDB) (by omega)).trans hcDB
                have mA2 := (hkDC.block _ (lt_of_heap mA1) (by omega)).trans mA1
                have mB2 := (hkDC.block _ (lt_of_heap mDB) (by omega)).trans mDB
                have hlDB := lt_of_heap mDB
                have hlDC := lt_of_heap mDC
                have HC := HL.below bC (Nat.le_refl _)
                have rbC := HC.rbx
                simp only at rbC
                have hzD := hkDC.size
                clear tB kA1 hcDB mA1 mDB hkDC
                gi_wp2
                apply wpIn_region_plan rfl [.rd 0, .rd 1, .rd 2, .rd 3, .rd 4, .act 5, .act 6, .act 7, .rd 8, .rd 9, .rd 10, .rd 11, .rd 12, .act 13, .act 14, .rd 15, .rd 16, .rd 17, .rd 18, .rd 19, .act 20, .act 21] [] (fun w' => w'.heap[T]? = some (.cells #[.int .i64 0] 3 (0, 0)) ∧ w'.heap[C]? = some (.cells #[.int .i64 vDA] 3 (0, 0)) ∧ w'.heap[C + 1]? = some (.cells #[.int .i64 vDB] 3 (0, 0)) ∧ w'.heap[C + 1 + 1]? = some (.cells #[.int .i64 vDC] 3 (0, 0)) ∧ w'.heap[w1.heap.size + 1]? = some (.cells #[.slice aa R.all.length ac, .slice ha R.hist.length hc, .slice ea R.ev.length ec, .slice ba R.blk.length bc] 35))
                case hm => kernel_rfl
                case hB => kernel_rfl
                case hS => exact ⟨tC, kA2, kB2, hcDC, rbC⟩
                intro W hW
                have hbW : Below XC.heap.size XC W := by subst hW; exact (Below.refl _ _).drew
                clear hW
                have kk : ∀ {j : Nat} {o : Obj}, XC.heap[j]? = some o → W.heap[j]? = some o := fun hj => (hbW.block _ (lt_of_heap hj)).trans hj
                have HSW := Lib.hid (show W.heap[T]? = some (.cells #[.int .i64 0] 3 (0, 0)) ∧ W.heap[C]? = some (.cells #[.int .i64 vDA] 3 (0, 0)) ∧ W.heap[C + 1]? = some (.cells #[.int .i64 vDB] 3 (0, 0)) ∧ W.heap[C + 1 + 1]? = some (.cells #[.int .i64 vDC] 3 (0, 0)) ∧ W.heap[w1.heap.size + 1]? = some (.cells #[.slice aa R.all.length ac, .slice ha R.hist.length hc, .slice ea R.ev.length ec, .slice ba R.blk.length bc] 35) from ⟨kk tC, kk kA2, kk kB2, kk hcDC, kk rbC⟩)
                iterate 3
                  try simp only [Act.put, List.setIfInBounds_toArray, List.set_cons_succ, List.set_cons_zero]
                  apply plan_rd rfl rfl
                  · intro w' hS
                    obtain ⟨sT, sA, sB, sC, sR⟩ := hS
                    obtain ⟨sT, _, _⟩ := blk1 sT
                    obtain ⟨sA, _, _⟩ := blk1 sA
                    obtain ⟨sB, _, _⟩ := blk1 sB
                    obtain ⟨sC, _, _⟩ := blk1 sC
                    obtain ⟨y0, y1, y2, y3, _, _⟩ := blk4 sR
                    go_simp
                    try rfl
                iterate 2
                  try simp only [Act.put, List.setIfInBounds_toArray, List.set_cons_succ, List.set_cons_zero]
                  apply plan_no rfl rfl
                iterate 3
                  apply plan_act rfl
                  try simp only [Act.put, List.setIfInBounds_toArray, List.set_cons_succ, List.set_cons_zero]
                  go_wp2_with fail
                  refine act_on HSW.out ?_
                iterate 5
                  try simp only [Act.put, List.setIfInBounds_toArray, List.set_cons_succ, List.set_cons_zero]
                  apply plan_no rfl rfl
                iterate 2
                  apply plan_act rfl
                  try simp only [Act.put, List.setIfInBounds_toArray, List.set_cons_succ, List.set_cons_zero]
                  go_wp2_with fail
                  refine act_on HSW.out ?_
                iterate 5
                  try simp only [Act.put, List.setIfInBounds_toArray, List.set_cons_succ, List.set_cons_zero]
                  apply plan_no rfl rfl
                iterate 2
                  apply plan_act rfl
                  try simp only [Act.put, List.setIfInBounds_toArray, List.set_cons_succ, List.set_cons_zero]
                  go_wp2_with fail
                  refine act_on HSW.out ?_
                obtain ⟨WE, hWE⟩ : ∃ WE, WE = W := ⟨_, rfl⟩
                subst hWE
                have hbE := hbW
                refine plan_end (Good.normal ?_)
                try simp only [Act.put, List.setIfInBounds_toArray, List.set_cons_succ, List.set_cons_zero]
                have tE := kk tC
                have mA3 := kk mA2
                have mB3 := kk mB2
                have mC3 := kk mDC
                have bE : Below W0.heap.size W0 WE := bC.trans (hbE.mono bC.size)
                have hzE := hbE.size
                clear tC kA2 kB2 hcDC rbC mA2 mB2 mDC HSW HC kk hbW hbE bC
                obtain ⟨z0, zf, _⟩ := blk1 tE
                gi_wp2
                intro K2 hK2
                have hT := heap_alloc_new WE (.cells #[.int .i64 1] 3)
                have hx := (Below.refl WE.heap.size WE).alloc (Nat.le_refl _) (.cells #[.int .i64 1] 3)
                have hbV := bE.trans (hx.mono bE.size)
                have qA := (hx.block _ (lt_of_heap mA3)).trans mA3
                have qB := (hx.block _ (lt_of_heap mB3)).trans mB3
                have qC := (hx.block _ (lt_of_heap mC3)).trans mC3
                have hpAB : DA < DB := by omega
                have hpBC : DB < DC := by omega
                have hpCT : DC < WE.heap.size := by omega
                have hpA : W0.heap.size ≤ DA := by omega
                have hVT := bE.size
                clear z0 zf hT0 hbU hbX hcA hUs hTU hzA hltA0 hDDA bA hcB hzB hltB0 hDDB bB hcC hzC hltC0 hDDC hzD tE hzE hlDA hlDB hlDC mA3 mB3 mC3 hx bE
                obtain ⟨MA, hMA⟩ : ∃ x, x = DA := ⟨_, rfl⟩
                obtain ⟨MB, hMB⟩ : ∃ x, x = DB := ⟨_, rfl⟩
                obtain ⟨MC, hMC⟩ : ∃ x, x = DC := ⟨_, rfl⟩
                subst hMA hMB hMC
                generalize WE.heap.size = T at hT hpCT hVT ⊢
                generalize WE.alloc (.cells #[.int .i64 1] 3) = U at hT hbV qA qB qC ⊢
                have hT0 : W0.heap.size ≤ T := hVT
                have hbU : Below W0.heap.size W0 U := hbV
                clear hbV hVT
                obtain ⟨z0, zf, _⟩ := blk1 hT
                gi_wp2
                have pA := lt_of_heap qA
                have pB := lt_of_heap qB
                have pC := lt_of_heap qC
                have hUs : W0.heap.size ≤ U.heap.size := hbU.size
                have hTU : T < U.heap.size := lt_of_heap hT
                obtain ⟨hcA, hcB0, hcC0⟩ := top3 U (.cells #[.int .i64 0] 3) (.cells #[.int .i64 0] 3) (.cells #[.int .i64 0] 3)
                have hx3 : Below U.heap.size U (((U.alloc (.cells #[.int .i64 0] 3)).alloc (.cells #[.int .i64 0] 3)).alloc (.cells #[.int .i64 0] 3)) := (((Below.refl _ _).alloc (Nat.le_refl _) _).alloc (by simp) _).alloc (by simp; omega) _
                have hbX : Below W0.heap.size W0 (((U.alloc (.cells #[.int .i64 0] 3)).alloc (.cells #[.int .i64 0] 3)).alloc (.cells #[.int .i64 0] 3)) := hbU.trans (hx3.mono hbU.size)
                have tX := (hx3.block _ hTU).trans hT
                have qA0 := (hx3.block _ pA).trans qA
                have qB0 := (hx3.block _ pB).trans qB
                have qC0 := (hx3.block _ pC).trans qC
                clear z0 zf hx3 hT qA qB qC
                generalize ((U.alloc (.cells #[.int .i64 0] 3)).alloc (.cells #[.int .i64 0] 3)).alloc (.cells #[.int .i64 0] 3) = X0 at hcA hcB0 hcC0 hbX tX qA0 qB0 qC0 ⊢
                generalize U.heap.size = C at hcA hcB0 hcC0 hUs hTU pA pB pC ⊢
                have hzA := lt_of_heap hcC0
                have hltA1 : C < X0.heap.size := lt_of_heap hcA
                refine wpIn_range_inBlock rfl (by decide) (gf := 40) (lb := #[.pointer (some ⟨B1, 0, none⟩)]) rfl trivial (enters_of Try.func40 (by kernel_rfl) rfl)
                  (flight_gives 8 (by decide) B1 v1 qs N.fl (by have := hl.fl; omega) hl.flok) (fun B k args X h => by obtain ⟨x, q, _, rfl, _⟩ := h; rfl)
                  (fun k X => Kp (fun j => j = C) X0 X ∧ X.heap[C]? = some (.cells #[.int .i64 k] 3 (0, 0))) (fun _ => False) (fun X => Kp (fun j => j = C) X0 X ∧ X.heap[C]? = some (.cells #[.int .i64 N.fl.length] 3 (0, 0)))
                  (fun k X Y h hb => ⟨h.1.below hb (Nat.le_refl _), (hb.block _ (by omega)).trans h.2⟩) (fun _ _ h _ => h)
                  (fun k X h => (HL.below (Below.kp hbX h.1 (Nat.le_refl _) (fun j e => by omega)) (Nat.le_refl _)).fl)
                  ⟨Kp.refl _ _, hcA⟩ (fun X h => h) (fun X h => h.elim) ?roundA1 ?endA1
                case roundA1 =>
                  rintro lp k args X hk ⟨hkp, hc0⟩ hsz ⟨x, ⟨qf, qt, qa, qn, qc⟩, hx, rfl, hq, hqb⟩
                  simp only [PV.val]
                  obtain ⟨m, hm, rfl⟩ : ∃ m, N.fl[k]? = some m ∧ x = (m.id, m.pk) := by
                    simp only [idPk, List.getElem?_map] at hx
                    cases hm : N.fl[k]? with
                    | none => rw [hm] at hx; cases hx
                    | some m => rw [hm] at hx; exact ⟨m, rfl, (Option.some.inj hx).symm⟩
                  obtain ⟨n, y, O⟩ := LK.fly hm
                  simp only at hq
                  rw [O.id]
                  clear hx
                  gi_wp2
                  have hXs := hkp.size
                  refine ⟨(KeepsOthers.alloc _ _).from _, ⟨hkp.alloc _, (Below.heap_alloc X _ (C) (by omega)).trans hc0⟩, ?_⟩
                  intro o o' hlo hoc hll
                  have eP0 := heap_alloc_new X (.cells #[.string qf, .string qt, .slice qa qn qc] 40)
                  have hq1 := hq.below ((Below.refl X.heap.size X).alloc (Nat.le_refl _) (.cells #[.string qf, .string qt, .slice qa qn qc] 40)) (Nat.le_refl _)
                  have hlP : X.heap.size ≠ lp := fun e => by subst e; rw [eP0] at hlo; cases hlo; cases hoc
                  have hql : ∀ j, PV.blk ⟨qf, qt, qa, qn, qc⟩ = some j → j ≠ lp := fun j hj e => by
                    obtain ⟨cq, hcq⟩ := hq1.block hj
                    subst e
                    rw [hcq] at hlo; cases hlo; cases hoc
                  have hZ : Kp (fun j => j = C) X0 ((X.alloc (.cells #[.string qf, .string qt, .slice qa qn qc] 40)).putObj lp o') := (hkp.alloc _).below (below_put (B := X0.heap.size) o' hll hlo) (Nat.le_refl _)
                  have eP := (World.putObj_heap_other (w := X.alloc (.cells #[.string qf, .string qt, .slice qa qn qc] 40)) (o := o') hlP).trans eP0
                  have eC := (World.putObj_heap_other (w := X.alloc (.cells #[.string qf, .string qt, .slice qa qn qc] 40)) (o := o') (show C ≠ lp by omega)).trans ((Below.heap_alloc X _ (C) (by omega)).trans hc0)
                  have hqZ : POwn ((X.alloc (.cells #[.string qf, .string qt, .slice qa qn qc] 40)).putObj lp o') ⟨qf, qt, qa, qn, qc⟩ m.pk := hq1.same fun j hj => World.putObj_heap_other (hql j hj)
                  clear hq1 hq eP0 hlo hqb hql hlP hkp hc0
                  generalize (X.alloc (.cells #[.string qf, .string qt, .slice qa qn qc] 40)).putObj lp o' = Z at hZ eP eC hqZ ⊢
                  generalize X.heap.size = A at eP hsz hXs ⊢
                  have HZ := HL.below (Below.kp hbX hZ (Nat.le_refl _) (fun j e => by omega)) (Nat.le_refl _)
                  have tZ := (hZ.block _ (lt_of_heap tX) (by omega)).trans tX
                  have hnl := (List.getElem?_eq_some_iff.1 O.all).1
                  have hla := hlR.all
                  obtain ⟨xr, hxr, hxm⟩ := HZ.ref.allp.at O.all
                  have hall := HZ.ref.all
                  simp only at hxr hall
                  obtain ⟨g, cap, hgv, _, lg⟩ := hall.form (by omega)
                  injection hgv with hv1 _ hv2
                  subst hv1 hv2
                  obtain ⟨d0, d1, d2, d3, d4⟩ := all_cells hall hxr
                  have hyp := hxm.p
                  have i0 : (0 : Int) ≤ (n : Int) := by omega
                  have i1 : (n : Int) < (R.all.length : Int) := by omega
                  have i2 : (R.all.length : Int) ≤ 50000 := by omega
                  clear hall hxr hxm
                  have rbZ := HZ.rbx
                  simp only at rbZ
                  gi_wp2
                  apply wpIn_region_plan rfl [.rd 0, .rd 1, .act 2, .act 3, .act 4, .rd 5, .rd 6, .rd 7, .rd 8, .rd 9, .rd 10, .rd 11, .act 12, .act 13, .act 14] [13, 14] (fun w' => w'.heap[C]? = some (.cells #[.int .i64 k] 3 (0, 0)) ∧ w'.heap[w1.heap.size + 1]? = some (.cells #[.slice (some ⟨g, 0, none⟩) R.all.length ac, .slice ha R.hist.length hc, .slice ea R.ev.length ec, .slice ba R.blk.length bc] 35) ∧ w'.heap[A]? = some (.cells #[.string qf, .string qt, .slice qa qn qc] 40) ∧
                    w'.cell? ⟨g, n * 5, none⟩ = some (.string xr.p.f) ∧ w'.cell? ⟨g, n * 5 + 1, none⟩ = some (.string xr.p.t) ∧ w'.cell? ⟨g, n * 5 + 2, none⟩ = some (.slice xr.p.ba xr.p.bn xr.p.bc))
                  case hm => kernel_rfl
                  case hB => kernel_rfl
                  case hS => exact ⟨eC, rbZ, eP, d0, d1, d2⟩
                  intro W hW
                  have hbW : Below Z.heap.size Z W := by subst hW; exact (Below.refl _ _).drew
                  clear hW
                  iterate 2
                    try simp only [Act.put, List.setIfInBounds_toArray, List.set_cons_succ, List.set_cons_zero]
                    apply plan_rd rfl rfl
                    · intro w' hS
                      obtain ⟨sK, sB, sP, s0, s1, s2⟩ := hS
                      obtain ⟨sK, _, _⟩ := blk1 sK
                      obtain ⟨y0, y1, y2, y3, _, _⟩ := blk4 sB
                      obtain ⟨p0, p1, p2, _, _, _, _⟩ := blk3 sP
                      go_simp
                      try rfl
                  have HS := Lib.hid (keepS hbW (Nat.le_refl _) ⟨eC, rbZ, eP, d0, d1, d2⟩)
                  apply plan_act rfl
                  try simp only [Act.put, List.setIfInBounds_toArray, List.set_cons_succ, List.set_cons_zero]
                  go_wp2_with fail
                  refine (flies_any _ R n W (HZ.ref.below hbW (Nat.le_refl _)) hlR).mono ?_
                  rw [O.flies]
                  rintro e W1 ⟨rfl, hbl1⟩
                  have HS1 := Lib.hid (keepS hbl1 (Nat.le_refl _) HS.out)
                  have hbb1 := hbW.trans (hbl1.mono hbW.size)
                  clear hbl1 HS hbW
                  go_wp2_with fail
                  refine act_on HS1.out ?_
                  iterate 2
                    apply plan_act rfl
                    try simp only [Act.put, List.setIfInBounds_toArray, List.set_cons_succ, List.set_cons_zero]
                    go_wp2_with fail
                    refine act_on HS1.out ?_
                  iterate 7
                    try simp only [Act.put, List.setIfInBounds_toArray, List.set_cons_succ, List.set_cons_zero]
                    apply plan_rd rfl rfl
                    · intro w' hS
                      obtain ⟨sK, sB, sP, s0, s1, s2⟩ := hS
                      obtain ⟨sK, _, _⟩ := blk1 sK
                      obtain ⟨y0, y1, y2, y3, _, _⟩ := blk4 sB
                      obtain ⟨p0, p1, p2, _, _, _, _⟩ := blk3 sP
                      go_simp
                      try rfl
                  apply plan_act rfl
                  try simp only [Act.put, List.setIfInBounds_toArray, List.set_cons_succ, List.set_cons_zero]
                  go_wp2_with fail
                  refine (same_any ⟨qf, qt, qa, qn, qc⟩ xr.p m.pk y.pk W1 (hqZ.below hbb1 (Nat.le_refl _)).pin (hyp.below hbb1 (Nat.le_refl _)).pin).mono ?_
                  rw [O.pk, sameR_refl]
                  rintro e W2 ⟨rfl, hbl2⟩
                  have HS2 := Lib.hid (keepS hbl2 (Nat.le_refl _) HS1.out)
                  have hb2 := hbb1.trans (hbl2.mono hbb1.size)
                  clear hbl2 HS1 hbb1
                  go_wp2_with fail
                  refine act_on HS2.out ?_
                  iterate 2
                    apply plan_act rfl
                    try simp only [Act.put, List.setIfInBounds_toArray, List.set_cons_succ, List.set_cons_zero]
                    go_wp2_with fail
                    refine act_late rfl ?_
                  refine plan_end (Good.normal ?_)
                  have wC := (hb2.block _ (lt_of_heap eC)).trans eC
                  have wT := (hb2.block _ (lt_of_heap tZ)).trans tZ
                  have wM := (hb2.block _ (lt_of_heap HZ.mn)).trans HZ.mn
                  have hF : KeepsOthers Z W2 := keepsOthers_of_below hb2
                  have hK2 : Kp (fun j => j = C) X0 W2 := hZ.below hb2 (by have := lt_of_heap eP; omega)
                  obtain ⟨n0, n1, _⟩ := blk1 wC
                  obtain ⟨n2, _, _⟩ := blk1 wT
                  obtain ⟨n3, _, _⟩ := blk1 wM
                  have hTC : T ≠ C := by omega
                  have hTC' : C ≠ T := by omega
                  have hMC' : C ≠ w.heap.size := by omega
                  have hMC : w.heap.size ≠ C := by omega
                  have j9 : (k : Int) < (50000 : Int) := by have : k < N.fl.length := hk; have hflx := hl.fl; have hhix := hl.hist; have hevx := hl.ev; omega
                  have j8 : (0 : Int) ≤ (k : Int) := by omega
                  clear HZ
                  gi_wp2
                  refine ⟨(hF.trans (KeepsOthers.setCell _ _ _)).from _, hK2.setCell (fun _ => rfl) _, ?_⟩
                  simp [World.setCell, Array.getElem?_modify, wC]
                case endA1 =>
                  rintro DA XA hDDA ⟨hkDA, hcDA⟩ mDA
                  have bA : Below W0.heap.size W0 XA := Below.kp hbX hkDA (Nat.le_refl _) (fun j e => by omega)
                  have tA := (hkDA.block _ (lt_of_heap tX) (by omega)).trans tX
                  have hcB := (hkDA.block _ (lt_of_heap hcB0) (by omega)).trans hcB0
                  have hcC1 := (hkDA.block _ (lt_of_heap hcC0) (by omega)).trans hcC0
                  have qA1 := (hkDA.block _ (lt_of_heap qA0) (by omega)).trans qA0
                  have qB1 := (hkDA.block _ (lt_of_heap qB0) (by omega)).trans qB0
                  have qC1 := (hkDA.block _ (lt_of_heap qC0) (by omega)).trans qC0
                  clear qA0 qB0 qC0
                  have hzB := hkDA.size
                  clear tX hcB0 hcC0 hkDA
                  gi_wp2
                  have hltB1 : C + 1 < XA.heap.size := lt_of_heap hcB
                  refine wpIn_range_inBlock rfl (by decide) (gf := 42) (lb := #[.pointer (some ⟨B2, 0, none⟩)]) rfl trivial (enters_of Try.func42 (by kernel_rfl) rfl)
                    (history_gives 8 (by decide) B2 v2 D.hs N.hist (by have := hl.hist; omega) hl.histok) (fun B k args X h => by obtain ⟨x, q, _, rfl, _⟩ := h; rfl)
                    (fun k X => Kp (fun j => j = C + 1) XA X ∧ X.heap[C + 1]? = some (.cells #[.int .i64 k] 3 (0, 0))) (fun _ => False) (fun X => Kp (fun j => j = C + 1) XA X ∧ X.heap[C + 1]? = some (.cells #[.int .i64 N.hist.length] 3 (0, 0)))
                    (fun k X Y h hb => ⟨h.1.below hb (Nat.le_refl _), (hb.block _ (by omega)).trans h.2⟩) (fun _ _ h _ => h)
                    (fun k X h => (HL.below (Below.kp bA h.1 (Nat.le_refl _) (fun j e => by omega)) (Nat.le_refl _)).hi)
                    ⟨Kp.refl _ _, hcB⟩ (fun X h => h) (fun X h => h.elim) ?roundB1 ?endB1
                  case roundB1 =>
                    rintro lp k args X hk ⟨hkp, hc0⟩ hsz ⟨x, ⟨qf, qt, qa, qn, qc⟩, hx, rfl, hq, hqb⟩
                    simp only [PV.val]
                    obtain ⟨m, hm, rfl⟩ := numbered_get hx
                    simp only at hq
                    clear hx
                    gi_wp2
                    have hXs := hkp.size
                    refine ⟨(KeepsOthers.alloc _ _).from _, ⟨hkp.alloc _, (Below.heap_alloc X _ (C + 1) (by omega)).trans hc0⟩, ?_⟩
                    intro o o' hlo hoc hll
                    have eP0 := heap_alloc_new X (.cells #[.string qf, .string qt, .slice qa qn qc] 40)
                    have hq1 := hq.below ((Below.refl X.heap.size X).alloc (Nat.le_refl _) (.cells #[.string qf, .string qt, .slice qa qn qc] 40)) (Nat.le_refl _)
                    have hlP : X.heap.size ≠ lp := fun e => by subst e; rw [eP0] at hlo; cases hlo; cases hoc
                    have hql : ∀ j, PV.blk ⟨qf, qt, qa, qn, qc⟩ = some j → j ≠ lp := fun j hj e => by
                      obtain ⟨cq, hcq⟩ := hq1.block hj
                      subst e
                      rw [hcq] at hlo; cases hlo; cases hoc
                    have hZ : Kp (fun j => j = C + 1) XA ((X.alloc (.cells #[.string qf, .string qt, .slice qa qn qc] 40)).putObj lp o') := (hkp.alloc _).below (below_put (B := XA.heap.size) o' hll hlo) (Nat.le_refl _)
                    have eP := (World.putObj_heap_other (w := X.alloc (.cells #[.string qf, .string qt, .slice qa qn qc] 40)) (o := o') hlP).trans eP0
                    have eC := (World.putObj_heap_other (w := X.alloc (.cells #[.string qf, .string qt, .slice qa qn qc] 40)) (o := o') (show C + 1 ≠ lp by omega)).trans ((Below.heap_alloc X _ (C + 1) (by omega)).trans hc0)
                    have hqZ : POwn ((X.alloc (.cells #[.string qf, .string qt, .slice qa qn qc] 40)).putObj lp o') ⟨qf, qt, qa, qn, qc⟩ m := hq1.same fun j hj => World.putObj_heap_other (hql j hj)
                    clear hq1 hq eP0 hlo hqb hql hlP hkp hc0
                    generalize (X.alloc (.cells #[.string qf, .string qt, .slice qa qn qc] 40)).putObj lp o' = Z at hZ eP eC hqZ ⊢
                    generalize X.heap.size = A at eP hsz hXs ⊢
                    have HZ := HL.below (Below.kp bA hZ (Nat.le_refl _) (fun j e => by omega)) (Nat.le_refl _)
                    have tZ := (hZ.block _ (lt_of_heap tA) (by omega)).trans tA
                    have hmR : R.hist[k]? = some m := by rw [← LK.hist]; exact hm
                    obtain ⟨yv, hyv, hyp⟩ := HZ.ref.histp.at hmR
                    have hhi := HZ.ref.hist
                    simp only at hhi hyv
                    have hkl : k < R.hist.length := (List.getElem?_eq_some_iff.1 hmR).1
                    obtain ⟨g, cap, hgv, _, lg⟩ := hhi.form (by omega)
                    injection hgv with hv1 _ hv2
                    subst hv1 hv2
                    obtain ⟨d0, d1, d2⟩ := hist_cells hhi hyv
                    have i0 : (0 : Int) ≤ (k : Int) := by omega
                    have i1 : (k : Int) < (R.hist.length : Int) := by omega
                    have i2 : (R.hist.length : Int) ≤ 1024 := by have := hlR.hist; omega
                    have i5 : decide (R.hist.length ≤ k) = false := by simp; omega
                    clear hhi hyv hmR
                    have rbZ := HZ.rbx
                    simp only at rbZ
                    gi_wp2
                    apply wpIn_region_plan rfl [.rd 0, .rd 1, .rd 2, .rd 3, .rd 4, .rd 5, .rd 6, .rd 7, .rd 8, .rd 9, .rd 10, .rd 11, .rd 12, .rd 13, .rd 14, .rd 15, .rd 16, .act 17, .act 18, .act 19] [18, 19] (fun w' => w'.heap[C + 1]? = some (.cells #[.int .i64 k] 3 (0, 0)) ∧ w'.heap[w1.heap.size + 1]? = some (.cells #[.slice aa R.all.length ac, .slice (some ⟨g, 0, none⟩) R.hist.length hc, .slice ea R.ev.length ec, .slice ba R.blk.length bc] 35) ∧ w'.heap[A]? = some (.cells #[.string qf, .string qt, .slice qa qn qc] 40) ∧
                      w'.cell? ⟨g, k * 3, none⟩ = some (.string yv.f) ∧ w'.cell? ⟨g, k * 3 + 1, none⟩ = some (.string yv.t) ∧ w'.cell? ⟨g, k * 3 + 2, none⟩ = some (.slice yv.ba yv.bn yv.bc))
                    case hm => kernel_rfl
                    case hB => kernel_rfl
                    case hS => exact ⟨eC, rbZ, eP, d0, d1, d2⟩
                    intro W hW
                    have hbW : Below Z.heap.size Z W := by subst hW; exact (Below.refl _ _).drew
                    clear hW
                    iterate 17
                      try simp only [Act.put, List.setIfInBounds_toArray, List.set_cons_succ, List.set_cons_zero]
                      apply plan_rd rfl rfl
                      · intro w' hS
                        obtain ⟨sK, sB, sP, s0, s1, s2⟩ := hS
                        obtain ⟨sK, _, _⟩ := blk1 sK
                        obtain ⟨y0, y1, y2, y3, _, _⟩ := blk4 sB
                        obtain ⟨p0, p1, p2, _, _, _, _⟩ := blk3 sP
                        go_simp
                        try rfl
                    have HS := Lib.hid (keepS3 hbW (Nat.le_refl _) ⟨eC, rbZ, eP, d0, d1, d2⟩)
                    apply plan_act rfl
                    try simp only [Act.put, List.setIfInBounds_toArray, List.set_cons_succ, List.set_cons_zero]
                    go_wp2_with fail
                    refine (same_any ⟨qf, qt, qa, qn, qc⟩ yv m m W (hqZ.below hbW (Nat.le_refl _)).pin (hyp.below hbW (Nat.le_refl _)).pin).mono ?_
                    rw [sameR_refl]
                    rintro e W2 ⟨rfl, hbl2⟩
                    have HS2 := Lib.hid (keepS3 hbl2 (Nat.le_refl _) HS.out)
                    have hb2 := hbW.trans (hbl2.mono hbW.size)
                    clear hbl2 HS hbW
                    go_wp2_with fail
                    refine act_on HS2.out ?_
                    iterate 2
                      apply plan_act rfl
                      try simp only [Act.put, List.setIfInBounds_toArray, List.set_cons_succ, List.set_cons_zero]
                      go_wp2_with fail
                      refine act_late rfl ?_
                    refine plan_end (Good.normal ?_)
                    have wC := (hb2.block _ (lt_of_heap eC)).trans eC
                    have wT := (hb2.block _ (lt_of_heap tZ)).trans tZ
                    have wM := (hb2.block _ (lt_of_heap HZ.mn)).trans HZ.mn
                    have hF : KeepsOthers Z W2 := keepsOthers_of_below hb2
                    have hK2 : Kp (fun j => j = C + 1) XA W2 := hZ.below hb2 (by have := lt_of_heap eP; omega)
                    obtain ⟨n0, n1, _⟩ := blk1 wC
                    obtain ⟨n2, _, _⟩ := blk1 wT
                    obtain ⟨n3, _, _⟩ := blk1 wM
                    have hTC : T ≠ C + 1 := by omega
                    have hTC' : C + 1 ≠ T := by omega
                    have hMC' : C + 1 ≠ w.heap.size := by omega
                    have hMC : w.heap.size ≠ C + 1 := by omega
                    have j9 : (k : Int) < (50000 : Int) := by have : k < N.hist.length := hk; have hflx := hl.fl; have hhix := hl.hist; have hevx := hl.ev; omega
                    have j8 : (0 : Int) ≤ (k : Int) := by omega
                    clear HZ
                    gi_wp2
                    refine ⟨(hF.trans (KeepsOthers.setCell _ _ _)).from _, hK2.setCell (fun _ => rfl) _, ?_⟩
                    simp [World.setCell, Array.getElem?_modify, wC]
                  case endB1 =>
                    rintro DB XB hDDB ⟨hkDB, hcDB⟩ mDB
                    have bB : Below W0.heap.size W0 XB := Below.kp bA hkDB (Nat.le_refl _) (fun j e => by omega)
                    have tB := (hkDB.block _ (lt_of_heap tA) (by omega)).trans tA
                    have hcC := (hkDB.block _ (lt_of_heap hcC1) (by omega)).trans hcC1
                    have kA1 := (hkDB.block _ (lt_of_heap hcDA) (by omega)).trans hcDA
                    have mA1 := (hkDB.block _ (lt_of_heap mDA) (by omega)).trans mDA
                    have hlDA := lt_of_heap mDA
                    have qA2 := (hkDB.block _ (lt_of_heap qA1) (by omega)).trans qA1
                    have qB2 := (hkDB.block _ (lt_of_heap qB1) (by omega)).trans qB1
                    have qC2 := (hkDB.block _ (lt_of_heap qC1) (by omega)).trans qC1
                    clear qA1 qB1 qC1
                    have hzC := hkDB.size
                    clear tA hcC1 hcDA mDA hkDB
                    gi_wp2
                    have hltC1 : C + 1 + 1 < XB.heap.size := lt_of_heap hcC
                    refine wpIn_range_inBlock rfl (by decide) (gf := 44) (lb := #[.pointer (some ⟨B3, 0, none⟩)]) rfl trivial (enters_of Try.func44 (by kernel_rfl) rfl)
                      (events_gives Fence.wide 8 trivial rfl (by decide) B3 v3 N.ev hl.ev) (fun B k args X h => by obtain ⟨x, _, rfl⟩ := h; rfl)
                      (fun k X => Kp (fun j => j = C + 1 + 1) XB X ∧ X.heap[C + 1 + 1]? = some (.cells #[.int .i64 k] 3 (0, 0))) (fun _ => False) (fun X => Kp (fun j => j = C + 1 + 1) XB X ∧ X.heap[C + 1 + 1]? = some (.cells #[.int .i64 N.ev.length] 3 (0, 0)))
                      (fun k X Y h hb => ⟨h.1.below hb (Nat.le_refl _), (hb.block _ (by omega)).trans h.2⟩) (fun _ _ h _ => h)
                      (fun k X h => (HL.below (Below.kp bB h.1 (Nat.le_refl _) (fun j e => by omega)) (Nat.le_refl _)).ev)
                      ⟨Kp.refl _ _, hcC⟩ (fun X h => h) (fun X h => h.elim) ?roundC1 ?endC1
                    case roundC1 =>
                      rintro lp k args X hk ⟨hkp, hc0⟩ hsz ⟨x, hx, rfl⟩
                      simp only [EvM.val]
                      gi_wp2
                      have hXs := hkp.size
                      refine ⟨(KeepsOthers.alloc _ _).from _, ⟨hkp.alloc _, (Below.heap_alloc X _ (C + 1 + 1) (by omega)).trans hc0⟩, ?_⟩
                      intro o o' hlo hoc hll
                      have eP0 := heap_alloc_new X (.cells #[.int .i64 x.kind, .int .i64 x.id, .int .i64 x.fr] 61)
                      have hlP : X.heap.size ≠ lp := fun e => by subst e; rw [eP0] at hlo; cases hlo; cases hoc
                      have hZ : Kp (fun j => j = C + 1 + 1) XB ((X.alloc (.cells #[.int .i64 x.kind, .int .i64 x.id, .int .i64 x.fr] 61)).putObj lp o') := (hkp.alloc _).below (below_put (B := XB.heap.size) o' hll hlo) (Nat.le_refl _)
                      have eP := (World.putObj_heap_other (w := X.alloc (.cells #[.int .i64 x.kind, .int .i64 x.id, .int .i64 x.fr] 61)) (o := o') hlP).trans eP0
                      have eC := (World.putObj_heap_other (w := X.alloc (.cells #[.int .i64 x.kind, .int .i64 x.id, .int .i64 x.fr] 61)) (o := o') (show C + 1 + 1 ≠ lp by omega)).trans ((Below.heap_alloc X _ (C + 1 + 1) (by omega)).trans hc0)
                      clear eP0 hlo hlP hkp hc0
                      generalize (X.alloc (.cells #[.int .i64 x.kind, .int .i64 x.id, .int .i64 x.fr] 61)).putObj lp o' = Z at hZ eP eC ⊢
                      generalize X.heap.size = A at eP hsz hXs ⊢
                      have HZ := HL.below (Below.kp bB hZ (Nat.le_refl _) (fun j e => by omega)) (Nat.le_refl _)
                      have tZ := (hZ.block _ (lt_of_heap tB) (by omega)).trans tB
                      have hmR : R.ev[k]? = some x := by rw [← LK.ev]; exact hx
                      have hhi := HZ.ref.ev
                      simp only at hhi
                      have hkl : k < R.ev.length := (List.getElem?_eq_some_iff.1 hmR).1
                      have hEl := hlR.ev
                      obtain ⟨g, cap, hgv, _, lg⟩ := hhi.form (by omega)
                      injection hgv with hv1 _ hv2
                      subst hv1 hv2
                      obtain ⟨d0, d1, d2⟩ := ev_cells hhi hmR
                      have i0 : (0 : Int) ≤ (k : Int) := by omega
                      have i1 : (k : Int) < (R.ev.length : Int) := by omega
                      have i2 : (R.ev.length : Int) ≤ 50000 := by omega
                      have i5 : decide (R.ev.length ≤ k) = false := by simp; omega
                      clear hhi hx hmR
                      have rbZ := HZ.rbx
                      simp only at rbZ
                      gi_wp2
                      apply wpIn_region_plan rfl [.rd 0, .rd 1, .rd 2, .rd 3, .rd 4, .rd 5, .rd 6, .rd 7, .rd 8, .rd 9, .rd 10, .rd 11, .rd 12, .rd 13, .rd 14, .rd 15, .rd 16, .rd 17, .rd 18] [] (fun w' => w'.heap[C + 1 + 1]? = some (.cells #[.int .i64 k] 3 (0, 0)) ∧ w'.heap[w1.heap.size + 1]? = some (.cells #[.slice aa R.all.length ac, .slice ha R.hist.length hc, .slice (some ⟨g, 0, none⟩) R.ev.length ec, .slice ba R.blk.length bc] 35) ∧ w'.heap[A]? = some (.cells #[.int .i64 x.kind, .int .i64 x.id, .int .i64 x.fr] 61) ∧
                        w'.cell? ⟨g, k * 3, none⟩ = some (.int .i64 x.kind) ∧ w'.cell? ⟨g, k * 3 + 1, none⟩ = some (.int .i64 x.id) ∧ w'.cell? ⟨g, k * 3 + 2, none⟩ = some (.int .i64 x.fr))
                      case hm => kernel_rfl
                      case hB => kernel_rfl
                      case hS => exact ⟨eC, rbZ, eP, d0, d1, d2⟩
                      intro W2 hW
                      have hb2 : Below Z.heap.size Z W2 := by subst hW; exact (Below.refl _ _).drew
                      clear hW
                      iterate 19
                        try simp only [Act.put, List.setIfInBounds_toArray, List.set_cons_succ, List.set_cons_zero]
                        apply plan_rd rfl rfl
                        · intro w' hS
                          obtain ⟨sK, sB, sP, s0, s1, s2⟩ := hS
                          obtain ⟨sK, _, _⟩ := blk1 sK
                          obtain ⟨y0, y1, y2, y3, _, _⟩ := blk4 sB
                          obtain ⟨p0, p1, p2, _, _, _, _⟩ := blk3 sP
                          go_simp
                          try rfl
                      refine plan_end (Good.normal ?_)
                      try simp only [Act.put, List.setIfInBounds_toArray, List.set_cons_succ, List.set_cons_zero]
                      have wC := (hb2.block _ (lt_of_heap eC)).trans eC
                      have wT := (hb2.block _ (lt_of_heap tZ)).trans tZ
                      have wM := (hb2.block _ (lt_of_heap HZ.mn)).trans HZ.mn
                      have hF : KeepsOthers Z W2 := keepsOthers_of_below hb2
                      have hK2 : Kp (fun j => j = C + 1 + 1) XB W2 := hZ.below hb2 (by have := lt_of_heap eP; omega)
                      obtain ⟨n0, n1, _⟩ := blk1 wC
                      obtain ⟨n2, _, _⟩ := blk1 wT
                      obtain ⟨n3, _, _⟩ := blk1 wM
                      have hTC : T ≠ C + 1 + 1 := by omega
                      have hTC' : C + 1 + 1 ≠ T := by omega
                      have hMC' : C + 1 + 1 ≠ w.heap.size := by omega
                      have hMC : w.heap.size ≠ C + 1 + 1 := by omega
                      have j9 : (k : Int) < (50000 : Int) := by have : k < N.ev.length := hk; have hflx := hl.fl; have hhix := hl.hist; have hevx := hl.ev; omega
                      have j8 : (0 : Int) ≤ (k : Int) := by omega
                      clear HZ
                      gi_wp2
                      refine ⟨(hF.trans (KeepsOthers.setCell _ _ _)).from _, hK2.setCell (fun _ => rfl) _, ?_⟩
                      simp [World.setCell, Array.getElem?_modify, wC]
                    case endC1 =>
                      rintro DC XC hDDC ⟨hkDC, hcDC⟩ mDC
                      have bC : Below W0.heap.size W0 XC := Below.kp bB hkDC (Nat.le_refl _) (fun j e => by omega)
                      have tC := (hkDC.block _ (lt_of_heap tB) (by omega)).trans tB
                      have kA2 := (hkDC.block _ (lt_of_heap kA1) (by omega)).trans kA1
                      have kB2 := (hkDC.block _ (lt_of_heap hcDB) (by omega)).trans hcDB
                      have mA2 := (hkDC.block _ (lt_of_heap mA1) (by omega)).trans mA1
                      have mB2 := (hkDC.block _ (lt_of_heap mDB) (by omega)).trans mDB
                      have hlDB := lt_of_heap mDB
                      have hlDC := lt_of_heap mDC
                      have qA3 := (hkDC.block _ (lt_of_heap qA2) (by omega)).trans qA2
                      have qB3 := (hkDC.block _ (lt_of_heap qB2) (by omega)).trans qB2
                      have qC3 := (hkDC.block _ (lt_of_heap qC2) (by omega)).trans qC2
                      clear qA2 qB2 qC2
                      have HC := HL.below bC (Nat.le_refl _)
                      have rbC := HC.rbx
                      simp only at rbC
                      have hzD := hkDC.size
                      clear tB kA1 hcDB mA1 mDB hkDC
                      rw [LK.count] at kA2
                      rw [show N.hist.length = R.hist.length by rw [LK.hist]] at kB2
                      rw [show N.ev.length = R.ev.length by rw [LK.ev]] at hcDC
                      have i7 : (R.hist.length : Int) ≤ 1024 := by have := hlR.hist; omega
                      have i8 : (R.ev.length : Int) ≤ 50000 := by have := hlR.ev; omega
                      gi_wp2
                      apply wpIn_region_plan rfl [.rd 0, .rd 1, .rd 2, .rd 3, .rd 4, .act 5, .act 6, .act 7, .rd 8, .rd 9, .rd 10, .rd 11, .rd 12, .act 13, .act 14, .rd 15, .rd 16, .rd 17, .rd 18, .rd 19, .act 20, .act 21] [] (fun w' => w'.heap[T]? = some (.cells #[.int .i64 1] 3 (0, 0)) ∧ w'.heap[C]? = some (.cells #[.int .i64 R.count] 3 (0, 0)) ∧ w'.heap[C + 1]? = some (.cells #[.int .i64 R.hist.length] 3 (0, 0)) ∧ w'.heap[C + 1 + 1]? = some (.cells #[.int .i64 R.ev.length] 3 (0, 0)) ∧ w'.heap[w1.heap.size + 1]? = some (.cells #[.slice aa R.all.length ac, .slice ha R.hist.length hc, .slice ea R.ev.length ec, .slice ba R.blk.length bc] 35))
                      case hm => kernel_rfl
                      case hB => kernel_rfl
                      case hS => exact ⟨tC, kA2, kB2, hcDC, rbC⟩
                      intro W hW
                      have hbW : Below XC.heap.size XC W := by subst hW; exact (Below.refl _ _).drew
                      clear hW
                      iterate 5
                        try simp only [Act.put, List.setIfInBounds_toArray, List.set_cons_succ, List.set_cons_zero]
                        apply plan_rd rfl rfl
                        · intro w' hS
                          obtain ⟨sT, sA, sB, sC, sR⟩ := hS
                          obtain ⟨sT, _, _⟩ := blk1 sT
                          obtain ⟨sA, _, _⟩ := blk1 sA
                          obtain ⟨sB, _, _⟩ := blk1 sB
                          obtain ⟨sC, _, _⟩ := blk1 sC
                          obtain ⟨y0, y1, y2, y3, _, _⟩ := blk4 sR
                          go_simp
                          try rfl
                      apply plan_act rfl
                      try simp only [Act.put, List.setIfInBounds_toArray, List.set_cons_succ, List.set_cons_zero]
                      go_wp2_with fail
                      refine (count_any _ R W (HC.ref.below hbW (Nat.le_refl _)) hlR).mono ?_
                      rintro e WE ⟨rfl, hblE⟩
                      have hbE := hbW.trans (hblE.mono hbW.size)
                      have kk : ∀ {j : Nat} {o : Obj}, XC.heap[j]? = some o → WE.heap[j]? = some o := fun hj => (hbE.block _ (lt_of_heap hj)).trans hj
                      have HSW := Lib.hid (show WE.heap[T]? = some (.cells #[.int .i64 1] 3 (0, 0)) ∧ WE.heap[C]? = some (.cells #[.int .i64 R.count] 3 (0, 0)) ∧ WE.heap[C + 1]? = some (.cells #[.int .i64 R.hist.length] 3 (0, 0)) ∧ WE.heap[C + 1 + 1]? = some (.cells #[.int .i64 R.ev.length] 3 (0, 0)) ∧ WE.heap[w1.heap.size + 1]? = some (.cells #[.slice aa R.all.length ac, .slice ha R.hist.length hc, .slice ea R.ev.length ec, .slice ba R.blk.length bc] 35) from ⟨kk tC, kk kA2, kk kB2, kk hcDC, kk rbC⟩)
                      go_wp2_with fail
                      refine act_on HSW.out ?_
                      iterate 2
                        apply plan_act rfl
                        try simp only [Act.put, List.setIfInBounds_toArray, List.set_cons_succ, List.set_cons_zero]
                        go_wp2_with fail
                        refine act_on HSW.out ?_
                      iterate 5
                        try simp only [Act.put, List.setIfInBounds_toArray, List.set_cons_succ, List.set_cons_zero]
                        apply plan_rd rfl rfl
                        · intro w' hS
                          obtain ⟨sT, sA, sB, sC, sR⟩ := hS
                          obtain ⟨sT, _, _⟩ := blk1 sT
                          obtain ⟨sA, _, _⟩ := blk1 sA
                          obtain ⟨sB, _, _⟩ := blk1 sB
                          obtain ⟨sC, _, _⟩ := blk1 sC
                          obtain ⟨y0, y1, y2, y3, _, _⟩ := blk4 sR
                          go_simp
                          try rfl
                      iterate 2
                        apply plan_act rfl
                        try simp only [Act.put, List.setIfInBounds_toArray, List.set_cons_succ, List.set_cons_zero]
                        go_wp2_with fail
                        refine act_on HSW.out ?_
                      iterate 5
                        try simp only [Act.put, List.setIfInBounds_toArray, List.set_cons_succ, List.set_cons_zero]
                        apply plan_rd rfl rfl
                        · intro w' hS
                          obtain ⟨sT, sA, sB, sC, sR⟩ := hS
                          obtain ⟨sT, _, _⟩ := blk1 sT
                          obtain ⟨sA, _, _⟩ := blk1 sA
                          obtain ⟨sB, _, _⟩ := blk1 sB
                          obtain ⟨sC, _, _⟩ := blk1 sC
                          obtain ⟨y0, y1, y2, y3, _, _⟩ := blk4 sR
                          go_simp
                          try rfl
                      iterate 2
                        apply plan_act rfl
                        try simp only [Act.put, List.setIfInBounds_toArray, List.set_cons_succ, List.set_cons_zero]
                        go_wp2_with fail
                        refine act_on HSW.out ?_
                      refine plan_end (Good.normal ?_)
                      try simp only [Act.put, List.setIfInBounds_toArray, List.set_cons_succ, List.set_cons_zero]
                      have tE := kk tC
                      have mA3 := kk mA2
                      have mB3 := kk mB2
                      have mC3 := kk mDC
                      have qA4 := kk qA3
                      have qB4 := kk qB3
                      have qC4 := kk qC3
                      have bE : Below W0.heap.size W0 WE := bC.trans (hbE.mono bC.size)
                      have hzE := hbE.size
                      clear tC kA2 kB2 hcDC rbC mA2 mB2 mDC HSW HC kk hbW hbE bC qA3 qB3 qC3
                      obtain ⟨z0, zf, _⟩ := blk1 tE
                      gi_wp2
                      have hx := (Below.refl WE.heap.size WE).alloc (Nat.le_refl _) (.cells #[.int .i64 2] 3)
                      have rE := (bE.block _ hww).trans HL.res
                      refine ⟨trivial, callsIn_wide.2 ((known_any _).mono ?_)⟩
                      rintro e W9 ⟨rfl, hb9⟩
                      have k9 : ∀ {j : Nat} {o : Obj}, WE.heap[j]? = some o → W9.heap[j]? = some o := fun hj => ((hx.trans (hb9.mono hx.size)).block _ (lt_of_heap hj)).trans hj
                      have bF : Below w.heap.size w W9 := hbw0.trans ((bE.trans ((hx.trans (hb9.mono hx.size)).mono bE.size)).mono hbw0.size)
                      have f1 := k9 rE
                      have n1 := k9 mC3
                      have n2 := k9 mB3
                      have n3 := k9 mA3
                      have n4 := k9 qC4
                      have n5 := k9 qB4
                      have n6 := k9 qA4
                      obtain ⟨v0, _, _⟩ := blk1 f1
                      have o1 : MA < MB ∧ MB < MC ∧ MC < DA ∧ DA < DB ∧ DB < DC ∧ w.heap.size + 1 < MA := by omega
                      obtain ⟨o1, o2, o3, o4, o5, o6⟩ := o1
                      have hds : [DC, DB, DA, MC, MB, MA].Nodup := by
                        simp only [List.nodup_cons, List.mem_cons, List.not_mem_nil, or_false, not_or, not_false_eq_true, List.nodup_nil, and_true]
                        omega
                      clear k9 rE mC3 mB3 mA3 qC4 qB4 qA4 hb9 hx bE HL hbw0
                      gi_wp2
                      refine leaves_marks [DC, DB, DA, MC, MB, MA] _ hds ?_ ?_
                      · intro D hD
                        have hne : D ≠ w.heap.size + 1 := by
                          simp only [List.mem_cons, List.not_mem_nil, or_false] at hD
                          omega
                        refine (Below.heap_setCell _ _ _ _ hne).trans ?_
                        simp only [List.mem_cons, List.not_mem_nil, or_false] at hD
                        rcases hD with rfl | rfl | rfl | rfl | rfl | rfl <;> assumption
                      · intro W' h1 h2 h3 h4 h5
                        have hr : W'.heap[w.heap.size + 1]? = (W9.setCell ⟨w.heap.size + 1, 0, none⟩ (.bool true)).heap[w.heap.size + 1]? := h5 _ (by
                          simp only [List.mem_cons, List.not_mem_nil, or_false]
                          omega)
                        have hbS : Below w.heap.size w (W9.setCell ⟨w.heap.size + 1, 0, none⟩ (.bool true)) := bF.setCell (p := ⟨w.heap.size + 1, 0, none⟩) (by simp) _
                        refine ⟨.bool true, by simp [results, Try.results5, go_sem, World.cell?, hr, World.setCell, Array.getElem?_modify, f1], rfl, ?_⟩
                        refine ⟨h2.trans hbS.os, h3.trans hbS.tape, h4.trans hbS.output, by rw [h1]; exact hbS.size, fun k hk => (h5 k ?_).trans (hbS.block k hk)⟩
                        simp only [List.mem_cons, List.not_mem_nil, or_false]
                        omega

end Go.Proofs.Ytnkcgalbaeppmaa
