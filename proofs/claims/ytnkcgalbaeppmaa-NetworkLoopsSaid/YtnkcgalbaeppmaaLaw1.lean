/- The laws Plays and Finds: the walks. -/
import Derived.Test.YtnkcgalbaeppmaaDo4
namespace Go.Proofs.Ytnkcgalbaeppmaa
open Go.RowKit
theorem ActAt.kp {w w' : World} {S : Nat → Prop} {b o : Nat} {x : AV} (h : ActAt w b o x) (hk : Kp S w w') (hS : ¬ S b) : ActAt w' b o x := by
  have hlt := World.block_lt_of_cell? w _ h.c0
  have t : ∀ {j : Nat} {v : Value}, w.cell? ⟨b, j, none⟩ = some v → w'.cell? ⟨b, j, none⟩ = some v := fun {j} {v} hc => (hk.cell (p := ⟨b, j, none⟩) hlt hS).trans hc
  exact ⟨t h.c0, t h.c1, t h.c2, t h.c3, t h.c4, t h.c5, t h.c6⟩
theorem Run.after {w0 : World} {c : Nat} {W : World} {rb b : Nat} {N : NetM} {D : ND} {V : RefV} {R : RefM} (h : Run w0 c W rb b N D V R) {W2 : World} {b5 : Nat} {NS : NetM} {D5 : ND} {V5 : RefV} {RS : RefM} (_ : St (c + 1) W2 b5 NS D5 V5 RS) (hkp : Kp (wr D b) W W2) (hwr : ∀ k, wr D5 b5 k → wr D b k ∨ W.heap.size ≤ k) :
    W2.heap[rb]? = some (.cells #[V.al, V.hi, V.ev, V.bl] 35 (0, 0)) ∧ Below w0.heap.size w0 W2 ∧ (∀ j, wr D5 b5 j → w0.heap.size ≤ j) ∧ ∀ j, j < w0.heap.size → ¬ wr D b j :=
  ⟨(hkp.block _ (lt_of_heap h.box) (fun hw => h.st.rep.notbox35 (.inl hw) h.box)).trans h.box, Below.kp h.bel hkp (Nat.le_refl _) (fun j e => h.new j e), fun j hj => (hwr j hj).elim (h.new j) (fun e => Nat.le_trans h.bel.size e), fun j hj hw => by have := h.new j hw; omega⟩
theorem Run.stored {w0 : World} {c : Nat} {rb : Nat} {W2 Y : World} {b5 : Nat} {NS : NetM} {D5 : ND} {V5 : RefV} {RS : RefM} (hst : St (c + 1) W2 b5 NS D5 V5 RS) {cs : Array Value} (hbox2 : W2.heap[rb]? = some (.cells cs 35 (0, 0))) (hkY : Kp (fun j => j = rb) W2 Y)
    (hboxY : Y.heap[rb]? = some (.cells #[V5.al, V5.hi, V5.ev, V5.bl] 35 (0, 0))) (hbel2 : Below w0.heap.size w0 W2) (hnew2 : ∀ j, wr D5 b5 j → w0.heap.size ≤ j) (hrn : w0.heap.size ≤ rb) : Run w0 (c + 1) Y rb b5 NS D5 V5 RS :=
  ⟨⟨hst.rep.kp hkY (fun j hf e => hst.rep.notbox35 hf (e ▸ hbox2)), hst.ref.same (fun j hr => hkY.block j (hst.ref.lt j hr) (fun e => hst.ref.notbox hbox2 (e ▸ hr))), hst.lk, hst.ok, hst.ap⟩, hboxY, hnew2, Below.kp hbel2 hkY (Nat.le_refl _) (fun j e => by omega), hrn⟩
def V0 : RefV := ⟨.slice none 0 0, .slice none 0 0, .slice none 0 0, .slice none 0 0, [], []⟩
theorem ref0 (w : World) : RefAt w V0 R0 := ⟨World.ownsRow_nil _ _ _ _, Both.nil, World.ownsRow_nil _ _ _ _, Both.nil, World.ownsRow_nil _ _ _ _, World.ownsRow_nil _ _ _ _⟩
theorem rp0 {k : Nat} (h : rp V0 k) : False := by
  rcases h with h | h | h | h | ⟨x, hx, _⟩ | ⟨x, hx, _⟩
  · simp [V0, Value.ownBlock] at h
  · simp [V0, Value.ownBlock] at h
  · simp [V0, Value.ownBlock] at h
  · simp [V0, Value.ownBlock] at h
  · simp [V0] at hx
  · simp [V0] at hx
/-- The start. -/
theorem run0 (w : World) : Run w 0 ((w.alloc (.cells #[.slice none 0 0, .slice none 0 0, .int .i64 0, .map none, .slice none 0 0] 31)).alloc (.cells #[.slice none 0 0, .slice none 0 0, .slice none 0 0, .slice none 0 0] 35)) (w.heap.size + 1) w.heap.size N0 D0 V0 R0 :=
  ⟨⟨rep_new (top1 w _ _), ref0 _, lk0, ok0, fun k hr _ => rp0 hr⟩, top0 w _ _, fun k hw => by have := fp_new (.inl hw); omega, ((Below.refl _ w).alloc (Nat.le_refl _) _).alloc (by simp) _, Nat.le_succ _⟩
set_option maxHeartbeats 3200000 in
set_option maxRecDepth 100000 in
theorem plays_any (p : Option Addr) (cp : Nat) (l : List AV) (w : World) (acts_l : Acts w p l) : Calls Try.prog 3 #[.slice p l.length cp] w fun e w' => e = .returned (.bool true) ∧ Below w.heap.size w w' := by
  cases hf : fewB l 40
  · go_enter Try.func3, Try.ntmps3
    go_wp2_with fail
    refine (few_any p cp l 40 w acts_l.at_ (by decide)).mono ?_
    rw [hf]
    rintro e w1 ⟨rfl, rfl⟩
    clear hf
    go_wp2_with fail
    refine (known_any w1).mono ?_
    rintro e w2 ⟨rfl, hb⟩
    go_wp2_with fail
    go_ret
    exact ⟨rfl, hb⟩
  · obtain ⟨hlen, small_l⟩ := fewB_small hf
    have hl40 : l.length ≤ 40 := by omega
    have HF := Lib.hid hf
    clear hf hlen
    go_enter Try.func3, Try.ntmps3
    go_wp2_with fail
    refine (few_any p cp l 40 w acts_l.at_ (by decide)).mono ?_
    rw [HF.out]
    rintro e w1 ⟨rfl, rfl⟩
    have hrun := run0 w1
    go_wp2_with fail
    generalize (w1.alloc (.cells #[.slice none 0 0, .slice none 0 0, .int .i64 0, .map none, .slice none 0 0] 31)).alloc (.cells #[.slice none 0 0, .slice none 0 0, .slice none 0 0, .slice none 0 0] 35) = w2 at hrun ⊢
    go_loopw [3, 5, 6] (fun n fine i wr => ∃ (k b : Nat) (N : NetM) (D : ND) (V : RefV) (R : RefM), k ≤ l.length ∧ i = .int .i64 k ∧ fine = .bool true ∧ n = .pointer (some ⟨b, 0, none⟩) ∧ Run w1 k wr (w1.heap.size + 1) b N D V R) (fun _ _ i _ => l.length - (intOf i).toNat)
    case atStart => exact ⟨0, _, _, _, _, _, Nat.zero_le _, rfl, rfl, rfl, hrun⟩
    case round =>
      obtain ⟨k, b, N, D, V, R, hk, rfl, rfl, rfl, hR⟩ := hrel
      clear hrun
      by_cases hlt : k < l.length
      · skip
        obtain ⟨x, hx⟩ : ∃ x, l[k]? = some x := ⟨_, List.getElem?_eq_getElem hlt⟩
        obtain ⟨bl, ol, hp, hat⟩ := acts_l.at_ (by omega)
        have hax := (hat k x hx).below hR.bel (Nat.le_refl _)
        subst hp
        have HXM := Lib.hid (List.mem_of_getElem? hx)
        have HX := Lib.hid hx
        have hat0 := hat
        obtain ⟨aa, ac, ha, hc, ea, ec, ba, bc, h1, h2, h3, h4⟩ := hR.st.ref.forms
        obtain ⟨al, hi, ev, blv, ps, hs'⟩ := V
        simp only at h1 h2 h3 h4
        subst h1 h2 h3 h4
        have i0 : (0 : Int) ≤ (k : Int) := by omega
        have i1 : (k : Int) < (l.length : Int) := by omega
        have i2 : (l.length : Int) ≤ 40 := by omega
        clear hat hx
        have hbox := hR.box
        simp only at hbox
        go_wp2_with fail
        apply wp_region_plan [.rd 0, .rd 1, .rd 2, .rd 3, .rd 4, .rd 5, .act 6, .act 7, .rp 8, .rp 9, .rp 10, .act 11, .act 12, .act 13] [8, 9, 10, 11, 12, 13] (fun w' => w'.heap[w1.heap.size + 1]? = some (.cells #[.slice aa R.all.length ac, .slice ha R.hist.length hc, .slice ea R.ev.length ec, .slice ba R.blk.length bc] 35) ∧ ActAt w' bl (ol + k * 7) x)
        case hm => kernel_rfl
        case hB => kernel_rfl
        case hS => exact ⟨hbox, hax.below (Below.refl wr.heap.size wr).drew (Nat.le_refl _)⟩
        intro W hW
        have hbW : Below wr.heap.size wr W := by subst hW; exact (Below.refl _ _).drew
        clear hW
        iterate 6
          try simp only [Act.put, List.setIfInBounds_toArray, List.set_cons_succ, List.set_cons_zero]
          apply plan_rd rfl rfl
          · intro w' hS
            obtain ⟨y0, y1, y2, y3, _, _⟩ := blk4 hS.1
            have s0 := hS.2.c0
            have s1 := hS.2.c1
            have s2 := hS.2.c2
            have s3 := hS.2.c3
            have s4 := hS.2.c4
            have s5 := hS.2.c5
            have s6 := hS.2.c6
            clear hS
            go_simp
            try rfl
        have hRW := hR.below hbW
        have haW := hax.below hbW (Nat.le_refl _)
        clear hbW hR hax hbox
        obtain ⟨m, hxs⟩ := acts_l.src HXM.out (small_l x HXM.out) hRW.bel hRW.new
        apply plan_act rfl
        try simp only [Act.put, List.setIfInBounds_toArray, List.set_cons_succ, List.set_cons_zero]
        go_wp2_with fail
        refine (do_any (k) _ R b N D x m W hRW.st (by omega) hxs).mono ?_
        rintro e W2 ⟨⟨al5, hi5, ev5, bl5, ps5, hs5⟩, D5, b5, rfl, hst, hkp, hwr, hnw⟩
        obtain ⟨hbox2, hbel2, hnew2, hfarX⟩ := hRW.after hst hkp hwr
        have haX : ActAt W2 bl (ol + k * 7) x := haW.kp hkp (hfarX _ (World.block_lt_of_cell? w1 _ (hat0 k x HX.out).c0))
        generalize (N.step x m) = NS at hst
        generalize (R.step x m) = RS at hst
        obtain ⟨xa, xc, xb, xd, xe, xf, xg, xh, z1, z2, z3, z4⟩ := hst.ref.forms
        simp only at z1 z2 z3 z4
        subst z1 z2 z3 z4
        simp only [RefV.val]
        have hrn := hRW.rnew
        simp only at hbox2
        clear hRW haW hkp hxs
        go_wp2_with fail
        refine act_on ⟨hbox2, haX⟩ ?_
        apply plan_act rfl
        try simp only [Act.put, List.setIfInBounds_toArray, List.set_cons_succ, List.set_cons_zero]
        go_wp2_with fail
        refine act_on ⟨hbox2, haX⟩ ?_
        iterate 3
          try simp only [Act.put, List.setIfInBounds_toArray, List.set_cons_succ, List.set_cons_zero]
          apply plan_rp rfl rfl
          · intro w' _
            go_simp
            try rfl
        apply plan_act rfl
        try simp only [Act.put, List.setIfInBounds_toArray, List.set_cons_succ, List.set_cons_zero]
        go_wp2_with fail
        refine act_late rfl ?_
        obtain ⟨u0, u1, u2, u3, uf, ul⟩ := blk4 hbox2
        apply plan_act rfl
        try simp only [Act.put, List.setIfInBounds_toArray, List.set_cons_succ, List.set_cons_zero]
        go_wp2_with fail
        refine act_late rfl ?_
        have hkY := ((((Kp.refl (fun j => j = w1.heap.size + 1) W2).setCell (p := ⟨w1.heap.size + 1, 0, none⟩) (fun _ => rfl) (.slice xa RS.all.length xc)).setCell (p := ⟨w1.heap.size + 1, 1, none⟩) (fun _ => rfl) (.slice xb RS.hist.length xd)).setCell (p := ⟨w1.heap.size + 1, 2, none⟩) (fun _ => rfl) (.slice xe RS.ev.length xf)).setCell (p := ⟨w1.heap.size + 1, 3, none⟩) (fun _ => rfl) (.slice xg RS.blk.length xh)
        have hboxY : ((((W2.setCell ⟨w1.heap.size + 1, 0, none⟩ (.slice xa RS.all.length xc)).setCell ⟨w1.heap.size + 1, 1, none⟩ (.slice xb RS.hist.length xd)).setCell ⟨w1.heap.size + 1, 2, none⟩ (.slice xe RS.ev.length xf)).setCell ⟨w1.heap.size + 1, 3, none⟩ (.slice xg RS.blk.length xh)).heap[w1.heap.size + 1]? = some (.cells #[.slice xa RS.all.length xc, .slice xb RS.hist.length xd, .slice xe RS.ev.length xf, .slice xg RS.blk.length xh] 35) := by simp [World.setCell, Array.getElem?_modify, hbox2]
        have hRY : Run w1 (k + 1) ((((W2.setCell ⟨w1.heap.size + 1, 0, none⟩ (.slice xa RS.all.length xc)).setCell ⟨w1.heap.size + 1, 1, none⟩ (.slice xb RS.hist.length xd)).setCell ⟨w1.heap.size + 1, 2, none⟩ (.slice xe RS.ev.length xf)).setCell ⟨w1.heap.size + 1, 3, none⟩ (.slice xg RS.blk.length xh)) (w1.heap.size + 1) b5 NS D5 ⟨.slice xa RS.all.length xc, .slice xb RS.hist.length xd, .slice xe RS.ev.length xf, .slice xg RS.blk.length xh, ps5, hs5⟩ RS := Run.stored hst hbox2 hkY hboxY hbel2 hnew2 hrn
        clear u0 u1 u2 u3 uf ul hbox2 hboxY hst hbel2 hnew2 haX hwr hnw hkY
        generalize ((((W2.setCell ⟨w1.heap.size + 1, 0, none⟩ (.slice xa RS.all.length xc)).setCell ⟨w1.heap.size + 1, 1, none⟩ (.slice xb RS.hist.length xd)).setCell ⟨w1.heap.size + 1, 2, none⟩ (.slice xe RS.ev.length xf)).setCell ⟨w1.heap.size + 1, 3, none⟩ (.slice xg RS.blk.length xh)) = Y at hRY ⊢
        apply plan_act rfl
        try simp only [Act.put, List.setIfInBounds_toArray, List.set_cons_succ, List.set_cons_zero]
        go_wp2_with fail
        refine act_late rfl ?_
        refine plan_end (Good.normal ?_)
        go_wp2_with fail
        go_roundw
        case rel => exact ⟨k + 1, b5, NS, D5, _, RS, by omega, by go_num, rfl, rfl, hRY⟩
        case measure => simp [intOf]; omega

      · obtain rfl : k = l.length := by omega
        go_wp2_with fail
        refine (known_any wr).mono ?_
        rintro e w4 ⟨rfl, hb⟩
        go_wp2_with fail
        go_ret
        exact ⟨rfl, hR.bel.trans (hb.mono hR.bel.size)⟩
set_option maxHeartbeats 3200000 in
set_option maxRecDepth 100000 in
theorem finds_any (p : Option Addr) (cp : Nat) (l : List AV) (id : Int) (w : World) (acts_l : Acts w p l) : Calls Try.prog 4 #[.slice p l.length cp, .int .i64 id] w fun e w' => e = .returned (.bool true) ∧ Below w.heap.size w w' := by
  cases hf : fewB l 30
  · go_enter Try.func4, Try.ntmps4
    go_wp2_with fail
    refine (few_any p cp l 30 w acts_l.at_ (by decide)).mono ?_
    rw [hf]
    rintro e w1 ⟨rfl, rfl⟩
    clear hf
    go_wp2_with fail
    refine (known_any w1).mono ?_
    rintro e w2 ⟨rfl, hb⟩
    go_wp2_with fail
    go_ret
    exact ⟨rfl, hb⟩
  · obtain ⟨hlen, small_l⟩ := fewB_small hf
    have hl40 : l.length ≤ 40 := by omega
    have HF := Lib.hid hf
    clear hf hlen
    go_enter Try.func4, Try.ntmps4
    go_wp2_with fail
    refine (few_any p cp l 30 w acts_l.at_ (by decide)).mono ?_
    rw [HF.out]
    rintro e w1 ⟨rfl, rfl⟩
    have hrun := run0 w1
    go_wp2_with fail
    generalize (w1.alloc (.cells #[.slice none 0 0, .slice none 0 0, .int .i64 0, .map none, .slice none 0 0] 31)).alloc (.cells #[.slice none 0 0, .slice none 0 0, .slice none 0 0, .slice none 0 0] 35) = w2 at hrun ⊢
    go_loopw [5, 7, 8] (fun n fine i wr => ∃ (k b : Nat) (N : NetM) (D : ND) (V : RefV) (R : RefM), k ≤ l.length ∧ i = .int .i64 k ∧ fine = .bool true ∧ n = .pointer (some ⟨b, 0, none⟩) ∧ Run w1 k wr (w1.heap.size + 1) b N D V R) (fun _ _ i _ => l.length - (intOf i).toNat)
    case atStart => exact ⟨0, _, _, _, _, _, Nat.zero_le _, rfl, rfl, rfl, hrun⟩
    case round =>
      obtain ⟨k, b, N, D, V, R, hk, rfl, rfl, rfl, hR⟩ := hrel
      clear hrun
      by_cases hlt : k < l.length
      · skip
        obtain ⟨x, hx⟩ : ∃ x, l[k]? = some x := ⟨_, List.getElem?_eq_getElem hlt⟩
        obtain ⟨bl, ol, hp, hat⟩ := acts_l.at_ (by omega)
        have hax := (hat k x hx).below hR.bel (Nat.le_refl _)
        subst hp
        have HXM := Lib.hid (List.mem_of_getElem? hx)
        have HX := Lib.hid hx
        have hat0 := hat
        obtain ⟨aa, ac, ha, hc, ea, ec, ba, bc, h1, h2, h3, h4⟩ := hR.st.ref.forms
        obtain ⟨al, hi, ev, blv, ps, hs'⟩ := V
        simp only at h1 h2 h3 h4
        subst h1 h2 h3 h4
        have i0 : (0 : Int) ≤ (k : Int) := by omega
        have i1 : (k : Int) < (l.length : Int) := by omega
        have i2 : (l.length : Int) ≤ 40 := by omega
        clear hat hx
        have hbox := hR.box
        simp only at hbox
        go_wp2_with fail
        apply wp_region_plan [.rd 0, .rd 1, .rd 2, .rd 3, .rd 4, .rd 5, .act 6, .act 7, .rp 8, .rp 9, .rp 10, .act 11, .act 12, .act 13] [8, 9, 10, 11, 12, 13] (fun w' => w'.heap[w1.heap.size + 1]? = some (.cells #[.slice aa R.all.length ac, .slice ha R.hist.length hc, .slice ea R.ev.length ec, .slice ba R.blk.length bc] 35) ∧ ActAt w' bl (ol + k * 7) x)
        case hm => kernel_rfl
        case hB => kernel_rfl
        case hS => exact ⟨hbox, hax.below (Below.refl wr.heap.size wr).drew (Nat.le_refl _)⟩
        intro W hW
        have hbW : Below wr.heap.size wr W := by subst hW; exact (Below.refl _ _).drew
        clear hW
        iterate 6
          try simp only [Act.put, List.setIfInBounds_toArray, List.set_cons_succ, List.set_cons_zero]
          apply plan_rd rfl rfl
          · intro w' hS
            obtain ⟨y0, y1, y2, y3, _, _⟩ := blk4 hS.1
            have s0 := hS.2.c0
            have s1 := hS.2.c1
            have s2 := hS.2.c2
            have s3 := hS.2.c3
            have s4 := hS.2.c4
            have s5 := hS.2.c5
            have s6 := hS.2.c6
            clear hS
            go_simp
            try rfl
        have hRW := hR.below hbW
        have haW := hax.below hbW (Nat.le_refl _)
        clear hbW hR hax hbox
        obtain ⟨m, hxs⟩ := acts_l.src HXM.out (small_l x HXM.out) hRW.bel hRW.new
        apply plan_act rfl
        try simp only [Act.put, List.setIfInBounds_toArray, List.set_cons_succ, List.set_cons_zero]
        go_wp2_with fail
        refine (do_any (k) _ R b N D x m W hRW.st (by omega) hxs).mono ?_
        rintro e W2 ⟨⟨al5, hi5, ev5, bl5, ps5, hs5⟩, D5, b5, rfl, hst, hkp, hwr, hnw⟩
        obtain ⟨hbox2, hbel2, hnew2, hfarX⟩ := hRW.after hst hkp hwr
        have haX : ActAt W2 bl (ol + k * 7) x := haW.kp hkp (hfarX _ (World.block_lt_of_cell? w1 _ (hat0 k x HX.out).c0))
        generalize (N.step x m) = NS at hst
        generalize (R.step x m) = RS at hst
        obtain ⟨xa, xc, xb, xd, xe, xf, xg, xh, z1, z2, z3, z4⟩ := hst.ref.forms
        simp only at z1 z2 z3 z4
        subst z1 z2 z3 z4
        simp only [RefV.val]
        have hrn := hRW.rnew
        simp only at hbox2
        clear hRW haW hkp hxs
        go_wp2_with fail
        refine act_on ⟨hbox2, haX⟩ ?_
        apply plan_act rfl
        try simp only [Act.put, List.setIfInBounds_toArray, List.set_cons_succ, List.set_cons_zero]
        go_wp2_with fail
        refine act_on ⟨hbox2, haX⟩ ?_
        iterate 3
          try simp only [Act.put, List.setIfInBounds_toArray, List.set_cons_succ, List.set_cons_zero]
          apply plan_rp rfl rfl
          · intro w' _
            go_simp
            try rfl
        apply plan_act rfl
        try simp only [Act.put, List.setIfInBounds_toArray, List.set_cons_succ, List.set_cons_zero]
        go_wp2_with fail
        refine act_late rfl ?_
        obtain ⟨u0, u1, u2, u3, uf, ul⟩ := blk4 hbox2
        apply plan_act rfl
        try simp only [Act.put, List.setIfInBounds_toArray, List.set_cons_succ, List.set_cons_zero]
        go_wp2_with fail
        refine act_late rfl ?_
        have hkY := ((((Kp.refl (fun j => j = w1.heap.size + 1) W2).setCell (p := ⟨w1.heap.size + 1, 0, none⟩) (fun _ => rfl) (.slice xa RS.all.length xc)).setCell (p := ⟨w1.heap.size + 1, 1, none⟩) (fun _ => rfl) (.slice xb RS.hist.length xd)).setCell (p := ⟨w1.heap.size + 1, 2, none⟩) (fun _ => rfl) (.slice xe RS.ev.length xf)).setCell (p := ⟨w1.heap.size + 1, 3, none⟩) (fun _ => rfl) (.slice xg RS.blk.length xh)
        have hboxY : ((((W2.setCell ⟨w1.heap.size + 1, 0, none⟩ (.slice xa RS.all.length xc)).setCell ⟨w1.heap.size + 1, 1, none⟩ (.slice xb RS.hist.length xd)).setCell ⟨w1.heap.size + 1, 2, none⟩ (.slice xe RS.ev.length xf)).setCell ⟨w1.heap.size + 1, 3, none⟩ (.slice xg RS.blk.length xh)).heap[w1.heap.size + 1]? = some (.cells #[.slice xa RS.all.length xc, .slice xb RS.hist.length xd, .slice xe RS.ev.length xf, .slice xg RS.blk.length xh] 35) := by simp [World.setCell, Array.getElem?_modify, hbox2]
        have hRY : Run w1 (k + 1) ((((W2.setCell ⟨w1.heap.size + 1, 0, none⟩ (.slice xa RS.all.length xc)).setCell ⟨w1.heap.size + 1, 1, none⟩ (.slice xb RS.hist.length xd)).setCell ⟨w1.heap.size + 1, 2, none⟩ (.slice xe RS.ev.length xf)).setCell ⟨w1.heap.size + 1, 3, none⟩ (.slice xg RS.blk.length xh)) (w1.heap.size + 1) b5 NS D5 ⟨.slice xa RS.all.length xc, .slice xb RS.hist.length xd, .slice xe RS.ev.length xf, .slice xg RS.blk.length xh, ps5, hs5⟩ RS := Run.stored hst hbox2 hkY hboxY hbel2 hnew2 hrn
        clear u0 u1 u2 u3 uf ul hbox2 hboxY hst hbel2 hnew2 haX hwr hnw hkY
        generalize ((((W2.setCell ⟨w1.heap.size + 1, 0, none⟩ (.slice xa RS.all.length xc)).setCell ⟨w1.heap.size + 1, 1, none⟩ (.slice xb RS.hist.length xd)).setCell ⟨w1.heap.size + 1, 2, none⟩ (.slice xe RS.ev.length xf)).setCell ⟨w1.heap.size + 1, 3, none⟩ (.slice xg RS.blk.length xh)) = Y at hRY ⊢
        apply plan_act rfl
        try simp only [Act.put, List.setIfInBounds_toArray, List.set_cons_succ, List.set_cons_zero]
        go_wp2_with fail
        refine act_late rfl ?_
        refine plan_end (Good.normal ?_)
        go_wp2_with fail
        go_roundw
        case rel => exact ⟨k + 1, b5, NS, D5, _, RS, by omega, by go_num, rfl, rfl, hRY⟩
        case measure => simp [intOf]; omega

      · obtain rfl : k = l.length := by omega
        have hlR := hR.st.ok.lim (by omega)
        have hl := hR.st.lk.lim hR.st.ok (by omega)
        go_wp2_with fail
        refine (source_any b N D id wr hR.st.rep hl).mono ?_
        rintro e w3 ⟨rfl, hb3⟩
        have hR3 := hR.below hb3
        clear hR hb3
        go_wp2_with fail
        refine (genuine_any b N D id w3 hR3.st.rep hl).mono ?_
        rintro e w4 ⟨rfl, hb4⟩
        have hR4 := hR3.below hb4
        clear hR3 hb4
        obtain ⟨aa, ac, ha, hc, ea, ec, ba, bc, h1, h2, h3, h4⟩ := hR4.st.ref.forms
        obtain ⟨al, hi, ev, blv, ps, hs'⟩ := V
        simp only at h1 h2 h3 h4
        subst h1 h2 h3 h4
        have hbox := hR4.box
        simp only at hbox
        obtain ⟨y0, y1, y2, y3, _, _⟩ := blk4 hbox
        cases hfl : R.flies id
        · have hsrc : N.source id = (0, 9) := by
            unfold NetM.source; rw [hR4.st.lk.fl, flies_false hfl]
          have hgen : N.genuine id = (false, 9) := by
            unfold NetM.genuine; rw [hR4.st.lk.fl, flies_false hfl]
          rw [hsrc, hgen]
          dsimp only
          have HFL := Lib.hid hfl
          clear hfl hsrc hgen
          go_wp2_with fail
          refine (flies_any _ R id w4 hR4.st.ref hlR).mono ?_
          rw [HFL.out]
          rintro e w5 ⟨rfl, hb5⟩
          have hR5 := hR4.below hb5
          clear hR4 hb5 hbox y0 y1 y2 y3
          go_wp2_with fail
          refine (known_any w5).mono ?_
          rintro e w6 ⟨rfl, hb⟩
          go_wp2_with fail
          go_ret
          exact ⟨rfl, hR5.bel.trans (hb.mono hR5.bel.size)⟩
        · obtain ⟨n, x, rfl, hg, M⟩ := flies_true hfl
          have hsrc := hR4.st.lk.source M
          have hgen := hR4.st.lk.genuine M
          rw [hsrc, hgen]
          dsimp only
          have HFL := Lib.hid hfl
          have HM := Lib.hid M.at_
          clear hfl hsrc hgen hg M
          go_wp2_with fail
          refine (flies_any _ R n w4 hR4.st.ref hlR).mono ?_
          rw [HFL.out]
          rintro e w5 ⟨rfl, hb5⟩
          have hR5 := hR4.below hb5
          clear hR4 hb5 hbox y0 y1 y2 y3
          have hbox := hR5.box
          simp only at hbox
          obtain ⟨y0, y1, y2, y3, _, _⟩ := blk4 hbox
          obtain ⟨xv, hx, hxm⟩ := hR5.st.ref.allp.at HM.out
          have hall := hR5.st.ref.all
          simp only at hx hall
          have hnl : n < R.all.length := (List.getElem?_eq_some_iff.1 HM.out).1
          obtain ⟨g, cap, hgv, _, lg⟩ := hall.form (by omega)
          injection hgv with hv1 _ hv2
          subst hv1 hv2
          obtain ⟨d0, d1, d2, d3, d4⟩ := all_cells hall hx
          rw [hxm.src] at d3
          have hla := hlR.all
          have i0 : (0 : Int) ≤ (n : Int) := by omega
          have i1 : (n : Int) < (R.all.length : Int) := by omega
          have i2 : (R.all.length : Int) ≤ 50000 := by omega
          clear hall hx hxm
          go_wp2_with fail
          refine (genuineR_any _ R n x w5 hR5.st.ref hlR HM.out).mono ?_
          rintro e w6 ⟨rfl, hb6⟩
          have hR6 := hR5.below hb6
          clear hR5 hb6 hbox y0 y1 y2 y3 d0 d1 d2 d3 d4
          go_wp2_with fail
          refine (known_any w6).mono ?_
          rintro e w7 ⟨rfl, hb⟩
          go_wp2_with fail
          go_ret
          exact ⟨rfl, hR6.bel.trans (hb.mono hR6.bel.size)⟩
end Go.Proofs.Ytnkcgalbaeppmaa
