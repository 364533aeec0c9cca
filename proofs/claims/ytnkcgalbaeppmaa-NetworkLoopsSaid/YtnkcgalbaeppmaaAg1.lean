/- The law's flight: a network in the reference's state. -/
import Derived.Test.YtnkcgalbaeppmaaAg0
import Derived.Test.YtnkcgalbaeppmaaPlan
namespace Go.Proofs.Ytnkcgalbaeppmaa
open Go.RowKit
attribute [local go_sem] Oper.semAt_some
theorem keepsOthers_of_below {W W' : World} (h : Below W.heap.size W W') : KeepsOthers W W' := ⟨h.size, fun k _ hk _ => (h.block k (lt_of_heap hk)).trans hk⟩
theorem keepS {W W' : World} {K A B' g n B : Nat} {c0 cB cA : Obj} {x y z : Value} (hb : Below B W W') (hB : W.heap.size ≤ B) (h : W.heap[K]? = some c0 ∧ W.heap[B']? = some cB ∧ W.heap[A]? = some cA ∧ W.cell? ⟨g, n * 5, none⟩ = some x ∧ W.cell? ⟨g, n * 5 + 1, none⟩ = some y ∧ W.cell? ⟨g, n * 5 + 2, none⟩ = some z) :
    W'.heap[K]? = some c0 ∧ W'.heap[B']? = some cB ∧ W'.heap[A]? = some cA ∧ W'.cell? ⟨g, n * 5, none⟩ = some x ∧ W'.cell? ⟨g, n * 5 + 1, none⟩ = some y ∧ W'.cell? ⟨g, n * 5 + 2, none⟩ = some z := by
  obtain ⟨h1, h2, h3, h4, h5, h6⟩ := h
  have hg := World.block_lt_of_cell? W _ h4
  exact ⟨(hb.block _ (Nat.lt_of_lt_of_le (lt_of_heap h1) hB)).trans h1, (hb.block _ (Nat.lt_of_lt_of_le (lt_of_heap h2) hB)).trans h2, (hb.block _ (Nat.lt_of_lt_of_le (lt_of_heap h3) hB)).trans h3,
    (hb.cell (p := ⟨g, n * 5, none⟩) (Nat.lt_of_lt_of_le hg hB)).trans h4, (hb.cell (p := ⟨g, n * 5 + 1, none⟩) (Nat.lt_of_lt_of_le hg hB)).trans h5, (hb.cell (p := ⟨g, n * 5 + 2, none⟩) (Nat.lt_of_lt_of_le hg hB)).trans h6⟩
/-- What a round of flight has at hand. -/
structure RH (w0 : Nat) (V : RefV) (R : RefM) (b : Nat) (N : NetM) (D : ND) (q : PV) (m : Pk) (K A : Nat) (lst : Int) (k : Nat) (W : World) : Prop where
  rep : RepOk W b N D
  ref : RefAt W V R
  own : POwn W q m
  nb : W.heap[w0]? = some (.cells #[.pointer (some ⟨b, 0, none⟩)] 25 (0, 0))
  rb : W.heap[w0 + 1]? = some (.cells #[V.al, V.hi, V.ev, V.bl] 35 (0, 0))
  res : W.heap[w0 + 1 + 1]? = some (.cells #[.bool false] 4 (0, 0))
  last : W.heap[K]? = some (.cells #[.int .i64 lst] 3 (0, 0))
  cnt : W.heap[K + 1]? = some (.cells #[.int .i64 k] 3 (0, 0))
  pb : W.heap[A]? = some (.cells #[.string q.f, .string q.t, .slice q.ba q.bn q.bc] 40 (0, 0))
theorem RH.below {w0 : Nat} {V : RefV} {R : RefM} {b : Nat} {N : NetM} {D : ND} {q : PV} {m : Pk} {K A : Nat} {lst : Int} {k : Nat} {W W' : World} (h : RH w0 V R b N D q m K A lst k W) {B : Nat} (hb : Below B W W') (hB : W.heap.size ≤ B) : RH w0 V R b N D q m K A lst k W' := by
  have t : ∀ {j : Nat} {o : Obj}, W.heap[j]? = some o → W'.heap[j]? = some o := fun hj => (hb.block _ (Nat.lt_of_lt_of_le (lt_of_heap hj) hB)).trans hj
  exact ⟨h.rep.below hb hB, h.ref.below hb hB, h.own.below hb hB, t h.nb, t h.rb, t h.res, t h.last, t h.cnt, t h.pb⟩
set_option maxHeartbeats 3200000 in
set_option maxRecDepth 100000 in
theorem flightR_any (V : RefV) (R : RefM) (b : Nat) (N : NetM) (D : ND) (w : World) (h : RepOk w b N D) (hl : N.lim) (hV : RefAt w V R) (hlR : R.lim) (L : Lk N R) :
    Calls Try.prog 52 #[.pointer (some ⟨b, 0, none⟩), V.val] w fun e w' => e = .returned (.bool true) ∧ Below w.heap.size w w' := by
  have hmix : Try.prog.follows .mixedOrders = true := by kernel_rfl
  have hq53 := fun w f a b => run_eql_func_nil (P := Try.prog) 53 f a b w _ _ _ u53
  obtain ⟨aa, ac, ha, hc, ea, ec, ba, bc, h1, h2, h3, h4⟩ := hV.forms
  obtain ⟨al, hi, ev, bl, ps, hs'⟩ := V
  simp only at h1 h2 h3 h4
  subst h1 h2 h3 h4
  simp only [RefV.val]
  refine (callsIn_wide (n := 9)).1 (callsIn_of_wp_marks Try.func52 rfl trivial ?_ rfl)
  simp only [Try.ntmps52, List.size_toArray, List.length_cons, List.length_nil, Nat.reduceAdd, Nat.reduceSub, Array.replicate_succ, Array.replicate_zero, List.push_toArray, List.append_toArray, List.nil_append, List.cons_append]
  gi_wp2
  obtain ⟨e0, e1, e2⟩ := top3 w (.cells #[.pointer (some ⟨b, 0, none⟩)] 25) (.cells #[.slice aa R.all.length ac, .slice ha R.hist.length hc, .slice ea R.ev.length ec, .slice ba R.blk.length bc] 35) (.cells #[.bool false] 4)
  have hb : Below w.heap.size w (((w.alloc (.cells #[.pointer (some ⟨b, 0, none⟩)] 25)).alloc (.cells #[.slice aa R.all.length ac, .slice ha R.hist.length hc, .slice ea R.ev.length ec, .slice ba R.blk.length bc] 35)).alloc (.cells #[.bool false] 4)) := (((Below.refl _ w).alloc (Nat.le_refl _) _).alloc (by simp) _).alloc (by simp; omega) _
  generalize ((w.alloc (.cells #[.pointer (some ⟨b, 0, none⟩)] 25)).alloc (.cells #[.slice aa R.all.length ac, .slice ha R.hist.length hc, .slice ea R.ev.length ec, .slice ba R.blk.length bc] 35)).alloc (.cells #[.bool false] 4) = w1 at e0 e1 e2 hb ⊢
  refine ⟨trivial, callsIn_wide.2 ((flight_any w1 b N D (h.below hb (Nat.le_refl _)) hl).mono ?_)⟩
  rintro e w2 ⟨B, v, qs, rfl, hbx, hBs, hfa, hb2⟩
  have g0 := (hb2.block _ (lt_of_heap e0)).trans e0
  have g1 := (hb2.block _ (lt_of_heap e1)).trans e1
  have g2 := (hb2.block _ (lt_of_heap e2)).trans e2
  have hb3 := hb.trans (hb2.mono hb.size)
  have hs : FlSeq B v qs N.fl w2 := ⟨hbx, hfa.own, hfa.p⟩
  have hlt1 := lt_of_heap e2
  have hBl := lt_of_heap hbx
  have hfl2 : ∀ k, (v.ownBlock = some k ∨ ∃ x ∈ qs, x.p.blk = some k) → k < w2.heap.size := fun k hk => hfa.lt hk
  clear e0 e1 e2 hb hb2 hbx hfa
  gi_wp2
  have hb4 : Below w.heap.size w ((w2.alloc (.cells #[.int .i64 (-1)] 3)).alloc (.cells #[.int .i64 0] 3)) :=
    (hb3.alloc hb3.size _).alloc (by have := hb3.size; simp; omega) _
  have hk : Below w2.heap.size w2 ((w2.alloc (.cells #[.int .i64 (-1)] 3)).alloc (.cells #[.int .i64 0] 3)) :=
    ((Below.refl w2.heap.size w2).alloc (Nat.le_refl _) _).alloc (by simp) _
  have e4 := top1 w2 (.cells #[.int .i64 (-1)] 3) (.cells #[.int .i64 0] 3)
  have e5 := top0 w2 (.cells #[.int .i64 (-1)] 3) (.cells #[.int .i64 0] 3)
  have f0 := (hk.block _ (lt_of_heap g0)).trans g0
  have f1 := (hk.block _ (lt_of_heap g1)).trans g1
  have f2 := (hk.block _ (lt_of_heap g2)).trans g2
  have hs2 : FlSeq B v qs N.fl ((w2.alloc (.cells #[.int .i64 (-1)] 3)).alloc (.cells #[.int .i64 0] 3)) :=
    ⟨(hk.block _ (lt_of_heap hs.box)).trans hs.box, ownsRow_below hs.own hk (Nat.le_refl _), hs.p.mono fun x y hx hm => ⟨hm.p.below hk (Nat.le_refl _), hm.id, hm.src⟩⟩
  have hwl := hb3.size
  have hl2 := lt_of_heap g2
  clear hs hk hb3 g0 g1 g2
  generalize (w2.alloc (.cells #[.int .i64 (-1)] 3)).alloc (.cells #[.int .i64 0] 3) = w3 at hb4 e4 e5 f0 f1 f2 hs2 ⊢
  generalize w2.heap.size = K at e4 e5 hBl hfl2 hwl hl2 ⊢
  have hK3 := lt_of_heap e5
  have hR3 := h.below hb4 (Nat.le_refl _)
  have hV3 := hV.below hb4 (Nat.le_refl _)
  have hRK : ∀ k, fp D b k → k < w.heap.size := h.fp_lt
  have hVK := hV.lt
  refine wpIn_rangeFunc_gives rfl (by decide) (gf := 40) (lb := #[.pointer (some ⟨B, 0, none⟩)]) rfl trivial (enters_of Try.func40 (by kernel_rfl) rfl)
    (flight_gives 8 (by decide) B v qs N.fl (by have := hl.fl; omega) hl.flok) (fun B k args X h => by obtain ⟨x, q, _, rfl, _⟩ := h; rfl)
    (fun k X => Kp (fun j => j = K ∨ j = K + 1) w3 X ∧ X.heap[K]? = some (.cells #[.int .i64 (lastId N.fl k)] 3 (0, 0)) ∧ X.heap[K + 1]? = some (.cells #[.int .i64 k] 3 (0, 0))) (fun _ _ => False)
    (fun k X Y h hb => ⟨h.1.below hb (Nat.le_refl _), (hb.block _ (by omega)).trans h.2.1, (hb.block _ (by omega)).trans h.2.2⟩) (fun _ _ _ h _ => h)
    (fun k X h => ⟨(h.1.block B (lt_of_heap hs2.box) (by omega)).trans hs2.box, ownsRow_kp hs2.own h.1 (fun k hk => by have := hfl2 k (.inl hk); omega), hs2.p.mono fun x y hx hm => ⟨hm.p.kp h.1 (fun k hk => by have := hfl2 k (.inr ⟨x, hx, hk⟩); omega), hm.id, hm.src⟩⟩)
    ⟨Kp.refl _ _, e4, e5⟩ ?round ?done ?stop
  case stop => intro _ _ _ _ h; exact h.elim
  case done =>
    rintro Dl X hD ⟨hkp, hc0, hc1⟩ hX
    have r1 := (hkp.block _ (lt_of_heap f1) (by omega)).trans f1
    have r2 := (hkp.block _ (lt_of_heap f2) (by omega)).trans f2
    have hbX : Below w.heap.size w X := Below.kp hb4 hkp (Nat.le_refl _) (fun j e => by omega)
    have hVX := hV.below hbX (Nat.le_refl _)
    have hcnt := L.count
    have hwD : w.heap.size ≤ Dl := Nat.le_trans hb4.size hD
    have hlX := lt_of_heap r2
    have hDK : K + 1 < Dl := by omega
    have HC := Lib.hid hcnt
    clear hcnt e4 e5 f0 f1 f2 hs2 hb4 hR3 hV3 hc0 hkp
    gi_wp2
    apply wpIn_region_plan rfl [.rd 0, .rd 1, .act 2, .act 3, .act 4] [3, 4] (fun w' => w'.heap[K + 1]? = some (.cells #[.int .i64 N.fl.length] 3 (0, 0)) ∧ w'.heap[w.heap.size + 1]? = some (.cells #[.slice aa R.all.length ac, .slice ha R.hist.length hc, .slice ea R.ev.length ec, .slice ba R.blk.length bc] 35))
    case hm => kernel_rfl
    case hB => kernel_rfl
    case hS => exact ⟨hc1, r1⟩
    intro W hW
    have hbW : Below X.heap.size X W := by subst hW; exact (Below.refl _ _).drew
    clear hW
    iterate 2
      try simp only [Act.put, List.setIfInBounds_toArray, List.set_cons_succ, List.set_cons_zero]
      apply plan_rd rfl rfl
      · intro w' hS
        obtain ⟨sK, sB⟩ := hS
        obtain ⟨sK, _, _⟩ := blk1 sK
        obtain ⟨y0, y1, y2, y3, _, _⟩ := blk4 sB
        go_simp
        try rfl
    apply plan_act rfl
    try simp only [Act.put, List.setIfInBounds_toArray, List.set_cons_succ, List.set_cons_zero]
    go_wp2_with fail
    refine (count_any _ R W (hVX.below hbW (Nat.le_refl _)) hlR).mono ?_
    rintro e W1 ⟨rfl, hbl1⟩
    have hb1 := hbW.trans (hbl1.mono hbW.size)
    have t1 := (hb1.block _ (lt_of_heap r1)).trans r1
    have t2 := (hb1.block _ (lt_of_heap r2)).trans r2
    have tC := (hb1.block _ (lt_of_heap hc1)).trans hc1
    have tX := (hb1.block _ (lt_of_heap hX)).trans hX
    have hbZ := hbX.trans (hb1.mono hbX.size)
    rw [← HC.out]
    clear hVX hbW hbl1 hb1 r1 r2 hc1 hX hbX
    obtain ⟨z0, z1, _⟩ := blk1 t2
    go_wp2_with fail
    refine act_on ⟨tC, t1⟩ ?_
    iterate 2
      apply plan_act rfl
      try simp only [Act.put, List.setIfInBounds_toArray, List.set_cons_succ, List.set_cons_zero]
      go_wp2_with fail
      refine act_late rfl ?_
    refine plan_end (Good.normal ?_)
    gi_wp2
    have hs8 : (W1.setCell ⟨w.heap.size + 1 + 1, 0, none⟩ (.bool true)).heap[w.heap.size + 1 + 1]? = some (.cells #[.bool true] 4) := by simp [World.setCell, Array.getElem?_modify, t2]
    have hne : Dl ≠ w.heap.size + 1 + 1 := fun e => by omega
    have hX9 : (W1.setCell ⟨w.heap.size + 1 + 1, 0, none⟩ (.bool true)).heap[Dl]? = some (.deferred (some [])) := (Below.heap_setCell _ _ _ _ hne).trans tX
    refine ⟨by simp, .inl ⟨_, _, rfl, run_takeDeferred hX9, ?_⟩⟩
    have hp := (World.putObj_heap_other (w := W1.setCell ⟨w.heap.size + 1 + 1, 0, none⟩ (.bool true)) (o := .deferred none) (Ne.symm hne)).trans hs8
    obtain ⟨v0, _, _⟩ := blk1 hp
    refine ⟨.bool true, by simp [results, Try.results52, go_sem, v0], rfl, ?_⟩
    exact (hbZ.setCell (p := ⟨w.heap.size + 1 + 1, 0, none⟩) (by simp; omega) _).trans (below_put _ hwD hX9)
  case round =>
    rintro l k args X hk ⟨hkp, hc0, hc1⟩ hsz ⟨x, ⟨qf, qt, qa, qn, qc⟩, hx, rfl, hq, hqb⟩
    simp only [PV.val]
    obtain ⟨m, hm, rfl⟩ : ∃ m, N.fl[k]? = some m ∧ x = (m.id, m.pk) := by
      simp only [idPk, List.getElem?_map] at hx
      cases hm : N.fl[k]? with
      | none => rw [hm] at hx; cases hx
      | some m => rw [hm] at hx; exact ⟨m, rfl, (Option.some.inj hx).symm⟩
    obtain ⟨n, y, O⟩ := L.fly hm
    simp only at hq
    rw [O.id]
    clear hx
    gi_wp2
    have hXs := hkp.size
    refine ⟨(KeepsOthers.alloc _ _).from _, ⟨hkp.alloc _, (Below.heap_alloc X _ K (by omega)).trans hc0, (Below.heap_alloc X _ (K + 1) (by omega)).trans hc1⟩, ?_⟩
    intro o o' hlo hoc hll
    have eP0 := heap_alloc_new X (.cells #[.string qf, .string qt, .slice qa qn qc] 40)
    have hq1 := hq.below ((Below.refl X.heap.size X).alloc (Nat.le_refl _) (.cells #[.string qf, .string qt, .slice qa qn qc] 40)) (Nat.le_refl _)
    have hlP : X.heap.size ≠ l := fun e => by subst e; rw [eP0] at hlo; cases hlo; cases hoc
    have hql : ∀ j, PV.blk ⟨qf, qt, qa, qn, qc⟩ = some j → j ≠ l := fun j hj e => by
      obtain ⟨cq, hcq⟩ := hq1.block hj
      subst e
      rw [hcq] at hlo; cases hlo; cases hoc
    have hZ : Kp (fun j => j = K ∨ j = K + 1) w3 ((X.alloc (.cells #[.string qf, .string qt, .slice qa qn qc] 40)).putObj l o') := (hkp.alloc _).below (below_put (B := w3.heap.size) o' hll hlo) (Nat.le_refl _)
    have eP := (World.putObj_heap_other (w := X.alloc (.cells #[.string qf, .string qt, .slice qa qn qc] 40)) (o := o') hlP).trans eP0
    have eK := (World.putObj_heap_other (w := X.alloc (.cells #[.string qf, .string qt, .slice qa qn qc] 40)) (o := o') (show K ≠ l by omega)).trans ((Below.heap_alloc X _ K (by omega)).trans hc0)
    have eC := (World.putObj_heap_other (w := X.alloc (.cells #[.string qf, .string qt, .slice qa qn qc] 40)) (o := o') (show K + 1 ≠ l by omega)).trans ((Below.heap_alloc X _ (K + 1) (by omega)).trans hc1)
    have hqZ : POwn ((X.alloc (.cells #[.string qf, .string qt, .slice qa qn qc] 40)).putObj l o') ⟨qf, qt, qa, qn, qc⟩ m.pk := hq1.same fun j hj => World.putObj_heap_other (hql j hj)
    have hqb' : ∀ j, PV.blk ⟨qf, qt, qa, qn, qc⟩ = some j → w3.heap.size + 2 ≤ j ∧ j < X.heap.size := fun j hj => ⟨hqb j hj, hq.lt hj⟩
    have hXw := hkp.size
    clear hq1 hq eP0 hlo hqb hql hlP hkp hc0 hc1
    generalize (X.alloc (.cells #[.string qf, .string qt, .slice qa qn qc] 40)).putObj l o' = Z at hZ eP eK eC hqZ ⊢
    generalize X.heap.size = A at eP hsz hqb' hXs hXw ⊢
    have r0 := (hZ.block _ (lt_of_heap f0) (by omega)).trans f0
    have r1 := (hZ.block _ (lt_of_heap f1) (by omega)).trans f1
    have r2 := (hZ.block _ (lt_of_heap f2) (by omega)).trans f2
    have hRZ := hR3.kp hZ (fun j hj => by have := hRK j hj; omega)
    have hVZ := hV3.same (fun j hj => hZ.block j (hV3.lt j hj) (by have := hVK j hj; omega))
    have hnl := (List.getElem?_eq_some_iff.1 O.all).1
    have hla := hlR.all
    obtain ⟨x, hx, hxm⟩ := hVZ.allp.at O.all
    have hall := hVZ.all
    simp only at hx hall
    obtain ⟨g, cap, hgv, _, lg⟩ := hall.form (by omega)
    injection hgv with hv1 _ hv2
    subst hv1 hv2
    obtain ⟨d0, d1, d2, d3, d4⟩ := all_cells hall hx
    have hxp := hxm.p
    have hxs := hxm.src
    have hinc := O.inc
    generalize lastId N.fl k = lst at eK hinc
    have i0 : (0 : Int) ≤ (n : Int) := by omega
    have i1 : (n : Int) < (R.all.length : Int) := by omega
    have i2 : (R.all.length : Int) ≤ 50000 := by omega
    have i3 : ¬ (n : Int) ≤ lst := by omega
    have i4 : decide ((n : Int) ≤ lst) = false := by simpa using i3
    have HK := Lib.hid (show k < N.fl.length from hk)
    clear hall hx hk hinc
    have lw3 : w3.heap.size < Z.heap.size := by have := lt_of_heap eP; omega
    have HZ : RH w.heap.size ⟨.slice (some ⟨g, 0, none⟩) R.all.length ac, .slice ha R.hist.length hc, .slice ea R.ev.length ec, .slice ba R.blk.length bc, ps, hs'⟩ R b N D ⟨qf, qt, qa, qn, qc⟩ m.pk K A lst k Z := ⟨hRZ, hVZ, hqZ, r0, r1, r2, eK, eC, eP⟩
    gi_wp2
    apply wpIn_region_plan rfl [.rd 0, .rd 1, .rd 2, .rd 3, .rd 4, .rd 5, .act 6, .act 7, .act 8, .act 9, .rd 10, .rd 11, .rd 12, .rd 13, .rd 14, .rd 15, .rd 16, .act 17, .act 18, .act 19] [] (fun w' => w'.heap[K]? = some (.cells #[.int .i64 lst] 3 (0, 0)) ∧ w'.heap[w.heap.size + 1]? = some (.cells #[.slice (some ⟨g, 0, none⟩) R.all.length ac, .slice ha R.hist.length hc, .slice ea R.ev.length ec, .slice ba R.blk.length bc] 35) ∧ w'.heap[A]? = some (.cells #[.string qf, .string qt, .slice qa qn qc] 40) ∧
      w'.cell? ⟨g, n * 5, none⟩ = some (.string x.p.f) ∧ w'.cell? ⟨g, n * 5 + 1, none⟩ = some (.string x.p.t) ∧ w'.cell? ⟨g, n * 5 + 2, none⟩ = some (.slice x.p.ba x.p.bn x.p.bc))
    case hm => kernel_rfl
    case hB => kernel_rfl
    case hS => exact ⟨eK, r1, eP, d0, d1, d2⟩
    intro W hW
    have hbW : Below Z.heap.size Z W := by subst hW; exact (Below.refl _ _).drew
    clear hW
    iterate 6
      try simp only [Act.put, List.setIfInBounds_toArray, List.set_cons_succ, List.set_cons_zero]
      apply plan_rd rfl rfl
      · intro w' hS
        obtain ⟨sK, sB, sP, s0, s1, s2⟩ := hS
        obtain ⟨sK, _, _⟩ := blk1 sK
        obtain ⟨y0, y1, y2, y3, _, _⟩ := blk4 sB
        obtain ⟨p0, p1, p2, _, _, _, _⟩ := blk3 sP
        go_simp
        try rfl
    clear i4
    have hSW := keepS (hbW.mono (Nat.le_refl _)) (Nat.le_refl _) ⟨eK, r1, eP, d0, d1, d2⟩
    have hVW := hVZ.below hbW (Nat.le_refl _)
    have HS := Lib.hid hSW
    clear hSW
    apply plan_act rfl
    try simp only [Act.put, List.setIfInBounds_toArray, List.set_cons_succ, List.set_cons_zero]
    go_wp2_with fail
    refine (flies_any _ R n W hVW hlR).mono ?_
    rw [O.flies]
    rintro e W1 ⟨rfl, hbl1⟩
    have HS1 := Lib.hid (keepS hbl1 (Nat.le_refl _) HS.out)
    have hb1 := hbW.trans (hbl1.mono hbW.size)
    clear hVW hbl1 HS hbW
    go_wp2_with fail
    refine act_on HS1.out ?_
    iterate 3
      apply plan_act rfl
      try simp only [Act.put, List.setIfInBounds_toArray, List.set_cons_succ, List.set_cons_zero]
      go_wp2_with fail
      refine act_on HS1.out ?_
    iterate 7
      try simp only [Act.put, List.setIfInBounds_toArray, List.set_cons_succ, List.set_cons_zero]
      apply plan_rd rfl rfl
      · intro w' hS
        obtain ⟨sK, sB, sP, s0, s1, s2⟩ := hS
        obtain ⟨sK, _, _⟩ := blk1 sK
        obtain ⟨y0, y1, y2, y3, _, _⟩ := blk4 sB
        obtain ⟨p0, p1, p2, _, _, _, _⟩ := blk3 sP
        go_simp
        try rfl
    apply plan_act rfl
    try simp only [Act.put, List.setIfInBounds_toArray, List.set_cons_succ, List.set_cons_zero]
    go_wp2_with fail
    refine (same_any ⟨qf, qt, qa, qn, qc⟩ x.p m.pk y.pk W1 (hqZ.below hb1 (Nat.le_refl _)).pin (hxp.below hb1 (Nat.le_refl _)).pin).mono ?_
    rw [O.pk, sameR_refl]
    rintro e W2 ⟨rfl, hbl2⟩
    have HS2 := Lib.hid (keepS hbl2 (Nat.le_refl _) HS1.out)
    have hb2 := hb1.trans (hbl2.mono hb1.size)
    clear hbl2 HS1 hb1
    go_wp2_with fail
    refine act_on HS2.out ?_
    iterate 2
      apply plan_act rfl
      try simp only [Act.put, List.setIfInBounds_toArray, List.set_cons_succ, List.set_cons_zero]
      go_wp2_with fail
      refine act_on HS2.out ?_
    refine plan_end (Good.normal ?_)
    have H2 := HZ.below hb2 (Nat.le_refl _)
    clear eK r0 r1 eP d0 d1 d2 d3 d4 r2 eC hxp hqZ hRZ hVZ hxm HS2 HZ
    obtain ⟨zb, _, _⟩ := blk1 H2.nb
    gi_wp2
    refine ⟨trivial, callsIn_of_plain rfl ((source_any b N D n W2 H2.rep hl).mono ?_)⟩
    rw [O.source]
    rintro e W3 ⟨rfl, hbl3⟩
    have H3 := H2.below hbl3 (Nat.le_refl _)
    have hb3 := hb2.trans (hbl3.mono hb2.size)
    clear H2 hbl3 zb hb2
    obtain ⟨zb, _, _⟩ := blk1 H3.nb
    gi_wp2
    refine ⟨trivial, callsIn_of_plain rfl ((genuine_any b N D n W3 H3.rep hl).mono ?_)⟩
    rw [O.genuine]
    rintro e W5 ⟨rfl, hbl5⟩
    have H5 := H3.below hbl5 (Nat.le_refl _)
    have hb5 := hb3.trans (hbl5.mono hb3.size)
    clear H3 hbl5 zb hb3
    obtain ⟨y0, y1, y2, y3, _, _⟩ := blk4 H5.rb
    obtain ⟨x, hx, hxm⟩ := H5.ref.allp.at O.all
    have hall := H5.ref.all
    simp only at hx hall
    obtain ⟨d0, d1, d2, d3, d4⟩ := all_cells hall hx
    rw [hxm.src] at d3
    clear hall hx d0 d1 d2 d4
    gi_wp2
    refine ⟨trivial, callsIn_of_plain rfl ((genuineR_any _ R n y W5 H5.ref hlR O.all).mono ?_)⟩
    rintro e W6 ⟨rfl, hbl6⟩
    have H6 := H5.below hbl6 (Nat.le_refl _)
    have hb6 := hb5.trans (hbl6.mono hb5.size)
    clear H5 hbl6 hb5 y0 y1 y2 y3 d3 hxm
    obtain ⟨k0, kf0, kl0⟩ := blk1 H6.last
    obtain ⟨k1, kf1, kl1⟩ := blk1 H6.cnt
    have j1 : (k : Int) < (N.fl.length : Int) := by have := HK.out; omega
    have j2 : (N.fl.length : Int) ≤ 64 := by have := hl.fl; omega
    obtain ⟨p0, p1, p2, _, _, _, pl⟩ := blk3 H6.pb
    simp only at p0 p1 p2
    have hKA : A ≠ K ∧ A ≠ K + 1 := by omega
    obtain ⟨hKA1, hKA2⟩ := hKA
    gi_wp2
    have hKB := (hZ.below hb6 (by omega))
    have hY : Kp (fun j => j = K ∨ j = K + 1) w3 ((W6.setCell ⟨K, 0, none⟩ (.int .i64 n)).setCell ⟨K + 1, 0, none⟩ (.int .i64 (k + 1))) := (hKB.setCell (fun _ => .inl rfl) _).setCell (fun _ => .inr rfl) _
    have hF : KeepsOthers Z ((W6.setCell ⟨K, 0, none⟩ (.int .i64 n)).setCell ⟨K + 1, 0, none⟩ (.int .i64 (k + 1))) := ((keepsOthers_of_below hb6).trans (KeepsOthers.setCell _ _ _)).trans (KeepsOthers.setCell _ _ _)
    have hk6 : Kp (fun j => j = K ∨ j = K + 1) W6 ((W6.setCell ⟨K, 0, none⟩ (.int .i64 n)).setCell ⟨K + 1, 0, none⟩ (.int .i64 (k + 1))) := ((Kp.refl (fun j => j = K ∨ j = K + 1) W6).setCell (fun _ => .inl rfl) _).setCell (fun _ => .inr rfl) _
    have yK : ((W6.setCell ⟨K, 0, none⟩ (.int .i64 n)).setCell ⟨K + 1, 0, none⟩ (.int .i64 (k + 1))).heap[K]? = some (.cells #[.int .i64 n] 3 (0, 0)) := by
      rw [Below.heap_setCell _ _ _ _ (by simp)]
      simp [World.setCell, Array.getElem?_modify, H6.last]
    have yC : ((W6.setCell ⟨K, 0, none⟩ (.int .i64 n)).setCell ⟨K + 1, 0, none⟩ (.int .i64 (k + 1))).heap[K + 1]? = some (.cells #[.int .i64 (k + 1)] 3 (0, 0)) := by
      have h1 := (Below.heap_setCell W6 ⟨K, 0, none⟩ (.int .i64 n) (K + 1) (by simp)).trans H6.cnt
      simp [World.setCell, Array.getElem?_modify] at h1 ⊢
      simp [h1]
    have yA := (hk6.block _ (lt_of_heap H6.pb) (by omega)).trans H6.pb
    have yq : POwn ((W6.setCell ⟨K, 0, none⟩ (.int .i64 n)).setCell ⟨K + 1, 0, none⟩ (.int .i64 (k + 1))) ⟨qf, qt, qa, qn, qc⟩ m.pk := H6.own.kp hk6 (fun j hj => by have := (hqb' j hj).1; omega)
    have hqn : m.pk.bs.length = qn := yq.n
    have hqok := hl.flok m (List.mem_of_getElem? hm)
    have yb : ((W6.setCell ⟨K, 0, none⟩ (.int .i64 n)).setCell ⟨K + 1, 0, none⟩ (.int .i64 (k + 1))).ownsRow 0 5 1 (.slice qa qn qc) qn (m.pk.bs.map (Value.int .u8)) := yq.b
    have hAq : ∀ z, PV.blk ⟨qf, qt, qa, qn, qc⟩ = some z → A ≠ z := fun z hz e => by
      obtain ⟨cq, hcq⟩ := yq.block hz
      subst e
      exact absurd (cells_inj hcq yA) (by decide)
    have n1 : qn ≤ 100 := by have := hqok.bs; omega
    have HQN := Lib.hid hqn
    clear yq hKB hk6 H6 hb6 hZ p0 p1 p2 k0 k1 kf0 kf1 hqn
    generalize ((W6.setCell ⟨K, 0, none⟩ (.int .i64 n)).setCell ⟨K + 1, 0, none⟩ (.int .i64 (k + 1))) = Y at hY hF yK yC yA yb ⊢
    gi_loopw [14] (fun i wr => ∃ (j : Nat) (bs : List Int), j ≤ qn ∧ i = .int .i64 j ∧ bs.length = qn ∧ wr.ownsRow 0 5 1 (.slice qa qn qc) qn (bs.map (Value.int .u8)) ∧ Kp (fun z => PV.blk ⟨qf, qt, qa, qn, qc⟩ = some z) Y wr ∧ KeepsOthers Y wr) (fun i _ => qn - (intOf i).toNat)
    case atStart => exact ⟨0, _, Nat.zero_le _, rfl, HQN.out, yb, Kp.refl _ _, KeepsOthers.refl _⟩
    case round =>
      obtain ⟨j, bs, hj, rfl, hbl, hob, hkb, hfb⟩ := hrel
      have wA := (hkb.block _ (lt_of_heap yA) (fun e => hAq _ e rfl)).trans yA
      obtain ⟨p0, p1, p2, _, _, _, pl⟩ := blk3 wA
      simp only at p0 p1 p2
      by_cases hjl : j < qn
      · obtain ⟨gq, cq, hgq, _, hgl⟩ := hob.form (by omega)
        injection hgq with hq1 _ hq2
        subst hq1 hq2
        obtain ⟨bj, hbj⟩ : ∃ bj, bs[j]? = some bj := ⟨_, List.getElem?_eq_getElem (by omega)⟩
        have dj : wr.cell? ⟨gq, j, none⟩ = some (.int .u8 bj) := by
          rw [hob.cellAt j (by omega), List.getElem?_map, hbj]; rfl
        have df : wr.frozen? ⟨gq, j, none⟩ = false := hob.frozenAt j
        have j0 : (0 : Int) ≤ (j : Int) := by omega
        have j3 : (j : Int) < (qn : Int) := by omega
        have j4 : (qn : Int) ≤ 100 := by omega
        clear hbj
        gi_wp2
        refine ⟨⟨j + 1, bs.set j ((bj + 1) % 256), by omega, by simp, by simpa using hbl, ?_, hkb.setCell (p := ⟨gq, j, none⟩) (fun _ => rfl) _, hfb.trans (KeepsOthers.setCell _ _ _)⟩, by simp [intOf]; omega⟩
        rw [List.map_set]
        exact (hob.stored j _).1
      · obtain rfl : j = qn := by omega
        gi_wp2
        refine ⟨(hF.trans hfb).from _, hY.trans hkb (fun z hz hz' => by have := (hqb' z hz').1; omega), ?_, ?_⟩
        · rw [lastId_succ hm, O.id]
          exact (hkb.block _ (lt_of_heap yK) (fun e => by have := (hqb' _ e).1; omega)).trans yK
        · exact (hkb.block _ (lt_of_heap yC) (fun e => by have := (hqb' _ e).1; omega)).trans yC
end Go.Proofs.Ytnkcgalbaeppmaa
