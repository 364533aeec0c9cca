/- The law's agrees: a network in the reference's state. -/
import Derived.Test.YtnkcgalbaeppmaaAg1
namespace Go.Proofs.Ytnkcgalbaeppmaa
open Go.RowKit
attribute [local go_sem] Oper.semAt_some
theorem numbered_get {pks : List Pk} {k : Nat} {x : Int × Pk} (h : (numbered pks)[k]? = some x) : ∃ m, pks[k]? = some m ∧ x = ((k : Int), m) := by
  simp only [numbered, List.getElem?_map, List.getElem?_zipIdx] at h
  cases hm : pks[k]? with
  | none => rw [hm] at h; cases h
  | some m => rw [hm] at h; exact ⟨m, rfl, by have := Option.some.inj h; rw [← this]; simp⟩
theorem keepS3 {W W' : World} {K A B' g n B : Nat} {c0 cB cA : Obj} {x y z : Value} (hb : Below B W W') (hB : W.heap.size ≤ B) (h : W.heap[K]? = some c0 ∧ W.heap[B']? = some cB ∧ W.heap[A]? = some cA ∧ W.cell? ⟨g, n * 3, none⟩ = some x ∧ W.cell? ⟨g, n * 3 + 1, none⟩ = some y ∧ W.cell? ⟨g, n * 3 + 2, none⟩ = some z) :
    W'.heap[K]? = some c0 ∧ W'.heap[B']? = some cB ∧ W'.heap[A]? = some cA ∧ W'.cell? ⟨g, n * 3, none⟩ = some x ∧ W'.cell? ⟨g, n * 3 + 1, none⟩ = some y ∧ W'.cell? ⟨g, n * 3 + 2, none⟩ = some z := by
  obtain ⟨h1, h2, h3, h4, h5, h6⟩ := h
  have hg := World.block_lt_of_cell? W _ h4
  exact ⟨(hb.block _ (Nat.lt_of_lt_of_le (lt_of_heap h1) hB)).trans h1, (hb.block _ (Nat.lt_of_lt_of_le (lt_of_heap h2) hB)).trans h2, (hb.block _ (Nat.lt_of_lt_of_le (lt_of_heap h3) hB)).trans h3,
    (hb.cell (p := ⟨g, n * 3, none⟩) (Nat.lt_of_lt_of_le hg hB)).trans h4, (hb.cell (p := ⟨g, n * 3 + 1, none⟩) (Nat.lt_of_lt_of_le hg hB)).trans h5, (hb.cell (p := ⟨g, n * 3 + 2, none⟩) (Nat.lt_of_lt_of_le hg hB)).trans h6⟩
/-- What a round of the history's loop has at hand. -/
structure AH (w0 : Nat) (V : RefV) (R : RefM) (q : PV) (m : Pk) (K A : Nat) (k : Nat) (W : World) : Prop where
  ref : RefAt W V R
  own : POwn W q m
  rb : W.heap[w0]? = some (.cells #[V.al, V.hi, V.ev, V.bl] 35 (0, 0))
  cnt : W.heap[K]? = some (.cells #[.int .i64 k] 3 (0, 0))
  pb : W.heap[A]? = some (.cells #[.string q.f, .string q.t, .slice q.ba q.bn q.bc] 40 (0, 0))
theorem AH.below {w0 : Nat} {V : RefV} {R : RefM} {q : PV} {m : Pk} {K A : Nat} {k : Nat} {W W' : World} (h : AH w0 V R q m K A k W) {B : Nat} (hb : Below B W W') (hB : W.heap.size ≤ B) : AH w0 V R q m K A k W' := by
  have t : ∀ {j : Nat} {o : Obj}, W.heap[j]? = some o → W'.heap[j]? = some o := fun hj => (hb.block _ (Nat.lt_of_lt_of_le (lt_of_heap hj) hB)).trans hj
  exact ⟨h.ref.below hb hB, h.own.below hb hB, t h.rb, t h.cnt, t h.pb⟩
set_option maxHeartbeats 3200000 in
set_option maxRecDepth 100000 in
theorem agreesR_any (V : RefV) (R : RefM) (b : Nat) (N : NetM) (D : ND) (w : World) (h : RepOk w b N D) (hl : N.lim) (hV : RefAt w V R) (hlR : R.lim) (L : Lk N R) :
    Calls Try.prog 30 #[.pointer (some ⟨b, 0, none⟩), V.val] w fun e w' => e = .returned (.bool true) ∧ Below w.heap.size w w' := by
  have hmix : Try.prog.follows .mixedOrders = true := by kernel_rfl
  have hq53 := fun w f a b => run_eql_func_nil (P := Try.prog) 53 f a b w _ _ _ u53
  have hq56 := fun w f a b => run_eql_func_nil (P := Try.prog) 56 f a b w _ _ _ u56
  obtain ⟨aa, ac, ha, hc, ea, ec, ba, bc, h1, h2, h3, h4⟩ := hV.forms
  obtain ⟨al, hi, ev, bl, ps, hs'⟩ := V
  simp only at h1 h2 h3 h4
  subst h1 h2 h3 h4
  simp only [RefV.val]
  refine (callsIn_wide (n := 9)).1 (callsIn_of_wp_marks Try.func30 rfl trivial ?_ rfl)
  simp only [Try.ntmps30, List.size_toArray, List.length_cons, List.length_nil, Nat.reduceAdd, Nat.reduceSub, Array.replicate_succ, Array.replicate_zero, List.push_toArray, List.append_toArray, List.nil_append, List.cons_append]
  gi_wp2
  have e1 := top1 w (.cells #[.slice aa R.all.length ac, .slice ha R.hist.length hc, .slice ea R.ev.length ec, .slice ba R.blk.length bc] 35) (.cells #[.bool false] 4)
  have e2 := top0 w (.cells #[.slice aa R.all.length ac, .slice ha R.hist.length hc, .slice ea R.ev.length ec, .slice ba R.blk.length bc] 35) (.cells #[.bool false] 4)
  have hb : Below w.heap.size w ((w.alloc (.cells #[.slice aa R.all.length ac, .slice ha R.hist.length hc, .slice ea R.ev.length ec, .slice ba R.blk.length bc] 35)).alloc (.cells #[.bool false] 4)) := ((Below.refl _ w).alloc (Nat.le_refl _) _).alloc (by simp) _
  generalize (w.alloc (.cells #[.slice aa R.all.length ac, .slice ha R.hist.length hc, .slice ea R.ev.length ec, .slice ba R.blk.length bc] 35)).alloc (.cells #[.bool false] 4) = w1 at e1 e2 hb ⊢
  refine ⟨trivial, callsIn_wide.2 ((history_any w1 b N D (h.below hb (Nat.le_refl _)) hl).mono ?_)⟩
  rintro e w2 ⟨B, v, rfl, hbx, hBs, hown, hb2⟩
  have f1 := (hb2.block _ (lt_of_heap e1)).trans e1
  have f2 := (hb2.block _ (lt_of_heap e2)).trans e2
  have hbb := hb.trans (hb2.mono hb.size)
  have hsz1 : w1.heap.size ≤ w2.heap.size := hb2.size
  have hhp : Both (POwn w2) D.hs N.hist := (h.below hbb (Nat.le_refl _)).histp
  have hs : PkSeq B v D.hs N.hist w2 := ⟨hbx, ownsRow_base hown (Nat.zero_le _), hhp⟩
  clear e1 e2 hb hb2 hbx hown hhp
  gi_wp2
  refine ⟨trivial, callsIn_wide.2 ((events_any w2 b N D (h.below hbb (Nat.le_refl _)) hl).mono ?_)⟩
  rintro e w3 ⟨B', v', rfl, hbx', hBs', hown', hb3⟩
  have g1 := (hb3.block _ (lt_of_heap f1)).trans f1
  have g2 := (hb3.block _ (lt_of_heap f2)).trans f2
  have hbc := hbb.trans (hb3.mono hbb.size)
  have hs2 : PkSeq B v D.hs N.hist w3 := ⟨(hb3.block _ (lt_of_heap hs.box)).trans hs.box, ownsRow_below hs.own hb3 (Nat.le_refl _), hs.p.mono fun x y hx hm => hm.below hb3 (Nat.le_refl _)⟩
  have hs'' : EvSeq B' v' N.ev w3 := ⟨hbx', ownsRow_base hown' (Nat.zero_le _)⟩
  obtain ⟨q0, q1, q2, q3, _, _⟩ := blk4 g1
  clear f1 f2 hbb hb3 hbx' hown' hs
  gi_wp2
  refine ⟨trivial, callsIn_wide.2 ((flightR_any _ R b N D w3 (h.below hbc (Nat.le_refl _)) hl (hV.below hbc (Nat.le_refl _)) hlR L).mono ?_)⟩
  rintro e w4 ⟨rfl, hb4⟩
  have hs3 : PkSeq B v D.hs N.hist w4 := ⟨(hb4.block _ (lt_of_heap hs2.box)).trans hs2.box, ownsRow_below hs2.own hb4 (Nat.le_refl _), hs2.p.mono fun x y hx hm => hm.below hb4 (Nat.le_refl _)⟩
  have hs4 : EvSeq B' v' N.ev w4 := ⟨(hb4.block _ (lt_of_heap hs''.1)).trans hs''.1, ownsRow_below hs''.2 hb4 (Nat.le_refl _)⟩
  have k1 := (hb4.block _ (lt_of_heap g1)).trans g1
  have k2 := (hb4.block _ (lt_of_heap g2)).trans g2
  have hbd := hbc.trans (hb4.mono hbc.size)
  clear g1 g2 hbc hb4 hs2 hs'' q0 q1 q2 q3
  gi_wp2
  have hk : Below w4.heap.size w4 (w4.alloc (.cells #[.int .i64 0] 3)) := (Below.refl _ w4).alloc (Nat.le_refl _) _
  have e5 := heap_alloc_new w4 (.cells #[.int .i64 0] 3)
  have e6 := (hk.block _ (lt_of_heap k1)).trans k1
  have e7 := (hk.block _ (lt_of_heap k2)).trans k2
  have hs5 : PkSeq B v D.hs N.hist (w4.alloc (.cells #[.int .i64 0] 3)) := ⟨(hk.block _ (lt_of_heap hs3.box)).trans hs3.box, ownsRow_below hs3.own hk (Nat.le_refl _), hs3.p.mono fun x y hx hm => hm.below hk (Nat.le_refl _)⟩
  have hs6 : EvSeq B' v' N.ev (w4.alloc (.cells #[.int .i64 0] 3)) := ⟨(hk.block _ (lt_of_heap hs4.1)).trans hs4.1, ownsRow_below hs4.2 hk (Nat.le_refl _)⟩
  have hbe := hbd.trans (hk.mono hbd.size)
  have hK : w.heap.size ≤ w4.heap.size := hbd.size
  have hBK : B ≠ w4.heap.size := fun e => by have := lt_of_heap hs3.box; omega
  have hBK' : B' ≠ w4.heap.size := fun e => by have := lt_of_heap hs4.1; omega
  have hvK : ∀ k, v.ownBlock = some k → k ≠ w4.heap.size := fun k hk e => by have := (hs3.own.lt k hk).2; omega
  have hvK' : ∀ k, v'.ownBlock = some k → k ≠ w4.heap.size := fun k hk e => by have := (hs4.2.lt k hk).2; omega
  have hpK : ∀ x ∈ D.hs, ∀ k, x.blk = some k → k ≠ w4.heap.size := fun x hx k hk e => by
    obtain ⟨m, _, hm⟩ := hs3.p.left hx; have := hm.lt hk; omega
  have hR : w.heap.size + 1 < w4.heap.size := lt_of_heap k2
  clear hs3 hs4 k1 k2 hbd hk
  generalize w4.alloc (.cells #[.int .i64 0] 3) = w5 at e5 e6 e7 hs5 hs6 hbe ⊢
  generalize w4.heap.size = K at e5 hK hBK hBK' hvK hvK' hpK hR ⊢
  have hK5 := lt_of_heap e5
  have hV5 := hV.below hbe (Nat.le_refl _)
  have hVK := hV.lt
  have hhist := L.hist
  have hHl : N.hist.length ≤ 1024 := hl.hist
  refine wpIn_rangeFunc_gives rfl (by decide) (gf := 42) (lb := #[.pointer (some ⟨B, 0, none⟩)]) rfl trivial (enters_of Try.func42 (by kernel_rfl) rfl)
    (history_gives 8 (by decide) B v D.hs N.hist (by omega) hl.histok) (fun B k args X h => by obtain ⟨x, q, _, rfl, _⟩ := h; rfl)
    (fun k X => Kp (fun j => j = K) w5 X ∧ X.heap[K]? = some (.cells #[.int .i64 k] 3 (0, 0))) (fun _ _ => False)
    (fun k X Y h hb => ⟨h.1.below hb (Nat.le_refl _), (hb.block _ (by omega)).trans h.2⟩) (fun _ _ _ h _ => h)
    (fun k X h => ⟨(h.1.block B (lt_of_heap hs5.box) hBK).trans hs5.box, ownsRow_kp hs5.own h.1 hvK, hs5.p.mono fun x y hx hm => hm.kp h.1 (hpK x hx)⟩)
    ⟨Kp.refl _ _, e5⟩ ?round ?done ?stop
  case stop => intro _ _ _ _ h; exact h.elim
  case round =>
    rintro l k args X hk ⟨hkp, hc0⟩ hsz ⟨x, ⟨qf, qt, qa, qn, qc⟩, hx, rfl, hq, hqb⟩
    simp only [PV.val]
    obtain ⟨m, hm, rfl⟩ := numbered_get hx
    simp only at hq
    clear hx
    gi_wp2
    have hXs := hkp.size
    refine ⟨(KeepsOthers.alloc _ _).from _, ⟨hkp.alloc _, (Below.heap_alloc X _ K (by omega)).trans hc0⟩, ?_⟩
    intro o o' hlo hoc hll
    have eP0 := heap_alloc_new X (.cells #[.string qf, .string qt, .slice qa qn qc] 40)
    have hq1 := hq.below ((Below.refl X.heap.size X).alloc (Nat.le_refl _) (.cells #[.string qf, .string qt, .slice qa qn qc] 40)) (Nat.le_refl _)
    have hlP : X.heap.size ≠ l := fun e => by subst e; rw [eP0] at hlo; cases hlo; cases hoc
    have hql : ∀ j, PV.blk ⟨qf, qt, qa, qn, qc⟩ = some j → j ≠ l := fun j hj e => by
      obtain ⟨cq, hcq⟩ := hq1.block hj
      subst e
      rw [hcq] at hlo; cases hlo; cases hoc
    have hZ : Kp (fun j => j = K) w5 ((X.alloc (.cells #[.string qf, .string qt, .slice qa qn qc] 40)).putObj l o') := (hkp.alloc _).below (below_put (B := w5.heap.size) o' hll hlo) (Nat.le_refl _)
    have eP := (World.putObj_heap_other (w := X.alloc (.cells #[.string qf, .string qt, .slice qa qn qc] 40)) (o := o') hlP).trans eP0
    have eK := (World.putObj_heap_other (w := X.alloc (.cells #[.string qf, .string qt, .slice qa qn qc] 40)) (o := o') (show K ≠ l by omega)).trans ((Below.heap_alloc X _ K (by omega)).trans hc0)
    have hqZ : POwn ((X.alloc (.cells #[.string qf, .string qt, .slice qa qn qc] 40)).putObj l o') ⟨qf, qt, qa, qn, qc⟩ m := hq1.same fun j hj => World.putObj_heap_other (hql j hj)
    have hqb' : ∀ j, PV.blk ⟨qf, qt, qa, qn, qc⟩ = some j → w5.heap.size + 2 ≤ j ∧ j < X.heap.size := fun j hj => ⟨hqb j hj, hq.lt hj⟩
    clear hq1 hq eP0 hlo hqb hql hlP hkp hc0
    generalize (X.alloc (.cells #[.string qf, .string qt, .slice qa qn qc] 40)).putObj l o' = Z at hZ eP eK hqZ ⊢
    generalize X.heap.size = A at eP hsz hqb' hXs ⊢
    have r1 := (hZ.block _ (lt_of_heap e6) (by omega)).trans e6
    have r2 := (hZ.block _ (lt_of_heap e7) (by omega)).trans e7
    have hVZ := hV5.same (fun j hj => hZ.block j (hV5.lt j hj) (by have := hVK j hj; omega))
    have HZ : AH w.heap.size ⟨.slice aa R.all.length ac, .slice ha R.hist.length hc, .slice ea R.ev.length ec, .slice ba R.blk.length bc, ps, hs'⟩ R ⟨qf, qt, qa, qn, qc⟩ m K A k Z := ⟨hVZ, hqZ, r1, eK, eP⟩
    have hmR : R.hist[k]? = some m := by rw [← hhist]; exact hm
    obtain ⟨y, hy, hym⟩ := hVZ.histp.at hmR
    have hhi := hVZ.hist
    simp only at hhi hy
    have hkl : k < R.hist.length := (List.getElem?_eq_some_iff.1 hmR).1
    obtain ⟨g, cap, hgv, _, lg⟩ := hhi.form (by omega)
    injection hgv with hv1 _ hv2
    subst hv1 hv2
    obtain ⟨d0, d1, d2⟩ := hist_cells hhi hy
    have hyp := hym
    have i0 : (0 : Int) ≤ (k : Int) := by omega
    have i1 : (k : Int) < (R.hist.length : Int) := by omega
    have i2 : (R.hist.length : Int) ≤ 1024 := by have := hlR.hist; omega
    have i5 : decide (R.hist.length ≤ k) = false := by simp; omega
    have hbq : m.ok := hl.histok m (List.mem_of_getElem? hm)
    clear hhi hy hk hym hVZ hqZ
    have lw3 : w5.heap.size < Z.heap.size := by have := lt_of_heap eP; omega
    gi_wp2
    apply wpIn_region_plan rfl [.rd 0, .rd 1, .rd 2, .rd 3, .rd 4, .rd 5, .rd 6, .rd 7, .rd 8, .rd 9, .rd 10, .rd 11, .rd 12, .rd 13, .rd 14, .rd 15, .rd 16, .act 17, .act 18, .act 19] [18, 19] (fun w' => w'.heap[K]? = some (.cells #[.int .i64 k] 3 (0, 0)) ∧ w'.heap[w.heap.size]? = some (.cells #[.slice aa R.all.length ac, .slice (some ⟨g, 0, none⟩) R.hist.length hc, .slice ea R.ev.length ec, .slice ba R.blk.length bc] 35) ∧ w'.heap[A]? = some (.cells #[.string qf, .string qt, .slice qa qn qc] 40) ∧
      w'.cell? ⟨g, k * 3, none⟩ = some (.string y.f) ∧ w'.cell? ⟨g, k * 3 + 1, none⟩ = some (.string y.t) ∧ w'.cell? ⟨g, k * 3 + 2, none⟩ = some (.slice y.ba y.bn y.bc))
    case hm => kernel_rfl
    case hB => kernel_rfl
    case hS => exact ⟨eK, r1, eP, d0, d1, d2⟩
    intro W hW
    have hbW : Below Z.heap.size Z W := by subst hW; exact (Below.refl _ _).drew
    clear hW
    iterate 17
      try simp only [Act.put, List.setIfInBounds_toArray, List.set_cons_succ, List.set_cons_zero]
      apply plan_rd rfl rfl
      · intro w' hS
        obtain ⟨sK, sB, sP, s0, s1, s2⟩ := hS
        obtain ⟨sK, _, _⟩ := blk1 sK
        obtain ⟨y0, y1, y2, y3, _, _⟩ := blk4 sB
        obtain ⟨p0, p1, p2, _, _, _, _⟩ := blk3 sP
        go_simp
        try rfl
    have HS := Lib.hid (keepS3 hbW (Nat.le_refl _) ⟨eK, r1, eP, d0, d1, d2⟩)
    apply plan_act rfl
    try simp only [Act.put, List.setIfInBounds_toArray, List.set_cons_succ, List.set_cons_zero]
    go_wp2_with fail
    refine (same_any ⟨qf, qt, qa, qn, qc⟩ y m m W (HZ.own.below hbW (Nat.le_refl _)).pin (hyp.below hbW (Nat.le_refl _)).pin).mono ?_
    rw [sameR_refl]
    rintro e W2 ⟨rfl, hbl2⟩
    have HS2 := Lib.hid (keepS3 hbl2 (Nat.le_refl _) HS.out)
    have hb2 := hbW.trans (hbl2.mono hbW.size)
    clear hbl2 HS hbW
    go_wp2_with fail
    refine act_on HS2.out ?_
    iterate 2
      apply plan_act rfl
      try simp only [Act.put, List.setIfInBounds_toArray, List.set_cons_succ, List.set_cons_zero]
      go_wp2_with fail
      refine act_late rfl ?_
    refine plan_end (Good.normal ?_)
    have H6 := HZ.below hb2 (Nat.le_refl _)
    have r3 := (hb2.block _ (lt_of_heap r2)).trans r2
    clear eK r1 eP d0 d1 d2 hyp HS2 HZ r2
    obtain ⟨p0, p1, p2, _, _, _, pl⟩ := blk3 H6.pb
    simp only at p0 p1 p2
    gi_wp2
    have hY : Kp (fun j => j = K) w5 W2 := hZ.below hb2 (by omega)
    have hF : KeepsOthers Z W2 := keepsOthers_of_below hb2
    have yA := H6.pb
    have yK := H6.cnt
    have yq := H6.own
    have hqn : m.bs.length = qn := yq.n
    have yb : W2.ownsRow 0 5 1 (.slice qa qn qc) qn (m.bs.map (Value.int .u8)) := yq.b
    have hAq : ∀ z, PV.blk ⟨qf, qt, qa, qn, qc⟩ = some z → A ≠ z := fun z hz e => by
      obtain ⟨cq, hcq⟩ := yq.block hz
      subst e
      exact absurd (cells_inj hcq yA) (by decide)
    have n1 : qn ≤ 100 := by have := hbq.bs; omega
    have HQN := Lib.hid hqn
    have HM := Lib.hid hm
    clear yq H6 hb2 hZ p0 p1 p2 hqn hm hmR
    gi_loopw [10] (fun i wr => ∃ (j : Nat) (bs : List Int), j ≤ qn ∧ i = .int .i64 j ∧ bs.length = qn ∧ wr.ownsRow 0 5 1 (.slice qa qn qc) qn (bs.map (Value.int .u8)) ∧ Kp (fun z => PV.blk ⟨qf, qt, qa, qn, qc⟩ = some z) W2 wr ∧ KeepsOthers W2 wr) (fun i _ => qn - (intOf i).toNat)
    case atStart => exact ⟨0, _, Nat.zero_le _, rfl, HQN.out, yb, Kp.refl _ _, KeepsOthers.refl _⟩
    case round =>
      obtain ⟨j, bs, hj, rfl, hbl, hob, hkb, hfb⟩ := hrel
      have wA := (hkb.block _ (lt_of_heap yA) (fun e => hAq _ e rfl)).trans yA
      have wK := (hkb.block _ (lt_of_heap yK) (fun e => by have := (hqb' _ e).1; omega)).trans yK
      obtain ⟨p0, p1, p2, _, _, _, pl⟩ := blk3 wA
      simp only at p0 p1 p2
      by_cases hjl : j < qn
      · obtain ⟨gq, cq, hgq, _, hgl⟩ := hob.form (by omega)
        injection hgq with hq1 _ hq2
        subst hq1 hq2
        obtain ⟨bj, hbj⟩ : ∃ bj, bs[j]? = some bj := ⟨_, List.getElem?_eq_getElem (by omega)⟩
        have dj : wr.cell? ⟨gq, j, none⟩ = some (.int .u8 bj) := by
          rw [hob.cellAt j (by omega), List.getElem?_map, hbj]; rfl
        have df : wr.frozen? ⟨gq, j, none⟩ = false := hob.frozenAt j
        have j0 : (0 : Int) ≤ (j : Int) := by omega
        have j3 : (j : Int) < (qn : Int) := by omega
        have j4 : (qn : Int) ≤ 100 := by omega
        clear hbj
        gi_wp2
        refine ⟨⟨j + 1, bs.set j ((bj + 1) % 256), by omega, by simp, by simpa using hbl, ?_, hkb.setCell (p := ⟨gq, j, none⟩) (fun _ => rfl) _, hfb.trans (KeepsOthers.setCell _ _ _)⟩, by simp [intOf]; omega⟩
        rw [List.map_set]
        exact (hob.stored j _).1
      · obtain rfl : j = qn := by omega
        obtain ⟨c0, c1, c2⟩ := blk1 wK
        gi_wp2
        refine ⟨((hF.trans hfb).trans (KeepsOthers.setCell _ _ _)).from _, (hY.trans hkb (fun z hz hz' => by have := (hqb' z hz').1; omega)).setCell (fun _ => rfl) _, ?_⟩
        simp [World.setCell, Array.getElem?_modify, wK]
  case done =>
    rintro Dl X hD ⟨hkp, j5⟩ hX
    have j6 := (hkp.block _ (lt_of_heap e6) (by omega)).trans e6
    have j7 := (hkp.block _ (lt_of_heap e7) (by omega)).trans e7
    have hbX : Below w.heap.size w X := Below.kp hbe hkp (Nat.le_refl _) (fun j e => by omega)
    have hwD : w.heap.size ≤ Dl := Nat.le_trans hbe.size hD
    have hs7 : EvSeq B' v' N.ev X := ⟨(hkp.block _ (lt_of_heap hs6.1) hBK').trans hs6.1, ownsRow_kp hs6.2 hkp hvK'⟩
    have hKD : K < Dl := by omega
    have hevl := L.ev
    have hEl : R.ev.length ≤ 50000 := hlR.ev
    have hhl : N.hist.length = R.hist.length := by rw [hhist]
    rw [hhl] at j5
    have i9 : (R.hist.length : Int) ≤ 1024 := by have := hlR.hist; omega
    have HEV := Lib.hid hevl
    have HHI := Lib.hid hhist
    have hVX := hV.below hbX (Nat.le_refl _)
    obtain ⟨c5, c5f, c5l⟩ := blk1 j5
    obtain ⟨q0, q1, q2, q3, _, _⟩ := blk4 j6
    clear e5 e6 e7 hs5 hs6 hbe hkp hhist hevl hhl hV5
    gi_wp2
    have hkY : Kp (fun k => k = K) X (X.setCell ⟨K, 0, none⟩ (.int .i64 0)) := (Kp.refl (fun k => k = K) X).setCell (fun _ => rfl) _
    have m5 : (X.setCell ⟨K, 0, none⟩ (.int .i64 0)).heap[K]? = some (.cells #[.int .i64 0] 3) := by simp [World.setCell, Array.getElem?_modify, j5]
    have m6 := (hkY.block _ (lt_of_heap j6) (by omega)).trans j6
    have m7 := (hkY.block _ (lt_of_heap j7) (by omega)).trans j7
    have mX := (hkY.block _ (lt_of_heap hX) (by omega)).trans hX
    have mb : Below w.heap.size w (X.setCell ⟨K, 0, none⟩ (.int .i64 0)) := hbX.setCell (p := ⟨K, 0, none⟩) hK _
    have hs8 : EvSeq B' v' N.ev (X.setCell ⟨K, 0, none⟩ (.int .i64 0)) := ⟨(hkY.block _ (lt_of_heap hs7.1) hBK').trans hs7.1, ownsRow_kp hs7.2 hkY hvK'⟩
    clear j5 j6 j7 hX hbX hs7 hkY c5 c5f c5l q0 q1 q2 q3 hVX
    generalize X.setCell ⟨K, 0, none⟩ (.int .i64 0) = Y at m5 m6 m7 mX mb hs8 ⊢
    have hKY := lt_of_heap m5
    have hVY := hV.below mb (Nat.le_refl _)
    have hNl : N.ev.length ≤ 50000 := hl.ev
    refine wpIn_rangeFunc_gives rfl (by decide) (gf := 44) (lb := #[.pointer (some ⟨B', 0, none⟩)]) rfl trivial (enters_of Try.func44 (by kernel_rfl) rfl)
      (events_gives Fence.wide 8 trivial rfl (by decide) B' v' N.ev hNl) (fun B k args X h => by obtain ⟨x, _, rfl⟩ := h; rfl)
      (fun k X => Kp (fun j => j = K) Y X ∧ X.heap[K]? = some (.cells #[.int .i64 k] 3 (0, 0))) (fun _ _ => False)
      (fun k X Y h hb => ⟨h.1.below hb (Nat.le_refl _), (hb.block _ (by omega)).trans h.2⟩) (fun _ _ _ h _ => h)
      (fun k X h => ⟨(h.1.block B' (lt_of_heap hs8.1) hBK').trans hs8.1, ownsRow_kp hs8.2 h.1 hvK'⟩)
      ⟨Kp.refl _ _, m5⟩ ?round2 ?done2 ?stop2
    case stop2 => intro _ _ _ _ h; exact h.elim
    case round2 =>
      rintro l k args X hk ⟨hkp, hc0⟩ hsz ⟨x, hx, rfl⟩
      simp only [EvM.val]
      gi_wp2
      have hXs := hkp.size
      refine ⟨(KeepsOthers.alloc _ _).from _, ⟨hkp.alloc _, (Below.heap_alloc X _ K (by omega)).trans hc0⟩, ?_⟩
      intro o o' hlo hoc hll
      have eP0 := heap_alloc_new X (.cells #[.int .i64 x.kind, .int .i64 x.id, .int .i64 x.fr] 61)
      have hlP : X.heap.size ≠ l := fun e => by subst e; rw [eP0] at hlo; cases hlo; cases hoc
      have hZ : Kp (fun j => j = K) Y ((X.alloc (.cells #[.int .i64 x.kind, .int .i64 x.id, .int .i64 x.fr] 61)).putObj l o') := (hkp.alloc _).below (below_put (B := Y.heap.size) o' hll hlo) (Nat.le_refl _)
      have eP := (World.putObj_heap_other (w := X.alloc (.cells #[.int .i64 x.kind, .int .i64 x.id, .int .i64 x.fr] 61)) (o := o') hlP).trans eP0
      have eK := (World.putObj_heap_other (w := X.alloc (.cells #[.int .i64 x.kind, .int .i64 x.id, .int .i64 x.fr] 61)) (o := o') (show K ≠ l by omega)).trans ((Below.heap_alloc X _ K (by omega)).trans hc0)
      clear eP0 hlo hlP hkp hc0
      generalize (X.alloc (.cells #[.int .i64 x.kind, .int .i64 x.id, .int .i64 x.fr] 61)).putObj l o' = Z at hZ eP eK ⊢
      generalize X.heap.size = A at eP hsz hXs ⊢
      have r1 := (hZ.block _ (lt_of_heap m6) (by omega)).trans m6
      have hVZ := hVY.same (fun j hj => hZ.block j (hVY.lt j hj) (by have := hVK j hj; omega))
      have hmR : R.ev[k]? = some x := by rw [← HEV.out]; exact hx
      have hhi := hVZ.ev
      simp only at hhi
      have hkl : k < R.ev.length := (List.getElem?_eq_some_iff.1 hmR).1
      obtain ⟨g, cap, hgv, _, lg⟩ := hhi.form (by omega)
      injection hgv with hv1 _ hv2
      subst hv1 hv2
      obtain ⟨d0, d1, d2⟩ := ev_cells hhi hmR
      have i0 : (0 : Int) ≤ (k : Int) := by omega
      have i1 : (k : Int) < (R.ev.length : Int) := by omega
      have i2 : (R.ev.length : Int) ≤ 50000 := by omega
      have i5 : decide (R.ev.length ≤ k) = false := by simp; omega
      clear hhi hk hVZ hx hmR
      gi_wp2
      apply wpIn_region_plan rfl [.rd 0, .rd 1, .rd 2, .rd 3, .rd 4, .rd 5, .rd 6, .rd 7, .rd 8, .rd 9, .rd 10, .rd 11, .rd 12, .rd 13, .rd 14, .rd 15, .rd 16, .rd 17, .rd 18] [] (fun w' => w'.heap[K]? = some (.cells #[.int .i64 k] 3 (0, 0)) ∧ w'.heap[w.heap.size]? = some (.cells #[.slice aa R.all.length ac, .slice ha R.hist.length hc, .slice (some ⟨g, 0, none⟩) R.ev.length ec, .slice ba R.blk.length bc] 35) ∧ w'.heap[A]? = some (.cells #[.int .i64 x.kind, .int .i64 x.id, .int .i64 x.fr] 61) ∧
        w'.cell? ⟨g, k * 3, none⟩ = some (.int .i64 x.kind) ∧ w'.cell? ⟨g, k * 3 + 1, none⟩ = some (.int .i64 x.id) ∧ w'.cell? ⟨g, k * 3 + 2, none⟩ = some (.int .i64 x.fr))
      case hm => kernel_rfl
      case hB => kernel_rfl
      case hS => exact ⟨eK, r1, eP, d0, d1, d2⟩
      intro W hW
      have hbW : Below Z.heap.size Z W := by subst hW; exact (Below.refl _ _).drew
      clear hW
      iterate 19
        try simp only [Act.put, List.setIfInBounds_toArray, List.set_cons_succ, List.set_cons_zero]
        apply plan_rd rfl rfl
        · intro w' hS
          obtain ⟨sK, sB, sP, s0, s1, s2⟩ := hS
          obtain ⟨sK, _, _⟩ := blk1 sK
          obtain ⟨y0, y1, y2, y3, _, _⟩ := blk4 sB
          obtain ⟨p0, p1, p2, _, _, _, _⟩ := blk3 sP
          go_simp
          try rfl
      refine plan_end (Good.normal ?_)
      have wK := (hbW.block _ (lt_of_heap eK)).trans eK
      obtain ⟨c0, c1, c2⟩ := blk1 wK
      try simp only [Act.put, List.setIfInBounds_toArray, List.set_cons_succ, List.set_cons_zero]
      gi_wp2
      refine ⟨((keepsOthers_of_below hbW).trans (KeepsOthers.setCell _ _ _)).from _, (hZ.below hbW (by have := lt_of_heap eP; omega)).setCell (fun _ => rfl) _, ?_⟩
      simp [World.setCell, Array.getElem?_modify, wK]
    case done2 =>
      rintro Dm Z hDm ⟨hkp, n5⟩ hZ
      have n6 := (hkp.block _ (lt_of_heap m6) (by omega)).trans m6
      have n7 := (hkp.block _ (lt_of_heap m7) (by omega)).trans m7
      have nX := (hkp.block _ (lt_of_heap mX) (by omega)).trans mX
      have hbZ : Below w.heap.size w Z := Below.kp mb hkp (Nat.le_refl _) (fun j e => by omega)
      have hwm : w.heap.size ≤ Dm := Nat.le_trans mb.size hDm
      have hDD : Dl < Dm := Nat.lt_of_lt_of_le (lt_of_heap mX) hDm
      rw [HEV.out] at n5
      obtain ⟨c5, c5f, c5l⟩ := blk1 n5
      obtain ⟨q0, q1, q2, q3, _, _⟩ := blk4 n6
      obtain ⟨r0, r1, r2⟩ := blk1 n7
      clear m5 m6 m7 mX
      gi_wp2
      generalize hZ1 : Z.setCell ⟨w.heap.size + 1, 0, none⟩ (.bool true) = Z1
      have s7 : Z1.heap[w.heap.size + 1]? = some (.cells #[.bool true] 4) := by subst hZ1; simp [World.setCell, Array.getElem?_modify, n7]
      have sm : Z1.heap[Dm]? = some (.deferred (some [])) := by subst hZ1; exact (Below.heap_setCell _ _ _ _ (by simp; omega)).trans hZ
      have sl : Z1.heap[Dl]? = some (.deferred (some [])) := by subst hZ1; exact (Below.heap_setCell _ _ _ _ (by simp; omega)).trans nX
      have sb : Below w.heap.size w Z1 := by subst hZ1; exact hbZ.setCell (p := ⟨w.heap.size + 1, 0, none⟩) (by simp) _
      have tl := (World.putObj_heap_other (w := Z1) (o := .deferred none) (show Dl ≠ Dm by omega)).trans sl
      have t7 := (World.putObj_heap_other (w := Z1) (o := .deferred none) (show w.heap.size + 1 ≠ Dm by omega)).trans s7
      have u7 := (World.putObj_heap_other (w := Z1.putObj Dm (.deferred none)) (o := .deferred none) (show w.heap.size + 1 ≠ Dl by omega)).trans t7
      refine ⟨by simp, .inl ⟨_, _, rfl, run_takeDeferred sm, ?_⟩⟩
      refine ⟨by simp, .inl ⟨_, _, rfl, run_takeDeferred tl, ?_⟩⟩
      obtain ⟨v0, _, _⟩ := blk1 u7
      refine ⟨.bool true, by simp [results, Try.results30, go_sem, v0], rfl, ?_⟩
      exact (sb.trans (below_put _ hwm sm)).trans (below_put _ hwD tl)
end Go.Proofs.Ytnkcgalbaeppmaa
