/- The law's examples: the walk. -/
import Derived.Test.YtnkcgalbaeppmaaM7
namespace Go.Proofs.Ytnkcgalbaeppmaa
open Go.RowKit
attribute [local go_sem] Oper.semAt_some
theorem bytes_two {w : World} {b : Nat} {x y : Int} (h : w.heap[b]? = some (.cells #[.int .u8 x, .int .u8 y] 5 (0, 0))) : Lib.BytesIn w (some ⟨b, 0, none⟩) 2 [x, y] := fun _ => by
  refine ⟨b, 0, rfl, fun i hi => ?_⟩
  obtain rfl | rfl : i = 0 ∨ i = 1 := by omega
  · simp [World.cell?, h]
  · simp [World.cell?, h]
/-- A packet that the caller holds, in a box of its own. -/
structure Boxed1 (D : ND) (b : Nat) (w : World) (k : Nat) (q : PV) (m : Pk) : Prop where
  mine : Mine D b w k
  cells : w.heap[k]? = some (.cells #[.string q.f, .string q.t, .slice q.ba q.bn q.bc] 40 (0, 0))
  pin : PIn w q m
  blk : ∃ g o, q.ba = some ⟨g, o, none⟩ ∧ Mine D b w g
theorem Boxed1.turn {D D' : ND} {b k : Nat} {w w' : World} {q : PV} {m : Pk} (h : Boxed1 D b w k q m) (t : Turns D D' b w w') : Boxed1 D' b w' k q m := by
  obtain ⟨g, o, hg, hm⟩ := h.blk
  exact ⟨h.mine.turn t, (h.mine.keep t).trans h.cells, ⟨h.pin.f, h.pin.t, h.pin.n, BytesIn.same h.pin.b (fun a ha => by rw [hg] at ha; cases ha; exact hm.keep t)⟩, g, o, hg, hm.turn t⟩
theorem Boxed1.below {D : ND} {b k : Nat} {w w' : World} {q : PV} {m : Pk} (h : Boxed1 D b w k q m) (hb : Below w.heap.size w w') : Boxed1 D b w' k q m := by
  obtain ⟨g, o, hg, hm⟩ := h.blk
  exact ⟨h.mine.below hb, (hb.block _ h.mine.2).trans h.cells, h.pin.below hb (Nat.le_refl _), g, o, hg, hm.below hb⟩
set_option maxHeartbeats 4000000 in
set_option maxRecDepth 100000 in
theorem known_any (w : World) : Calls Try.prog 8 #[] w fun e w' => e = .returned (.bool true) ∧ Below w.heap.size w w' := by
  have hmix : Try.prog.follows .mixedOrders = true := by kernel_rfl
  refine (callsIn_wide (n := 9)).1 (callsIn_of_wp_marks Try.func8 rfl trivial ?_ rfl)
  simp only [Try.ntmps8, List.size_toArray, List.length_nil, Nat.reduceSub, Array.replicate_succ, Array.replicate_zero, List.push_toArray, List.append_toArray, List.nil_append, List.cons_append]
  gi_wp2
  generalize hW : ((w.alloc (.cells #[.slice none 0 0, .slice none 0 0, .int .i64 0, .map none, .slice none 0 0] 31)).alloc (.cells #[.int .u8 1, .int .u8 2] 5)).alloc (.cells #[.string { data := #[97] }, .string { data := #[98] }, .slice (some ⟨w.heap.size + 1, 0, none⟩) 2 2] 40) = w1
  have hB : w.heap.size ≤ w.heap.size := Nat.le_refl _
  have e0 : w1.heap[w.heap.size]? = some (.cells #[.slice none 0 0, .slice none 0 0, .int .i64 0, .map none, .slice none 0 0] 31) := by
    subst hW; rw [Below.heap_alloc _ _ _ (by simp; omega), Below.heap_alloc _ _ _ (by simp)]; exact heap_alloc_new _ _
  have e1 : w1.heap[w.heap.size + 1]? = some (.cells #[.int .u8 1, .int .u8 2] 5) := by
    subst hW; rw [Below.heap_alloc _ _ _ (by simp)]; have := heap_alloc_new (w.alloc (.cells #[.slice none 0 0, .slice none 0 0, .int .i64 0, .map none, .slice none 0 0] 31)) (.cells #[.int .u8 1, .int .u8 2] 5); simpa using this
  have hb : Below w.heap.size w w1 := by subst hW; exact (((Below.refl _ w).alloc (Nat.le_refl _) _).alloc (by simp) _).alloc (by simp; omega) _
  have h0 : Held w.heap.size w w1 w.heap.size N0 D0 := ⟨rep_new e0, fun k hk => by rw [fp_new hk]; exact Nat.le_refl _, hb⟩
  have hp : PIn w1 ⟨sa, sb, some ⟨w.heap.size + 1, 0, none⟩, 2, 2⟩ kP := ⟨rfl, rfl, rfl, bytes_two e1⟩
  clear hW hb
  refine ⟨trivial, callsIn_wide.2 ((send_any w.heap.size N0 D0 ⟨sa, sb, some ⟨w.heap.size + 1, 0, none⟩, 2, 2⟩ kP w1 9 h0.rep lim0 few0 (by decide) hp (fun k hk e => by have := fp_new e; simp [PV.blk, Value.ownBlock] at hk; omega) kPok).mono ?_)⟩
  rw [k1]
  rintro e w2 ⟨rfl, D1, r1, t1⟩
  dsimp only at r1 ⊢
  have h1 := h0.turn r1 t1 hB
  clear h0 hp e0 e1 t1 r1
  gi_wp2
  refine ⟨trivial, callsIn_wide.2 ((dup_any w.heap.size N1 D1 0 w2 9 h1.rep lim1 few1 (by decide)).mono ?_)⟩
  rw [k2]
  rintro e w3 ⟨rfl, D2, r2, t2⟩
  dsimp only at r2 ⊢
  have h2 := h1.turn r2 t2 hB
  clear h1 r2 t2
  gi_wp2
  refine ⟨trivial, callsIn_wide.2 ((alter_any w.heap.size N2 D2 1 1 255 w3 9 h2.rep lim2 few2 (by decide)).mono ?_)⟩
  rw [k3]
  rintro e w4 ⟨rfl, D3, r3, t3⟩
  dsimp only at r3 ⊢
  have h3 := h2.turn r3 t3 hB
  clear h2 r3 t3
  gi_wp2
  refine ⟨trivial, callsIn_wide.2 ((genuine_any w.heap.size N3 D3 0 w4 h3.rep lim3).mono ?_)⟩
  rw [k4]
  rintro e w5 ⟨rfl, hb5⟩
  dsimp only
  have h4 := h3.below hb5 hB
  clear h3 hb5
  gi_wp2
  refine ⟨trivial, callsIn_wide.2 ((genuine_any w.heap.size N3 D3 1 w5 h4.rep lim3).mono ?_)⟩
  rw [k5]
  rintro e w6 ⟨rfl, hb6⟩
  dsimp only
  have h5 := h4.below hb6 hB
  clear h4 hb6
  gi_wp2
  refine ⟨trivial, callsIn_wide.2 ((replay_any w.heap.size N3 D3 0 w6 9 h5.rep lim3 few3 (by decide)).mono ?_)⟩
  rw [k6]
  rintro e w7 ⟨rfl, D4, r4, t4⟩
  dsimp only at r4 ⊢
  have h6 := h5.turn r4 t4 hB
  clear h5 r4 t4
  gi_wp2
  refine ⟨trivial, callsIn_wide.2 ((deliver_any w.heap.size N4 D4 1 w7 9 h6.rep lim4 few4 (by decide)).mono ?_)⟩
  rw [k7]
  rintro e w8 ⟨⟨qf, qt, qa, qn, qc⟩, D5, rfl, r5, t5, hq, hqb⟩
  dsimp only at r5 hq ⊢
  simp only [PV.val]
  have h7 := h6.turn r5 t5 hB
  clear h6 r5 t5
  gi_wp2
  have hbx := (Below.refl w8.heap.size w8).alloc (Nat.le_refl _) (.cells #[.string qf, .string qt, .slice qa qn qc] 40)
  have ex := heap_alloc_new w8 (.cells #[.string qf, .string qt, .slice qa qn qc] 40)
  have h8 := h7.below hbx hB
  have hX : Boxed1 D5 w.heap.size (w8.alloc (.cells #[.string qf, .string qt, .slice qa qn qc] 40)) w8.heap.size ⟨qf, qt, qa, qn, qc⟩ kQ := by
    have hn : qn = 2 := hq.n.symm
    obtain ⟨g, o, hg, hc⟩ := hq.b (by show 0 < qn; omega)
    refine ⟨Mine.new h7.rep (Nat.le_refl _) (by simp), ex, hq.below hbx (Nat.le_refl _), g, o, hg, hqb g (by simp only at hg; simp [PV.blk, Value.ownBlock, hg]), ?_⟩
    have := World.block_lt_of_cell? _ _ (hc 0 (by show 0 < qn; omega))
    simp only at this
    simp; omega
  clear h7 hbx ex hq hqb
  generalize w8.alloc (.cells #[.string qf, .string qt, .slice qa qn qc] 40) = w9 at h8 hX ⊢
  refine ⟨trivial, callsIn_wide.2 ((deliver_any w.heap.size N5 D5 1 w9 9 h8.rep lim5 few5 (by decide)).mono ?_)⟩
  rw [k8]
  rintro e w10 ⟨⟨yf, yt, ya, yn, yc⟩, D6, rfl, r6, t6, _, _⟩
  dsimp only at r6 ⊢
  simp only [PV.val]
  have h9 := h8.turn r6 t6 hB
  have hX1 := hX.turn t6
  clear h8 r6 t6 hX
  gi_wp2
  refine ⟨trivial, callsIn_wide.2 ((redirect_any w.heap.size N5 D6 2 sc w10 9 h9.rep lim5 few5 (by decide) (by decide)).mono ?_)⟩
  rw [k9]
  rintro e w11 ⟨rfl, D7, r7, t7⟩
  dsimp only at r7 ⊢
  have h10 := h9.turn r7 t7 hB
  have hX2 := hX1.turn t7
  clear h9 r7 t7 hX1
  gi_wp2
  refine ⟨trivial, callsIn_wide.2 ((source_any w.heap.size N6 D7 2 w11 h10.rep lim6).mono ?_)⟩
  rw [k10]
  rintro e w12 ⟨rfl, hb12⟩
  dsimp only
  have h11 := h10.below hb12 hB
  have hX3 := hX2.below hb12
  clear h10 hb12 hX2
  gi_wp2
  refine ⟨trivial, callsIn_wide.2 ((genuine_any w.heap.size N6 D7 2 w12 h11.rep lim6).mono ?_)⟩
  rw [k11]
  rintro e w13 ⟨rfl, hb13⟩
  dsimp only
  have h12 := h11.below hb13 hB
  have hX4 := hX3.below hb13
  obtain ⟨p0, p1, p2, _, _, _, pl⟩ := blk3 hX4.cells
  simp only at p0 p1 p2
  clear h11 hb13 hX3
  gi_wp2
  have hbA := (Below.refl w13.heap.size w13).alloc (Nat.le_refl _) (.cells #[.int .u8 1, .int .u8 253] 5)
  have hp2 : PIn (w13.alloc (.cells #[.int .u8 1, .int .u8 253] 5)) ⟨sa, sb, some ⟨w13.heap.size, 0, none⟩, 2, 2⟩ kQ := ⟨rfl, rfl, rfl, bytes_two (heap_alloc_new _ _)⟩
  have h13 := h12.below hbA hB
  have hX5 := hX4.below hbA
  clear h12 hbA hX4 p0 p1 p2 pl
  refine ⟨trivial, callsIn_wide.2 ((same_any ⟨qf, qt, qa, qn, qc⟩ ⟨sa, sb, some ⟨w13.heap.size, 0, none⟩, 2, 2⟩ kQ kQ _ hX5.pin hp2).mono ?_)⟩
  rw [k16]
  rintro e w14 ⟨rfl, hb14⟩
  have h14 := h13.below hb14 hB
  clear h13 hb14 hX5 hp2
  gi_wp2
  refine ⟨trivial, callsIn_wide.2 ((block_any w.heap.size N6 D7 sa sb w14 h14.rep (by decide) (by decide)).mono ?_)⟩
  rw [k12]
  rintro e w15 ⟨rfl, D8, r8, t8⟩
  dsimp only at r8 ⊢
  have h15 := h14.turn r8 t8 hB
  clear h14 r8 t8
  gi_wp2
  refine ⟨trivial, callsIn_wide.2 ((deliver_any w.heap.size N7 D8 0 w15 9 h15.rep lim7 few7 (by decide)).mono ?_)⟩
  rw [k13]
  rintro e w16 ⟨⟨zf, zt, za, zn, zc⟩, D9, rfl, r9, t9, _, _⟩
  dsimp only at r9 ⊢
  simp only [PV.val]
  have h16 := h15.turn r9 t9 hB
  clear h15 r9 t9
  gi_wp2
  have hbB := ((Below.refl w16.heap.size w16).alloc (Nat.le_refl _) (.cells #[.string zf, .string zt, .slice za zn zc] 40)).alloc (by simp) (.cells #[.int .i64 0] 3)
  have h17 := h16.below hbB hB
  have eC := top0 w16 (.cells #[.string zf, .string zt, .slice za zn zc] 40) (.cells #[.int .i64 0] 3)
  have mC : Mine D9 w.heap.size ((w16.alloc (.cells #[.string zf, .string zt, .slice za zn zc] 40)).alloc (.cells #[.int .i64 0] 3)) (w16.heap.size + 1) := Mine.new h16.rep (by omega) (by simp)
  have hC0 : w.heap.size ≤ w16.heap.size + 1 := by have := h16.bel.size; omega
  clear h16 hbB
  generalize (w16.alloc (.cells #[.string zf, .string zt, .slice za zn zc] 40)).alloc (.cells #[.int .i64 0] 3) = w17 at h17 eC mC ⊢
  generalize w16.heap.size + 1 = C at eC mC hC0 ⊢
  refine ⟨trivial, callsIn_wide.2 ((events_any w17 w.heap.size N7 D9 h17.rep lim7).mono ?_)⟩
  rintro e w18 ⟨B, v, rfl, hbox, hBs, hown, hb18⟩
  have h18 := h17.below hb18 hB
  have eC1 := (hb18.block C mC.2).trans eC
  have mC1 := mC.below hb18
  have hs18 : EvSeq B v N7.ev w18 := ⟨hbox, ownsRow_base hown (Nat.zero_le _)⟩
  have hBC : B ≠ C := fun e => by have := mC.2; omega
  have hvC : ∀ k, v.ownBlock = some k → k ≠ C ∧ k < w18.heap.size := fun k hk => by have := (hown.lt k hk); have := mC.2; omega
  clear h17 hb18 eC mC hbox hown
  have hq56 := fun w f a b => run_eql_func_nil (P := Try.prog) 56 f a b w _ _ _ u56
  gi_wp2
  have hk0 : Kp (fun j => j = C) w18 w18 := Kp.refl _ _
  refine wpIn_rangeFunc_gives rfl (by decide) (gf := 44) (lb := #[.pointer (some ⟨B, 0, none⟩)]) rfl trivial (enters_of Try.func44 (by kernel_rfl) rfl)
    (events_gives Fence.wide 8 trivial rfl (by decide) B v N7.ev (by decide)) (fun B k args X h => by obtain ⟨x, _, rfl⟩ := h; rfl)
    (fun k X => Kp (fun j => j = C) w18 X ∧ X.heap[C]? = some (.cells #[.int .i64 k] 3 (0, 0))) (fun _ _ => False)
    (fun k X Y h hb => ⟨h.1.below hb (by omega), (hb.block C mC1.2).trans h.2⟩) (fun _ _ _ h _ => h)
    (fun k X h => ⟨(h.1.block B (lt_of_heap hs18.1) hBC).trans hs18.1, ownsRow_kp hs18.2 h.1 (fun k hk => (hvC k hk).1)⟩)
    ⟨hk0, eC1⟩ ?round ?done ?stop
  case round =>
    rintro l k args X hk ⟨hkp, hc⟩ hsz ⟨x, hx, rfl⟩
    gi_wp2
    refine ⟨KeepsFrom.refl _ _, ⟨hkp, hc⟩, ?_⟩
    intro o o' hl ho hwl
    have hCl : C < w18.heap.size := mC1.2
    have hcZ : (X.putObj l o').heap[C]? = some (.cells #[.int .i64 k] 3 (0, 0)) := (World.putObj_heap_other (by omega)).trans hc
    have hkZ : Kp (fun j => j = C) w18 (X.putObj l o') := hkp.below (below_put (B := w18.heap.size) o' hwl hl) (Nat.le_refl _)
    generalize X.putObj l o' = Z at hcZ hkZ ⊢
    obtain ⟨c0, f0, l0⟩ := blk1 hcZ
    have hk6 : k < 6 := hk
    simp only [List.zip_toArray, List.zip_cons_cons, List.zip_nil_left]
    gi_wp2
    exact ⟨(KeepsOthers.setCell _ _ _).from _, hkZ.setCell (fun _ => rfl) _, by simp [World.setCell, Array.getElem?_modify, hcZ]⟩
  case done =>
    rintro Dl X hD ⟨hkp, hc⟩ hX
    have h19 : Held w.heap.size w X w.heap.size N7 D9 := ⟨h18.rep.kp hkp (fun k hk e => mC1.1 (e ▸ hk)), h18.ge, Below.kp h18.bel hkp (Nat.le_refl _) (fun k e => by omega)⟩
    have mC2 : Mine D9 w.heap.size X C := ⟨mC1.1, Nat.lt_of_lt_of_le mC1.2 hkp.size⟩
    have mD : Mine D9 w.heap.size X Dl := ⟨fun h => by have := h18.rep.fp_lt Dl h; omega, lt_of_heap hX⟩
    have hwD : w.heap.size ≤ Dl := Nat.le_trans h18.bel.size hD
    gi_wp2
    refine ⟨trivial, callsIn_wide.2 ((alter_any w.heap.size N7 D9 0 2 1 X 9 h19.rep lim7 few7 (by decide)).mono ?_)⟩
    rw [k14]
    rintro e w20 ⟨rfl, D10, r10, t10⟩
    dsimp only at r10 ⊢
    have h20 := h19.turn r10 t10 (Nat.le_refl _)
    have hc20 := (mC2.keep t10).trans hc
    have mC3 := mC2.turn t10
    have hX20 := (mD.keep t10).trans hX
    have mD3 := mD.turn t10
    clear h19 r10 t10
    gi_wp2
    refine ⟨trivial, callsIn_wide.2 ((alter_any w.heap.size N7 D10 0 0 0 w20 9 h20.rep lim7 few7 (by decide)).mono ?_)⟩
    rw [k15]
    rintro e w21 ⟨rfl, D11, r11, t11⟩
    dsimp only at r11 ⊢
    have h21 := h20.turn r11 t11 (Nat.le_refl _)
    have hc21 := (mC3.keep t11).trans hc20
    have hX21 := (mD3.keep t11).trans hX20
    have hN7 : N7.ev.length = 6 := rfl
    rw [hN7] at hc21
    obtain ⟨c0, f0, l0⟩ := blk1 hc21
    clear h20 r11 t11
    gi_wp2
    refine ⟨by simp, .inl ⟨_, _, rfl, run_takeDeferred hX21, ?_⟩⟩
    refine ⟨_, results_tmp rfl _ _ _, rfl, ?_⟩
    exact h21.bel.trans (below_put _ hwD hX21)
  case stop => intro _ _ _ _ h; exact h.elim
end Go.Proofs.Ytnkcgalbaeppmaa
