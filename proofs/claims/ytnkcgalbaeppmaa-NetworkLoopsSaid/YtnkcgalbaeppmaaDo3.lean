/- The law's do: Copy, after which the copy is used. -/
import Derived.Test.YtnkcgalbaeppmaaDo1
namespace Go.Proofs.Ytnkcgalbaeppmaa
open Go.RowKit
theorem RepOk.hp_wr {w : World} {b : Nat} {N : NetM} {D : ND} (h : RepOk w b N D) {k : Nat} (hk : hp D k) : ¬ wr D b k := by
  obtain ⟨p, hp', hb⟩ := hk
  obtain ⟨cur, hc⟩ := h.hs5 hp' hb
  rintro (rfl | h1 | h1 | h1 | h1 | ⟨x, hx, h1⟩)
  · exact absurd (cells_inj hc h.blk) (by decide)
  · obtain ⟨c, hc'⟩ := h.hblk h1; exact absurd (cells_inj hc hc') (by decide)
  · obtain ⟨c, hc'⟩ := h.fblk h1; exact absurd (cells_inj hc hc') (by decide)
  · obtain ⟨c, hc'⟩ := h.eblk h1; exact absurd (cells_inj hc hc') (by decide)
  · exact h.map.ne hc h1
  · exact h.apart2 x hx p hp' k h1 hb
/-- What is kept while the network is turned and its copy is not. -/
structure Side (w : World) (b : Nat) (N1 : NetM) (D1 : ND) (R1 : RefM) (c : Nat) (o : Nat) (N : NetM) (D' : ND) (V : RefV) (R : RefM) : Prop where
  rep : RepOk w b N1 D1
  lk : Lk N1 R1
  ok : R1.ok c
  cp : RepOk w o N D'
  ref : RefAt w V R
  sep : ∀ k, fp D' o k → ¬ wr D1 b k
  ap : ∀ k, rp V k → ¬ wr D1 b k
theorem Side.turn {w w' : World} {b : Nat} {N1 N2 : NetM} {D1 D2 : ND} {R1 R2 : RefM} {c : Nat} {o : Nat} {N : NetM} {D' : ND} {V : RefV} {R : RefM} (h : Side w b N1 D1 R1 c o N D' V R) (hr : RepOk w' b N2 D2) (t : Turns D1 D2 b w w') (hl : Lk N2 R2) (ho : R2.ok (c + 1)) : Side w' b N2 D2 R2 (c + 1) o N D' V R :=
  ⟨hr, hl, ho, h.cp.kp t.kp (fun k hf hk => h.sep k hf hk), h.ref.same (fun k hk => t.kp.block k (h.ref.lt k hk) (h.ap k hk)),
    fun k hf hw => (t.wr k hw).elim (h.sep k hf) (fun e => by have := h.cp.fp_lt k hf; omega), fun k hf hw => (t.wr k hw).elim (h.ap k hf) (fun e => by have := h.ref.lt k hf; omega)⟩
theorem Side.below {w w' : World} {b : Nat} {N1 : NetM} {D1 : ND} {R1 : RefM} {c : Nat} {o : Nat} {N : NetM} {D' : ND} {V : RefV} {R : RefM} (h : Side w b N1 D1 R1 c o N D' V R) (hb : Below w.heap.size w w') : Side w' b N1 D1 R1 c o N D' V R :=
  ⟨h.rep.below hb (Nat.le_refl _), h.lk, h.ok, h.cp.below hb (Nat.le_refl _), h.ref.below hb (Nat.le_refl _), h.sep, h.ap⟩
def sx : ByteArray := ⟨#[120]⟩
def sy : ByteArray := ⟨#[121]⟩
def k9P : Pk := ⟨sx, sy, [9]⟩
theorem k9Pok : k9P.ok := ⟨by decide, by decide, by decide⟩
theorem bytes_one {w : World} {b : Nat} {x : Int} (h : w.heap[b]? = some (.cells #[.int .u8 x] 5 (0, 0))) : Lib.BytesIn w (some ⟨b, 0, none⟩) 1 [x] := fun _ => by
  refine ⟨b, 0, rfl, fun i hi => ?_⟩
  obtain rfl : i = 0 := by omega
  simp [World.cell?, h]
/-- A box of the reference's is none of a network's blocks. -/
theorem RepOk.notbox35 {w : World} {b : Nat} {N : NetM} {D : ND} (h : RepOk w b N D) {k : Nat} (hf : fp D b k) {cs : Array Value} (hk : w.heap[k]? = some (.cells cs 35 (0, 0))) : False := by
  rcases hf with (rfl | h1 | h1 | h1 | h1 | ⟨x, hx, h1⟩) | ⟨p, hp', h1⟩
  · exact absurd (cells_inj hk h.blk) (by decide)
  · obtain ⟨c, hc'⟩ := h.hblk h1; exact absurd (cells_inj hk hc') (by decide)
  · obtain ⟨c, hc'⟩ := h.fblk h1; exact absurd (cells_inj hk hc') (by decide)
  · obtain ⟨c, hc'⟩ := h.eblk h1; exact absurd (cells_inj hk hc') (by decide)
  · exact h.map.ne hk h1
  · obtain ⟨c, hc'⟩ := h.fs5 hx h1; exact absurd (cells_inj hk hc') (by decide)
  · obtain ⟨c, hc'⟩ := h.hs5 hp' h1; exact absurd (cells_inj hk hc') (by decide)
set_option maxHeartbeats 3200000 in
set_option maxRecDepth 100000 in
theorem doC (c : Nat) (V : RefV) (R : RefM) (b : Nat) (N : NetM) (D : ND) (x : AV) (m : Pk) (w : World) (h : St c w b N D V R) (hcc : c ≤ 30000) (_hx : Src w b D x.p m) (hk : ∀ j : Int, 0 ≤ j → j ≤ 11 → x.what ≠ j) :
    Calls Try.prog 9 #[.pointer (some ⟨b, 0, none⟩), V.val, x.val] w (DoPost c V D b N R w) := by
  have hl := h.lk.lim h.ok (by omega)
  have hf := h.lk.few h.ok
  have hlR := h.ok.lim (by omega)
  have hallR := h.ok.all
  have hblkR := h.ok.blk
  have hlk := h.lk
  have hok := h.ok
  obtain ⟨aa, ac, ha, hc, ea, ec, ba, bc, h1, h2, h3, h4⟩ := h.ref.forms
  obtain ⟨al, hi, ev, bl, ps, hs'⟩ := V
  simp only at h1 h2 h3 h4
  subst h1 h2 h3 h4
  simp only [RefV.val, AV.val]
  obtain ⟨e1, e2, e3, e4⟩ := top4 w (.cells #[.slice aa R.all.length ac, .slice ha R.hist.length hc, .slice ea R.ev.length ec, .slice ba R.blk.length bc] 35) (.cells #[.int .i64 x.what, .int .i64 x.id, .int .i64 x.off, .int .u8 x.mask, .string x.p.f, .string x.p.t, .slice x.p.ba x.p.bn x.p.bc] 42) (.cells #[.slice none 0 0, .slice none 0 0, .slice none 0 0, .slice none 0 0] 35) (.cells #[.slice aa R.all.length ac, .slice ha R.hist.length hc, .slice ea R.ev.length ec, .slice ba R.blk.length bc] 35)
  have hb1 : Below w.heap.size w ((((w.alloc (.cells #[.slice aa R.all.length ac, .slice ha R.hist.length hc, .slice ea R.ev.length ec, .slice ba R.blk.length bc] 35)).alloc (.cells #[.int .i64 x.what, .int .i64 x.id, .int .i64 x.off, .int .u8 x.mask, .string x.p.f, .string x.p.t, .slice x.p.ba x.p.bn x.p.bc] 42)).alloc (.cells #[.slice none 0 0, .slice none 0 0, .slice none 0 0, .slice none 0 0] 35)).alloc (.cells #[.slice aa R.all.length ac, .slice ha R.hist.length hc, .slice ea R.ev.length ec, .slice ba R.blk.length bc] 35)) := ((((Below.refl _ _).alloc (Nat.le_refl _) _).alloc (by simp) _).alloc (by simp; omega) _).alloc (by simp; omega) _
  have hfar : ∀ k, fp D b k → k < w.heap.size := h.rep.fp_lt
  have hk0 : (x.what == 0) = false := by have := hk 0 (by decide) (by decide); simpa using this
  have hk1 : (x.what == 1) = false := by have := hk 1 (by decide) (by decide); simpa using this
  have hk2 : (x.what == 2) = false := by have := hk 2 (by decide) (by decide); simpa using this
  have hk3 : (x.what == 3) = false := by have := hk 3 (by decide) (by decide); simpa using this
  have hk4 : (x.what == 4) = false := by have := hk 4 (by decide) (by decide); simpa using this
  have hk5 : (x.what == 5) = false := by have := hk 5 (by decide) (by decide); simpa using this
  have hk6 : (x.what == 6) = false := by have := hk 6 (by decide) (by decide); simpa using this
  have hk7 : (x.what == 7) = false := by have := hk 7 (by decide) (by decide); simpa using this
  have hk8 : (x.what == 8) = false := by have := hk 8 (by decide) (by decide); simpa using this
  have hk9 : (x.what == 9) = false := by have := hk 9 (by decide) (by decide); simpa using this
  have hk10 : (x.what == 10) = false := by have := hk 10 (by decide) (by decide); simpa using this
  have hk11 : (x.what == 11) = false := by have := hk 11 (by decide) (by decide); simpa using this
  clear hk
  go_enter Try.func9, Try.ntmps9
  go_wp2_with fail
  generalize (((w.alloc (.cells #[.slice aa R.all.length ac, .slice ha R.hist.length hc, .slice ea R.ev.length ec, .slice ba R.blk.length bc] 35)).alloc (.cells #[.int .i64 x.what, .int .i64 x.id, .int .i64 x.off, .int .u8 x.mask, .string x.p.f, .string x.p.t, .slice x.p.ba x.p.bn x.p.bc] 42)).alloc (.cells #[.slice none 0 0, .slice none 0 0, .slice none 0 0, .slice none 0 0] 35)).alloc (.cells #[.slice aa R.all.length ac, .slice ha R.hist.length hc, .slice ea R.ev.length ec, .slice ba R.blk.length bc] 35) = w1 at e1 e2 e3 e4 hb1 ⊢
  have hw1 := lt_of_heap e4
  have hfp1 : ∀ k, w.heap.size ≤ k → ¬ wr D b k := fun k h1 h3 => by have := hfar k (.inl h3); omega
  obtain ⟨c0, c1, c2, c3, c4, c5, c6, cl⟩ := blk7 e2
  go_wp2_with fail
  refine (copy_any w1 b N D (h.rep.below hb1 (Nat.le_refl _)) hl).mono ?_
  rintro e w2 ⟨o, D', rfl, ro, hwo, hhs, hbl2⟩
  have S2 : Side w2 b N D R c o N D' ⟨.slice aa R.all.length ac, .slice ha R.hist.length hc, .slice ea R.ev.length ec, .slice ba R.blk.length bc, ps, hs'⟩ R := ⟨(h.rep.below hb1 (Nat.le_refl _)).below hbl2 (Nat.le_refl _), hlk, hok, ro, (h.ref.below hb1 (Nat.le_refl _)).below hbl2 (Nat.le_refl _),
    fun k hf hw => hf.elim (fun hf => hfp1 k (by have := hwo k hf; have := hb1.size; omega) hw) (fun hf => h.rep.hp_wr (by obtain ⟨p, hp', hb⟩ := hf; exact ⟨p, hhs ▸ hp', hb⟩) hw), h.ap⟩
  have f1 := (hbl2.block _ (lt_of_heap e1)).trans e1
  have f3 := (hbl2.block _ (lt_of_heap e3)).trans e3
  have hk2 : Kp (wr D b) w w2 := (Kp.of_below hb1).below hbl2 (by have := hb1.size; omega)
  have hwo' : ∀ k, wr D' o k → w.heap.size ≤ k := fun k hk => by have := hwo k hk; have := hb1.size; omega
  have hs12 : w1.heap.size ≤ w2.heap.size := hbl2.size
  clear e1 e2 e3 e4 hb1 hbl2 ro hwo hhs c0 c1 c2 c3 c4 c5 c6 cl
  go_wp2_with fail
  have hb9 := (Below.refl w2.heap.size w2).alloc (Nat.le_refl _) (.cells #[.int .u8 9] 5)
  have e9 := heap_alloc_new w2 (.cells #[.int .u8 9] 5)
  have S3 := S2.below hb9
  have g1 := (hb9.block _ (lt_of_heap f1)).trans f1
  have g3 := (hb9.block _ (lt_of_heap f3)).trans f3
  have hk3 := hk2.below hb9 hk2.size
  have hf2 : ∀ k, fp D b k → k < w2.heap.size := S2.rep.fp_lt
  have hpin : PIn (w2.alloc (.cells #[.int .u8 9] 5)) ⟨sx, sy, some ⟨w2.heap.size, 0, none⟩, 1, 1⟩ k9P := ⟨rfl, rfl, rfl, bytes_one e9⟩
  clear f1 f3 hk2 hb9 S2
  refine (inject_any b N D ⟨sx, sy, some ⟨w2.heap.size, 0, none⟩, 1, 1⟩ k9P _ c S3.rep hl hf (by omega) hpin (fun k hk e => by have := hf2 k e; simp [PV.blk, Value.ownBlock] at hk; omega) k9Pok).mono ?_
  rintro e w4 ⟨rfl, D4, r4, t4⟩
  have S4 := S3.turn r4 t4 (hlk.inject k9P).1 (hok.inject k9Pok)
  have k1 := (t4.kp.block _ (lt_of_heap g1) (hfp1 _ (by omega))).trans g1
  have k3 := (t4.kp.block _ (lt_of_heap g3) (hfp1 _ (by omega))).trans g3
  have hz24 : w2.heap.size ≤ w4.heap.size := by have := t4.kp.size; simp at this; omega
  have hk4 : Kp (wr D b) w w4 := hk3.trans t4.kp (fun k _ e => e)
  have hw4 : ∀ k, wr D4 b k → wr D b k ∨ w2.heap.size ≤ k := fun k hk => (t4.wr k hk).imp id (fun e => by simp at e; omega)
  clear g1 g3 e9 hk3 S3 r4 t4 hpin
  generalize (N.inject k9P).1 = N4 at S4
  generalize (R.inject k9P).1 = R4 at S4
  go_wp2_with fail
  refine (alter_any b N4 D4 0 0 1 w4 (c + 1) S4.rep (S4.lk.lim S4.ok (by omega)) (S4.lk.few S4.ok) (by omega)).mono ?_
  rintro e w5 ⟨rfl, D5, r5, t5⟩
  have S5 := S4.turn r5 t5 (S4.lk.alter 0 0 1).1 (S4.ok.alter 0 0 1)
  have hfp4 : ∀ k, w.heap.size ≤ k → k < w2.heap.size → ¬ wr D4 b k := fun k h1 h2 h3 => (hw4 k h3).elim (hfp1 k h1) (fun e => by omega)
  have q1 := (t5.kp.block _ (lt_of_heap k1) (hfp4 _ (by omega) (by omega))).trans k1
  have q3 := (t5.kp.block _ (lt_of_heap k3) (hfp4 _ (by omega) (by omega))).trans k3
  have hz45 : w4.heap.size ≤ w5.heap.size := t5.kp.size
  have hk5 : Kp (wr D b) w w5 := hk4.trans t5.kp (fun k hk e => (hw4 k e).resolve_right (by have := hs12; omega))
  have hw5 : ∀ k, wr D5 b k → wr D b k ∨ w2.heap.size ≤ k := fun k hk => (t5.wr k hk).elim (hw4 k) (fun e => .inr (by omega))
  clear k1 k3 hk4 hw4 S4 r5 t5 hfp4
  generalize (N4.alter 0 0 1).1 = N5 at S5
  generalize (R4.alter 0 0 1).1 = R5 at S5
  go_wp2_with fail
  refine (block_any b N5 D5 sa sb w5 S5.rep (by decide) (by decide)).mono ?_
  rintro e w6 ⟨rfl, D6, r6, t6⟩
  have S6 := S5.turn r6 t6 (S5.lk.block (sa, sb)).1 (S5.ok.block (sa, sb) false)
  have hfp5 : ∀ k, w.heap.size ≤ k → k < w2.heap.size → ¬ wr D5 b k := fun k h1 h2 h3 => (hw5 k h3).elim (hfp1 k h1) (fun e => by omega)
  have m1 := (t6.kp.block _ (lt_of_heap q1) (hfp5 _ (by omega) (by omega))).trans q1
  have m3 := (t6.kp.block _ (lt_of_heap q3) (hfp5 _ (by omega) (by omega))).trans q3
  have hz56 : w5.heap.size ≤ w6.heap.size := t6.kp.size
  have hk6 : Kp (wr D b) w w6 := hk5.trans t6.kp (fun k hk e => (hw5 k e).resolve_right (by have := hs12; omega))
  have hw6 : ∀ k, wr D6 b k → wr D b k ∨ w2.heap.size ≤ k := fun k hk => (t6.wr k hk).elim (hw5 k) (fun e => .inr (by omega))
  clear q1 q3 hk5 hw5 S5 r6 t6 hfp5
  generalize (N5.block (sa, sb)).1 = N6 at S6
  generalize (R5.block (sa, sb) false).1 = R6 at S6
  go_wp2_with fail
  refine (drop_any b N6 D6 0 w6 (c + 1 + 1 + 1) S6.rep (S6.lk.lim S6.ok (by omega)) (S6.lk.few S6.ok) (by omega)).mono ?_
  rintro e w7 ⟨rfl, D7, r7, t7⟩
  have S7 := S6.turn r7 t7 (S6.lk.drop 0).1 (S6.ok.drop 0)
  have hfp6 : ∀ k, w.heap.size ≤ k → k < w2.heap.size → ¬ wr D6 b k := fun k h1 h2 h3 => (hw6 k h3).elim (hfp1 k h1) (fun e => by omega)
  have n1 := (t7.kp.block _ (lt_of_heap m1) (hfp6 _ (by omega) (by omega))).trans m1
  have n3 := (t7.kp.block _ (lt_of_heap m3) (hfp6 _ (by omega) (by omega))).trans m3
  have hk7 : Kp (wr D b) w w7 := hk6.trans t7.kp (fun k hk e => (hw6 k e).resolve_right (by have := hs12; omega))
  have cp := S7.cp
  have rf := S7.ref
  clear m1 m3 hk6 hw6 S6 r7 t7 hfp6 S7
  obtain ⟨y0, y1, y2, y3, _, _⟩ := blk4 n1
  go_wp2_with fail
  apply wp_region_plan [.rd 0, .rd 1, .rd 2, .rd 3, .rd 4, .rd 5, .rd 6, .act 7, .rd 8, .act 9, .act 10, .act 11] [11] (fun w' => w'.heap[w.heap.size]? = some (.cells #[.slice aa R.all.length ac, .slice ha R.hist.length hc, .slice ea R.ev.length ec, .slice ba R.blk.length bc] 35))
  case hm => kernel_rfl
  case hB => kernel_rfl
  case hS => exact n1
  intro W hW
  have hbW : Below w7.heap.size w7 W := by subst hW; exact (Below.refl _ _).drew
  clear hW y0 y1 y2 y3
  iterate 7
    try simp only [Act.put, List.setIfInBounds_toArray, List.set_cons_succ, List.set_cons_zero]
    apply plan_rd rfl rfl
    · intro w' hS
      obtain ⟨y0, y1, y2, y3, _, _⟩ := blk4 hS
      go_simp
      try rfl
  have sW := (hbW.block _ (lt_of_heap n1)).trans n1
  have s3 := (hbW.block _ (lt_of_heap n3)).trans n3
  have cW := cp.below hbW (Nat.le_refl _)
  have fW := rf.below hbW (Nat.le_refl _)
  clear n1 n3 cp rf
  apply plan_act rfl
  try simp only [Act.put, List.setIfInBounds_toArray, List.set_cons_succ, List.set_cons_zero]
  go_wp2_with fail
  refine (agreesR_any _ R o N D' W cW hl fW hlR hlk).mono ?_
  rintro e W2 ⟨rfl, hbl2⟩
  have hb2 := hbW.trans (hbl2.mono hbW.size)
  have sZ := (hbl2.block _ (lt_of_heap sW)).trans sW
  have s4 := (hbl2.block _ (lt_of_heap s3)).trans s3
  have c2' := cW.below hbl2 (Nat.le_refl _)
  have f2' := fW.below hbl2 (Nat.le_refl _)
  clear hbW hbl2 sW s3 cW fW
  obtain ⟨v0, v1, v2, v3, vf, vl⟩ := blk4 s4
  go_wp2_with fail
  refine act_on sZ ?_
  apply plan_rd rfl rfl
  · intro w' hS
    go_simp
    try rfl
  try simp only [Act.put, List.setIfInBounds_toArray, List.set_cons_succ, List.set_cons_zero]
  apply plan_act rfl
  try simp only [Act.put, List.setIfInBounds_toArray, List.set_cons_succ, List.set_cons_zero]
  go_wp2_with fail
  refine act_on sZ ?_
  have hk4 : Kp (fun j => j = w.heap.size + 1 + 1) W2 ((((W2.setCell ⟨w.heap.size + 1 + 1, 0, none⟩ (.slice aa R.all.length ac)).setCell ⟨w.heap.size + 1 + 1, 1, none⟩ (.slice ha R.hist.length hc)).setCell ⟨w.heap.size + 1 + 1, 2, none⟩ (.slice ea R.ev.length ec)).setCell ⟨w.heap.size + 1 + 1, 3, none⟩ (.slice ba R.blk.length bc)) := ((((Kp.refl (fun j => j = w.heap.size + 1 + 1) W2).setCell (p := ⟨w.heap.size + 1 + 1, 0, none⟩) (fun _ => rfl) (.slice aa R.all.length ac)).setCell (p := ⟨w.heap.size + 1 + 1, 1, none⟩) (fun _ => rfl) (.slice ha R.hist.length hc)).setCell (p := ⟨w.heap.size + 1 + 1, 2, none⟩) (fun _ => rfl) (.slice ea R.ev.length ec)).setCell (p := ⟨w.heap.size + 1 + 1, 3, none⟩) (fun _ => rfl) (.slice ba R.blk.length bc)
  apply plan_act rfl
  try simp only [Act.put, List.setIfInBounds_toArray, List.set_cons_succ, List.set_cons_zero]
  go_wp2_with fail
  refine act_on ((hk4.block _ (lt_of_heap sZ) (by omega)).trans sZ) ?_
  apply plan_act rfl
  try simp only [Act.put, List.setIfInBounds_toArray, List.set_cons_succ, List.set_cons_zero]
  go_wp2_with fail
  refine act_late rfl ?_
  refine plan_end (Good.normal ?_)
  go_wp2_with fail
  refine bodyPost_ret (v := .tuple #[.pointer (some ⟨o, 0, none⟩), RefV.val ⟨.slice aa R.all.length ac, .slice ha R.hist.length hc, .slice ea R.ev.length ec, .slice ba R.blk.length bc, ps, hs'⟩, .bool true]) (by simp [results, Try.results9, RefV.val, go_sem, v0, v1, v2, v3]) rfl ?_
  have hnf : ¬ fp D' o (w.heap.size + 1 + 1) := fun hf => (by
    have := c2'.notbox35 hf s4
    exact this)
  refine ⟨_, D', o, rfl, ⟨c2'.kp hk4 (fun k hf e => hnf (e ▸ hf)), f2'.same (fun k hr => hk4.block k (f2'.lt k hr) (fun e => f2'.notbox s4 (e ▸ hr))), hlk, hok.mono (Nat.le_succ _), fun k hr hw => by have := hwo' k hw; have := h.ref.lt k hr; omega⟩, ?_, fun k hk => .inr (hwo' k hk), News.refl _ _⟩
  exact ((hk7.below hb2 hk7.size).trans hk4 (fun k hk e => by omega))
end Go.Proofs.Ytnkcgalbaeppmaa
