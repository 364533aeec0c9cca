/- The reference's Block. -/
import Derived.Test.YtnkcgalbaeppmaaRf17
namespace Go.Proofs.Ytnkcgalbaeppmaa
open Go.RowKit
theorem T33 : SlT Try.prog 33 95 (.agg #[.string ByteArray.empty, .string ByteArray.empty]) 2 32 := ⟨by kernel_rfl, Try.info95, rfl, by decide, by decide⟩
/-- The pairs other than one. -/
def others (p : Pr) (l : List Pr) : List Pr := l.filter (fun x => !prB x p)
theorem others_take (p : Pr) (l : List Pr) (k : Nat) (x : Pr) (hx : l[k]? = some x) : others p (l.take (k + 1)) = others p (l.take k) ++ (if prB x p then [] else [x]) := by
  unfold others
  rw [List.take_add_one, hx, List.filter_append]
  cases h : prB x p <;> simp [h]
theorem others_len (p : Pr) (l : List Pr) : (others p l).length ≤ l.length := List.length_filter_le _ _
/-- A list of pairs in new memory. -/
structure PairsAt (w : World) (B : Nat) (v : Value) (l : List Pr) : Prop where
  own : w.ownsRow 0 95 2 v l.length (l.flatMap Pr.cells)
  new : ∀ k, v.ownBlock = some k → B ≤ k
theorem PairsAt.nil (w : World) (B : Nat) : PairsAt w B (.slice none 0 0) [] := ⟨⟨rfl, .inl ⟨rfl, rfl⟩⟩, fun k hk => by simp [Value.ownBlock] at hk⟩
theorem PairsAt.below {w w' : World} {B : Nat} {v : Value} {l : List Pr} (h : PairsAt w B v l) {B' : Nat} (hb : Below B' w w') (hB : w.heap.size ≤ B') : PairsAt w' B v l := ⟨ownsRow_below h.own hb hB, h.new⟩
theorem pr_flat (l : List Pr) (p : Pr) : (l ++ [p]).flatMap Pr.cells = l.flatMap Pr.cells ++ [.string p.1, .string p.2] := by simp [Pr.cells]
theorem PairsAt.five {w : World} {B : Nat} {v : Value} {l : List Pr} (h : PairsAt w (B + 2) v l) (a b c d e : Value) (i j : Nat) : PairsAt (((((w.setCell ⟨B, i, none⟩ a).setCell ⟨B + 1, j, none⟩ b).setCell ⟨B + 1, 1, none⟩ c).setCell ⟨B + 1, 2, none⟩ d).setCell ⟨B + 1, 3, none⟩ e) (B + 2) v l := by
  have h1 : ∀ j, j < B + 2 → v.ownBlock ≠ some j := fun j hj e => by have := h.new j e; omega
  exact ⟨own_setCell (own_setCell (own_setCell (own_setCell (own_setCell h.own (h1 _ (by simp only; omega)) _) (h1 _ (by simp only; omega)) _) (h1 _ (by simp only; omega)) _) (h1 _ (by simp only; omega)) _) (h1 _ (by simp only; omega)) _, h.new⟩
theorem News.withBlk {V : RefV} {v : Value} {B : Nat} (h : ∀ k, v.ownBlock = some k → B ≤ k) : News V { V with bl := v } B := fun k hk => by
  rcases hk with hk | hk | hk | hk | hk | hk
  · exact .inl (.inl hk)
  · exact .inl (.inr (.inl hk))
  · exact .inl (.inr (.inr (.inl hk)))
  · exact .inr (h k hk)
  · exact .inl (.inr (.inr (.inr (.inr (.inl hk)))))
  · exact .inl (.inr (.inr (.inr (.inr (.inr hk)))))
theorem RefAt.withBlk {w w' : World} {V : RefV} {R : RefM} (h : RefAt w V R) {B : Nat} (hb : Below w.heap.size w w') {v : Value} {l : List Pr} (hp : PairsAt w' B v l) : RefAt w' { V with bl := v } { R with blk := l } := by
  have h' := h.below hb (Nat.le_refl _)
  exact ⟨h'.all, h'.allp, h'.hist, h'.histp, h'.ev, hp.own⟩
set_option maxHeartbeats 1600000 in
set_option maxRecDepth 100000 in
theorem blockR_any (V : RefV) (R : RefM) (a b : ByteArray) (off : Bool) (w : World) (h : RefAt w V R) (hl : R.lim) (hn : R.blk.length < 50000) (ha' : a.size ≤ 100) (hb' : b.size ≤ 100) :
    Calls Try.prog 36 #[V.val, .string a, .string b, .bool off] w (Ref2 V (R.block (a, b) off) w) := by
  obtain ⟨aa, ac, ha, hc, ea, ec, ba, bc, h1, h2, h3, h4⟩ := h.forms
  obtain ⟨al, hi, ev, bl, ps, hs'⟩ := V
  simp only at h1 h2 h3 h4
  subst h1 h2 h3 h4
  simp only [RefV.val]
  have e1 := top1 w (.cells #[.slice aa R.all.length ac, .slice ha R.hist.length hc, .slice ea R.ev.length ec, .slice ba R.blk.length bc] 35) (.cells #[.slice none 0 0, .slice none 0 0, .slice none 0 0, .slice none 0 0] 35)
  have e2 := top0 w (.cells #[.slice aa R.all.length ac, .slice ha R.hist.length hc, .slice ea R.ev.length ec, .slice ba R.blk.length bc] 35) (.cells #[.slice none 0 0, .slice none 0 0, .slice none 0 0, .slice none 0 0] 35)
  have hb1 : Below w.heap.size w ((w.alloc (.cells #[.slice aa R.all.length ac, .slice ha R.hist.length hc, .slice ea R.ev.length ec, .slice ba R.blk.length bc] 35)).alloc (.cells #[.slice none 0 0, .slice none 0 0, .slice none 0 0, .slice none 0 0] 35)) := ((Below.refl _ _).alloc (Nat.le_refl _) _).alloc (by simp) _
  go_enter Try.func36, Try.ntmps36
  go_wp2_with fail
  generalize (w.alloc (.cells #[.slice aa R.all.length ac, .slice ha R.hist.length hc, .slice ea R.ev.length ec, .slice ba R.blk.length bc] 35)).alloc (.cells #[.slice none 0 0, .slice none 0 0, .slice none 0 0, .slice none 0 0] 35) = w1 at e1 e2 hb1 ⊢
  obtain ⟨c0, c1, c2, c3, cf, cl⟩ := blk4 e1
  obtain ⟨u0, u1, u2, u3, uf, ul⟩ := blk4 e2
  refine (hostR_any a w1 ha').mono ?_
  rintro e w2 ⟨rfl, rfl⟩
  cases hh : hostB a
  · have HF : Hid (R.block (a, b) off = (R, 2)) := by simp [Hid, RefM.block, hh]
    clear hh
    go_wp2_with fail
    refine bodyPost_ret (v := .tuple #[RefV.val ⟨.slice aa R.all.length ac, .slice ha R.hist.length hc, .slice ea R.ev.length ec, .slice ba R.blk.length bc, ps, hs'⟩, .int .i64 2]) (by simp [results, Try.results36, RefV.val, go_sem, u0, u1, u2, u3]) rfl ?_
    exact ⟨_, by rw [HF.out], by rw [HF.out]; exact h.below (below_four hb1 (by omega) _ _ _ _) (Nat.le_refl _), below_four hb1 (by omega) _ _ _ _, News.refl _ _⟩
  have HH := Lib.hid hh
  clear hh
  go_wp2_with fail
  refine (hostR_any b w1 hb').mono ?_
  rintro e w2 ⟨rfl, rfl⟩
  cases hh : hostB b
  · have HF : Hid (R.block (a, b) off = (R, 2)) := by simp [Hid, RefM.block, hh]
    clear hh
    go_wp2_with fail
    refine bodyPost_ret (v := .tuple #[RefV.val ⟨.slice aa R.all.length ac, .slice ha R.hist.length hc, .slice ea R.ev.length ec, .slice ba R.blk.length bc, ps, hs'⟩, .int .i64 2]) (by simp [results, Try.results36, RefV.val, go_sem, u0, u1, u2, u3]) rfl ?_
    exact ⟨_, by rw [HF.out], by rw [HF.out]; exact h.below (below_four hb1 (by omega) _ _ _ _) (Nat.le_refl _), below_four hb1 (by omega) _ _ _ _, News.refl _ _⟩
  have HF : Hid (R.block (a, b) off = ({ R with blk := others (a, b) R.blk ++ (if off then [] else [(a, b)]) }, 0)) := by simp [Hid, RefM.block, others, hh, HH.out]
  clear hh HH
  go_wp2_with fail
  clear u0 u1 u2 u3 uf ul c0 c1 c2 c3 cf cl
  have hlen := hl.blk
  go_loopw [10, 11] (fun l i wr => ∃ k : Nat, k ≤ R.blk.length ∧ i = .int .i64 k ∧ PairsAt wr (w.heap.size + 2) l (others (a, b) (R.blk.take k)) ∧ Below w.heap.size w wr ∧ wr.heap[w.heap.size]? = some (.cells #[.slice aa R.all.length ac, .slice ha R.hist.length hc, .slice ea R.ev.length ec, .slice ba R.blk.length bc] 35) ∧
      wr.heap[w.heap.size + 1]? = some (.cells #[.slice none 0 0, .slice none 0 0, .slice none 0 0, .slice none 0 0] 35)) (fun _ i _ => R.blk.length - (intOf i).toNat)
  case atStart => exact ⟨0, Nat.zero_le _, rfl, PairsAt.nil _ _, hb1, e1, e2⟩
  case round =>
    obtain ⟨k, hk, rfl, hpa, hb, g1, g2⟩ := hrel
    clear hb1 e1 e2
    obtain ⟨c0, c1, c2, c3, cf, cl⟩ := blk4 g1
    by_cases hlt : k < R.blk.length
    · obtain ⟨x, hx⟩ : ∃ x, R.blk[k]? = some x := ⟨_, List.getElem?_eq_getElem hlt⟩
      have hown := (h.below hb (Nat.le_refl _)).blk
      simp only at hown
      obtain ⟨g, cap, hg, _, lg⟩ := hown.form (by omega)
      injection hg with hg1 _ hg2
      subst hg1 hg2
      obtain ⟨d0, d1⟩ := bl_cells hown hx
      have i0 : (0 : Int) ≤ (k : Int) := by omega
      have i1 : (k : Int) < (R.blk.length : Int) := by omega
      have i2 : (R.blk.length : Int) ≤ 50000 := by omega
      have HT := Lib.hid (others_take (a, b) R.blk k x hx)
      have hq : (Op.equalIn 10000 95 (.agg #[.string x.1, .string x.2]) (.agg #[.string a, .string b])).run Try.prog wr = .ok (prB x (a, b)) wr := run_eqIn_pair 9998 x (a, b) wr
      have hol := others_len (a, b) (R.blk.take k)
      have hol2 : (R.blk.take k).length ≤ k := List.length_take_le _ _
      have hm1 : (others (a, b) (R.blk.take k)).length ≤ 50000 := by omega
      clear hown hx hol hol2
      cases hbb : prB x (a, b)
      · rw [hbb] at hq
        have HT2 : Hid (others (a, b) (R.blk.take (k + 1)) = others (a, b) (R.blk.take k) ++ [x]) := by show _ = _; rw [HT.out, hbb]; rfl
        clear HT hbb
        have hgb := lt_of_heap g2
        go_wp2_with (at_builtin; apply unwrap)
        refine wpList_push rfl _ _ 33 rfl T33 rfl hpa.own #[.string x.1, .string x.2] rfl (by simp [Value.oneCell']) rfl (by omega) ?_
        intro g7 cap7 w7 hown hk7 hat hlt7
        have hnew := hpa.new
        have r1 := (hk7.block _ (lt_of_heap g1) (fun e => by have := hnew _ e; omega)).trans g1
        have r2 := (hk7.block _ (lt_of_heap g2) (fun e => by have := hnew _ e; omega)).trans g2
        have hb7 : Below w.heap.size w w7 := Below.kp hb hk7 (Nat.le_refl _) (fun j e => by have := hnew j e; omega)
        have hpa7 : PairsAt w7 (w.heap.size + 2) (.slice (some ⟨g7, 0, none⟩) ((others (a, b) (R.blk.take k)).length + 1) cap7) (others (a, b) (R.blk.take k) ++ [x]) := by
          refine ⟨?_, fun j hj => ?_⟩
          · rw [pr_flat, List.length_append]; exact hown
          · have e' : g7 = j := by simpa [Value.ownBlock] using hj
            subst e'
            rcases hat with e | e
            · exact hnew _ e
            · omega
        clear hown hk7 hat hb g1 g2 hpa hnew d0 d1 hq c0 c1 c2 c3 cf cl
        go_wp2_with fail
        go_roundw
        case rel => exact ⟨k + 1, by omega, by go_num, by rw [HT2.out]; exact hpa7, hb7, r1, r2⟩
        case measure => simp [intOf]; omega
      · rw [hbb] at hq
        have HT2 : Hid (others (a, b) (R.blk.take (k + 1)) = others (a, b) (R.blk.take k)) := by show _ = _; rw [HT.out, hbb]; simp
        clear HT hbb
        go_wp2_with fail
        go_roundw
        case rel => exact ⟨k + 1, by omega, by go_num, by rw [HT2.out]; exact hpa, hb, g1, g2⟩
        case measure => simp [intOf]; omega
    · obtain rfl : k = R.blk.length := by omega
      rw [List.take_of_length_le (Nat.le_refl _)] at hpa
      have hol := others_len (a, b) R.blk
      obtain ⟨u0, u1, u2, u3, uf, ul⟩ := blk4 g2
      have hgb := lt_of_heap g2
      cases off
      · have HF2 : Hid (R.block (a, b) false = ({ R with blk := others (a, b) R.blk ++ [(a, b)] }, 0)) := by show _ = _; rw [HF.out]; rfl
        clear HF
        go_wp2_with (at_builtin; apply unwrap)
        refine wpList_push rfl _ _ 33 rfl T33 rfl hpa.own #[.string a, .string b] rfl (by simp [Value.oneCell']) rfl (by omega) ?_
        intro g7 cap7 w7 hown hk7 hat hlt7
        have hnew := hpa.new
        have r1 := (hk7.block _ (lt_of_heap g1) (fun e => by have := hnew _ e; omega)).trans g1
        have r2 := (hk7.block _ (lt_of_heap g2) (fun e => by have := hnew _ e; omega)).trans g2
        have hb7 : Below w.heap.size w w7 := Below.kp hb hk7 (Nat.le_refl _) (fun j e => by have := hnew j e; omega)
        have hpa7 : PairsAt w7 (w.heap.size + 2) (.slice (some ⟨g7, 0, none⟩) ((others (a, b) R.blk).length + 1) cap7) (others (a, b) R.blk ++ [(a, b)]) := by
          refine ⟨?_, fun j hj => ?_⟩
          · rw [pr_flat, List.length_append]; exact hown
          · have e' : g7 = j := by simpa [Value.ownBlock] using hj
            subst e'
            rcases hat with e | e
            · exact hnew _ e
            · omega
        clear hown hk7 hat hb g1 g2 hpa hnew c0 c1 c2 c3 cf cl u0 u1 u2 u3 uf ul
        obtain ⟨c0, c1, c2, c3, cf, cl⟩ := blk4 r1
        obtain ⟨u0, u1, u2, u3, uf, ul⟩ := blk4 r2
        go_wp2_with fail
        refine bodyPost_ret (v := .tuple #[RefV.val ⟨.slice aa R.all.length ac, .slice ha R.hist.length hc, .slice ea R.ev.length ec, .slice (some ⟨g7, 0, none⟩) ((others (a, b) R.blk).length + 1) cap7, ps, hs'⟩, .int .i64 0]) (by simp [results, Try.results36, RefV.val, go_sem, u0, u1, u2, u3]) rfl ?_
        have hbZ := below_four (hb7.setCell (p := ⟨w.heap.size, 3, none⟩) (Nat.le_refl _) (.slice (some ⟨g7, 0, none⟩) ((others (a, b) R.blk).length + 1) cap7)) (B := w.heap.size + 1) (by omega) (.slice aa R.all.length ac) (.slice ha R.hist.length hc) (.slice ea R.ev.length ec) (.slice (some ⟨g7, 0, none⟩) ((others (a, b) R.blk).length + 1) cap7)
        refine ⟨_, by rw [HF2.out], ?_, hbZ, News.withBlk (fun k hk => by have := hpa7.new k hk; omega)⟩
        rw [HF2.out]
        exact h.withBlk hbZ (hpa7.five _ _ _ _ _ _ _)
      · have HF2 : Hid (R.block (a, b) true = ({ R with blk := others (a, b) R.blk }, 0)) := by show _ = _; rw [HF.out]; simp
        obtain ⟨la, lc, rfl, _⟩ := ownsRow_slice hpa.own
        clear HF
        go_wp2_with fail
        refine bodyPost_ret (v := .tuple #[RefV.val ⟨.slice aa R.all.length ac, .slice ha R.hist.length hc, .slice ea R.ev.length ec, .slice la (others (a, b) R.blk).length lc, ps, hs'⟩, .int .i64 0]) (by simp [results, Try.results36, RefV.val, go_sem, u0, u1, u2, u3]) rfl ?_
        have hbZ := below_four (hb.setCell (p := ⟨w.heap.size, 3, none⟩) (Nat.le_refl _) (.slice la (others (a, b) R.blk).length lc)) (B := w.heap.size + 1) (by omega) (.slice aa R.all.length ac) (.slice ha R.hist.length hc) (.slice ea R.ev.length ec) (.slice la (others (a, b) R.blk).length lc)
        refine ⟨_, by rw [HF2.out], ?_, hbZ, News.withBlk (fun k hk => by have := hpa.new k hk; omega)⟩
        rw [HF2.out]
        exact h.withBlk hbZ (hpa.five _ _ _ _ _ _ _)
end Go.Proofs.Ytnkcgalbaeppmaa
