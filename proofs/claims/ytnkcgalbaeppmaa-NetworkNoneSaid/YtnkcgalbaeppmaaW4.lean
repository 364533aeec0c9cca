/- The walk of slices.Delete at packets in flight. -/
import Derived.Test.YtnkcgalbaeppmaaW3
namespace Go.Proofs.Ytnkcgalbaeppmaa
open Go.RowKit

def DelPost (g n cap : Nat) (xs : List Value) (w : World) (e : Ending) (w' : World) : Prop :=
  e = .returned (.slice (some ⟨g, 0, none⟩) (n - 1) cap) ∧ w'.ownsRow 0 86 5 (.slice (some ⟨g, 0, none⟩) (n - 1) cap) (n - 1) xs ∧ Kp (fun k => k = g) w w'

/-- What append(s[:i], s[i+1:]...) makes of a row of n elements of five cells. -/
theorem run_delete (g n cap i : Nat) (ad : Addr) (c : Nat) (cur : Array Value) (w : World) (hg : w.heap[g]? = some (.cells cur 86 (0, 0))) (hi : i < n) (hnc : n ≤ cap) (hcs : cur.size = cap * 5)
    (h1 : ∀ u ∈ cur.toList.take (n * 5), u.oneCell' = true) (had : i + 1 < n → ad = ⟨g, (i + 1) * 5, none⟩) :
    (Builtin.append_ #[27, 27] 27 #[.slice (some ⟨g, 0, none⟩) i cap, .slice (some ad) (n - (i + 1)) c]).run Try.prog w =
      .ok (.slice (some ⟨g, 0, none⟩) (n - 1) cap) (w.setRow g (cur.toList.take (i * 5) ++ (cur.toList.take (n * 5)).drop ((i + 1) * 5) ++ cur.toList.drop ((n - 1) * 5)).toArray) := by
  obtain ⟨i0, hi0, hz0, hz1, hz2⟩ := info_parts Try.info86
  have hlen : ((cur.toList.take (n * 5)).drop ((i + 1) * 5)).length = (n - (i + 1)) * 5 := by simp; omega
  have hr := run_append_room (P := Try.prog) w 27 27 86 i0 Try.underlying27 hi0 g i cap cur hg ad (n - (i + 1)) c ((cur.toList.take (n * 5)).drop ((i + 1) * 5)) (by rw [hz1]; exact hlen) (fun j u hj => ?_)
    (fun u hu => h1 u (List.mem_of_mem_drop hu)) (by omega) (by rw [hz1, hlen]; omega)
  · rw [hr, hz1, hlen]
    rw [show i + (n - (i + 1)) = n - 1 by omega, show i * 5 + (n - (i + 1)) * 5 = (n - 1) * 5 by omega]
  · have hjl : j < (n - (i + 1)) * 5 := by rw [← hlen]; exact (List.getElem?_eq_some_iff.1 hj).1
    rw [had (by omega), Go.WideShapes.add_plain, cell_of_row w g _ cur 86 (0, 0) hg]
    rw [List.getElem?_drop, List.getElem?_take] at hj
    rw [if_pos (by omega)] at hj
    simpa using hj

def Z5 : List Value := [.string ByteArray.empty, .string ByteArray.empty, .slice none 0 0, .int .i64 0, .int .i64 0]
theorem run_clear1 (g o m c : Nat) (hm : m = 1) (cur : Array Value) (w : World) (hg : w.heap[g]? = some (.cells cur 86 (0, 0))) (ho : o + 5 ≤ cur.size) (ty : TypeId) :
    (Builtin.clear_ #[27] ty #[.slice (some ⟨g, o, none⟩) m c]).run Try.prog w = .ok (.tuple #[]) (w.setRow g (cur.toList.take o ++ Z5 ++ cur.toList.drop (o + 5)).toArray) := by
  subst hm
  obtain ⟨i0, hi0, hz0, hz1, hz2⟩ := info_parts Try.info86
  have hz : (zeroValue 86).run Try.prog w = .ok (.agg Z5.toArray) w := by simp [zeroValue, typeInfo, hi0, hz0, Z5]
  have hst := run_storeCells_at Try.prog g o 86 Z5 0 cur w hg (by simpa [Z5] using ho) (by simp [Value.oneCell', Z5])
  have hzc : (Builtin.zeroCells Z5.toArray 1).toList = Z5 := by
    simp [Builtin.zeroCells, Z5, Array.range, List.range_succ]
  have h5 : Z5.length = 5 := rfl
  simp only [Nat.add_zero, h5] at hst
  simp [Builtin.clear_, run_underlying Try.underlying27, hz, Value.cells, hzc, hst]

theorem row_after (fs : List FV) (cur : Array Value) (n cap i : Nat) (hi : i < n) (hnc : n ≤ cap) (hcs : cur.size = cap * 5) (htk : fs.flatMap FV.cells = cur.toList.take (n * 5)) (l : List Value)
    (hl : l = cur.toList.take (i * 5) ++ (cur.toList.take (n * 5)).drop ((i + 1) * 5) ++ cur.toList.drop ((n - 1) * 5)) :
    (l.toArray.toList.take ((n - 1) * 5) ++ Z5 ++ l.toArray.toList.drop ((n - 1) * 5 + 5)).toArray.size = cap * 5 ∧
    (l.toArray.toList.take ((n - 1) * 5) ++ Z5 ++ l.toArray.toList.drop ((n - 1) * 5 + 5)).toArray.toList.take ((n - 1) * 5) = (fs.eraseIdx i).flatMap FV.cells := by
  have h5 : Z5.length = 5 := rfl
  have hlc : cur.toList.length = cap * 5 := by simpa using hcs
  have hAB : (cur.toList.take (i * 5) ++ (cur.toList.take (n * 5)).drop ((i + 1) * 5)).length = (n - 1) * 5 := by simp; omega
  have hll : l.length = cap * 5 := by rw [hl]; simp; omega
  constructor
  · simp [h5]; omega
  · have e1 : l.take ((n - 1) * 5) = cur.toList.take (i * 5) ++ (cur.toList.take (n * 5)).drop ((i + 1) * 5) := by
      rw [hl, ← hAB, List.take_left]
    have hll' : (l.take ((n - 1) * 5)).length = (n - 1) * 5 := by rw [e1, hAB]
    simp only [List.append_assoc]
    rw [List.take_left' hll']
    rw [e1, flat_erase FV.cells 5 FV.cells_len, htk, List.take_take, Nat.min_eq_left (by omega)]

set_option maxHeartbeats 800000 in
theorem delete_any (g n cap i : Nat) (fs : List FV) (w : World) (hf : w.ownsRow 0 86 5 (.slice (some ⟨g, 0, none⟩) n cap) n (fs.flatMap FV.cells)) (hi : i < n) (hn : n ≤ 100000) :
    Calls Try.prog 66 #[.slice (some ⟨g, 0, none⟩) n cap, .int .i64 i, .int .i64 (i + 1)] w (DelPost g n cap ((fs.eraseIdx i).flatMap FV.cells) w) := by
  have hlf := own_len FV.cells_len (by decide) hf
  have HL := Lib.hid hlf
  clear hlf
  have i0 : (0 : Int) ≤ (i : Int) := by omega
  have i1 : (i : Int) < (n : Int) := by omega
  have i2 : (i : Int) + 1 ≤ (n : Int) := by omega
  obtain ⟨cur, hg, hnc, hcm, hcs, htk⟩ : ∃ cur, w.heap[g]? = some (.cells cur 86 (0, 0)) ∧ n ≤ cap ∧ cap ≤ maxLen ∧ cur.size = cap * 5 ∧ cur.toList.take (n * 5) = fs.flatMap FV.cells := by
    rcases hf.2 with ⟨h, _⟩ | ⟨g', cap', cur, h, _, h1, h2, h3, h4, h5⟩
    · cases h
    · cases h; exact ⟨cur, h1, h2, h3, h4, h5⟩
  have h1 : ∀ u ∈ cur.toList.take (n * 5), u.oneCell' = true := by
    rw [htk]; intro u hu
    obtain ⟨x, _, hx⟩ := List.mem_flatMap.1 hu
    simp [FV.cells, PV.cells] at hx
    rcases hx with rfl | rfl | rfl | rfl | rfl <;> rfl
  unfold maxLen at hcm
  have j0 : (n : Int) ≤ (cap : Int) := by omega
  have j1 : (cap : Int) ≤ 9223372036854775807 := by omega
  have j2 : i ≤ cap := by omega
  have j3 : i + 1 ≤ n := by omega
  have j4 : (1 : Int) ≤ (n : Int) := by omega
  have j5 : n - 1 ≤ n := by omega
  have j6 : n ≤ cap := by omega
  have e1 : ((i : Int) == (i : Int) + 1) = false := by simp; omega
  have HR : Hid (∀ ad c, (i + 1 < n → ad = ⟨g, (i + 1) * 5, none⟩) → (Builtin.append_ #[27, 27] 27 #[.slice (some ⟨g, 0, none⟩) i cap, .slice (some ad) (n - (i + 1)) c]).run Try.prog w.drew =
      .ok (.slice (some ⟨g, 0, none⟩) (n - 1) cap) (w.drew.setRow g (cur.toList.take (i * 5) ++ (cur.toList.take (n * 5)).drop ((i + 1) * 5) ++ cur.toList.drop ((n - 1) * 5)).toArray)) :=
    fun ad c had => run_delete g n cap i ad c cur w.drew hg hi hnc hcs h1 had
  have HF : Hid (fs.flatMap FV.cells = cur.toList.take (n * 5)) := htk.symm
  have HC : Hid (cur.size = cap * 5) := hcs
  have HG : Hid (w.heap[g]? = some (.cells cur 86 (0, 0))) := hg
  clear h1 htk hcs hg hf
  by_cases hce : cap = i + 1
  · obtain rfl : n = i + 1 := by omega
    subst hce
    have j7 : (i : Int) ≤ (i : Int) + 1 := by omega
    clear j0 j3 j6 hnc
    have HR2 := HR.out ⟨g, 0, none⟩ 0 (by omega)
    rw [show i + 1 - (i + 1) = 0 by omega, show i + 1 - 1 = i by omega] at HR2
    replace HR2 := Lib.hid HR2
    go_enter Try.func66, Try.ntmps66
    go_wp2_with fail
    apply wp_region_early [0, 1, 2, 3, 4, 5] [6] [7] (fun _ => True)
    case hm => kernel_rfl
    case hB => kernel_rfl
    case hao => exact .cons rfl .nil
    case hlo => exact .cons rfl .nil
    case hS => trivial
    case hr =>
      iterate 6
        apply Reads.cons1 rfl rfl
        · intro w' _
          go_simp
          try rfl
      exact Reads.nil
    intro W hW
    unfold wpTail
    subst hW
    simp only [Act.put, List.setIfInBounds_toArray, List.set_cons_succ, List.set_cons_zero]
    refine wpList_append_run rfl _ _ _ _ rfl (v1 := .slice (some ⟨g, 0, none⟩) i (i + 1)) (v2 := .slice (some ⟨g, 0, none⟩) 0 0) rfl rfl HR2.out ?_
    have HG2 := Lib.hid (setRow_heap w.drew g cur (cur.toList.take (i * 5) ++ (cur.toList.take ((i + 1) * 5)).drop ((i + 1) * 5) ++ cur.toList.drop (i * 5)).toArray 86 (0, 0) HG.out)
    revert HG2
    generalize hW : w.drew.setRow g (cur.toList.take (i * 5) ++ (cur.toList.take ((i + 1) * 5)).drop ((i + 1) * 5) ++ cur.toList.drop (i * 5)).toArray = W
    intro HG2
    have HK : Kp (fun k => k = g) w W := by subst hW; exact ⟨rfl, rfl, rfl, by simp, fun k _ hk => (setRow_other w.drew g k _ hk)⟩
    clear hW HR HR2
    refine wpList_nil ⟨trivial, ?_⟩
    unfold wpTail
    go_wp2
    refine NoPanic.normal ?_
    go_wp2_with (with_reducible apply stop_builtin .clear)
    have hlen : ((cur.toList.take (i * 5) ++ (cur.toList.take ((i + 1) * 5)).drop ((i + 1) * 5) ++ cur.toList.drop (i * 5)).toArray).size = (i + 1) * 5 := by
      have := HC.out; simp; omega
    refine wpList_clear_run rfl (.tmp 31) 27 rfl rfl (run_clear1 g (i * 5) _ _ (by omega) _ W HG2.out (by rw [hlen]; omega) _) ?_
    have hfin := row_after fs cur (i + 1) (i + 1) i hi (Nat.le_refl _) HC.out HF.out _ rfl
    rw [show i + 1 - 1 = i by omega] at hfin
    revert hfin
    generalize (List.take (i * 5) (cur.toList.take (i * 5) ++ (cur.toList.take ((i + 1) * 5)).drop ((i + 1) * 5) ++ cur.toList.drop (i * 5)).toArray.toList ++ Z5 ++ List.drop (i * 5 + 5) (cur.toList.take (i * 5) ++ (cur.toList.take ((i + 1) * 5)).drop ((i + 1) * 5) ++ cur.toList.drop (i * 5)).toArray.toList).toArray = X
    intro hfin
    have hW2 := setRow_heap W g _ X 86 (0, 0) HG2.out
    have HP : Hid (DelPost g (i + 1) (i + 1) ((fs.eraseIdx i).flatMap FV.cells) w (.returned (.slice (some ⟨g, 0, none⟩) i (i + 1))) (W.setRow g X)) :=
      ⟨rfl, ⟨by rw [flat_len FV.cells 5 FV.cells_len, List.length_eraseIdx_of_lt (by rw [HL.out]; exact hi), HL.out], .inr ⟨g, (i + 1), _, rfl, Nat.zero_le _, hW2, by omega, hcm, hfin.1, hfin.2⟩⟩,
        HK.trans (c := W.setRow g X) (S' := fun k => k = g) ⟨rfl, rfl, rfl, by simp, fun k _ hk => setRow_other W g k X hk⟩ (fun _ _ h => h)⟩
    revert HP
    generalize W.setRow g X = W2
    intro HP
    clear hfin hW2 HG2 HK hlen HF HC
    go_wp2
    go_ret
    exact HP.out
  · go_enter Try.func66, Try.ntmps66
    go_wp2_with fail
    apply wp_region_early [0, 1, 2, 3, 4, 5] [6] [7] (fun _ => True)
    case hm => kernel_rfl
    case hB => kernel_rfl
    case hao => exact .cons rfl .nil
    case hlo => exact .cons rfl .nil
    case hS => trivial
    case hr =>
      iterate 6
        apply Reads.cons1 rfl rfl
        · intro w' _
          go_simp
          try rfl
      exact Reads.nil
    intro W hW
    unfold wpTail
    subst hW
    simp only [Act.put, List.setIfInBounds_toArray, List.set_cons_succ, List.set_cons_zero]
    refine wpList_append_run rfl _ _ _ _ rfl (v1 := .slice (some ⟨g, 0, none⟩) i cap) (v2 := .slice (some ⟨g, (i + 1) * 5, none⟩) (n - (i + 1)) (cap - (i + 1))) rfl rfl (HR.out _ _ (fun _ => rfl)) ?_
    have HG2 := Lib.hid (setRow_heap w.drew g cur (cur.toList.take (i * 5) ++ (cur.toList.take (n * 5)).drop ((i + 1) * 5) ++ cur.toList.drop ((n - 1) * 5)).toArray 86 (0, 0) HG.out)
    revert HG2
    generalize hW : w.drew.setRow g (cur.toList.take (i * 5) ++ (cur.toList.take (n * 5)).drop ((i + 1) * 5) ++ cur.toList.drop ((n - 1) * 5)).toArray = W
    intro HG2
    have HK : Kp (fun k => k = g) w W := by subst hW; exact ⟨rfl, rfl, rfl, by simp, fun k _ hk => (setRow_other w.drew g k _ hk)⟩
    clear hW HR
    refine wpList_nil ⟨trivial, ?_⟩
    unfold wpTail
    go_wp2
    refine NoPanic.normal ?_
    go_wp2_with (with_reducible apply stop_builtin .clear)
    have hlen : ((cur.toList.take (i * 5) ++ (cur.toList.take (n * 5)).drop ((i + 1) * 5) ++ cur.toList.drop ((n - 1) * 5)).toArray).size = cap * 5 := by
      have := HC.out; simp; omega
    refine wpList_clear_run rfl (.tmp 31) 27 rfl rfl (run_clear1 g ((n - 1) * 5) _ _ (by omega) _ W HG2.out (by rw [hlen]; omega) _) ?_
    have hfin := row_after fs cur n cap i hi hnc HC.out HF.out _ rfl
    revert hfin
    generalize (List.take ((n - 1) * 5) (cur.toList.take (i * 5) ++ (cur.toList.take (n * 5)).drop ((i + 1) * 5) ++ cur.toList.drop ((n - 1) * 5)).toArray.toList ++ Z5 ++ List.drop ((n - 1) * 5 + 5) (cur.toList.take (i * 5) ++ (cur.toList.take (n * 5)).drop ((i + 1) * 5) ++ cur.toList.drop ((n - 1) * 5)).toArray.toList).toArray = X
    intro hfin
    have hW2 := setRow_heap W g _ X 86 (0, 0) HG2.out
    have HP : Hid (DelPost g n cap ((fs.eraseIdx i).flatMap FV.cells) w (.returned (.slice (some ⟨g, 0, none⟩) (n - 1) cap)) (W.setRow g X)) :=
      ⟨rfl, ⟨by rw [flat_len FV.cells 5 FV.cells_len, List.length_eraseIdx_of_lt (by rw [HL.out]; exact hi), HL.out], .inr ⟨g, cap, _, rfl, Nat.zero_le _, hW2, by omega, hcm, hfin.1, hfin.2⟩⟩,
        HK.trans (c := W.setRow g X) (S' := fun k => k = g) ⟨rfl, rfl, rfl, by simp, fun k _ hk => setRow_other W g k X hk⟩ (fun _ _ h => h)⟩
    revert HP
    generalize W.setRow g X = W2
    intro HP
    clear hfin hW2 HG2 HK hlen HF HC
    go_wp2
    go_ret
    exact HP.out
end Go.Proofs.Ytnkcgalbaeppmaa
