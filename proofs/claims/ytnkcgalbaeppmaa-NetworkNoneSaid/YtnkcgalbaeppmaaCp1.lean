/- maps.Clone. -/
import Derived.Test.YtnkcgalbaeppmaaEv2
import Derived.Shelf.SlMaps.Clone
namespace Go.Proofs.Ytnkcgalbaeppmaa
open Go.RowKit
def MClonePost (M : List Pr) (w : World) (e : Ending) (w' : World) : Prop :=
  ∃ r, e = .returned (.map r) ∧ MapAt w' (.map r) M ∧ (∀ k, r = some k → w.heap.size ≤ k) ∧ Below w.heap.size w w'
set_option maxHeartbeats 400000 in
set_option maxRecDepth 100000 in
theorem mclone_any (mv : Value) (M : List Pr) (w : World) (h : MapAt w mv M) : Calls Try.prog 51 #[mv] w (MClonePost M w) := by
  have hq := fun w p => run_eql_map_nil_sl (P := Try.prog) w 28 _ _ p u28
  rcases h with ⟨rfl, rfl⟩ | ⟨r, es, clock, rfl, hr, hk, hv⟩
  · go_enter Try.func51, Try.ntmps51
    go_wp2_with fail
    go_ret
    exact ⟨none, rfl, .inl ⟨rfl, rfl⟩, (fun k hk => by cases hk), Below.refl _ _⟩
  · have hk' := Lib.hid hk
    have hv' := Lib.hid hv
    clear hk hv
    go_enter Try.func51, Try.ntmps51
    go_wp2_with fail
    rw [run_callFunc_extern Try.func67 (by kernel_rfl) (by kernel_rfl) (by kernel_rfl) (e := Extern.MapsClone.clone) (by kernel_rfl), run_maps_clone_sl w 28 hr]
    simp only [Result.andThen]
    rw [Oper.upon_value]
    go_wp2_with fail
    rw [run_typeAssert_map_sl _ 28 20 _ _ _ u28]
    simp only [Result.andThen]
    rw [Oper.upon_value]
    go_wp2_with fail
    go_ret
    exact ⟨_, rfl, .inr ⟨w.heap.size, es, clock, rfl, heap_alloc_new _ _, hk'.out, hv'.out⟩, (fun k hk => by cases hk; exact Nat.le_refl _), (Below.refl _ w).alloc (Nat.le_refl _) _⟩
end Go.Proofs.Ytnkcgalbaeppmaa
