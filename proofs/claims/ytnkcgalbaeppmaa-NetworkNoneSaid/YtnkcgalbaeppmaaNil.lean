/- The methods at a nil network. -/
import Derived.Test.YtnkcgalbaeppmaaPub8
import Derived.ScopeJumps
import Derived.WalkMore
namespace Go.Proofs.Ytnkcgalbaeppmaa
open Go.RowKit
theorem source_nil (id : Int) (w : World) : Calls Try.prog 10 #[.pointer none, .int .i64 id] w (Two 0 1 w) := by
  go_enter Try.func10, Try.ntmps10
  go_wp2_with fail
  go_ret2
  exact ⟨rfl, Below.refl _ _⟩
theorem genuine_nil (id : Int) (w : World) : Calls Try.prog 11 #[.pointer none, .int .i64 id] w fun e w' => e = .returned (.tuple #[.bool false, .int .i64 1]) ∧ Below w.heap.size w w' := by
  go_enter Try.func11, Try.ntmps11
  go_wp2_with fail
  go_ret2
  exact ⟨rfl, Below.refl _ _⟩
theorem send_nil (p : PV) (w : World) : Calls Try.prog 19 #[.pointer none, p.val] w (Two 0 1 w) := by
  simp only [PV.val]
  go_enter Try.func19, Try.ntmps19
  go_wp2_with fail
  refine wp_scope_jumps 0 (fun a' w' => a'.defers = [] ∧ a'.tmps.size = 46 ∧ a'.tmps.getD 5 undef = .int .i64 1 ∧ Below w.heap.size w w') (fun _ _ => 0) rfl ?_ ?_
  · go_wp2_with fail
    refine wp_goto ?_
    exact ⟨rfl, rfl, rfl, rfl, (Below.refl _ w).alloc (Nat.le_refl _) _⟩
  · rintro ⟨t, d⟩ w1 ⟨rfl, hsz, h5, hb1⟩
    simp only at hsz h5
    go_wp2_with fail
    show bodyPost _ _ _ .ret _ _
    go_ret2
    exact ⟨by simp [hsz], hb1⟩
theorem inject_nil (p : PV) (w : World) : Calls Try.prog 20 #[.pointer none, p.val] w (Two 0 1 w) := by
  simp only [PV.val]
  go_enter Try.func20, Try.ntmps20
  go_wp2_with fail
  go_ret2
  exact ⟨rfl, (Below.refl _ w).alloc (Nat.le_refl _) _⟩
theorem replay_nil (id : Int) (w : World) : Calls Try.prog 21 #[.pointer none, .int .i64 id] w (Two 0 1 w) := by
  go_enter Try.func21, Try.ntmps21
  go_wp2_with fail
  go_ret2
  exact ⟨rfl, Below.refl _ _⟩
theorem dup_nil (id : Int) (w : World) : Calls Try.prog 22 #[.pointer none, .int .i64 id] w (Two 0 1 w) := by
  go_enter Try.func22, Try.ntmps22
  go_wp2_with fail
  go_ret2
  exact ⟨rfl, Below.refl _ _⟩
theorem deliver_nil (id : Int) (w : World) : Calls Try.prog 23 #[.pointer none, .int .i64 id] w fun e w' => e = .returned (.tuple #[PV.zero.val, .int .i64 1]) ∧ Below w.heap.size w w' := by
  go_enter Try.func23, Try.ntmps23
  go_wp2_with fail
  obtain ⟨p0, p1, p2, q0, q1, q2, _⟩ := blk3 (heap_alloc_new w (.cells #[.string { data := #[] }, .string { data := #[] }, .slice none 0 0] 40))
  refine bodyPost_ret (v := .tuple #[PV.zero.val, .int .i64 1]) (by simp [results, Try.results23, PV.val, PV.zero, go_sem, p0, p1, p2]; rfl) rfl ?_
  exact ⟨rfl, (Below.refl _ w).alloc (Nat.le_refl _) _⟩
theorem drop_nil (id : Int) (w : World) : Calls Try.prog 24 #[.pointer none, .int .i64 id] w fun e w' => e = .returned (.int .i64 1) ∧ Below w.heap.size w w' := by
  go_enter Try.func24, Try.ntmps24
  go_wp2_with fail
  go_ret
  exact ⟨rfl, Below.refl _ _⟩
theorem alter_nil (id off mask : Int) (w : World) : Calls Try.prog 25 #[.pointer none, .int .i64 id, .int .i64 off, .int .u8 mask] w fun e w' => e = .returned (.int .i64 1) ∧ Below w.heap.size w w' := by
  go_enter Try.func25, Try.ntmps25
  go_wp2_with fail
  go_ret
  exact ⟨rfl, Below.refl _ _⟩
theorem redirect_nil (id : Int) (t : ByteArray) (w : World) : Calls Try.prog 26 #[.pointer none, .int .i64 id, .string t] w fun e w' => e = .returned (.int .i64 1) ∧ Below w.heap.size w w' := by
  go_enter Try.func26, Try.ntmps26
  go_wp2_with fail
  go_ret
  exact ⟨rfl, Below.refl _ _⟩
theorem block_nil (s t : ByteArray) (w : World) : Calls Try.prog 27 #[.pointer none, .string s, .string t] w fun e w' => e = .returned (.int .i64 1) ∧ Below w.heap.size w w' := by
  go_enter Try.func27, Try.ntmps27
  go_wp2_with fail
  go_ret
  exact ⟨rfl, Below.refl _ _⟩
theorem unblock_nil (s t : ByteArray) (w : World) : Calls Try.prog 28 #[.pointer none, .string s, .string t] w fun e w' => e = .returned (.int .i64 1) ∧ Below w.heap.size w w' := by
  go_enter Try.func28, Try.ntmps28
  go_wp2_with fail
  go_ret
  exact ⟨rfl, Below.refl _ _⟩
end Go.Proofs.Ytnkcgalbaeppmaa
