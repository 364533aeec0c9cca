/- The network's methods that look: Source, Genuine. -/
import Derived.Test.YtnkcgalbaeppmaaRep2
namespace Go.Proofs.Ytnkcgalbaeppmaa
open Go.RowKit

/-- The place of a packet in flight. -/
def place (id : Int) : List FlM → Option Nat
  | [] => none
  | x :: r => if x.id = id then some 0 else (place id r).map (· + 1)
theorem place_some {id : Int} : ∀ {l : List FlM} {i : Nat}, place id l = some i → ∃ m, l[i]? = some m ∧ m.id = id
  | [], i, h => by simp [place] at h
  | x :: r, i, h => by
    unfold place at h
    split at h
    · rename_i hx; cases h; exact ⟨x, rfl, hx⟩
    · cases hp : place id r with
      | none => rw [hp] at h; cases h
      | some j =>
        rw [hp] at h; cases h
        obtain ⟨m, hm, hi⟩ := place_some hp
        exact ⟨m, by simpa using hm, hi⟩
theorem idx_place {w : World} (id : Int) : ∀ (fs : List FV) (fl : List FlM) (k : Nat), Both (FOwn w) fs fl → idx id fs k = match place id fl with | none => -1 | some i => ((k + i : Nat) : Int)
  | [], [], k, _ => rfl
  | x :: fs, m :: fl, k, h => by
    have hx := h.2 0 x m rfl rfl
    have ht : Both (FOwn w) fs fl := ⟨by have := h.1; simpa using this, fun i a b ha hb => h.2 (i + 1) a b (by simpa using ha) (by simpa using hb)⟩
    have ih := idx_place id fs fl (k + 1) ht
    unfold idx place
    by_cases he : m.id = id
    · rw [if_pos (hx.id.trans he), if_pos he]; rfl
    · rw [if_neg (fun h => he (hx.id ▸ h)), if_neg he, ih]
      cases place id fl with
      | none => rfl
      | some i => show ((k + 1 + i : Nat) : Int) = ((k + (i + 1) : Nat) : Int); congr 1; omega
  | [], _ :: _, _, h => by have := h.1; simp at this
  | _ :: _, [], _, h => by have := h.1; simp at this

theorem find_none (b : Nat) (N : NetM) (D : ND) (id : Int) (w : World) (h : RepOk w b N D) (hl : N.lim) (hp : place id N.fl = none) :
    Calls Try.prog 37 #[.pointer (some ⟨b, 0, none⟩), .int .i64 id] w fun e w' => e = .returned (.int .i64 (-1)) ∧ Below w.heap.size w w' := by
  refine (find_any b D.hv D.fv D.mv D.ev N.next id _ D.fs w h.blk h.fl (by have := hl.fl; omega)).mono ?_
  rintro e w' ⟨rfl, hb⟩
  exact ⟨ret_int (by rw [idx_place id D.fs N.fl 0 h.flp, hp]), hb⟩
theorem find_some (b : Nat) (N : NetM) (D : ND) (id : Int) (i : Nat) (w : World) (h : RepOk w b N D) (hl : N.lim) (hp : place id N.fl = some i) :
    Calls Try.prog 37 #[.pointer (some ⟨b, 0, none⟩), .int .i64 id] w fun e w' => e = .returned (.int .i64 i) ∧ Below w.heap.size w w' := by
  refine (find_any b D.hv D.fv D.mv D.ev N.next id _ D.fs w h.blk h.fl (by have := hl.fl; omega)).mono ?_
  rintro e w' ⟨rfl, hb⟩
  exact ⟨ret_int (by rw [idx_place id D.fs N.fl 0 h.flp, hp]; simp), hb⟩

/-- What Source answers. -/
def NetM.source (N : NetM) (id : Int) : Int × Int :=
  match place id N.fl with
  | none => (0, 9)
  | some i => (((N.fl[i]?).map (·.src)).getD 0, 0)
def Two (x y : Int) (w : World) (e : Ending) (w' : World) : Prop := e = .returned (.tuple #[.int .i64 x, .int .i64 y]) ∧ Below w.heap.size w w'

theorem source_any (b : Nat) (N : NetM) (D : ND) (id : Int) (w : World) (h : RepOk w b N D) (hl : N.lim) :
    Calls Try.prog 10 #[.pointer (some ⟨b, 0, none⟩), .int .i64 id] w (Two (N.source id).1 (N.source id).2 w) := by
  cases hp : place id N.fl with
  | none =>
    have HF : Hid ((N.source id).1 = 0 ∧ (N.source id).2 = 9) := by simp [Hid, NetM.source, hp]
    have HP := Lib.hid hp
    clear hp
    go_enter Try.func10, Try.ntmps10
    go_wp2_with fail
    refine (find_none b N D id _ h hl HP.out).mono ?_
    rintro e w1 ⟨rfl, hb⟩
    go_wp2_with fail
    go_ret2
    exact ⟨by rw [HF.out.1, HF.out.2]; rfl, hb⟩
  | some i =>
    obtain ⟨m, hm, hid⟩ := place_some hp
    obtain ⟨x, hx, hxm⟩ := h.flp.at hm
    have hi : i < N.fl.length := (List.getElem?_eq_some_iff.1 hm).1
    have HF : Hid ((N.source id).1 = x.src ∧ (N.source id).2 = 0) := by simp [Hid, NetM.source, hp, hm, hxm.src]
    have HP := Lib.hid hp
    obtain ⟨g, cap, hfv, _, hg⟩ := h.fl.form (by omega)
    clear hp
    go_enter Try.func10, Try.ntmps10
    go_wp2_with fail
    refine (find_some b N D id i _ h hl HP.out).mono ?_
    rintro e w1 ⟨rfl, hb⟩
    have h1 := h.below hb (Nat.le_refl _)
    have hbk := h1.blk
    have hfl := h1.fl
    rw [hfv] at hbk hfl
    obtain ⟨d0, d1, d2, d3, d4⟩ := fly_cells hfl hx
    have c1 := hbk.c1
    have i0 : (0 : Int) ≤ (i : Int) := by omega
    have i1 : (i : Int) < (N.fl.length : Int) := by omega
    have i2 : (N.fl.length : Int) ≤ 64 := by have := hl.fl; omega
    clear hm hid hx hxm hfv h h1 hbk hfl
    go_wp2_with fail
    go_ret2
    exact ⟨by rw [HF.out.1, HF.out.2]; rfl, hb⟩
end Go.Proofs.Ytnkcgalbaeppmaa
