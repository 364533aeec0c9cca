/- Texts joined into one: Lk Lk2 Rf2 Rf3 Nil Nn1. -/
import Derived.Test.YtnkcgalbaeppmaaM7
import Derived.Laws.AppendOwnNone
import Derived.ScopeJumps
import Derived.WalkMore
/- The reference as plain data, and its link with a network. -/
namespace Go.Proofs.Ytnkcgalbaeppmaa
open Go.RowKit
/-- A packet that was put in flight. -/
structure RF where
  pk : Pk
  src : Int
  gone : Bool
/-- The reference's network. -/
structure RefM where
  all : List RF
  hist : List Pk
  ev : List EvM
  blk : List Pr
/-- The live ones. -/
def live : List RF → Nat → List FlM
  | [], _ => []
  | x :: r, k => if x.gone then live r (k + 1) else ⟨x.pk, k, x.src⟩ :: live r (k + 1)
theorem live_append : ∀ (l m : List RF) (k : Nat), live (l ++ m) k = live l k ++ live m (k + l.length)
  | [], m, k => by simp [live]
  | x :: l, m, k => by
    have ih := live_append l m (k + 1)
    have e : k + 1 + l.length = k + (l.length + 1) := by omega
    rw [e] at ih
    simp only [List.cons_append, live, List.length_cons, ih]
    split <;> simp
theorem live_id : ∀ (l : List RF) (k : Nat), ∀ m ∈ live l k, (k : Int) ≤ m.id ∧ m.id < ((k + l.length : Nat) : Int)
  | [], _, m, h => by simp [live] at h
  | x :: l, k, m, h => by
    simp only [live] at h
    have ih := live_id l (k + 1)
    split at h
    · have := ih m h; simp only [List.length_cons]; omega
    · rcases List.mem_cons.1 h with rfl | h
      · simp only [List.length_cons]; omega
      · have := ih m h; simp only [List.length_cons]; omega
theorem live_count : ∀ (l : List RF) (k : Nat), (live l k).length = (l.filter (fun x => !x.gone)).length
  | [], _ => rfl
  | x :: l, k => by
    simp only [live, List.filter_cons]
    cases x.gone <;> simp [live_count l (k + 1)]
/-- A list about one of its places. -/
theorem split_at {α : Type} {l : List α} {i : Nat} {x : α} (h : l[i]? = some x) : l = l.take i ++ x :: l.drop (i + 1) ∧ (l.take i).length = i := by
  obtain ⟨hi, rfl⟩ := List.getElem?_eq_some_iff.1 h
  exact ⟨by rw [List.getElem_cons_drop, List.take_append_drop], by simp; omega⟩
theorem place_mid (id : Int) : ∀ (a : List FlM) (m : FlM) (b : List FlM), (∀ x ∈ a, x.id ≠ id) → m.id = id → place id (a ++ m :: b) = some a.length
  | [], m, b, _, hm => by simp [place, hm]
  | y :: a, m, b, h, hm => by
    simp only [List.cons_append, place, if_neg (h y (by simp)), place_mid id a m b (fun x hx => h x (by simp [hx])) hm]
    simp
theorem place_miss (id : Int) : ∀ (l : List FlM), (∀ x ∈ l, x.id ≠ id) → place id l = none
  | [], _ => rfl
  | y :: l, h => by simp only [place, if_neg (h y (by simp)), place_miss id l (fun x hx => h x (by simp [hx]))]; rfl
/-- Whether one flies. -/
def RefM.flies (R : RefM) (id : Int) : Bool := decide (0 ≤ id) && (match R.all[id.toNat]? with | some x => !x.gone | none => false)
/-- One that flies: the lists about it. -/
structure Mid (R : RefM) (n : Nat) (x : RF) : Prop where
  at_ : R.all[n]? = some x
  live_ : live R.all 0 = live (R.all.take n) 0 ++ ⟨x.pk, n, x.src⟩ :: live (R.all.drop (n + 1)) (n + 1)
  place_ : place n (live R.all 0) = some (live (R.all.take n) 0).length
theorem mid_of {R : RefM} {n : Nat} {x : RF} (h : R.all[n]? = some x) (hg : x.gone = false) : Mid R n x := by
  obtain ⟨e, hn⟩ := split_at h
  have hl : live R.all 0 = live (R.all.take n) 0 ++ ⟨x.pk, n, x.src⟩ :: live (R.all.drop (n + 1)) (n + 1) := by
    conv => lhs; rw [e]
    rw [live_append, hn]
    simp [live, hg]
  refine ⟨h, hl, ?_⟩
  rw [hl]
  refine place_mid _ _ _ _ (fun y hy => ?_) rfl
  have := live_id _ _ y hy
  rw [hn] at this
  omega
theorem flies_true {R : RefM} {id : Int} (h : R.flies id = true) : ∃ (n : Nat) (x : RF), id = (n : Int) ∧ x.gone = false ∧ Mid R n x := by
  simp only [RefM.flies, Bool.and_eq_true, decide_eq_true_eq] at h
  obtain ⟨n, rfl⟩ := Int.eq_ofNat_of_zero_le h.1
  have h2 := h.2
  simp only [Int.toNat_natCast] at h2
  cases hx : R.all[n]? with
  | none => rw [hx] at h2; cases h2
  | some x =>
    rw [hx] at h2
    have hg : x.gone = false := by simpa using h2
    exact ⟨n, x, rfl, hg, mid_of hx hg⟩
theorem flies_false {R : RefM} {id : Int} (h : R.flies id = false) : place id (live R.all 0) = none := by
  by_cases h0 : 0 ≤ id
  · obtain ⟨n, rfl⟩ := Int.eq_ofNat_of_zero_le h0
    simp only [RefM.flies, decide_eq_true h0, Bool.true_and, Int.toNat_natCast] at h
    cases hx : R.all[n]? with
    | none =>
      refine place_miss _ _ (fun y hy => ?_)
      have h1 := live_id _ _ y hy
      have h2 : R.all.length ≤ n := by simpa using hx
      omega
    | some x =>
      rw [hx] at h
      have hg : x.gone = true := by simpa using h
      obtain ⟨e, hn⟩ := split_at hx
      have hl : live R.all 0 = live (R.all.take n) 0 ++ live (R.all.drop (n + 1)) (n + 1) := by
        conv => lhs; rw [e]
        rw [live_append, hn]
        simp [live, hg]
      rw [hl]
      refine place_miss _ _ (fun y hy => ?_)
      rcases List.mem_append.1 hy with hy | hy
      · have h1 := live_id _ _ y hy; rw [hn] at h1; omega
      · have h1 := live_id _ _ y hy; omega
  · refine place_miss _ _ (fun y hy => ?_)
    have h1 := live_id _ _ y hy
    omega
theorem Mid.getElem {R : RefM} {n : Nat} {x : RF} (h : Mid R n x) : (live R.all 0)[(live (R.all.take n) 0).length]? = some ⟨x.pk, n, x.src⟩ := by
  rw [h.live_]; simp
theorem set_split {α : Type} {l : List α} {i : Nat} {x y : α} (h : l[i]? = some x) : l.set i y = l.take i ++ y :: l.drop (i + 1) := by
  have hi := (List.getElem?_eq_some_iff.1 h).1
  rw [List.set_eq_take_append_cons_drop, if_pos hi]
theorem Mid.erase {R : RefM} {n : Nat} {x : RF} (h : Mid R n x) : (live R.all 0).eraseIdx (live (R.all.take n) 0).length = live (R.all.set n { x with gone := true }) 0 := by
  have hn := (split_at h.at_).2
  rw [h.live_, set_split h.at_, live_append, hn, List.eraseIdx_append_of_length_le (Nat.le_refl _), Nat.sub_self]
  simp [live]
theorem Mid.set {R : RefM} {n : Nat} {x y : RF} (h : Mid R n x) (hy : y.gone = false) : (live R.all 0).set (live (R.all.take n) 0).length ⟨y.pk, n, y.src⟩ = live (R.all.set n y) 0 := by
  have hn := (split_at h.at_).2
  rw [h.live_, set_split h.at_, live_append, hn, List.set_append_right _ _ (Nat.le_refl _), Nat.sub_self]
  simp [live, hy]

/-- The link of a network with the reference. -/
structure Lk (N : NetM) (R : RefM) : Prop where
  hist : N.hist = R.hist
  ev : N.ev = R.ev
  next : N.next = (R.all.length : Int)
  fl : N.fl = live R.all 0
  blk : ∀ p, memM p N.blk = memM p R.blk
  uniq : N.blk.Pairwise (fun p q => prB p q = false)
def R0 : RefM := ⟨[], [], [], []⟩
theorem lk0 : Lk N0 R0 := ⟨rfl, rfl, rfl, rfl, fun _ => rfl, List.Pairwise.nil⟩
end Go.Proofs.Ytnkcgalbaeppmaa
/- The reference's calls as plain functions, and that the link is kept. -/
namespace Go.Proofs.Ytnkcgalbaeppmaa
open Go.RowKit
def RefM.count (R : RefM) : Nat := (R.all.filter (fun x => !x.gone)).length
def RefM.launched (R : RefM) (kind : Int) (m : Pk) (src fr : Int) : RefM := { R with all := R.all ++ [⟨m, src, false⟩], ev := R.ev ++ [⟨kind, R.all.length, fr⟩] }
theorem Lk.count {N : NetM} {R : RefM} (h : Lk N R) : N.fl.length = R.count := by rw [h.fl, live_count]; rfl
theorem Lk.put {N : NetM} {R : RefM} (h : Lk N R) (m : Pk) (src kind fr : Int) : Lk (N.put m src kind fr) (R.launched kind m src fr) :=
  ⟨h.hist, by simp [NetM.put, RefM.launched, h.ev, h.next], by simp [NetM.put, RefM.launched, h.next], by simp [NetM.put, RefM.launched, h.fl, h.next, live_append, live], h.blk, h.uniq⟩
/-- Send. -/
def RefM.send (R : RefM) (m : Pk) : RefM × Int × Int :=
  if validB m then if 64 ≤ R.count ∨ 1024 ≤ R.hist.length then (R, 0, 7) else (({ R with hist := R.hist ++ [m] } : RefM).launched 1 m R.hist.length (-1), R.all.length, 0) else (R, 0, 2)
theorem Lk.send {N : NetM} {R : RefM} (h : Lk N R) (m : Pk) : Lk (N.send m).1 (R.send m).1 ∧ (N.send m).2 = (R.send m).2 := by
  have hc := h.count
  have hh := h.hist
  unfold NetM.send RefM.send
  rw [hc, hh]
  split
  · split
    · exact ⟨h, rfl⟩
    · refine ⟨?_, by simp [h.next]⟩
      have h2 : Lk { N with hist := R.hist ++ [m] } { R with hist := R.hist ++ [m] } := ⟨rfl, h.ev, h.next, h.fl, h.blk, h.uniq⟩
      exact h2.put m _ 1 (-1)
  · exact ⟨h, rfl⟩
/-- Inject. -/
def RefM.inject (R : RefM) (m : Pk) : RefM × Int × Int :=
  if validB m then if 64 ≤ R.count then (R, 0, 7) else (R.launched 8 m (-1) (-1), R.all.length, 0) else (R, 0, 2)
theorem Lk.inject {N : NetM} {R : RefM} (h : Lk N R) (m : Pk) : Lk (N.inject m).1 (R.inject m).1 ∧ (N.inject m).2 = (R.inject m).2 := by
  have hc := h.count
  unfold NetM.inject RefM.inject
  rw [hc]
  split
  · split
    · exact ⟨h, rfl⟩
    · exact ⟨h.put m _ 8 (-1), by simp [h.next]⟩
  · exact ⟨h, rfl⟩
/-- Replay. -/
def RefM.replay (R : RefM) (ix : Int) : RefM × Int × Int :=
  if 0 ≤ ix then match R.hist[ix.toNat]? with
    | some m => if 64 ≤ R.count then (R, 0, 7) else (R.launched 7 m ix ix, R.all.length, 0)
    | none => (R, 0, 9)
  else (R, 0, 9)
theorem Lk.replay {N : NetM} {R : RefM} (h : Lk N R) (ix : Int) : Lk (N.replay ix).1 (R.replay ix).1 ∧ (N.replay ix).2 = (R.replay ix).2 := by
  have hc := h.count
  unfold NetM.replay RefM.replay
  rw [hc, h.hist]
  split
  · cases R.hist[ix.toNat]? with
    | none => exact ⟨h, rfl⟩
    | some m =>
      simp only
      split
      · exact ⟨h, rfl⟩
      · exact ⟨h.put m _ 7 ix, by simp [h.next]⟩
  · exact ⟨h, rfl⟩
/-- Duplicate. -/
def RefM.dup (R : RefM) (id : Int) : RefM × Int × Int :=
  if R.flies id then if 64 ≤ R.count then (R, 0, 7) else match R.all[id.toNat]? with
    | some x => (R.launched 4 x.pk x.src id, R.all.length, 0)
    | none => (R, 0, 9)
  else (R, 0, 9)
theorem Lk.dup {N : NetM} {R : RefM} (h : Lk N R) (id : Int) : Lk (N.dup id).1 (R.dup id).1 ∧ (N.dup id).2 = (R.dup id).2 := by
  have hc := h.count
  unfold NetM.dup RefM.dup
  cases hf : R.flies id
  · rw [h.fl, flies_false hf]; exact ⟨h, rfl⟩
  · obtain ⟨n, x, rfl, hg, M⟩ := flies_true hf
    rw [hc]
    simp only [h.fl, M.place_, M.getElem, M.at_, Int.toNat_natCast, if_true]
    split
    · exact ⟨h, rfl⟩
    · exact ⟨h.put x.pk x.src 4 n, by simp [h.next]⟩
/-- One is gone. -/
def RefM.gone (R : RefM) (id : Int) (x : RF) (kind : Int) : RefM := { R with all := R.all.set id.toNat { x with gone := true }, ev := R.ev ++ [⟨kind, id, -1⟩] }
theorem Lk.gone {N : NetM} {R : RefM} (h : Lk N R) {n : Nat} {x : RF} (M : Mid R n x) (kind : Int) :
    Lk { N with fl := N.fl.eraseIdx (live (R.all.take n) 0).length, ev := N.ev ++ [⟨kind, n, -1⟩] } (R.gone n x kind) :=
  ⟨h.hist, by simp [RefM.gone, h.ev], by simp [RefM.gone, h.next], by simp only [RefM.gone, h.fl, Int.toNat_natCast]; exact M.erase, h.blk, h.uniq⟩
/-- Deliver. -/
def RefM.deliver (R : RefM) (id : Int) : RefM × Pk × Int :=
  if R.flies id then match R.all[id.toNat]? with
    | some x => if memM (x.pk.fr, x.pk.to) R.blk then (R, Pk.zero, 8) else (R.gone id x 2, x.pk, 0)
    | none => (R, Pk.zero, 9)
  else (R, Pk.zero, 9)
theorem Lk.deliver {N : NetM} {R : RefM} (h : Lk N R) (id : Int) : Lk (N.deliver id).1 (R.deliver id).1 ∧ (N.deliver id).2 = (R.deliver id).2 := by
  unfold NetM.deliver RefM.deliver
  cases hf : R.flies id
  · rw [h.fl, flies_false hf]; exact ⟨h, rfl⟩
  · obtain ⟨n, x, rfl, hg, M⟩ := flies_true hf
    have hG := h.gone M 2
    simp only [h.fl] at hG
    simp only [h.fl, M.place_, M.getElem, M.at_, Int.toNat_natCast, if_true, h.blk]
    split
    · exact ⟨h, rfl⟩
    · exact ⟨hG, rfl⟩
/-- Drop. -/
def RefM.drop (R : RefM) (id : Int) : RefM × Int :=
  if R.flies id then match R.all[id.toNat]? with
    | some x => (R.gone id x 3, 0)
    | none => (R, 9)
  else (R, 9)
theorem Lk.drop {N : NetM} {R : RefM} (h : Lk N R) (id : Int) : Lk (N.drop id).1 (R.drop id).1 ∧ (N.drop id).2 = (R.drop id).2 := by
  unfold NetM.drop RefM.drop
  cases hf : R.flies id
  · rw [h.fl, flies_false hf]; exact ⟨h, rfl⟩
  · obtain ⟨n, x, rfl, hg, M⟩ := flies_true hf
    have hG := h.gone M 3
    simp only [h.fl] at hG
    simp only [h.fl, M.place_, M.at_, Int.toNat_natCast, if_true]
    exact ⟨hG, trivial⟩
/-- One is changed. -/
def RefM.turned (R : RefM) (id : Int) (y : RF) (kind : Int) : RefM := { R with all := R.all.set id.toNat y, ev := R.ev ++ [⟨kind, id, -1⟩] }
theorem Lk.turned {N : NetM} {R : RefM} (h : Lk N R) {n : Nat} {x y : RF} (M : Mid R n x) (hy : y.gone = false) (kind : Int) :
    Lk { N with fl := N.fl.set (live (R.all.take n) 0).length ⟨y.pk, n, y.src⟩, ev := N.ev ++ [⟨kind, n, -1⟩] } (R.turned n y kind) :=
  ⟨h.hist, by simp [RefM.turned, h.ev], by simp [RefM.turned, h.next], by simp only [RefM.turned, h.fl, Int.toNat_natCast]; exact M.set hy, h.blk, h.uniq⟩
/-- Alter. -/
def RefM.alter (R : RefM) (id off mask : Int) : RefM × Int :=
  if mask = 0 then (R, 2) else if R.flies id then match R.all[id.toNat]? with
    | some x => if 0 ≤ off ∧ off < x.pk.bs.length then (R.turned id { x with pk := { x.pk with bs := flip x.pk.bs off.toNat mask } } 5, 0) else (R, 3)
    | none => (R, 9)
  else (R, 9)
theorem Lk.alter {N : NetM} {R : RefM} (h : Lk N R) (id off mask : Int) : Lk (N.alter id off mask).1 (R.alter id off mask).1 ∧ (N.alter id off mask).2 = (R.alter id off mask).2 := by
  unfold NetM.alter RefM.alter
  split
  · exact ⟨h, rfl⟩
  · cases hf : R.flies id
    · rw [h.fl, flies_false hf]; exact ⟨h, rfl⟩
    · obtain ⟨n, x, rfl, hg, M⟩ := flies_true hf
      have hG := h.turned (y := { x with pk := { x.pk with bs := flip x.pk.bs off.toNat mask } }) M hg 5
      simp only [h.fl] at hG
      simp only [h.fl, M.place_, M.getElem, M.at_, Int.toNat_natCast, if_true]
      split
      · exact ⟨hG, rfl⟩
      · exact ⟨h, rfl⟩
/-- Redirect. -/
def RefM.redirect (R : RefM) (id : Int) (to : ByteArray) : RefM × Int :=
  if hostB to then if R.flies id then match R.all[id.toNat]? with
    | some x => (R.turned id { x with pk := { x.pk with to } } 6, 0)
    | none => (R, 9)
  else (R, 9)
  else (R, 2)
theorem Lk.redirect {N : NetM} {R : RefM} (h : Lk N R) (id : Int) (to : ByteArray) : Lk (N.redirect id to).1 (R.redirect id to).1 ∧ (N.redirect id to).2 = (R.redirect id to).2 := by
  unfold NetM.redirect RefM.redirect
  split
  · cases hf : R.flies id
    · rw [h.fl, flies_false hf]; exact ⟨h, rfl⟩
    · obtain ⟨n, x, rfl, hg, M⟩ := flies_true hf
      have hG := h.turned (y := { x with pk := { x.pk with to } }) M hg 6
      simp only [h.fl] at hG
      simp only [h.fl, M.place_, M.getElem, M.at_, Int.toNat_natCast, if_true]
      exact ⟨hG, trivial⟩
  · exact ⟨h, rfl⟩
/-- Two pairs are the same. -/
theorem prB_iff {p q : Pr} : prB p q = true ↔ p.1.toList = q.1.toList ∧ p.2.toList = q.2.toList := by simp [prB]
theorem prB_refl (p : Pr) : prB p p = true := by simp [prB]
theorem prB_symm (p q : Pr) : prB p q = prB q p := by
  have : prB p q = true ↔ prB q p = true := by rw [prB_iff, prB_iff]; exact ⟨fun h => ⟨h.1.symm, h.2.symm⟩, fun h => ⟨h.1.symm, h.2.symm⟩⟩
  cases h1 : prB p q <;> cases h2 : prB q p <;> simp_all
theorem prB_left {p q : Pr} (h : prB p q = true) (r : Pr) : prB p r = prB q r := by
  obtain ⟨h1, h2⟩ := prB_iff.1 h
  simp [prB, h1, h2]
theorem memM_left {p q : Pr} (h : prB p q = true) (l : List Pr) : memM p l = memM q l := by
  simp only [memM]
  congr 1
  funext r
  exact prB_left h r
theorem memM_append (q : Pr) (l m : List Pr) : memM q (l ++ m) = (memM q l || memM q m) := by simp [memM]
theorem memM_filter (q p : Pr) : ∀ (l : List Pr), memM q (l.filter (fun x => !prB x p)) = (memM q l && !prB q p)
  | [] => by simp [memM]
  | x :: l => by
    have ih := memM_filter q p l
    simp only [List.filter_cons]
    cases hx : prB x p
    · simp only [Bool.not_false, if_true]
      simp only [memM, List.any_cons] at ih ⊢
      rw [ih]
      cases hq : prB q x
      · simp
      · have : prB q p = false := by rw [prB_left hq, hx]
        simp [this]
    · simp only [Bool.not_true, Bool.false_eq_true, if_false, ih]
      simp only [memM, List.any_cons]
      cases hq : prB q p
      · have : prB q x = false := by rw [prB_symm q x, prB_left hx, prB_symm]; exact hq
        simp [this]
      · simp
theorem memM_eraseP (q p : Pr) : ∀ (l : List Pr), l.Pairwise (fun p q => prB p q = false) → memM q (l.eraseP (prB p)) = (memM q l && !prB q p)
  | [], _ => by simp [memM]
  | x :: l, h => by
    obtain ⟨h1, h2⟩ := List.pairwise_cons.1 h
    have ih := memM_eraseP q p l h2
    cases hx : prB p x
    · rw [List.eraseP_cons_of_neg (by simp [hx])]
      simp only [memM, List.any_cons] at ih ⊢
      rw [ih]
      cases hq : prB q x
      · simp
      · have : prB q p = false := by rw [prB_left hq, prB_symm]; exact hx
        simp [this]
    · rw [List.eraseP_cons_of_pos hx]
      simp only [memM, List.any_cons]
      cases hq : prB q p
      · have : prB q x = false := by rw [prB_symm q x, prB_left (by rw [prB_symm]; exact hx : prB x p = true), prB_symm]; exact hq
        simp [this]
      · have hqx : prB q x = true := by rw [prB_left hq]; exact hx
        have : l.any (prB q) = false := by
          rw [List.any_eq_false]
          intro y hy
          rw [prB_left hqx, h1 y hy]
          decide
        simp [this]
/-- Block, Unblock. -/
def RefM.block (R : RefM) (p : Pr) (off : Bool) : RefM × Int :=
  if hostB p.1 && hostB p.2 then ({ R with blk := R.blk.filter (fun x => !prB x p) ++ (if off then [] else [p]) }, 0) else (R, 2)
theorem Lk.block {N : NetM} {R : RefM} (h : Lk N R) (p : Pr) : Lk (N.block p).1 (R.block p false).1 ∧ (N.block p).2 = (R.block p false).2 := by
  unfold NetM.block RefM.block
  split
  · refine ⟨⟨h.hist, h.ev, h.next, h.fl, fun q => ?_, ?_⟩, rfl⟩
    · simp only [Bool.false_eq_true, if_false, memM_append, memM_filter, ← h.blk q]
      have e : memM q [p] = prB q p := by simp [memM]
      rw [e]
      cases hq : prB q p
      · split
        · simp
        · simp [memM_append, e, hq]
      · have := memM_left hq N.blk
        split
        · rename_i hm; rw [this, hm]; rfl
        · simp [memM_append, e, hq]
    · simp only
      split
      · exact h.uniq
      · rename_i hm
        rw [List.pairwise_append]
        refine ⟨h.uniq, List.pairwise_singleton _ _, fun a ha b hb => ?_⟩
        obtain rfl : b = p := by simpa using hb
        cases hab : prB a b
        · rfl
        · exfalso
          apply hm
          simp only [memM, List.any_eq_true]
          exact ⟨a, ha, by rw [prB_symm]; exact hab⟩
  · exact ⟨h, rfl⟩
theorem Lk.unblock {N : NetM} {R : RefM} (h : Lk N R) (p : Pr) : Lk (N.unblock p).1 (R.block p true).1 ∧ (N.unblock p).2 = (R.block p true).2 := by
  unfold NetM.unblock RefM.block
  split
  · refine ⟨⟨h.hist, h.ev, h.next, h.fl, fun q => ?_, ?_⟩, rfl⟩
    · simp only [if_true, List.append_nil, memM_filter, ← h.blk q]
      exact memM_eraseP q p _ h.uniq
    · exact h.uniq.sublist List.eraseP_sublist
  · exact ⟨h, rfl⟩
end Go.Proofs.Ytnkcgalbaeppmaa
/- The reference in memory; its small functions. -/
namespace Go.Proofs.Ytnkcgalbaeppmaa
open Go.RowKit
section
variable {P : Program} {w : World}
/-- 'append(T(nil), s...)': a copy in new memory. -/
theorem wpList_fresh {ops : Array Oper} {rest : List Oper} {o : Oper} {a : Act} {Q : Exit → Act → World → Prop} (hgd : o.guard = none) (s x : Operand) (t : TypeId)
    (ho : o.op = .call { callee := .builtin .append, args := #[s, x], argTypes := #[t, t] })
    {e : TypeId} {z : Value} {size bytes : Nat} (T : SlT P t e z size bytes) (hs : a.eval s = .slice none 0 0) (p : Option Addr) (m c : Nat) (hx : a.eval x = .slice p m c) (hz : p = none → m = 0 ∧ c = 0)
    (news : List Value) (hl : news.length = m * size) (hnews : ∀ ad, p = some ad → ∀ j u, news[j]? = some u → w.cell? (ad.add j) = some u) (h1 : ∀ u ∈ news, u.oneCell' = true) (hm : m ≤ 100000)
    (h : ∀ v' w', w'.ownsRow w.heap.size e size v' m news → Below w.heap.size w w' → wpList P ops Q rest (a.put o.dst v') w') : wpList P ops Q (o :: rest) a w := by
  obtain ⟨i0, hi, hz0, hz1, hz2⟩ := info_parts T.info
  rcases p with _ | ad
  · obtain ⟨rfl, rfl⟩ := hz rfl
    obtain rfl : news = [] := List.eq_nil_of_length_eq_zero (by simpa using hl)
    exact wpList_append_own_none hgd s x t ho w.heap.size e i0 size T.und hi _ 0 [] hs (World.ownsRow_nil _ _ _ _) hx (h _ _ (World.ownsRow_nil _ _ _ _) (Below.refl _ _))
  · refine wpList_append_own w hgd s x t ho w.heap.size e i0 z size bytes T.und hi hz0 hz1 hz2 T.zs T.pos _ 0 [] hs (World.ownsRow_nil _ _ _ _) ad m c news hx hl (hnews ad rfl) h1 (by unfold maxLen; omega)
      (by have := T.small; have := Nat.mul_le_mul (show 0 + m ≤ 100000 by omega) this; omega) (Nat.le_refl _) ?_
    intro v' w' hown hgrow _
    exact h v' w' (by simpa using hown) ((Below.refl _ w).grown hgrow (Nat.le_refl _) (by intro k hk; simp [Value.ownBlock] at hk))
end
/-- Where a packet's bytes can be copied from. -/
structure PSrc (w : World) (p : PV) (m : Pk) : Prop where
  pin : PIn w p m
  nil : p.ba = none → p.bn = 0 ∧ p.bc = 0
theorem POwn.src {w : World} {p : PV} {m : Pk} (h : POwn w p m) : PSrc w p m := ⟨h.pin, fun e => by
  obtain ⟨a, c, hv, _, _, hn, _⟩ := ownsRow_slice h.b
  injection hv with h1 h2 h3
  subst h1
  have := hn e
  exact ⟨this.1, by rw [h3]; exact this.2⟩⟩
theorem PSrc.below {w w' : World} {p : PV} {m : Pk} (h : PSrc w p m) (hb : Below w.heap.size w w') : PSrc w' p m := ⟨h.pin.below hb (Nat.le_refl _), h.nil⟩
set_option maxHeartbeats 400000 in
theorem own_any (p : PV) (m : Pk) (w : World) (hp : PSrc w p m) (hm : p.bn ≤ 100000) : Calls Try.prog 53 #[p.val] w (ClonePost m w) := by
  obtain ⟨f, t, ba, bn, bc⟩ := p
  obtain ⟨⟨rfl, rfl, hn, hb⟩, hz⟩ := hp
  simp only at hn hb hm hz
  simp only [PV.val]
  have hb2 : Below w.heap.size w ((w.alloc (.cells #[.string m.fr, .string m.to, .slice ba bn bc] 40)).alloc (.cells #[.string { data := #[] }, .string { data := #[] }, .slice none 0 0] 40)) := ((Below.refl _ _).alloc (Nat.le_refl _) _).alloc (by simp) _
  have e0 := top1 w (.cells #[.string m.fr, .string m.to, .slice ba bn bc] 40) (.cells #[.string { data := #[] }, .string { data := #[] }, .slice none 0 0] 40)
  have e1 := top0 w (.cells #[.string m.fr, .string m.to, .slice ba bn bc] 40) (.cells #[.string { data := #[] }, .string { data := #[] }, .slice none 0 0] 40)
  have hb1 := BytesIn.below hb hb2 (Nat.le_refl _)
  go_enter Try.func53, Try.ntmps53
  go_wp2_with (at_builtin; apply unwrap)
  generalize (w.alloc (.cells #[.string m.fr, .string m.to, .slice ba bn bc] 40)).alloc (.cells #[.string { data := #[] }, .string { data := #[] }, .slice none 0 0] 40) = w1 at hb2 e0 e1 hb1 ⊢
  refine wpList_fresh rfl _ _ 38 rfl T38 rfl ba bn bc rfl hz (m.bs.map (Value.int .u8)) (by simp [hn]) ?_ (fun u hu => by obtain ⟨x, _, rfl⟩ := List.mem_map.1 hu; rfl) hm ?_
  · intro ad had j u hu
    have hj : j < bn := by have := (List.getElem?_eq_some_iff.1 hu).1; simp at this; omega
    obtain ⟨b, o, ha, hc⟩ := hb1 (by omega)
    rw [had] at ha
    cases ha
    rw [Addr.add_lit, hc j hj]
    have hj2 : j < m.bs.length := by omega
    rw [List.getElem?_map, List.getElem?_eq_getElem hj2] at hu
    simp only [Option.map_some, Option.some.injEq] at hu
    rw [← hu]
    simp [List.getD, List.getElem?_eq_getElem hj2]
  intro v' w' hown hbl
  obtain ⟨a, c, rfl, _⟩ := ownsRow_slice hown
  have f0 := (hbl.block _ (lt_of_heap e0)).trans e0
  have f1 := (hbl.block _ (lt_of_heap e1)).trans e1
  obtain ⟨p0, p1, p2, q0, q1, q2, ql⟩ := blk3 f0
  obtain ⟨r0, r1, r2, s0, s1, s2, sl⟩ := blk3 f1
  have hb3 := hb2.trans (hbl.mono hb2.size)
  have hg : ∀ k, Value.ownBlock (.slice a bn c) = some k → w1.heap.size ≤ k := fun k hk => (hown.lt k hk).1
  have hsz : w.heap.size + 1 < w1.heap.size := lt_of_heap e1
  have own0 := ownsRow_base (B := 0) hown (Nat.zero_le _)
  clear hbl hb2 e0 e1 hown hb hb1 f0 f1
  go_wp2
  refine bodyPost_ret (v := PV.val ⟨m.fr, m.to, a, bn, c⟩) (by simp [results, Try.results53, PV.val, go_sem, r0, r1, r2]) rfl ?_
  refine ⟨⟨m.fr, m.to, a, bn, c⟩, rfl, ⟨rfl, rfl, hn, ?_⟩, fun k hk => by have := hg k hk; omega, ?_⟩
  · have h0 : Value.ownBlock (.slice a bn c) ≠ some w.heap.size := fun e => by have := hg _ e; omega
    have h1 : Value.ownBlock (.slice a bn c) ≠ some (w.heap.size + 1) := fun e => by have := hg _ e; omega
    exact own_setCell (own_setCell (own_setCell (own_setCell own0 h0 _) h1 _) h1 _) h1 _
  · exact (((hb3.setCell (by simp) _).setCell (by simp) _).setCell (by simp) _).setCell (by simp) _
theorem hostR_any (s : ByteArray) (w : World) (hs : s.size ≤ 100) : Calls Try.prog 61 #[.string s] w fun e w' => e = .returned (.bool (hostB s)) ∧ w = w' := by
  by_cases h1 : 1 ≤ s.size
  · have h1' : (0 : Int) < (s.size : Int) := by omega
    by_cases h2 : s.size ≤ 32
    · have h2' : (s.size : Int) ≤ 32 := by omega
      have HF : Hid (hostB s = true) := by simp [Hid, hostB, h1, h2]
      clear h1 h2
      go_enter Try.func61, Try.ntmps61
      go_wp2_with fail
      go_ret
      exact ⟨ret_bool HF.out.symm, rfl⟩
    · have h2' : ¬ (s.size : Int) ≤ 32 := by omega
      have HF : Hid (hostB s = false) := by simp [Hid, hostB, h2]
      clear h1 h2
      go_enter Try.func61, Try.ntmps61
      go_wp2_with fail
      go_ret
      exact ⟨ret_bool HF.out.symm, rfl⟩
  · have h1' : ¬ (0 : Int) < (s.size : Int) := by omega
    have HF : Hid (hostB s = false) := by simp [Hid, hostB, h1]
    clear h1
    go_enter Try.func61, Try.ntmps61
    go_wp2_with fail
    go_ret
    exact ⟨ret_bool HF.out.symm, rfl⟩
end Go.Proofs.Ytnkcgalbaeppmaa
/- The reference in memory: Valid, Flies, Count. -/
namespace Go.Proofs.Ytnkcgalbaeppmaa
open Go.RowKit
/-- A packet that was put in flight, in memory. -/
structure RV where
  p : PV
  src : Int
  gone : Bool
def RV.cells (x : RV) : List Value := x.p.cells ++ [.int .i64 x.src, .bool x.gone]
theorem RV.cells_len (x : RV) : x.cells.length = 5 := rfl
def Pr.cells (p : Pr) : List Value := [.string p.1, .string p.2]
theorem Pr.cells_len (p : Pr) : (Pr.cells p).length = 2 := rfl
structure ROwn (w : World) (x : RV) (m : RF) : Prop where
  p : POwn w x.p m.pk
  src : x.src = m.src
  gone : x.gone = m.gone
/-- How a reference's network lies. -/
structure RefV where
  al : Value
  hi : Value
  ev : Value
  bl : Value
  ps : List RV
  hs : List PV
def RefV.val (V : RefV) : Value := .agg #[V.al, V.hi, V.ev, V.bl]
structure RefAt (w : World) (V : RefV) (R : RefM) : Prop where
  all : w.ownsRow 0 51 5 V.al R.all.length (V.ps.flatMap RV.cells)
  allp : Both (ROwn w) V.ps R.all
  hist : w.ownsRow 0 40 3 V.hi R.hist.length (V.hs.flatMap PV.cells)
  histp : Both (POwn w) V.hs R.hist
  ev : w.ownsRow 0 61 3 V.ev R.ev.length (R.ev.flatMap EvM.cells)
  blk : w.ownsRow 0 95 2 V.bl R.blk.length (R.blk.flatMap Pr.cells)
theorem RefAt.below {w w' : World} {V : RefV} {R : RefM} (h : RefAt w V R) {B : Nat} (hb : Below B w w') (hB : w.heap.size ≤ B) : RefAt w' V R :=
  ⟨ownsRow_below h.all hb hB, h.allp.mono fun _ _ _ hm => ⟨hm.p.below hb hB, hm.src, hm.gone⟩, ownsRow_below h.hist hb hB, h.histp.mono fun _ _ _ hm => hm.below hb hB, ownsRow_below h.ev hb hB, ownsRow_below h.blk hb hB⟩
/-- The blocks of a reference. -/
def rp (V : RefV) (k : Nat) : Prop :=
  V.al.ownBlock = some k ∨ V.hi.ownBlock = some k ∨ V.ev.ownBlock = some k ∨ V.bl.ownBlock = some k ∨ (∃ x ∈ V.ps, x.p.blk = some k) ∨ (∃ p ∈ V.hs, p.blk = some k)
theorem RefAt.same {w w' : World} {V : RefV} {R : RefM} (h : RefAt w V R) (hs : ∀ k, rp V k → w'.heap[k]? = w.heap[k]?) : RefAt w' V R :=
  ⟨ownsRow_same h.all fun k hk => hs k (.inl hk), h.allp.mono fun x _ hx hm => ⟨hm.p.same fun k hk => hs k (.inr (.inr (.inr (.inr (.inl ⟨x, hx, hk⟩))))), hm.src, hm.gone⟩,
    ownsRow_same h.hist fun k hk => hs k (.inr (.inl hk)), h.histp.mono fun x _ hx hm => hm.same fun k hk => hs k (.inr (.inr (.inr (.inr (.inr ⟨x, hx, hk⟩))))),
    ownsRow_same h.ev fun k hk => hs k (.inr (.inr (.inl hk))), ownsRow_same h.blk fun k hk => hs k (.inr (.inr (.inr (.inl hk))))⟩
theorem RefAt.lt {w : World} {V : RefV} {R : RefM} (h : RefAt w V R) : ∀ k, rp V k → k < w.heap.size := fun k hk => by
  rcases hk with hk | hk | hk | hk | ⟨x, hx, hk⟩ | ⟨p, hp, hk⟩
  · exact (h.all.lt k hk).2
  · exact (h.hist.lt k hk).2
  · exact (h.ev.lt k hk).2
  · exact (h.blk.lt k hk).2
  · obtain ⟨m, _, hm⟩ := h.allp.left hx; exact hm.p.lt hk
  · obtain ⟨m, _, hm⟩ := h.histp.left hp; exact hm.lt hk
theorem all_cells {w : World} {B g n cap : Nat} {ps : List RV} (h : w.ownsRow B 51 5 (.slice (some ⟨g, 0, none⟩) n cap) n (ps.flatMap RV.cells)) {k : Nat} {x : RV} (hx : ps[k]? = some x) :
    w.cell? ⟨g, k * 5, none⟩ = some (.string x.p.f) ∧ w.cell? ⟨g, k * 5 + 1, none⟩ = some (.string x.p.t) ∧ w.cell? ⟨g, k * 5 + 2, none⟩ = some (.slice x.p.ba x.p.bn x.p.bc) ∧ w.cell? ⟨g, k * 5 + 3, none⟩ = some (.int .i64 x.src) ∧ w.cell? ⟨g, k * 5 + 4, none⟩ = some (.bool x.gone) := by
  have h0 := own_cell RV.cells_len h hx (j := 0) (by decide)
  have h1 := own_cell RV.cells_len h hx (j := 1) (by decide)
  have h2 := own_cell RV.cells_len h hx (j := 2) (by decide)
  have h3 := own_cell RV.cells_len h hx (j := 3) (by decide)
  have h4 := own_cell RV.cells_len h hx (j := 4) (by decide)
  exact ⟨h0, h1, h2, h3, h4⟩
theorem bl_cells {w : World} {B g n cap : Nat} {ps : List Pr} (h : w.ownsRow B 95 2 (.slice (some ⟨g, 0, none⟩) n cap) n (ps.flatMap Pr.cells)) {k : Nat} {x : Pr} (hx : ps[k]? = some x) :
    w.cell? ⟨g, k * 2, none⟩ = some (.string x.1) ∧ w.cell? ⟨g, k * 2 + 1, none⟩ = some (.string x.2) := by
  have h0 := own_cell Pr.cells_len h hx (j := 0) (by decide)
  have h1 := own_cell Pr.cells_len h hx (j := 1) (by decide)
  exact ⟨h0, h1⟩
/-- Plain limits of a reference. -/
structure RefM.lim (R : RefM) : Prop where
  all : R.all.length ≤ 50000
  hist : R.hist.length ≤ 1024
  ev : R.ev.length ≤ 50000
  blk : R.blk.length ≤ 50000
  allok : ∀ m ∈ R.all, m.pk.ok
  histok : ∀ m ∈ R.hist, m.ok
  srcok : ∀ m ∈ R.all, -1 ≤ m.src ∧ m.src < (R.hist.length : Int)
set_option maxHeartbeats 400000 in
theorem validR_any (p : PV) (m : Pk) (w : World) (hf : p.f = m.fr) (ht : p.t = m.to) (hn : m.bs.length = p.bn) (hm : m.ok) :
    Calls Try.prog 68 #[p.val] w fun e w' => e = .returned (.bool (validB m)) ∧ Below w.heap.size w w' := by
  obtain ⟨f, t, ba, bn, bc⟩ := p
  simp only at hf ht hn
  subst hf ht
  simp only [PV.val]
  have hlen := hm.bs
  have hfr := hm.fr
  have hto := hm.to
  have hle : (bn : Int) ≤ 65536 := by omega
  have HV : Hid (validB m = (hostB m.fr && hostB m.to)) := by
    have : m.bs.length ≤ 65536 := by omega
    simp [Hid, validB, this]
  have hbl : Below w.heap.size w (w.alloc (.cells #[.string m.fr, .string m.to, .slice ba bn bc] 40)) := (Below.refl _ _).alloc (Nat.le_refl _) _
  clear hn hlen
  go_enter Try.func68, Try.ntmps68
  go_wp2_with fail
  refine (hostR_any m.fr _ hfr).mono ?_
  rintro e w1 ⟨rfl, rfl⟩
  cases h1 : hostB m.fr
  · have H2 : Hid (validB m = false) := by show _ = _; rw [HV.out, h1]; rfl
    go_wp2_with fail
    go_ret
    exact ⟨ret_bool H2.out.symm, hbl⟩
  · have H1 := Lib.hid h1
    clear h1
    go_wp2_with fail
    refine (hostR_any m.to _ hto).mono ?_
    rintro e w1 ⟨rfl, rfl⟩
    cases h2 : hostB m.to
    · have H2 : Hid (validB m = false) := by show _ = _; rw [HV.out, h2]; simp
      go_wp2_with fail
      go_ret
      exact ⟨ret_bool H2.out.symm, hbl⟩
    · have H2 : Hid (validB m = true) := by show _ = _; rw [HV.out, H1.out, h2]; rfl
      clear h2
      go_wp2_with fail
      go_ret
      exact ⟨ret_bool H2.out.symm, hbl⟩
end Go.Proofs.Ytnkcgalbaeppmaa
/- The methods at a nil network. -/
namespace Go.Proofs.Ytnkcgalbaeppmaa
open Go.RowKit
theorem source_nil (id : Int) (w : World) : Calls Try.prog 10 #[.pointer none, .int .i64 id] w (Two 0 1 w) := by
  go_enter Try.func10, Try.ntmps10
  go_wp2_with fail
  go_ret2
  exact ⟨rfl, Below.refl _ _⟩
theorem genuine_nil (id : Int) (w : World) : Calls Try.prog 11 #[.pointer none, .int .i64 id] w fun e w' => e = .returned (.tuple #[.bool false, .int .i64 1]) ∧ Below w.heap.size w w' := by
  go_enter Try.func11, Try.ntmps11
  go_wp2_with fail
  go_ret2
  exact ⟨rfl, Below.refl _ _⟩
theorem send_nil (p : PV) (w : World) : Calls Try.prog 19 #[.pointer none, p.val] w (Two 0 1 w) := by
  simp only [PV.val]
  go_enter Try.func19, Try.ntmps19
  go_wp2_with fail
  refine wp_scope_jumps 0 (fun a' w' => a'.defers = [] ∧ a'.tmps.size = 46 ∧ a'.tmps.getD 5 undef = .int .i64 1 ∧ Below w.heap.size w w') (fun _ _ => 0) rfl ?_ ?_
  · go_wp2_with fail
    refine wp_goto ?_
    exact ⟨rfl, rfl, rfl, rfl, (Below.refl _ w).alloc (Nat.le_refl _) _⟩
  · rintro ⟨t, d⟩ w1 ⟨rfl, hsz, h5, hb1⟩
    simp only at hsz h5
    go_wp2_with fail
    show bodyPost _ _ _ .ret _ _
    go_ret2
    exact ⟨by simp [hsz], hb1⟩
theorem inject_nil (p : PV) (w : World) : Calls Try.prog 20 #[.pointer none, p.val] w (Two 0 1 w) := by
  simp only [PV.val]
  go_enter Try.func20, Try.ntmps20
  go_wp2_with fail
  go_ret2
  exact ⟨rfl, (Below.refl _ w).alloc (Nat.le_refl _) _⟩
theorem replay_nil (id : Int) (w : World) : Calls Try.prog 21 #[.pointer none, .int .i64 id] w (Two 0 1 w) := by
  go_enter Try.func21, Try.ntmps21
  go_wp2_with fail
  go_ret2
  exact ⟨rfl, Below.refl _ _⟩
theorem dup_nil (id : Int) (w : World) : Calls Try.prog 22 #[.pointer none, .int .i64 id] w (Two 0 1 w) := by
  go_enter Try.func22, Try.ntmps22
  go_wp2_with fail
  go_ret2
  exact ⟨rfl, Below.refl _ _⟩
theorem deliver_nil (id : Int) (w : World) : Calls Try.prog 23 #[.pointer none, .int .i64 id] w fun e w' => e = .returned (.tuple #[PV.zero.val, .int .i64 1]) ∧ Below w.heap.size w w' := by
  go_enter Try.func23, Try.ntmps23
  go_wp2_with fail
  obtain ⟨p0, p1, p2, q0, q1, q2, _⟩ := blk3 (heap_alloc_new w (.cells #[.string { data := #[] }, .string { data := #[] }, .slice none 0 0] 40))
  refine bodyPost_ret (v := .tuple #[PV.zero.val, .int .i64 1]) (by simp [results, Try.results23, PV.val, PV.zero, go_sem, p0, p1, p2]; rfl) rfl ?_
  exact ⟨rfl, (Below.refl _ w).alloc (Nat.le_refl _) _⟩
theorem drop_nil (id : Int) (w : World) : Calls Try.prog 24 #[.pointer none, .int .i64 id] w fun e w' => e = .returned (.int .i64 1) ∧ Below w.heap.size w w' := by
  go_enter Try.func24, Try.ntmps24
  go_wp2_with fail
  go_ret
  exact ⟨rfl, Below.refl _ _⟩
theorem alter_nil (id off mask : Int) (w : World) : Calls Try.prog 25 #[.pointer none, .int .i64 id, .int .i64 off, .int .u8 mask] w fun e w' => e = .returned (.int .i64 1) ∧ Below w.heap.size w w' := by
  go_enter Try.func25, Try.ntmps25
  go_wp2_with fail
  go_ret
  exact ⟨rfl, Below.refl _ _⟩
theorem redirect_nil (id : Int) (t : ByteArray) (w : World) : Calls Try.prog 26 #[.pointer none, .int .i64 id, .string t] w fun e w' => e = .returned (.int .i64 1) ∧ Below w.heap.size w w' := by
  go_enter Try.func26, Try.ntmps26
  go_wp2_with fail
  go_ret
  exact ⟨rfl, Below.refl _ _⟩
theorem block_nil (s t : ByteArray) (w : World) : Calls Try.prog 27 #[.pointer none, .string s, .string t] w fun e w' => e = .returned (.int .i64 1) ∧ Below w.heap.size w w' := by
  go_enter Try.func27, Try.ntmps27
  go_wp2_with fail
  go_ret
  exact ⟨rfl, Below.refl _ _⟩
theorem unblock_nil (s t : ByteArray) (w : World) : Calls Try.prog 28 #[.pointer none, .string s, .string t] w fun e w' => e = .returned (.int .i64 1) ∧ Below w.heap.size w w' := by
  go_enter Try.func28, Try.ntmps28
  go_wp2_with fail
  go_ret
  exact ⟨rfl, Below.refl _ _⟩
end Go.Proofs.Ytnkcgalbaeppmaa
/- A nil network agrees with the empty one. -/
namespace Go.Proofs.Ytnkcgalbaeppmaa
open Go.RowKit
attribute [local go_sem] Oper.semAt_some
def R0v : Value := .agg #[.slice none 0 0, .slice none 0 0, .slice none 0 0, .slice none 0 0]
theorem blk4 {w : World} {B : Nat} {x y z u : Value} {T : TypeId} (h : w.heap[B]? = some (.cells #[x, y, z, u] T (0, 0))) :
    w.cell? ⟨B, 0, none⟩ = some x ∧ w.cell? ⟨B, 1, none⟩ = some y ∧ w.cell? ⟨B, 2, none⟩ = some z ∧ w.cell? ⟨B, 3, none⟩ = some u ∧ (∀ i, w.frozen? ⟨B, i, none⟩ = false) ∧ B < w.heap.size := by
  refine ⟨?_, ?_, ?_, ?_, ?_, lt_of_heap h⟩ <;> simp [World.cell?, World.frozen?, h]
theorem count0 (w : World) : Calls Try.prog 18 #[R0v] w fun e w' => e = .returned (.int .i64 0) ∧ Below w.heap.size w w' := by
  simp only [R0v]
  go_enter Try.func18, Try.ntmps18
  go_wp2_with fail
  go_loopw [3, 4] (fun c i wr => c = .int .i64 0 ∧ i = .int .i64 0 ∧ wr = w.alloc (.cells #[.slice none 0 0, .slice none 0 0, .slice none 0 0, .slice none 0 0] 35)) (fun _ _ _ => 0)
  case atStart => exact ⟨rfl, rfl, rfl⟩
  case round =>
    obtain ⟨rfl, rfl, rfl⟩ := hrel
    go_wp2_with fail
    go_ret
    exact ⟨rfl, (Below.refl _ w).alloc (Nat.le_refl _) _⟩
set_option maxHeartbeats 1600000 in
set_option maxRecDepth 100000 in
theorem flight0 (w : World) : Calls Try.prog 52 #[.pointer none, R0v] w fun e w' => e = .returned (.bool true) ∧ Below w.heap.size w w' := by
  have hmix : Try.prog.follows .mixedOrders = true := by kernel_rfl
  have hq53 := fun w f a b => run_eql_func_nil (P := Try.prog) 53 f a b w _ _ _ u53
  simp only [R0v]
  refine (callsIn_wide (n := 9)).1 (callsIn_of_wp_marks Try.func52 rfl trivial ?_ rfl)
  simp only [Try.ntmps52, List.size_toArray, List.length_cons, List.length_nil, Nat.reduceAdd, Nat.reduceSub, Array.replicate_succ, Array.replicate_zero, List.push_toArray, List.append_toArray, List.nil_append, List.cons_append]
  gi_wp2
  generalize hW : ((w.alloc (.cells #[.pointer none] 25)).alloc (.cells #[.slice none 0 0, .slice none 0 0, .slice none 0 0, .slice none 0 0] 35)).alloc (.cells #[.bool false] 4) = w1
  have e1 : w1.heap[w.heap.size + 1]? = some (.cells #[.slice none 0 0, .slice none 0 0, .slice none 0 0, .slice none 0 0] 35) := by
    subst hW; rw [Below.heap_alloc _ _ _ (by simp)]; have := heap_alloc_new (w.alloc (.cells #[.pointer none] 25)) (.cells #[.slice none 0 0, .slice none 0 0, .slice none 0 0, .slice none 0 0] 35); simpa using this
  have e2 : w1.heap[w.heap.size + 1 + 1]? = some (.cells #[.bool false] 4) := by
    subst hW; have := heap_alloc_new ((w.alloc (.cells #[.pointer none] 25)).alloc (.cells #[.slice none 0 0, .slice none 0 0, .slice none 0 0, .slice none 0 0] 35)) (.cells #[.bool false] 4); simpa using this
  have hb : Below w.heap.size w w1 := by subst hW; exact (((Below.refl _ w).alloc (Nat.le_refl _) _).alloc (by simp) _).alloc (by simp; omega) _
  clear hW
  refine ⟨trivial, callsIn_wide.2 ((flight_nil w1).mono ?_)⟩
  rintro e w2 ⟨B, v, qs, rfl, hbx, hBs, hfa, hb2⟩
  have e3 := (hb2.block _ (lt_of_heap e1)).trans e1
  have e4 := (hb2.block _ (lt_of_heap e2)).trans e2
  have hb3 := hb.trans (hb2.mono hb.size)
  have hs : FlSeq B v qs [] w2 := ⟨hbx, hfa.own, hfa.p⟩
  clear e1 e2 hb hb2 hbx hfa
  gi_wp2
  have hb4 : Below w.heap.size w ((w2.alloc (.cells #[.int .i64 (-1)] 3)).alloc (.cells #[.int .i64 0] 3)) :=
    (hb3.alloc hb3.size _).alloc (by have := hb3.size; simp; omega) _
  have hk : Below w2.heap.size w2 ((w2.alloc (.cells #[.int .i64 (-1)] 3)).alloc (.cells #[.int .i64 0] 3)) :=
    ((Below.refl w2.heap.size w2).alloc (Nat.le_refl _) _).alloc (by simp) _
  have e5 : ((w2.alloc (.cells #[.int .i64 (-1)] 3)).alloc (.cells #[.int .i64 0] 3)).heap[w2.heap.size + 1]? = some (.cells #[.int .i64 0] 3) := top0 w2 _ _
  have e6 := (hk.block _ (lt_of_heap e3)).trans e3
  have e7 := (hk.block _ (lt_of_heap e4)).trans e4
  have hs2 : FlSeq B v qs [] ((w2.alloc (.cells #[.int .i64 (-1)] 3)).alloc (.cells #[.int .i64 0] 3)) :=
    ⟨(hk.block _ (lt_of_heap hs.box)).trans hs.box, ownsRow_below hs.own hk (Nat.le_refl _), hs.p.mono fun x y hx hm => ⟨hm.p.below hk (Nat.le_refl _), hm.id, hm.src⟩⟩
  clear hs hk hb3 e3 e4
  generalize (w2.alloc (.cells #[.int .i64 (-1)] 3)).alloc (.cells #[.int .i64 0] 3) = w3 at hb4 e5 e6 e7 hs2 ⊢
  have hbox := lt_of_heap hs2.box
  refine wpIn_rangeFunc_gives rfl (by decide) (gf := 40) (lb := #[.pointer (some ⟨B, 0, none⟩)]) rfl trivial (enters_of Try.func40 (by kernel_rfl) rfl)
    (flight_gives 8 (by decide) B v qs [] (by decide) (fun m hm => by simp at hm)) (fun B k args X h => by obtain ⟨x, q, _, rfl, _⟩ := h; rfl)
    (fun k X => Below w3.heap.size w3 X) (fun _ _ => False)
    (fun k X Y h hb => h.trans hb) (fun _ _ _ h _ => h)
    (fun k X h => ⟨(h.block B hbox).trans hs2.box, ownsRow_below hs2.own h (Nat.le_refl _), hs2.p.mono fun x y hx hm => ⟨hm.p.below h (Nat.le_refl _), hm.id, hm.src⟩⟩)
    (Below.refl _ _) ?round ?done ?stop
  case round => exact fun l k args X hk => absurd hk (by simp)
  case done =>
    rintro Dl X hD hkp hX
    have g5 := (hkp.block _ (lt_of_heap e5)).trans e5
    have g6 := (hkp.block _ (lt_of_heap e6)).trans e6
    have g7 := (hkp.block _ (lt_of_heap e7)).trans e7
    have hbX := hb4.trans (hkp.mono hb4.size)
    have hwD : w.heap.size ≤ Dl := Nat.le_trans hb4.size hD
    have l7 := lt_of_heap e7
    gi_wp2
    replace g5 : X.drew.heap[w2.heap.size + 1]? = _ := g5
    replace g6 : X.drew.heap[w.heap.size + 1]? = _ := g6
    replace g7 : X.drew.heap[w.heap.size + 1 + 1]? = _ := g7
    obtain ⟨c5, _, _⟩ := blk1 g5
    obtain ⟨q0, q1, q2, q3, _, _⟩ := blk4 g6
    refine wpIn_mono (Q := NoPanic _) ?_ NoPanic.imp
    gi_region_with_o (
      (refine ⟨trivial, callsIn_wide.2 ((count0 X.drew).mono ?_)⟩
       rintro e w5 ⟨rfl, hb5⟩
       have i5 := (hb5.block _ (lt_of_heap g5)).trans g5
       have i7 := (hb5.block _ (lt_of_heap g7)).trans g7
       have i8 : w5.heap[Dl]? = some (.deferred (some [])) := (hb5.block Dl (lt_of_heap hX)).trans hX
       have hb6 : Below w.heap.size w w5 := hbX.trans (below_undrew (hb5.mono hbX.size))
       obtain ⟨y0, _, _⟩ := blk1 i5
       obtain ⟨z0, z1, z2⟩ := blk1 i7))
    all_goals
      refine NoPanic.normal ?_
      gi_wp2
      have j7 := i7
      have hs8 : (w5.setCell ⟨w.heap.size + 1 + 1, 0, none⟩ (.bool true)).heap[w.heap.size + 1 + 1]? = some (.cells #[.bool true] 4) := by simp [World.setCell, Array.getElem?_modify, j7]
      have hne : Dl ≠ w.heap.size + 1 + 1 := fun e => by omega
      have hX9 : (w5.setCell ⟨w.heap.size + 1 + 1, 0, none⟩ (.bool true)).heap[Dl]? = some (.deferred (some [])) := (Below.heap_setCell _ _ _ _ hne).trans i8
      refine ⟨by simp, .inl ⟨_, _, rfl, run_takeDeferred hX9, ?_⟩⟩
      have hp := (World.putObj_heap_other (w := w5.setCell ⟨w.heap.size + 1 + 1, 0, none⟩ (.bool true)) (o := .deferred none) (Ne.symm hne)).trans hs8
      obtain ⟨v0, _, _⟩ := blk1 hp
      refine ⟨.bool true, by simp [results, Try.results52, go_sem, v0], rfl, ?_⟩
      exact (hb6.setCell (p := ⟨w.heap.size + 1 + 1, 0, none⟩) (by simp; omega) _).trans (below_put _ hwD hX9)
  case stop => intro _ _ _ _ h; exact h.elim
end Go.Proofs.Ytnkcgalbaeppmaa
