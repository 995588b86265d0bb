/- The disk's laws in plain Lean: what is kept, torn, rotten. No program. -/
import Derived.Test.YtkffgmhaiodagaaP0
namespace Go.Disk
open Go.RowKit Go.Own

/-- Nothing rots, nothing is worn, the power is on: last holds what was written last. -/
structure Kp (d : DS) (last : List (List UInt8)) : Prop where
  off : d.off = false
  left : d.left = -1
  w : ∀ x ∈ d.s, x.w = false
  eq : d.s.map (fun x => x.p.getD x.t) = last
theorem Kp.len {d : DS} {last : List (List UInt8)} (h : Kp d last) : last.length = d.s.length := by rw [← h.eq]; simp
theorem Kp.fresh (n : Nat) : Kp (fresh n) (List.replicate n zeros) := ⟨rfl, rfl, fun x hx => by rw [(List.mem_replicate.1 hx).2], by simp [Disk.fresh]⟩
theorem Kp.stepEq {d : DS} {last : List (List UInt8)} (h : Kp d last) : astep d = (0, d) := by
  unfold astep; rw [h.left]; simp
theorem Kp.flushEq {d : DS} {last : List (List UInt8)} (h : Kp d last) : aflush d = (0, { d with s := sall [] d.s }) := by
  unfold aflush; rw [h.stepEq]; simp [settleTo_sall, h.off]
theorem settle64 {x : Sec} (hw : x.w = false) (h1 : x.t.length = 64) (h2 : ∀ q, x.p = some q → q.length = 64) : settle1 64 x = { x with t := x.p.getD x.t, p := none } := by
  unfold settle1
  have e : clamp 64 = 64 := rfl
  have hl : (x.p.getD x.t).length = 64 := by
    cases hp : x.p with
    | none => exact h1
    | some q => exact h2 q hp
  simp only [hw, e, Bool.false_eq_true, if_false]
  rw [List.take_of_length_le (by omega), List.drop_of_length_le (by omega), List.append_nil]
theorem sall64 : ∀ {s : List Sec}, (∀ x ∈ s, x.w = false) → (∀ x ∈ s, x.t.length = 64) → (∀ x ∈ s, ∀ q, x.p = some q → q.length = 64) → sall [] s = s.map fun x => { x with t := x.p.getD x.t, p := none }
  | [], _, _, _ => rfl
  | x :: xs, hw, h1, h2 => by
    have ih := sall64 (s := xs) (fun y hy => hw y (List.mem_cons_of_mem _ hy)) (fun y hy => h1 y (List.mem_cons_of_mem _ hy)) (fun y hy => h2 y (List.mem_cons_of_mem _ hy))
    have hs := settle64 (hw x List.mem_cons_self) (h1 x List.mem_cons_self) (h2 x List.mem_cons_self)
    unfold sall
    by_cases hp : x.p.isSome = true
    · rw [if_pos hp]
      simp only [List.headD_nil, List.tail_nil, List.map_cons, hs, ih]
    · rw [if_neg hp]
      have e : x.p = none := by simpa using hp
      simp only [List.map_cons, ih]
      congr 1
      obtain ⟨t, p, w⟩ := x
      simp only at e
      simp [e]
theorem sall_none : ∀ {s : List Sec} (ps : List Int), (∀ x ∈ s, x.p = none) → sall ps s = s
  | [], _, _ => rfl
  | x :: xs, ps, h => by
    unfold sall
    rw [if_neg (by simp [h x List.mem_cons_self]), sall_none ps fun y hy => h y (List.mem_cons_of_mem _ hy)]
theorem Kp.flush {d : DS} {last : List (List UInt8)} (h : Kp d last) (ok : Ok d) :
    (aflush d).1 = 0 ∧ Kp (aflush d).2 last ∧ aimage (aflush d).2.s = last ∧ ∀ ps, (amount (aflush d).2 ps).s = (aflush d).2.s := by
  have e := h.flushEq
  have hs := sall64 h.w ok.t ok.p
  rw [e]
  refine ⟨rfl, ⟨h.off, h.left, ?_, ?_⟩, ?_, fun ps => ?_⟩
  · intro x hx
    rw [hs] at hx
    obtain ⟨y, hy, rfl⟩ := List.mem_map.1 hx
    exact h.w y hy
  · show (sall [] d.s).map _ = _
    rw [hs, List.map_map, ← h.eq]
    rfl
  · show aimage (sall [] d.s) = _
    unfold aimage
    rw [hs, List.map_map, ← h.eq]
    rfl
  · show settleTo ps (apend (sall [] d.s)) (sall [] d.s) = sall [] d.s
    rw [settleTo_sall]
    refine sall_none ps fun x hx => ?_
    rw [hs] at hx
    obtain ⟨y, hy, rfl⟩ := List.mem_map.1 hx
    rfl
theorem map_modify_set {α β : Type} (g : α → β) (f : α → α) (b : β) (hb : ∀ x, g (f x) = b) (l : List α) (i : Nat) : (l.modify i f).map g = (l.map g).set i b := by
  apply List.ext_getElem?
  intro j
  rw [List.getElem?_map, List.getElem?_modify, List.getElem?_set, List.length_map, List.getElem?_map]
  by_cases h : i = j
  · subst h
    by_cases hl : i < l.length
    · simp [hl, hb]
    · simp [hl]
  · simp [h]
theorem Kp.write {d : DS} {last : List (List UInt8)} (h : Kp d last) (i : Int) (b : List UInt8) :
    Kp (awrite d i b).2 (if (awrite d i b).1 = 0 then last.set i.toNat b else last) ∧ ((awrite d i b).1 = 0 → 0 ≤ i ∧ i < last.length) := by
  unfold awrite
  have hc : acheck d i = if inR d i then 0 else 1 := by simp [acheck, h.off]
  by_cases hi : inR d i = true
  · rw [hc, if_pos hi, if_neg (by decide)]
    by_cases hb : b.length = 64
    · rw [if_neg (by simp [hb]), h.stepEq, if_neg (by simp)]
      refine ⟨⟨h.off, h.left, ?_, ?_⟩, fun _ => ?_⟩
      · intro x hx
        obtain hx | ⟨y, hy, _, rfl⟩ := mem_modify hx
        · exact h.w _ hx
        · exact h.w y hy
      · show (d.s.modify i.toNat _).map _ = _
        rw [map_modify_set _ _ b (fun x => rfl), h.eq]
        rfl
      · rw [h.len]
        simp only [inR, Bool.and_eq_true, decide_eq_true_eq] at hi
        exact hi
    · rw [if_pos hb]
      exact ⟨h, fun h => by cases h⟩
  · rw [hc, if_neg hi, if_pos (by decide)]
    exact ⟨h, fun h => by cases h⟩
theorem Kp.ado {d : DS} {last : List (List UInt8)} (h : Kp d last) (ok : Ok d) (o : Op) (h6 : o.kind ≠ 6) (h7 : o.kind ≠ 7) (h4 : o.kind ≠ 4) (h5 : o.kind ≠ 5) :
    Kp (ado d o).2 (if o.kind = 1 ∧ (ado d o).1.2 = 0 then last.set o.i.toNat (opText o.text) else last) ∧ (o.kind = 1 → (ado d o).1.2 = 0 → 0 ≤ o.i ∧ o.i < last.length) := by
  unfold Disk.ado
  by_cases h1 : o.kind = 1
  · rw [if_pos h1]
    simp only [h1, true_and]
    exact ⟨(h.write o.i (opText o.text)).1, fun _ => (h.write o.i (opText o.text)).2⟩
  · simp only [h1, h4, h5, h6, h7, if_false, false_and]
    refine ⟨?_, fun h => h.elim⟩
    by_cases h2 : o.kind = 2
    · rw [if_pos h2]; exact h
    · rw [if_neg h2]
      by_cases h3 : o.kind = 3
      · rw [if_pos h3]; exact (h.flush ok).2.1
      · rw [if_neg h3]; exact h

/-! Rot. -/
theorem rotT_twice (b : Nat) (t : List UInt8) : rotT b (rotT b t) = t := by
  apply List.ext_getElem?
  intro j
  unfold rotT
  rw [List.getElem?_modify, List.getElem?_modify]
  by_cases h : b / 8 = j
  · cases t[j]? with
    | none => simp
    | some x => simp [h, UInt8.xor_assoc]
  · simp [h]
theorem arot_twice (d : DS) (i b : Int) : (arot (arot d i b).2 i b).2 = d ∧ (arot (arot d i b).2 i b).1 = (arot d i b).1 := by
  by_cases h : (inR d i && decide (0 ≤ b) && decide (b ≤ 511)) = true
  · have e : arot d i b = (0, upd d i fun x => { x with t := rotT b.toNat x.t }) := by unfold arot; rw [if_pos h]
    have hi : inR (upd d i fun x => { x with t := rotT b.toNat x.t }) i = inR d i := by simp [inR, upd]
    have e2 : arot (upd d i fun x => { x with t := rotT b.toNat x.t }) i b = (0, upd (upd d i fun x => { x with t := rotT b.toNat x.t }) i fun x => { x with t := rotT b.toNat x.t }) := by
      unfold arot; rw [hi, if_pos h]
    rw [e, e2]
    refine ⟨?_, rfl⟩
    unfold upd
    obtain ⟨s, off, left⟩ := d
    simp only [DS.mk.injEq, and_true]
    apply List.ext_getElem?
    intro j
    rw [List.getElem?_modify, List.getElem?_modify]
    by_cases h : i.toNat = j
    · cases s[j]? with
      | none => simp
      | some x => simp [h, rotT_twice]
    · simp [h]
  · have e : arot d i b = (1, d) := by unfold arot; rw [if_neg h]
    rw [e, e]
    exact ⟨rfl, rfl⟩
end Go.Disk
