/- A disk as plain data; what each operation does to it. No program. -/
import Derived.Test.YtkffgmhaiodagaaOw
namespace Go.Disk
open Go.RowKit Go.Own

/-- A sector: its text, what is pending, whether it is worn. -/
structure Sec where
  t : List UInt8
  p : Option (List UInt8)
  w : Bool
deriving DecidableEq, Inhabited
structure DS where
  s : List Sec
  off : Bool
  left : Int
deriving DecidableEq
def zeros : List UInt8 := List.replicate 64 0
def fresh (n : Nat) : DS := { s := List.replicate n { t := zeros, p := none, w := false }, off := false, left := -1 }
def inR (d : DS) (i : Int) : Bool := decide (0 ≤ i) && decide (i < d.s.length)
def sec (d : DS) (i : Int) : Sec := d.s.getD i.toNat default
def acheck (d : DS) (i : Int) : Int := if d.off then 25 else if inR d i then 0 else 1
def astep (d : DS) : Int × DS := if d.left = 0 then (25, { d with off := true }) else if 0 < d.left then (0, { d with left := d.left - 1 }) else (0, d)
def upd (d : DS) (i : Int) (f : Sec → Sec) : DS := { d with s := d.s.modify i.toNat f }
def aread (d : DS) (i : Int) : List UInt8 × Int := if acheck d i ≠ 0 then ([], acheck d i) else ((sec d i).p.getD (sec d i).t, 0)
def awrite (d : DS) (i : Int) (b : List UInt8) : Int × DS :=
  if acheck d i ≠ 0 then (acheck d i, d) else if b.length ≠ 64 then (1, d) else if (astep d).1 ≠ 0 then astep d else (0, upd (astep d).2 i fun x => { x with p := some b })
def clamp (p : Int) : Nat := (max 0 (min p 64)).toNat
def settle1 (p : Int) (x : Sec) : Sec := { x with t := if x.w then x.t else (x.p.getD x.t).take (clamp p) ++ x.t.drop (clamp p), p := none }
def apend (s : List Sec) : List Nat := (List.range s.length).filter fun i => (s.getD i default).p.isSome
def aworn (s : List Sec) : List Nat := (List.range s.length).filter fun i => (s.getD i default).w
def settleTo : List Int → List Nat → List Sec → List Sec
  | _, [], s => s
  | ps, i :: L, s => settleTo ps.tail L (s.modify i (settle1 (ps.headD 64)))
def aflush (d : DS) : Int × DS := if d.off then (25, d) else if (astep d).1 ≠ 0 then astep d else (0, { (astep d).2 with s := settleTo [] (apend d.s) d.s })
def atrip (d : DS) (n : Int) : DS := { d with left := max (-1) n }
def amount (d : DS) (ps : List Int) : DS := { s := settleTo ps (apend d.s) d.s, off := false, left := -1 }
def rotT (bit : Nat) (t : List UInt8) : List UInt8 := t.modify (bit / 8) fun b => b ^^^ (1 <<< (UInt8.ofNat (bit % 8)))
def arot (d : DS) (i bit : Int) : Int × DS := if inR d i && decide (0 ≤ bit) && decide (bit ≤ 511) then (0, upd d i fun x => { x with t := rotT bit.toNat x.t }) else (1, d)
def awear (d : DS) (i : Int) : Int × DS := if inR d i then (0, upd d i fun x => { x with w := true }) else (1, d)
def aimage (s : List Sec) : List (List UInt8) := s.map (·.t)

/-- All texts have 64 bytes; there is a sector. -/
structure Ok (d : DS) : Prop where
  t : ∀ x ∈ d.s, x.t.length = 64
  p : ∀ x ∈ d.s, ∀ q, x.p = some q → q.length = 64
  pos : 1 ≤ d.s.length
  most : d.s.length ≤ 4096
  left : -1 ≤ d.left ∧ d.left ≤ 9223372036854775807

def flat (s : List Sec) : List Value := s.flatMap fun x => x.t.map byv
def bval (b : List UInt8) : Value := .agg (b.map byv).toArray

theorem flat_length {s : List Sec} (h : ∀ x ∈ s, x.t.length = 64) : (flat s).length = s.length * 64 := by
  induction s with
  | nil => rfl
  | cons x s ih =>
    have := ih fun y hy => h y (List.mem_cons_of_mem _ hy)
    have hx := h x List.mem_cons_self
    simp only [flat, List.flatMap_cons, List.length_append, List.length_map, List.length_cons] at this ⊢
    omega
theorem flat_at {s : List Sec} (h : ∀ x ∈ s, x.t.length = 64) {i : Nat} (hi : i < s.length) : ((flat s).drop (i * 64)).take 64 = (s.getD i default).t.map byv := by
  induction s generalizing i with
  | nil => simp at hi
  | cons x s ih =>
    have hx := h x List.mem_cons_self
    have hs := fun y hy => h y (List.mem_cons_of_mem _ hy)
    have e : flat (x :: s) = x.t.map byv ++ flat s := rfl
    cases i with
    | zero => rw [e]; simp [List.take_append, hx]
    | succ i =>
      have h1 : (i + 1) * 64 = (x.t.map byv).length + i * 64 := by simp [hx]; omega
      rw [e, h1, List.drop_length_add_append, ih hs (by simpa using hi)]
      rfl
theorem flat_modify {s : List Sec} (h : ∀ x ∈ s, x.t.length = 64) {i : Nat} (hi : i < s.length) (f : Sec → Sec) (hf : (f (s.getD i default)).t.length = 64) :
    flat (s.modify i f) = (flat s).take (i * 64) ++ (f (s.getD i default)).t.map byv ++ (flat s).drop (i * 64 + 64) := by
  induction s generalizing i with
  | nil => simp at hi
  | cons x s ih =>
    have hx := h x List.mem_cons_self
    have hs := fun y hy => h y (List.mem_cons_of_mem _ hy)
    have e : ∀ y, flat (y :: s) = y.t.map byv ++ flat s := fun _ => rfl
    cases i with
    | zero => simp [e, List.drop_append, hx]
    | succ i =>
      have hl : (x.t.map byv).length = 64 := by simp [hx]
      have h1 : (i + 1) * 64 = (x.t.map byv).length + i * 64 := by omega
      have h2 : (i + 1) * 64 + 64 = (x.t.map byv).length + (i * 64 + 64) := by omega
      have e2 : flat ((x :: s).modify (i + 1) f) = x.t.map byv ++ flat (s.modify i f) := rfl
      rw [e2, ih hs (by simpa using hi) (by simpa using hf), e, h2, List.drop_length_add_append, h1, List.take_length_add_append]
      simp
def flatS (s : List Sec) (sp : List Value) : List Value := flat s ++ sp
theorem flatS_length {s : List Sec} {sp : List Value} (h : ∀ x ∈ s, x.t.length = 64) : (flatS s sp).length = s.length * 64 + sp.length := by
  unfold flatS; rw [List.length_append, flat_length h]
theorem flatS_at {s : List Sec} {sp : List Value} (h : ∀ x ∈ s, x.t.length = 64) {i : Nat} (hi : i < s.length) : ((flatS s sp).drop (i * 64)).take 64 = (s.getD i default).t.map byv := by
  have hl := flat_length h
  unfold flatS
  rw [List.drop_append_of_le_length (by omega), List.take_append_of_le_length (by rw [List.length_drop]; omega), flat_at h hi]
theorem flatS_modify {s : List Sec} {sp : List Value} (h : ∀ x ∈ s, x.t.length = 64) {i : Nat} (hi : i < s.length) (f : Sec → Sec) (hf : (f (s.getD i default)).t.length = 64) :
    flatS (s.modify i f) sp = (flatS s sp).take (i * 64) ++ (f (s.getD i default)).t.map byv ++ (flatS s sp).drop (i * 64 + 64) := by
  have hl := flat_length h
  unfold flatS
  rw [flat_modify h hi f hf, List.take_append_of_le_length (by omega), List.drop_append_of_le_length (by omega)]
  simp
theorem sec_mem {d : DS} {i : Int} (h : inR d i = true) : sec d i ∈ d.s ∧ i.toNat < d.s.length ∧ 0 ≤ i ∧ d.s.getD i.toNat default = sec d i := by
  simp only [inR, Bool.and_eq_true, decide_eq_true_eq] at h
  have hi : i.toNat < d.s.length := by omega
  exact ⟨by unfold sec; rw [List.getD_eq_getElem?_getD, List.getElem?_eq_getElem hi]; exact List.getElem_mem hi, hi, h.1, rfl⟩
theorem mem_modify {α : Type} {s : List α} {i : Nat} {f : α → α} {y : α} (h : y ∈ s.modify i f) : y ∈ s ∨ ∃ x ∈ s, s[i]? = some x ∧ y = f x := by
  obtain ⟨j, hj⟩ := List.mem_iff_getElem?.1 h
  rw [List.getElem?_modify] at hj
  by_cases hij : i = j
  · subst hij
    cases hx : s[i]? with
    | none => rw [hx] at hj; simp at hj
    | some x =>
      rw [hx] at hj
      simp at hj
      exact .inr ⟨x, List.mem_of_getElem? hx, rfl, hj.symm⟩
  · simp [hij] at hj
    exact .inl (List.mem_of_getElem? hj)
theorem Ok.upd {d : DS} (h : Ok d) (i : Int) (f : Sec → Sec) (hf : ∀ x, x.t.length = 64 → (∀ q, x.p = some q → q.length = 64) → (f x).t.length = 64 ∧ ∀ q, (f x).p = some q → q.length = 64) : Ok (upd d i f) where
  t := fun y hy => by
    obtain hy | ⟨x, hx, _, rfl⟩ := mem_modify hy
    · exact h.t y hy
    · exact (hf x (h.t x hx) (h.p x hx)).1
  p := fun y hy => by
    obtain hy | ⟨x, hx, _, rfl⟩ := mem_modify hy
    · exact h.p y hy
    · exact (hf x (h.t x hx) (h.p x hx)).2
  pos := by simpa [Disk.upd] using h.pos
  most := by simpa [Disk.upd] using h.most
  left := h.left
theorem astep_s (d : DS) : (astep d).2.s = d.s := by
  unfold astep
  split
  · rfl
  · split <;> rfl
theorem Ok.step {d : DS} (h : Ok d) : Ok (astep d).2 where
  t := by rw [astep_s]; exact h.t
  p := by rw [astep_s]; exact h.p
  pos := by rw [astep_s]; exact h.pos
  most := by rw [astep_s]; exact h.most
  left := by
    have := h.left
    unfold astep
    split
    · exact this
    split
    · simp only; omega
    · exact this
theorem settle1_len (p : Int) (x : Sec) (h1 : x.t.length = 64) (h2 : ∀ q, x.p = some q → q.length = 64) : (settle1 p x).t.length = 64 ∧ ∀ q, (settle1 p x).p = some q → q.length = 64 := by
  refine ⟨?_, fun q hq => by simp [settle1] at hq⟩
  unfold settle1
  dsimp only
  split
  · exact h1
  · have hp : (x.p.getD x.t).length = 64 := by
      cases e : x.p with
      | none => exact h1
      | some q => exact h2 q e
    have hc : clamp p ≤ 64 := by unfold clamp; omega
    simp [hp, h1]; omega
end Go.Disk
