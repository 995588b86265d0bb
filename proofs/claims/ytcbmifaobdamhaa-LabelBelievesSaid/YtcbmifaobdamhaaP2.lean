/- label: labels, in plain Lean. -/
import Derived.Test.YtcbmifaobdamhaaP1
import Derived.Test.YtcbmifaobdamhaaPp
namespace Go.Label
/-- a part -/
def prt (x s : Nat) : Bool := x &&& s == x
theorem prt_iff {x s : Nat} : prt x s = true ↔ ∀ k, x.testBit k = true → s.testBit k = true := by
  unfold prt
  rw [beq_iff_eq]
  constructor
  · intro h k hk
    have := congrArg (fun y => y.testBit k) h
    simp only [Nat.testBit_and, hk, Bool.true_and] at this
    exact this
  · intro h
    apply Nat.eq_of_testBit_eq
    intro k
    rw [Nat.testBit_and]
    cases hx : x.testBit k with
    | false => rfl
    | true => rw [h k hx]; rfl
/-- labels and nogoods -/
structure LS where
  lab : Nat → List Nat
  bad : List Nat
def upd (K s f : Nat) (l : List Nat) : List Nat := if K.testBit f && !(l.any fun x => prt x s) then l ++ [s] else l
def lstep (b : Lg) (S : LS) (s : Nat) : LS :=
  if S.bad.any (fun x => prt x s) then S else if badS b s then { S with bad := S.bad ++ [s] } else { S with lab := fun f => upd (fol b s) s f (S.lab f) }
def lfold (b : Lg) (l : List Nat) : LS := l.foldl (lstep b) ⟨fun _ => [], []⟩
theorem lfold_snoc (b : Lg) (l : List Nat) (s : Nat) : lfold b (l ++ [s]) = lstep b (lfold b l) s := by unfold lfold; rw [List.foldl_append]; rfl
theorem upd_len (K s f : Nat) (l : List Nat) : (upd K s f l).length ≤ l.length + 1 := by
  unfold upd
  split
  · simp
  · omega
theorem lstep_len (b : Lg) (S : LS) (s : Nat) (n : Nat) (h1 : ∀ f, (S.lab f).length ≤ n) (h2 : S.bad.length ≤ n) : (∀ f, ((lstep b S s).lab f).length ≤ n + 1) ∧ (lstep b S s).bad.length ≤ n + 1 := by
  unfold lstep
  split
  · exact ⟨fun f => by have := h1 f; omega, by omega⟩
  · split
    · exact ⟨fun f => by have := h1 f; show (S.lab f).length ≤ _; omega, by show (S.bad ++ [s]).length ≤ _; simp; omega⟩
    · exact ⟨fun f => by have := h1 f; have := upd_len (fol b s) s f (S.lab f); show (upd (fol b s) s f (S.lab f)).length ≤ _; omega, by show S.bad.length ≤ _; omega⟩
theorem lfold_len (b : Lg) (l : List Nat) : (∀ f, ((lfold b l).lab f).length ≤ l.length) ∧ (lfold b l).bad.length ≤ l.length := by
  have aux : ∀ r : List Nat, (∀ f, ((lfold b r.reverse).lab f).length ≤ r.length) ∧ (lfold b r.reverse).bad.length ≤ r.length := fun r => by
    induction r with
    | nil => exact ⟨fun f => Nat.le_refl _, Nat.le_refl _⟩
    | cons s r ih =>
      rw [List.reverse_cons, lfold_snoc, List.length_cons]
      exact lstep_len b _ s _ ih.1 ih.2
  have := aux l.reverse
  rwa [List.reverse_reverse, List.length_reverse] at this
end Go.Label
namespace Go.Label
theorem lfold_mem (b : Lg) (l : List Nat) : (∀ f t, t ∈ (lfold b l).lab f → t ∈ l) ∧ (∀ t, t ∈ (lfold b l).bad → t ∈ l) := by
  have aux : ∀ r : List Nat, (∀ f t, t ∈ (lfold b r.reverse).lab f → t ∈ r) ∧ (∀ t, t ∈ (lfold b r.reverse).bad → t ∈ r) := fun r => by
    induction r with
    | nil => exact ⟨(fun f t h => by cases h), (fun t h => by cases h)⟩
    | cons s r ih =>
      rw [List.reverse_cons, lfold_snoc]
      unfold lstep
      split
      · exact ⟨fun f t h => List.mem_cons_of_mem _ (ih.1 f t h), fun t h => List.mem_cons_of_mem _ (ih.2 t h)⟩
      · split
        · refine ⟨fun f t h => List.mem_cons_of_mem _ (ih.1 f t h), fun t h => ?_⟩
          rcases List.mem_append.1 h with h | h
          · exact List.mem_cons_of_mem _ (ih.2 t h)
          · rw [List.mem_singleton] at h; subst h; exact List.mem_cons_self
        · refine ⟨fun f t h => ?_, fun t h => List.mem_cons_of_mem _ (ih.2 t h)⟩
          have h' : t ∈ upd (fol b s) s f ((lfold b r.reverse).lab f) := h
          unfold upd at h'
          split at h'
          · rcases List.mem_append.1 h' with h' | h'
            · exact List.mem_cons_of_mem _ (ih.1 f t h')
            · rw [List.mem_singleton] at h'; subst h'; exact List.mem_cons_self
          · exact List.mem_cons_of_mem _ (ih.1 f t h')
  have h := aux l.reverse
  rw [List.reverse_reverse] at h
  exact ⟨fun f t ht => List.mem_reverse.1 (h.1 f t ht), fun t ht => List.mem_reverse.1 (h.2 t ht)⟩
end Go.Label
