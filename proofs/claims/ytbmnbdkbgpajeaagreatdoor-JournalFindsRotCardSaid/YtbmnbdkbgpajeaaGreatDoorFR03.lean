/- A region that draws its order, walked once in the order of the text: each operation comes up in some world that grew out of the first one (relation Ext); a quiet one has one value in all of them; of another one a stable fact is kept. Guards are followed. Then a tail in one forced order, or none. -/
import Derived.Test.YtbmnbdkbgpajeaaGreatDoorFR02
/- A region that draws its order, walked once in the order of the text: each operation comes up in some world that grew out of the first one (relation Ext); a quiet one has one value in all of them; of another one a stable fact is kept. Guards are followed. Then a tail in one forced order, or none. -/
section
namespace Go.Own
open Go.RowKit

/-- Operations whose run ends in a value and enters no function. -/
def plainOp : Op → Bool
  | .move _ | .assign _ | .nilCheck _ | .pick .. | .alloc _ | .box .. | .build .. | .buildSlice .. | .load .. | .binOp .. | .unOp .. | .convert .. | .sliceToArrayPointer .. | .makeInterface .. | .makeFunc .. | .slice .. | .fieldAddr .. | .field .. | .indexAddr .. | .index .. | .lookup .. | .extract .. => true
  | .call { callee := .builtin .len, .. } | .call { callee := .builtin .cap, .. } | .call { callee := .builtin .min, .. } | .call { callee := .builtin .max, .. } => true
  | _ => false

theorem bind_value {P : Program} {s : Sem Value} {w w' : World} {nx : Next} (h : (do pure (Next.value (← s)) : Sem Next).run P w = .ok nx w') : ∃ u, nx = .value u := by
  rw [Sem.run_bind] at h
  cases hs : s.run P w with
  | halt x w1 => rw [hs] at h; cases h
  | ok v w1 =>
    rw [hs] at h
    have h' : Result.ok (Next.value v) w1 = .ok nx w' := h
    injection h' with h1 h2
    exact ⟨v, h1.symm⟩

theorem pure_value {P : Program} {α : Type} {s : Sem α} {u : Value} {w w' : World} {nx : Next} (h : (s >>= fun _ => pure (Next.value u) : Sem Next).run P w = .ok nx w') : ∃ u, nx = .value u := by
  rw [Sem.run_bind] at h
  cases hs : s.run P w with
  | halt x w1 => rw [hs] at h; cases h
  | ok v w1 =>
    rw [hs] at h
    have h' : Result.ok (Next.value u) w1 = .ok nx w' := h
    injection h' with h1 h2
    exact ⟨u, h1.symm⟩
theorem ok_value {u : Value} {w w' : World} {nx : Next} (h : Result.ok (Next.value u) w = .ok nx w') : ∃ u, nx = .value u := by
  injection h with h1 h2
  exact ⟨u, h1.symm⟩
theorem plain_value {P : Program} {ρ : Operand → Value} {o : Oper} (hp : plainOp o.op = true) {w w' : World} {nx : Next} (h : (execOp ρ o).run P w = .ok nx w') : ∃ u, nx = .value u := by
  obtain ⟨dst, op, type, pos, after, guard⟩ := o
  cases op <;> simp only [plainOp] at hp <;> first | (cases hp; done) | skip
  case move x => simp only [execOp] at h; exact ⟨_, by injection h with h1 _; exact h1.symm⟩
  case assign x => simp only [execOp] at h; exact ⟨_, by injection h with h1 _; exact h1.symm⟩
  case nilCheck x =>
    unfold execOp at h
    dsimp only at h
    repeat' split at h
    all_goals first | exact ok_value h | (cases h; done) | skip
    all_goals
      rw [Sem.run_bind] at h
      cases hs : Sem.run P program w with
      | halt x w1 => rw [hs] at h; cases h
      | ok v w1 =>
        rw [hs] at h
        simp only [Result.andThen, Sem.run_bind] at h
        repeat' split at h
        all_goals first | exact ok_value h | (cases h; done) | skip
  case pick c a b =>
    simp only [execOp] at h
    rw [Sem.run_bind] at h
    cases hs : (asBool (ρ c)).run P w with
    | halt x w1 => rw [hs] at h; cases h
    | ok v w1 =>
      rw [hs] at h
      have h' : Result.ok (Next.value (if v then ρ a else ρ b)) w1 = .ok nx w' := h
      injection h' with h1 _
      exact ⟨_, h1.symm⟩
  case call c =>
    obtain ⟨callee, args, types⟩ := c
    cases callee with
    | value f => cases hp
    | invoke r m => cases hp
    | builtin b =>
      have h' : (builtin b types type (args.map fun | .const _ => true | _ => false) (args.map ρ)).run P w = .ok nx w' := h
      cases b <;> first | (cases hp; done) | exact bind_value h'
  all_goals exact bind_value h

section
variable {P : Program}

theorem quietAt_plain {o : Oper} {a : Act} {C : World → Prop} {w : World} {v : Value} (hp : plainOp o.op = true) (h : o.quietAt P a C w v) : (execOp a.eval o).run P w = .ok (.value v) w := by
  unfold Oper.quietAt at h
  cases hr : (execOp a.eval o).run P w with
  | halt x w1 => rw [hr] at h; exact h.elim
  | ok nx w1 =>
    obtain ⟨u, rfl⟩ := plain_value hp hr
    rw [hr] at h
    obtain ⟨rfl, rfl⟩ : w1 = w ∧ u = v := h
    rfl

/-- What an operation yields, with no frame in sight. -/
def Yields (P : Program) (o : Oper) (ρ : Operand → Value) (w : World) (R : Value → World → Prop) : Prop :=
  match (execOp ρ o).run P w with
  | .ok (.value v) w' => R v w'
  | .ok .skip w' => R undef w'
  | .ok (.enter f args) w' => Calls P f args w' (fun e w'' => ∃ v, e = .returned v ∧ R v w'')
  | .ok (.row row args) w' => Rows P row args w' R
  | _ => False

theorem wp_of_yields {o : Oper} {a : Act} {w : World} {R : Value → World → Prop} {K : Act → World → Prop} {Q : Exit → Act → World → Prop} (h : Yields P o a.eval w R) (hK : ∀ v w', R v w' → K (a.put o.dst v) w') : o.wp P a w K Q := by
  unfold Yields at h
  unfold Oper.wp
  cases hr : (execOp a.eval o).run P w with
  | halt x w1 => rw [hr] at h; exact h.elim
  | ok nx w1 =>
    rw [hr] at h
    cases nx <;> first | exact h.elim | skip
    case value u => exact hK _ _ h
    case skip => exact hK _ _ h
    case enter f args =>
      refine Calls.mono h ?_
      rintro e w'' ⟨v, rfl, hR⟩
      exact hK _ _ hR
    case row r args => exact Rows.mono h hK

theorem Calls.some {f : FuncId} {args : Array Value} {w : World} {R : Ending → World → Prop} (h : Calls P f args w R) : ∃ e w', R e w' := by
  obtain ⟨e, w', _, hR, _⟩ := h []
  exact ⟨e, w', hR⟩

theorem Yields.some {o : Oper} {ρ : Operand → Value} {w : World} {R : Value → World → Prop} (h : Yields P o ρ w R) : ∃ v w', R v w' := by
  unfold Yields at h
  cases hr : (execOp ρ o).run P w with
  | halt x w1 => rw [hr] at h; exact h.elim
  | ok nx w1 =>
    rw [hr] at h
    cases nx <;> first | exact h.elim | skip
    case value u => exact ⟨_, _, h⟩
    case skip => exact ⟨_, _, h⟩
    case enter f args =>
      obtain ⟨e, w', v, _, hR⟩ := Go.Own.Calls.some h
      exact ⟨v, w', hR⟩
    case row r args =>
      obtain ⟨v, w', hR, _⟩ := h (default : Frame) []
      exact ⟨v, w', hR⟩

/-- What the walk of one operation shows. -/
theorem yields_of_wpList {ops : Array Oper} {o : Oper} {a : Act} {w : World} {R : Value → World → Prop} {d : Tmp} (hw : Region.wanted o (yielded ops a.tmps) = true) (hd : o.dst = some d) (hlt : d < a.tmps.size)
    (h : wpList P ops (fun e a' w' => e = .normal ∧ a'.defers = a.defers ∧ R (a'.tmps.getD d undef) w') [o] a w) : Yields P o a.eval w R := by
  unfold wpList at h
  rw [if_pos hw] at h
  have hat : ∀ v, (a.put o.dst v).tmps.getD d undef = v := fun v => by rw [hd, put_getD _ _ _ _ hlt, if_pos rfl]
  rcases h with h | ⟨_, _, _, h, _⟩
  · unfold Oper.wp at h
    unfold Yields
    cases hr : (execOp a.eval o).run P w with
    | halt x w1 =>
      rw [hr] at h
      cases x <;> first | exact h.elim | (obtain ⟨h, _⟩ := h; cases h)
    | ok nx w1 =>
      rw [hr] at h
      cases nx <;> first | exact h.elim | skip
      case value u => have := h.2.2; rwa [hat] at this
      case skip => have := h.2.2; rwa [hat] at this
      case enter f args =>
        refine Calls.mono h ?_
        intro e w'' h
        cases e with
        | returned v => have := h.2.2; rw [hat] at this; exact ⟨v, rfl, this⟩
        | panicked c => exact absurd h.1 (by intro h; cases h)
        | outgrown => obtain ⟨_, _, h, _⟩ := h; cases h
      case row r args => exact Rows.mono h fun v w' h => by have := h.2.2; rwa [hat] at this
      case defer dd =>
        have h2 : ({ a with defers := dd :: a.defers }.put o.dst undef).defers = a.defers := h.2.1
        rw [put_defers] at h2
        exact absurd h2 (by simp)
  · cases h
end

/-! ### Who waits for whom -/
/-- The ancestors of operations 0 .. k - 1. -/
def ancL (l : List Oper) : Nat → List (List Nat)
  | 0 => []
  | k + 1 =>
    let prev := ancL l k
    prev ++ [(List.range k).filter fun j => (match l[k]? with | some o => waitsB o j | none => false) || (List.range k).any fun m => (match l[k]? with | some o => waitsB o m | none => false) && (prev.getD m []).contains j]
def ancB (l : List Oper) (k j : Nat) : Bool := ((ancL l (k + 1)).getD k []).contains j

theorem ancL_length (l : List Oper) : ∀ k, (ancL l k).length = k
  | 0 => rfl
  | k + 1 => by simp [ancL, ancL_length l k]
theorem ancL_get (l : List Oper) (k m : Nat) (h : m < k) : (ancL l k).getD m [] = (ancL l (m + 1)).getD m [] := by
  induction k with
  | zero => omega
  | succ k ih =>
    by_cases hm : m = k
    · subst hm; rfl
    · rw [← ih (by omega)]
      simp only [ancL, List.getD_eq_getElem?_getD]
      rw [List.getElem?_append_left (by rw [ancL_length]; omega)]
theorem ancB_iff (l : List Oper) (k j : Nat) : ancB l k j = true ↔ j < k ∧ ∃ o, l[k]? = some o ∧ (waitsB o j = true ∨ ∃ m, m < k ∧ waitsB o m = true ∧ ancB l m j = true) := by
  have e : (ancL l (k + 1)).getD k [] = (List.range k).filter fun j => (match l[k]? with | some o => waitsB o j | none => false) || (List.range k).any fun m => (match l[k]? with | some o => waitsB o m | none => false) && ((ancL l k).getD m []).contains j := by
    simp only [ancL, List.getD_eq_getElem?_getD]
    rw [List.getElem?_append_right (by rw [ancL_length]; omega), ancL_length]
    simp
  unfold ancB
  rw [e, List.contains_iff_mem, List.mem_filter, List.mem_range]
  cases ho : l[k]? with
  | none => simp
  | some o =>
    simp only [Bool.or_eq_true, List.any_eq_true, List.mem_range, Bool.and_eq_true, Option.some.injEq, exists_eq_left']
    constructor
    · rintro ⟨h1, h2 | ⟨m, h2, h3, h4⟩⟩
      · exact ⟨h1, .inl h2⟩
      · exact ⟨h1, .inr ⟨m, h2, h3, by rw [← ancL_get l k m h2]; exact h4⟩⟩
    · rintro ⟨h1, h2 | ⟨m, h2, h3, h4⟩⟩
      · exact ⟨h1, .inl h2⟩
      · exact ⟨h1, .inr ⟨m, h2, h3, by rw [ancL_get l k m h2]; exact h4⟩⟩
theorem ancB_lt {l : List Oper} {k j : Nat} (h : ancB l k j = true) : j < k := ((ancB_iff l k j).1 h).1

/-- A set that holds with each operation those it waits for holds its ancestors. -/
theorem anc_in {l : List Oper} (L : Nat → Prop) (hcl : ∀ m o, L m → l[m]? = some o → ∀ j, waitsB o j = true → L j) : ∀ (k j : Nat), (∀ o, l[k]? = some o → ∀ j, waitsB o j = true → L j) → ancB l k j = true → L j := by
  intro k
  induction k using Nat.strongRecOn with
  | _ k ih =>
    intro j hk hj
    obtain ⟨hlt, o, ho, h1 | ⟨m, hm, h2, h3⟩⟩ := (ancB_iff l k j).1 hj
    · exact hk o ho j h1
    · exact ih m hm j (fun o' ho' j' hj' => hcl m o' (hk o ho m h2) ho' j' hj') h3

/-- Every operation of the head looks only at slots that no operation of the head writes, or that one of its ancestors writes. -/
def looksB (l : List Oper) (n : Nat) : Bool := (List.range n).all fun k => match l[k]? with
  | some o => (o.looksAt l.toArray).all fun t => (List.range n).all fun j => match l[j]? with
    | some o' => o'.dst != some t || ancB l k j
    | none => true
  | none => true
/-- The temporaries that the first n operations write: each by one alone. -/
def dsts2B (l : List Oper) (n N : Nat) : Bool := (List.range n).all fun i => match l[i]? with
  | some o => (match o.dst with | some d => decide (d < N) | none => false) && (List.range n).all fun j => i == j || (match l[j]? with | some o' => o'.dst != o.dst | none => true)
  | none => false
def plainB (l : List Oper) (n : Nat) (ps : List Nat) : Bool := (List.range n).all fun i => ps.contains i || (match l[i]? with | some o => plainOp o.op | none => false)
/-- The closed facts on a region, in one Bool. -/
def sqB (l : List Oper) (n N : Nat) (ps : List Nat) : Bool :=
  Region.noSelect l.toArray && edgesB l.toArray && dsts2B l n N && looksB l n && plainB l n ps &&
  ((n == l.length) || (Region.sinkB .any l.toArray n && Region.chainB .any l.toArray n && decide (n < l.length) && Region.seqB .any l.toArray (l.length - n) n ((List.replicate n true ++ List.replicate (l.length - n) false).toArray)))
end Go.Own
namespace Go.Own
section
variable {P : Program} {l : List Oper} {n N : Nat} {ps : List Nat} {Ext : World → World → Prop} {w0 : World} {Post : Nat → Value → World → Prop}

/-- The walk in the order of the text. -/
def SqW (P : Program) (l : List Oper) (ps : List Nat) (Ext : World → World → Prop) (w0 : World) (Post : Nat → Value → World → Prop) (Fin : Act → Prop) : Nat → List Oper → Act → Prop
  | _, [], a => Fin a
  | k, o :: r, a =>
    if Region.wanted o (yielded l.toArray a.tmps) = true then
      if ps.contains k = true then
        (∀ w1, Ext w0 w1 → (∀ j d, ancB l k j = true → ps.contains j = true → (l[j]?).bind (·.dst) = some d → (∀ o', l[j]? = some o' → Region.wanted o' (yielded l.toArray a.tmps) = true) → Post j (a.tmps.getD d undef) w1) →
          Yields P o a.eval w1 (fun v w' => Post k v w' ∧ Ext w1 w')) ∧
        (∀ v w, Post k v w → SqW P l ps Ext w0 Post Fin (k + 1) r (a.put o.dst v))
      else ∃ v, (∀ w1, Ext w0 w1 → (execOp a.eval o).run P w1 = .ok (.value v) w1) ∧ SqW P l ps Ext w0 Post Fin (k + 1) r (a.put o.dst v)
    else SqW P l ps Ext w0 Post Fin (k + 1) r (a.put o.dst undef)

/-- The static facts. -/
structure SqF (l : List Oper) (n N : Nat) : Prop where
  sel : ∀ (j : Nat) (o : Oper) cs b, l[j]? = some o → o.op ≠ .select cs b
  edges : ∀ (i : Nat) (o : Oper), l[i]? = some o → ∀ j, waitsB o j = true → j < i
  dst : ∀ i, i < n → ∃ o d, l[i]? = some o ∧ o.dst = some d ∧ d < N ∧ ∀ j o', j < n → l[j]? = some o' → i ≠ j → o'.dst ≠ some d
  looks : ∀ k, k < n → ∀ o, l[k]? = some o → ∀ t, t ∈ o.looksAt l.toArray → ∀ j, j < n → ∀ o', l[j]? = some o' → o'.dst = some t → ancB l k j = true

theorem wanted_same {ops : Array Oper} {o : Oper} {b b' : Act} (hs : b.tmps.size = b'.tmps.size) (h : ∀ t, t ∈ o.looksAt ops → b.tmps.getD t undef = b'.tmps.getD t undef) :
    Region.wanted o (yielded ops b.tmps) = Region.wanted o (yielded ops b'.tmps) := by
  unfold Region.wanted
  cases hg : o.guard with
  | none => rfl
  | some gb =>
    obtain ⟨g, bb⟩ := gb
    have e : yielded ops b.tmps g = yielded ops b'.tmps g := by
      unfold yielded
      cases hd : (ops[g]?).bind (·.dst) with
      | none => rfl
      | some d =>
        have h1 := h d (List.mem_append_right _ (by simp [hg, hd]))
        simp only [Option.bind_some]
        have h2 : b.tmps[d]? = b'.tmps[d]? := by
          by_cases hlt : d < b.tmps.size
          · have hlt' : d < b'.tmps.size := hs ▸ hlt
            simp [Array.getD, hlt, hlt'] at h1
            simp [hlt, hlt', h1]
          · have hlt' : ¬ d < b'.tmps.size := hs ▸ hlt
            simp [hlt, hlt']
        rw [h2]
    simp only [e]
theorem exec_same {ops : Array Oper} {o : Oper} {b b' : Act} (hsel : ∀ cs b, o.op ≠ .select cs b) (h : ∀ t, t ∈ o.looksAt ops → b.tmps.getD t undef = b'.tmps.getD t undef) : execOp b.eval o = execOp b'.eval o := by
  refine execOp_congr o hsel fun x hx => ?_
  cases x with
  | tmp t => exact h t (List.mem_append_left _ (List.mem_filterMap.2 ⟨.tmp t, by simpa using hx, rfl⟩))
  | _ => rfl

theorem putAll_congr (l : List Oper) (a0 : Act) {u u' : Nat → Value} : ∀ k, (∀ i, i < k → u i = u' i) → putAll l a0 u k = putAll l a0 u' k
  | 0, _ => rfl
  | k + 1, h => by rw [putAll, putAll, putAll_congr l a0 k fun i hi => h i (by omega), h k (by omega)]

/-- A slot of the walk's frame. -/
theorem slot_at (F : SqF l n N) {a0 : Act} (hN : a0.tmps.size = N) (u : Nat → Value) {k j : Nat} (hk : k ≤ n) (hj : j < k) {o : Oper} {d : Tmp} (ho : l[j]? = some o) (hd : o.dst = some d) : (putAll l a0 u k).tmps.getD d undef = u j := by
  obtain ⟨o', d', ho', hd', hdN, hu⟩ := F.dst j (by omega)
  obtain rfl : o = o' := Option.some.inj (ho.symm.trans ho')
  obtain rfl : d = d' := Option.some.inj (hd.symm.trans hd')
  exact putAll_at l a0 u j d (by rw [hN]; exact hdN) o ho hd k hj fun i oi hi hoi hne => hu i oi (by omega) hoi hne
theorem slot_other {a0 : Act} (u : Nat → Value) {k : Nat} {t : Tmp} (h : ∀ i o, i < k → l[i]? = some o → o.dst ≠ some t) : (putAll l a0 u k).tmps.getD t undef = a0.tmps.getD t undef := by
  by_cases ht : t < a0.tmps.size
  · exact putAll_other l a0 u t ht k h
  · have h1 : ¬ t < (putAll l a0 u k).tmps.size := by rw [putAll_size]; exact ht
    simp [Array.getD, ht, h1]

/-- A frame in which some operations have come up, held against the walk's frame, at what operation k looks at. -/
theorem agree_at (F : SqF l n N) {a0 b : Act} (hN : a0.tmps.size = N) {u : Nat → Value} {k m : Nat} (hk : k < n) (hkm : k ≤ m) (hm : m ≤ n) {o : Oper} (ho : l[k]? = some o)
    (hother : ∀ t, (∀ i o, i < n → l[i]? = some o → o.dst ≠ some t) → b.tmps.getD t undef = a0.tmps.getD t undef)
    (hanc : ∀ j, ancB l k j = true → ∀ o d, l[j]? = some o → o.dst = some d → b.tmps.getD d undef = u j) :
    ∀ t, t ∈ o.looksAt l.toArray → b.tmps.getD t undef = (putAll l a0 u m).tmps.getD t undef := by
  intro t ht
  by_cases hx : ∃ j oj, j < n ∧ l[j]? = some oj ∧ oj.dst = some t
  · obtain ⟨j, oj, hj, hoj, hdj⟩ := hx
    have ha := F.looks k hk o ho t ht j hj oj hoj hdj
    rw [hanc j ha oj t hoj hdj, slot_at F hN u hm (by have := ancB_lt ha; omega) hoj hdj]
  · have hno : ∀ i o, i < n → l[i]? = some o → o.dst ≠ some t := fun i o hi ho hot => hx ⟨i, o, hi, ho, hot⟩
    rw [hother t hno, slot_other u fun i o hi ho => hno i o (by omega) ho]

/-- Two of the walk's frames, at what operation k looks at. -/
theorem agree_walk (F : SqF l n N) {a0 : Act} (hN : a0.tmps.size = N) {u u' : Nat → Value} {k m m' : Nat} (hk : k < n) (hkm : k ≤ m) (hm : m ≤ n) (hkm' : k ≤ m') (hm' : m' ≤ n) {o : Oper} (ho : l[k]? = some o)
    (hanc : ∀ j, ancB l k j = true → u j = u' j) : ∀ t, t ∈ o.looksAt l.toArray → (putAll l a0 u m).tmps.getD t undef = (putAll l a0 u' m').tmps.getD t undef :=
  agree_at F hN hk hkm' hm' ho (fun t ht => slot_other u fun i o hi ho => ht i o (by omega) ho)
    (fun j hj oj d hoj hd => by rw [slot_at F hN u hm (by have := ancB_lt hj; omega) hoj hd]; exact hanc j hj)

/-- One step of the walk is right for value x. -/
def Cons1 (P : Program) (l : List Oper) (ps : List Nat) (Ext : World → World → Prop) (w0 : World) (Post : Nat → Value → World → Prop) (k : Nat) (A : Act) (x : Value) : Prop :=
  ∀ o, l[k]? = some o → (Region.wanted o (yielded l.toArray A.tmps) = true → (ps.contains k = true → ∃ w, Post k x w) ∧ (ps.contains k = false → ∀ w1, Ext w0 w1 → (execOp A.eval o).run P w1 = .ok (.value x) w1)) ∧
    (Region.wanted o (yielded l.toArray A.tmps) = false → x = undef)

theorem Cons1.move (F : SqF l n N) {a0 : Act} (hN : a0.tmps.size = N) {u u' : Nat → Value} {k : Nat} (hk : k < n) (hanc : ∀ j, ancB l k j = true → u j = u' j) {x : Value}
    (h : Cons1 P l ps Ext w0 Post k (putAll l a0 u k) x) : Cons1 P l ps Ext w0 Post k (putAll l a0 u' k) x := by
  intro o ho
  have hag := agree_walk F hN (a0 := a0) hk (Nat.le_refl _) (Nat.le_of_lt hk) (Nat.le_refl _) (Nat.le_of_lt hk) ho hanc
  have h1 := wanted_same (ops := l.toArray) (by rw [putAll_size, putAll_size]) hag
  have h2 := exec_same (ops := l.toArray) (fun cs b => F.sel k o cs b ho) hag
  have h3 := h o ho
  rw [h1, h2] at h3
  exact h3

/-- Along right values the walk goes on. -/
theorem sqw_along (hrefl : ∀ w, Ext w w) {Fin : Act → Prop} {a0 : Act} {u : Nat → Value} (h0 : SqW P l ps Ext w0 Post Fin 0 (l.take n) a0) (hn : n ≤ l.length) : ∀ k, k ≤ n → (∀ j, j < k → Cons1 P l ps Ext w0 Post j (putAll l a0 u j) (u j)) →
    SqW P l ps Ext w0 Post Fin k ((l.take n).drop k) (putAll l a0 u k)
  | 0, _, _ => by simpa [putAll] using h0
  | k + 1, hk, hc => by
    have ih := sqw_along hrefl (u := u) h0 hn k (by omega) fun j hj => hc j (by omega)
    have hlt : k < (l.take n).length := by simp; omega
    have hlt2 : k < l.length := by omega
    have ho : l[k]? = some l[k] := by simp [hlt2]
    have he : (l.take n)[k] = l[k] := by simp
    rw [List.drop_eq_getElem_cons hlt, he] at ih
    have hcons := hc k (by omega) _ ho
    rw [putAll]
    simp only [ho, Option.bind_some]
    unfold SqW at ih
    by_cases hw : Region.wanted l[k] (yielded l.toArray (putAll l a0 u k).tmps) = true
    · rw [if_pos hw] at ih
      by_cases hp : ps.contains k = true
      · rw [if_pos hp] at ih
        obtain ⟨w, hx⟩ := (hcons.1 hw).1 hp
        exact ih.2 _ w hx
      · rw [if_neg hp] at ih
        obtain ⟨v, hv, hnext⟩ := ih
        have h1 := hv w0 (hrefl _)
        have h2 := (hcons.1 hw).2 (by simpa using hp) w0 (hrefl _)
        rw [h1] at h2
        injection h2 with h3 _
        injection h3 with h4
        rw [← h4]; exact hnext
    · rw [if_neg hw] at ih
      rw [hcons.2 (by simpa using hw)]; exact ih

/-- What holds once the operations of L have come up with the values val, in the world w. -/
structure SqI (P : Program) (l : List Oper) (n : Nat) (ps : List Nat) (Ext : World → World → Prop) (w0 : World) (Post : Nat → Value → World → Prop) (a0 : Act) (L : Nat → Prop) (val : Nat → Value) (w : World) : Prop where
  ext : Ext w0 w
  below : ∀ j, L j → j < n
  closed : ∀ m o, L m → l[m]? = some o → ∀ j, waitsB o j = true → L j
  cons : ∀ u, (∀ j, L j → u j = val j) → ∀ j, L j → Cons1 P l ps Ext w0 Post j (putAll l a0 u j) (val j)
  post : ∀ u, (∀ j, L j → u j = val j) → ∀ j, L j → ps.contains j = true → (∀ o, l[j]? = some o → Region.wanted o (yielded l.toArray (putAll l a0 u j).tmps) = true) → Post j (val j) w

theorem SqI.anc {a0 : Act} {L : Nat → Prop} {val : Nat → Value} {w : World} (I : SqI P l n ps Ext w0 Post a0 L val w) {k j : Nat} (hk : L k) (h : ancB l k j = true) : L j :=
  anc_in L I.closed k j (fun o ho j hj => I.closed k o hk ho j hj) h

/-- The operations that have not come up yet, played through in the order of the text: values for all. -/
theorem SqI.sim (F : SqF l n N) (hrefl : ∀ w, Ext w w) (htrans : ∀ a b c, Ext a b → Ext b c → Ext a c) (stable : ∀ i v w w', Post i v w → Ext w w' → Post i v w') {Fin : Act → Prop} {a0 : Act} (hN : a0.tmps.size = N)
    (h0 : SqW P l ps Ext w0 Post Fin 0 (l.take n) a0) (hn : n ≤ l.length) {L : Nat → Prop} {val : Nat → Value} {w : World} (I : SqI P l n ps Ext w0 Post a0 L val w) :
    ∀ k, k ≤ n → ∃ u w', (∀ j, L j → u j = val j) ∧ Ext w0 w' ∧ (∀ j, j < k → Cons1 P l ps Ext w0 Post j (putAll l a0 u j) (u j)) ∧
      (∀ j, j < n → (j < k ∨ L j) → ps.contains j = true → (∀ o, l[j]? = some o → Region.wanted o (yielded l.toArray (putAll l a0 u j).tmps) = true) → Post j (u j) w')
  | 0, _ => ⟨val, w, fun _ _ => rfl, I.ext, fun j hj => by omega, fun j _ hj hp hw => I.post val (fun _ _ => rfl) j (hj.resolve_left (by omega)) hp hw⟩
  | k + 1, hk => by
    obtain ⟨u, w', hL, hext, hc, hpost⟩ := SqI.sim F hrefl htrans stable hN h0 hn I k (by omega)
    by_cases hkL : L k
    · refine ⟨u, w', hL, hext, fun j hj => ?_, fun j hjn hj hp hw => hpost j hjn ?_ hp hw⟩
      · rcases Nat.lt_or_ge j k with h | h
        · exact hc j h
        · obtain rfl : j = k := by omega
          rw [hL j hkL]; exact I.cons u hL j hkL
      · rcases hj with h | h
        · rcases Nat.lt_or_ge j k with h' | h'
          · exact .inl h'
          · obtain rfl : j = k := by omega
            exact .inr hkL
        · exact .inr h
    · have hwalk := sqw_along hrefl (u := u) h0 hn k (by omega) hc
      have hlt : k < (l.take n).length := by simp; omega
      have hlt2 : k < l.length := by omega
      have ho : l[k]? = some l[k] := by simp [hlt2]
      have he : (l.take n)[k] = l[k] := by simp
      rw [List.drop_eq_getElem_cons hlt, he] at hwalk
      -- the value, the world behind it
      have key : ∃ x w2, Ext w' w2 ∧ Cons1 P l ps Ext w0 Post k (putAll l a0 u k) x ∧ (ps.contains k = true → Region.wanted l[k] (yielded l.toArray (putAll l a0 u k).tmps) = true → Post k x w2) := by
        by_cases hw : Region.wanted l[k] (yielded l.toArray (putAll l a0 u k).tmps) = true
        · unfold SqW at hwalk
          rw [if_pos hw] at hwalk
          by_cases hp : ps.contains k = true
          · rw [if_pos hp] at hwalk
            have hy := hwalk.1 w' hext fun j d hj hpj hd hwj => by
              obtain ⟨oj, hoj, hdj⟩ := Option.bind_eq_some_iff.1 hd
              have hjk := ancB_lt hj
              rw [slot_at F hN u (by omega) hjk hoj hdj]
              refine hpost j (by omega) (.inl hjk) hpj fun o' ho' => ?_
              rw [← hwj o' ho']
              refine wanted_same (by rw [putAll_size, putAll_size]) ?_
              exact agree_walk F hN (u := u) (u' := u) (show j < n by omega) (Nat.le_refl _) (by omega) (Nat.le_of_lt hjk) (by omega) ho' fun _ _ => rfl
            obtain ⟨v, w2, hv, hev⟩ := hy.some
            refine ⟨v, w2, hev, fun o ho' => ?_, fun _ _ => hv⟩
            obtain rfl : o = l[k] := Option.some.inj (ho'.symm.trans ho)
            exact ⟨fun _ => ⟨fun _ => ⟨w2, hv⟩, fun h => by rw [hp] at h; cases h⟩, fun h => by rw [hw] at h; cases h⟩
          · rw [if_neg hp] at hwalk
            obtain ⟨v, hv, _⟩ := hwalk
            refine ⟨v, w', hrefl _, fun o ho' => ?_, fun h => absurd h hp⟩
            obtain rfl : o = l[k] := Option.some.inj (ho'.symm.trans ho)
            exact ⟨fun _ => ⟨fun h => absurd h hp, fun _ => hv⟩, fun h => by rw [hw] at h; cases h⟩
        · refine ⟨undef, w', hrefl _, fun o ho' => ?_, fun _ h => absurd h hw⟩
          obtain rfl : o = l[k] := Option.some.inj (ho'.symm.trans ho)
          exact ⟨fun h => absurd h hw, fun _ => rfl⟩
      obtain ⟨x, w2, hext2, hcx, hpx⟩ := key
      let u' : Nat → Value := fun j => if j = k then x else u j
      have hu' : ∀ j, j ≠ k → u' j = u j := fun j hj => by simp [u', hj]
      have hux : u' k = x := by simp [u']
      have hA : ∀ j, j ≤ k → putAll l a0 u' j = putAll l a0 u j := fun j hj => putAll_congr l a0 j fun i hi => hu' i (by omega)
      refine ⟨u', w2, fun j hj => by rw [hu' j (fun h => hkL (h ▸ hj))]; exact hL j hj, htrans _ _ _ hext hext2, fun j hj => ?_, fun j hjn hj hp hw => ?_⟩
      · rw [hA j (by omega)]
        rcases Nat.lt_or_ge j k with h | h
        · rw [hu' j (by omega)]; exact hc j h
        · obtain rfl : j = k := by omega
          rw [hux]; exact hcx
      · by_cases hjk : j = k
        · subst hjk
          rw [hux]
          rw [hA j (Nat.le_refl _)] at hw
          exact hpx hp (hw _ ho)
        · rw [hu' j hjk]
          have hj' : j < k ∨ L j := hj.imp (by omega) id
          refine stable _ _ _ _ (hpost j hjn hj' hp fun o hoj => ?_) hext2
          rw [← hw o hoj]
          refine wanted_same (by rw [putAll_size, putAll_size]) ?_
          refine agree_walk F hN hjn (Nat.le_refl _) (Nat.le_of_lt hjn) (Nat.le_refl _) (Nat.le_of_lt hjn) hoj fun i hi => ?_
          rcases hj' with h | h
          · exact (hu' i (by have := ancB_lt hi; omega)).symm
          · exact (hu' i fun e => hkL (e ▸ I.anc h hi)).symm
end
end Go.Own
namespace Go.Own
section
variable {P : Program} {l : List Oper} {n N : Nat} {ps : List Nat} {Ext : World → World → Prop} {w0 : World} {Post : Nat → Value → World → Prop}

/-- The frame once the operations of L have come up. -/
structure SqFr (l : List Oper) (n : Nat) (a0 : Act) (L : Nat → Prop) (val : Nat → Value) (a : Act) : Prop where
  size : a.tmps.size = a0.tmps.size
  defers : a.defers = a0.defers
  other : ∀ t, (∀ i o, i < n → l[i]? = some o → o.dst ≠ some t) → a.tmps.getD t undef = a0.tmps.getD t undef
  slot : ∀ j o d, L j → l[j]? = some o → o.dst = some d → a.tmps.getD d undef = val j

theorem SqI.step (F : SqF l n N) (stable : ∀ i v w w', Post i v w → Ext w w' → Post i v w') (htrans : ∀ a b c, Ext a b → Ext b c → Ext a c) {a0 : Act} (hN : a0.tmps.size = N) {L L' : Nat → Prop} {val : Nat → Value} {w w2 : World} (I : SqI P l n ps Ext w0 Post a0 L val w)
    {i : Nat} (hi : i < n) (hni : ¬ L i) (hdep : ∀ o, l[i]? = some o → ∀ j, waitsB o j = true → L j) {u : Nat → Value} (hu : ∀ j, L j → u j = val j) {x : Value} (hext : Ext w w2)
    (hcons : Cons1 P l ps Ext w0 Post i (putAll l a0 u i) x) (hpost : ps.contains i = true → (∀ o, l[i]? = some o → Region.wanted o (yielded l.toArray (putAll l a0 u i).tmps) = true) → Post i x w2)
    (hL' : ∀ j, L' j ↔ L j ∨ j = i) : SqI P l n ps Ext w0 Post a0 L' (fun j => if j = i then x else val j) w2 := by
  have hanc : ∀ j, ancB l i j = true → L j := fun j hj => anc_in L I.closed i j hdep hj
  have hag : ∀ u' : Nat → Value, (∀ j, L' j → u' j = if j = i then x else val j) → ∀ j, L j → u' j = val j := fun u' h j hj => by
    have hne : j ≠ i := fun e => hni (e ▸ hj)
    rw [h j ((hL' j).2 (.inl hj)), if_neg hne]
  refine ⟨htrans _ _ _ I.ext hext, fun j hj => ?_, fun m o hm ho j hj => ?_, fun u' hu' j hj => ?_, fun u' hu' j hj hp hw => ?_⟩
  · rcases (hL' j).1 hj with h | h
    · exact I.below j h
    · rw [h]; exact hi
  · refine (hL' j).2 (.inl ?_)
    rcases (hL' m).1 hm with h | h
    · exact I.closed m o h ho j hj
    · exact hdep o (h ▸ ho) j hj
  · by_cases hji : j = i
    · subst hji
      simp only [if_true]
      exact hcons.move F hN hi fun k hk => by rw [hu k (hanc k hk), hag u' hu' k (hanc k hk)]
    · simp only [if_neg hji]
      exact I.cons u' (hag u' hu') j (((hL' j).1 hj).resolve_right hji)
  · by_cases hji : j = i
    · subst hji
      simp only [if_true]
      refine hpost hp fun o ho => ?_
      rw [← hw o ho]
      refine wanted_same (by rw [putAll_size, putAll_size]) ?_
      exact agree_walk F hN hi (Nat.le_refl _) (Nat.le_of_lt hi) (Nat.le_refl _) (Nat.le_of_lt hi) ho fun k hk => by rw [hu k (hanc k hk), hag u' hu' k (hanc k hk)]
    · simp only [if_neg hji]
      exact stable _ _ _ _ (I.post u' (hag u' hu') j (((hL' j).1 hj).resolve_right hji) hp hw) hext

theorem sq_any (F : SqF l n N) (hrefl : ∀ w, Ext w w) (htrans : ∀ a b c, Ext a b → Ext b c → Ext a c) (stable : ∀ i v w w', Post i v w → Ext w w' → Post i v w') {Fin : Act → Prop} {a0 : Act} (hN : a0.tmps.size = N)
    (h0 : SqW P l ps Ext w0 Post Fin 0 (l.take n) a0) (hn : n ≤ l.length) (he : edgesB l.toArray = true) (hq : n = l.length ∨ (Region.sinkB .any l.toArray n = true ∧ Region.chainB .any l.toArray n = true ∧ n < l.length)) {Q : Exit → Act → World → Prop} {g : Nat}
    (hend : ∀ listed a w val, listed.size = l.length → (∀ i, i < n → listed.getD i true = true) → (∀ t, n ≤ t → t < l.length → listed.getD t true = false) → SqI P l n ps Ext w0 Post a0 (fun j => j < n) val w → SqFr l n a0 (fun j => j < n) val a → wpAny P .any l.toArray Q g listed a w)
    (f : Nat) : ∀ (listed : Array Bool) (a : Act) (w : World) (val : Nat → Value), HeadInv .any l.toArray n listed → SqI P l n ps Ext w0 Post a0 (fun j => j < n ∧ listed.getD j false = true) val w →
      SqFr l n a0 (fun j => j < n ∧ listed.getD j false = true) val a → ((listed.toList.take n).count false = f) → wpAny P .any l.toArray Q (f + g) listed a w := by
  have hsize : l.toArray.size = l.length := by simp
  induction f with
  | zero =>
    intro listed a w val inv I fr hf
    rw [Nat.zero_add]
    have hall : ∀ i, i < n → listed.getD i true = true := fun i hi => by
      have hlt : i < listed.size := by rw [inv.size, hsize]; omega
      have h0 := List.count_eq_zero.1 hf
      have h1 : listed[i] ∈ listed.toList.take n := by
        rw [List.mem_take_iff_getElem]
        exact ⟨i, by simp; omega, by simp⟩
      cases hb : listed[i] with
      | true => simp [hlt, hb]
      | false => rw [hb] at h1; exact absurd h1 h0
    have hL : (fun j => j < n ∧ listed.getD j false = true) = (fun j => j < n) := by
      funext j
      exact propext ⟨fun h => h.1, fun h => ⟨h, getD_both' (hall j h) (by rw [inv.size, hsize]; omega)⟩⟩
    rw [hL] at I fr
    exact hend listed a w val (by rw [inv.size, hsize]) hall (fun t h1 h2 => inv.tail t h1 (by rw [hsize]; exact h2)) I fr
  | succ f ih =>
    intro listed a w val inv I fr hf
    have hex : ∃ i, i < n ∧ listed.getD i true = false := by
      have : false ∈ listed.toList.take n := List.count_pos_iff.1 (by omega)
      rw [List.mem_take_iff_getElem] at this
      obtain ⟨i, hi, hb⟩ := this
      simp only [Array.length_toList] at hi
      exact ⟨i, by omega, by simp [show i < listed.size by omega]; simpa using hb⟩
    obtain ⟨i0, hi0, hun0⟩ := hex
    have hne : Region.ready .any l.toArray listed ≠ [] := by
      have key : ∀ m, m < n → listed.getD m true = false → ∃ k, k ≤ m ∧ listed.getD k true = false ∧ ∀ j, j < k → listed.getD j true = true := by
        intro m
        induction m using Nat.strongRecOn with
        | _ m ihm =>
          intro hm hu
          by_cases hx : ∃ j, j < m ∧ listed.getD j true = false
          · obtain ⟨j, hj, hju⟩ := hx
            obtain ⟨k, hk, h⟩ := ihm j hj (by omega) hju
            exact ⟨k, by omega, h⟩
          · exact ⟨m, Nat.le_refl _, hu, fun j hj => by
              cases hb : listed.getD j true with
              | true => rfl
              | false => exact absurd ⟨j, hj, hb⟩ hx⟩
      obtain ⟨k, hk, hu, hl⟩ := key i0 hi0 hun0
      exact List.ne_nil_of_mem (ready_least he inv.size (by rw [hsize]; omega) hu hl)
    rw [Nat.add_right_comm]
    refine ⟨fun h0 => absurd h0 hne, fun i hi => ?_⟩
    obtain ⟨hun, o, ho', hall⟩ := mem_ready.1 hi
    have ho : l[i]? = some o := by simpa using ho'
    have hil : i < l.length := (List.getElem?_eq_some_iff.1 ho).1
    have hin : i < n := by
      rcases hq with h | ⟨hs, hc, hn'⟩
      · omega
      · exact (Nat.lt_or_ge i n).resolve_right fun h => absurd hi (tail_waits hs hc (by rw [hsize]; exact hn') inv _ i0 rfl hi0 hun0 i h)
    have hni : ¬ (i < n ∧ listed.getD i false = true) := fun h => by
      have := getD_both hun
      rw [h.2] at this; cases this
    have hdep : ∀ o', l[i]? = some o' → ∀ j, waitsB o' j = true → j < n ∧ listed.getD j false = true := fun o' hoo j hj => by
      obtain rfl : o = o' := Option.some.inj (ho.symm.trans hoo)
      have hji := F.edges i o ho j hj
      obtain ⟨e, hem, hb⟩ := Array.any_eq_true'.1 hj
      simp only [Bool.and_eq_true, beq_iff_eq] at hb
      have := hall e hem hb.1
      rw [hb.2] at this
      exact ⟨by omega, this⟩
    obtain ⟨u, _, hu, _, hcons, _⟩ := I.sim F hrefl htrans stable hN h0 hn n (Nat.le_refl _)
    have hwalk := sqw_along hrefl (u := u) h0 hn i (by omega) fun j hj => hcons j (by omega)
    have hlt : i < (l.take n).length := by simp; omega
    have hoi : l[i] = o := by
      have := List.getElem?_eq_getElem hil
      rw [ho] at this; exact (Option.some.inj this).symm
    have hgi : (l.take n)[i] = o := by rw [← hoi]; simp
    rw [List.drop_eq_getElem_cons hlt, hgi] at hwalk
    have hanc : ∀ j, ancB l i j = true → j < n ∧ listed.getD j false = true := fun j hj => anc_in _ I.closed i j hdep hj
    have hag := agree_at (b := a) (u := u) F hN hin (Nat.le_refl _) (Nat.le_of_lt hin) ho fr.other fun j hj oj d hoj hd => by
      rw [fr.slot j oj d (hanc j hj) hoj hd, hu j (hanc j hj)]
    have hwant := wanted_same (ops := l.toArray) (o := o) (by rw [fr.size, putAll_size]) hag
    have hexec := exec_same (ops := l.toArray) (fun cs b => F.sel i o cs b ho) hag
    obtain ⟨oi, d, hoi', hdst, hdN, huniq⟩ := F.dst i hin
    obtain rfl : o = oi := Option.some.inj (ho.symm.trans hoi')
    have hL' : ∀ j, (j < n ∧ (listed.setIfInBounds i true).getD j false = true) ↔ (j < n ∧ listed.getD j false = true) ∨ j = i := fun j => by
      by_cases hji : j = i
      · subst hji
        have hlt : j < listed.size := by rw [inv.size, hsize]; omega
        simp [hlt, hin]
      · rw [getD_set_ne false (Ne.symm hji)]
        simp [hji]
    -- what is left once the value and the world are known
    have go : ∀ x w2, Ext w w2 → Cons1 P l ps Ext w0 Post i (putAll l a0 u i) x → (ps.contains i = true → Region.wanted o (yielded l.toArray (putAll l a0 u i).tmps) = true → Post i x w2) →
        wpAny P .any l.toArray Q (f + g) (listed.setIfInBounds i true) (a.put o.dst x) w2 := fun x w2 hext hcx hpx => by
      have hi' := I.step F stable htrans hN hin hni hdep hu hext hcx (fun hp hw => hpx hp (hw o ho)) hL'
      refine ih _ _ _ _ (inv.set hi hin) hi' ⟨?_, ?_, ?_, ?_⟩ ?_
      · rw [put_size]; exact fr.size
      · rw [put_defers]; exact fr.defers
      · intro t ht
        rw [← fr.other t ht, hdst]
        by_cases htl : t < a.tmps.size
        · rw [put_getD _ _ _ _ htl, if_neg (fun h => ht i o hin ho (by rw [hdst, h]))]
        · simp [Act.put, show ¬ t < a.tmps.size from htl]
      · intro j oj dj hj hoj hdj
        rw [hdst]
        by_cases hji : j = i
        · subst hji
          obtain rfl : oj = o := Option.some.inj (hoj.symm.trans ho)
          obtain rfl : dj = d := Option.some.inj (hdj.symm.trans hdst)
          rw [put_getD _ _ _ _ (by rw [fr.size, hN]; exact hdN), if_pos rfl]
          simp
        · have hne : dj ≠ d := fun h => huniq j oj hj.1 hoj (Ne.symm hji) (by rw [hdj, h])
          have h1 := fr.slot j oj dj (((hL' j).1 hj).resolve_right hji) hoj hdj
          simp only [if_neg hji]
          rw [← h1]
          by_cases htl : dj < a.tmps.size
          · rw [put_getD _ _ _ _ htl, if_neg (Ne.symm hne)]
          · simp [Act.put, show ¬ dj < a.tmps.size from htl]
      · have hlt : i < listed.size := by rw [inv.size, hsize]; omega
        have h1 : (listed.toList.take n)[i]? = some false := by
          rw [List.getElem?_take_of_lt hin]
          simp only [Array.getElem?_toList]
          simp [hlt] at hun ⊢
          exact hun
        have h2 := count_set_true _ _ h1
        rw [Array.toList_setIfInBounds, List.take_set]
        omega
    unfold wpOp
    simp only [ho']
    unfold SqW at hwalk
    by_cases hw : Region.wanted o (yielded l.toArray (putAll l a0 u i).tmps) = true
    · rw [if_pos (by rw [hwant]; exact hw)]
      rw [if_pos hw] at hwalk
      left
      by_cases hp : ps.contains i = true
      · rw [if_pos hp] at hwalk
        have hy := hwalk.1 w I.ext fun j d' hj hpj hd hwj => by
          obtain ⟨oj, hoj, hdj⟩ := Option.bind_eq_some_iff.1 hd
          have hji := ancB_lt hj
          rw [slot_at F hN u (Nat.le_of_lt hin) hji hoj hdj, hu j (hanc j hj)]
          refine I.post u hu j (hanc j hj) hpj fun o' ho' => ?_
          rw [← hwj o' ho']
          refine wanted_same (by rw [putAll_size, putAll_size]) ?_
          exact agree_walk F hN (u := u) (u' := u) (show j < n by omega) (Nat.le_refl _) (by omega) (Nat.le_of_lt hji) (by omega) ho' fun _ _ => rfl
        have hy' : Yields P o a.eval w (fun v w' => Post i v w' ∧ Ext w w') := by
          unfold Yields at hy ⊢; rw [hexec]; exact hy
        refine wp_of_yields hy' fun v w' ⟨hv, hev⟩ => go v w' hev (fun o' ho'' => ?_) fun _ _ => hv
        obtain rfl : o' = o := Option.some.inj (ho''.symm.trans ho)
        exact ⟨fun _ => ⟨fun _ => ⟨w', hv⟩, fun h => by rw [hp] at h; cases h⟩, fun h => by rw [hw] at h; cases h⟩
      · rw [if_neg hp] at hwalk
        obtain ⟨v, hv, _⟩ := hwalk
        have hr : (execOp a.eval o).run P w = .ok (.value v) w := by rw [hexec]; exact hv w I.ext
        unfold Oper.wp
        rw [hr]
        refine go v w (hrefl _) (fun o' ho'' => ?_) fun h => absurd h hp
        obtain rfl : o' = o := Option.some.inj (ho''.symm.trans ho)
        exact ⟨fun _ => ⟨fun h => absurd h hp, fun _ => hv⟩, fun h => by rw [hw] at h; cases h⟩
    · rw [if_neg (by rw [hwant]; exact hw)]
      refine go undef w (hrefl _) (fun o' ho'' => ?_) fun _ h => absurd h hw
      obtain rfl : o' = o := Option.some.inj (ho''.symm.trans ho)
      exact ⟨fun h => absurd h hw, fun _ => rfl⟩

theorem sqF_of (hsel : Region.noSelect l.toArray = true) (he : edgesB l.toArray = true) (hd : dsts2B l n N = true) (hl : looksB l n = true) : SqF l n N where
  sel := fun j o cs b ho => Region.noSelect_spec hsel j o cs b (by simpa using ho)
  edges := fun i o ho j hj => by
    obtain ⟨e, hem, hb⟩ := Array.any_eq_true'.1 hj
    simp only [Bool.and_eq_true, beq_iff_eq] at hb
    have := edgesB_spec he (i := i) (o := o) (by simpa using ho) e hem hb.1
    omega
  dst := fun i hi => by
    have h1 := List.all_eq_true.1 hd i (List.mem_range.2 hi)
    cases ho : l[i]? with
    | none => simp [ho] at h1
    | some o =>
      simp only [ho, Bool.and_eq_true] at h1
      obtain ⟨hd', hall⟩ := h1
      obtain ⟨d, hd⟩ : ∃ d, o.dst = some d := by cases h : o.dst with
        | none => rw [h] at hd'; cases hd'
        | some d => exact ⟨d, rfl⟩
      have hdN : d < N := by rw [hd] at hd'; simpa using hd'
      refine ⟨o, d, rfl, hd, hdN, fun j o' hj ho' hne => ?_⟩
      have h2 := List.all_eq_true.1 hall j (List.mem_range.2 hj)
      simp only [ho', Bool.or_eq_true, beq_iff_eq, hne, false_or, bne_iff_ne, ne_eq, hd] at h2
      exact h2
  looks := fun k hk o ho t ht j hj o' ho' hdt => by
    have h1 := List.all_eq_true.1 hl k (List.mem_range.2 hk)
    simp only [ho] at h1
    have h2 := List.all_eq_true.1 (List.all_eq_true.1 h1 t ht) j (List.mem_range.2 hj)
    simp only [ho', hdt, bne_self_eq_false, Bool.false_or] at h2
    exact h2

/-- A region that draws its order: the head, n operations, is walked in the order of the text, each operation in some world that grew out of the first one; then the tail. -/
theorem wp_region_sq {id : Nat} {Q : Exit → Act → World → Prop} {a : Act} {w : World} (n : Nat) (ps : List Nat) (Ext : World → World → Prop) (Post : Nat → Value → World → Prop) (hm : P.follows .mixedOrders = true) (hB : sqB l n a.tmps.size ps = true)
    (hrefl : ∀ w, Ext w w) (htrans : ∀ a b c, Ext a b → Ext b c → Ext a c) (stable : ∀ i v w w', Post i v w → Ext w w' → Post i v w')
    (h : SqW P l ps Ext w.drew Post (fun a' => ∀ w', Ext w.drew w' → (∀ j d, j < n → ps.contains j = true → (l[j]?).bind (·.dst) = some d → (∀ o', l[j]? = some o' → Region.wanted o' (yielded l.toArray a'.tmps) = true) → Post j (a'.tmps.getD d undef) w') →
      wpList P l.toArray Q (l.drop n) a' w') 0 (l.take n) a) : (Code.region id l.toArray true).wp P Q a w := by
  simp only [sqB, Bool.and_eq_true, Bool.or_eq_true, decide_eq_true_eq, beq_iff_eq] at hB
  obtain ⟨⟨⟨⟨⟨hsel, he⟩, hd⟩, hl⟩, _⟩, hq⟩ := hB
  have F := sqF_of hsel he hd hl
  have hn : n ≤ l.length := by rcases hq with h | h <;> omega
  have hq' : n = l.length ∨ (Region.sinkB .any l.toArray n = true ∧ Region.chainB .any l.toArray n = true ∧ n < l.length) := hq.imp (fun h => h) fun h => ⟨h.1.1.1, h.1.1.2, h.1.2⟩
  have hseq : Region.seqB .any l.toArray (l.length - n) n ((List.replicate n true ++ List.replicate (l.length - n) false).toArray) = true := by
    rcases hq with h | h
    · subst h
      rw [Nat.sub_self]
      simp only [Region.seqB, List.isEmpty_iff, List.replicate_zero, List.append_nil]
      unfold Region.ready
      rw [List.filter_eq_nil_iff]
      intro i hi
      have hi' : i < l.length := by simpa using hi
      simp [hi']
    · exact h.2
  have inv0 : HeadInv .any l.toArray n (Array.replicate l.toArray.size false) :=
    ⟨by simp, fun j oj _ hl => (by rw [getD_replicate_false] at hl; cases hl), fun t _ h' => getD_in (by simpa using h') (getD_replicate_false _ _)⟩
  have hno : ∀ j, ¬ (j < n ∧ (Array.replicate l.toArray.size false).getD j false = true) := fun j hj => by have := hj.2; rw [getD_replicate_false] at this; cases this
  refine wp_region_any hm ?_
  have H := sq_any (Q := Q) (g := l.length - n) F hrefl htrans stable rfl h hn he hq' (fun listed a1 w1 val hsz h1 h2 I fr => ?_) n (Array.replicate l.toArray.size false) a w.drew (fun _ => undef) inv0
    ⟨hrefl _, fun j hj => absurd hj (hno j), fun m o hm => absurd hm (hno m), fun u _ j hj => absurd hj (hno j), fun u _ j hj => absurd hj (hno j)⟩
    ⟨rfl, rfl, fun _ _ => rfl, fun j o d hj => absurd hj (hno j)⟩ (by simp; omega)
  · rw [show n + (l.length - n) = l.toArray.size by simp; omega] at H
    exact H
  · have hlisted : listed = (List.replicate n true ++ List.replicate (l.length - n) false).toArray := by
      apply Array.ext
      · simp [hsz]; omega
      · intro i hi1 hi2
        by_cases hin : i < n
        · have := h1 i hin
          simp only [Array.getD_eq_getD_getElem?, Array.getElem?_eq_getElem hi1, Option.getD_some] at this
          rw [this]
          simp [hin]
        · have := h2 i (by omega) (by omega)
          simp only [Array.getD_eq_getD_getElem?, Array.getElem?_eq_getElem hi1, Option.getD_some] at this
          rw [this]
          simp [List.getElem_append, hin]
    have hfin := sqw_along hrefl (u := val) h hn n (Nat.le_refl _) fun j hj => I.cons val (fun _ _ => rfl) j hj
    have hnil : (l.take n).drop n = [] := List.drop_of_length_le (by simp; omega)
    rw [hnil] at hfin
    unfold SqW at hfin
    have ha1 : a1 = putAll l a val n := by
      have ht : a1.tmps = (putAll l a val n).tmps := by
        refine getD_ext (by rw [putAll_size, fr.size]) fun t ht => ?_
        by_cases hx : ∃ i o, i < n ∧ l[i]? = some o ∧ o.dst = some t
        · obtain ⟨i, o, hi, ho, hot⟩ := hx
          rw [slot_at F rfl val (Nat.le_refl _) hi ho hot, fr.slot i o t hi ho hot]
        · have hno : ∀ i o, i < n → l[i]? = some o → o.dst ≠ some t := fun i o hi ho hot => hx ⟨i, o, hi, ho, hot⟩
          rw [slot_other val hno]
          exact fr.other t hno
      have hdf : a1.defers = (putAll l a val n).defers := by rw [putAll_defers, fr.defers]
      cases a1
      cases hp : putAll l a val n
      rw [hp] at ht hdf
      simp only at ht hdf
      rw [ht, hdf]
    have hw := hfin w1 I.ext fun j d hj hp hdj hwj => by
      obtain ⟨oj, hoj, hdj'⟩ := Option.bind_eq_some_iff.1 hdj
      rw [slot_at F rfl val (Nat.le_refl _) hj hoj hdj']
      refine I.post val (fun _ _ => rfl) j hj hp fun o' ho' => ?_
      rw [← hwj o' ho']
      refine wanted_same (by rw [putAll_size, putAll_size]) ?_
      exact agree_walk F rfl (u := val) (u' := val) hj (Nat.le_refl _) (Nat.le_of_lt hj) (Nat.le_of_lt hj) (Nat.le_refl _) ho' fun _ _ => rfl
    rw [← ha1] at hw
    have := wpAny_of_seq (md := .any) (Q' := Q) (l.drop n) n listed a1 w1 (fun j => by simp [List.getElem?_drop]) (by rw [List.length_drop, hlisted]; exact hseq) hw
    rwa [List.length_drop] at this
end
end Go.Own
namespace Go.Own
open Go.RowKit
section
variable {P : Program} {l : List Oper} {ps : List Nat} {Ext : World → World → Prop} {w0 : World} {Post : Nat → Value → World → Prop} {Fin : Act → Prop} {k : Nat} {o : Oper} {r : List Oper} {a : Act}

/-- The worlds that grew out of w0. -/
structure Grown (Ext : World → World → Prop) (w0 : World) where
  w : World
  ext : Ext w0 w

theorem sqw_quiet (hp : plainOp o.op = true) (hps : ps.contains k = false) (_hrefl : Ext w0 w0)
    (h : wpQuiet P l.toArray (fun w' => ∃ s : Grown Ext w0, w' = s.w) (fun a' => SqW P l ps Ext w0 Post Fin (k + 1) r a') [o] a) : SqW P l ps Ext w0 Post Fin k (o :: r) a := by
  unfold SqW
  unfold wpQuiet at h
  by_cases hw : Region.wanted o (yielded l.toArray a.tmps) = true
  · rw [if_pos hw] at h ⊢
    rw [if_neg (by rw [hps]; exact Bool.false_ne_true)]
    obtain ⟨v, hv, hn⟩ := h
    exact ⟨v, fun w1 h1 => quietAt_plain hp (hv w1 ⟨⟨w1, h1⟩, rfl⟩), hn⟩
  · rw [if_neg hw] at h ⊢
    exact h
/-- An operation that is passed over. -/
theorem sqw_skip (hw : Region.wanted o (yielded l.toArray a.tmps) = false) (h : SqW P l ps Ext w0 Post Fin (k + 1) r (a.put o.dst undef)) : SqW P l ps Ext w0 Post Fin k (o :: r) a := by
  unfold SqW
  rw [if_neg (by rw [hw]; exact Bool.false_ne_true)]; exact h
/-- What an operation may use of those before it. -/
def Facts (l : List Oper) (ps : List Nat) (Post : Nat → Value → World → Prop) (k : Nat) (a : Act) (w1 : World) : Prop :=
  ∀ j d, ancB l k j = true → ps.contains j = true → (l[j]?).bind (·.dst) = some d → (∀ o', l[j]? = some o' → Region.wanted o' (yielded l.toArray a.tmps) = true) → Post j (a.tmps.getD d undef) w1
theorem sqw_post {d : Tmp} (hd : o.dst = some d) (hlt : d < a.tmps.size) (hps : ps.contains k = true) (hw : Region.wanted o (yielded l.toArray a.tmps) = true)
    (hop : ∀ w1, Ext w0 w1 → Facts l ps Post k a w1 → wpList P l.toArray (fun e a' w' => e = .normal ∧ a'.defers = a.defers ∧ Post k (a'.tmps.getD d undef) w' ∧ Ext w1 w') [o] a w1)
    (hnext : ∀ v w, Post k v w → SqW P l ps Ext w0 Post Fin (k + 1) r (a.put (some d) v)) : SqW P l ps Ext w0 Post Fin k (o :: r) a := by
  unfold SqW
  rw [if_pos hw, if_pos hps]
  refine ⟨fun w1 h1 hf => ?_, fun v w hv => by rw [hd]; exact hnext v w hv⟩
  exact yields_of_wpList (R := fun v w' => Post k v w' ∧ Ext w1 w') hw hd hlt (hop w1 h1 hf)
/-- What one may use behind the head. -/
def FactsEnd (l : List Oper) (ps : List Nat) (Post : Nat → Value → World → Prop) (n : Nat) (a : Act) (w1 : World) : Prop :=
  ∀ j d, j < n → ps.contains j = true → (l[j]?).bind (·.dst) = some d → (∀ o', l[j]? = some o' → Region.wanted o' (yielded l.toArray a.tmps) = true) → Post j (a.tmps.getD d undef) w1

/-- What was there is there. -/
def ExtB (w w' : World) : Prop := Below w.heap.size w w'
theorem ExtB.refl (w : World) : ExtB w w := Below.refl _ _
theorem ExtB.trans (a b c : World) (h : ExtB a b) (h' : ExtB b c) : ExtB a c := Below.trans h (Below.mono h' h.size)
instance (w : World) : Nonempty (Grown ExtB w) := ⟨⟨w, ExtB.refl w⟩⟩
theorem ExtB.below {w w' : World} (h : ExtB w w') : Below w.heap.size w w' := h
theorem ExtB.of {w w' : World} (h : Below w.heap.size w w') : ExtB w w' := h
theorem ExtB.undrew {w w' : World} (h : ExtB w.drew w') : Below w.heap.size w w' := (Below.refl w.heap.size w).drew.trans h

theorem wp_region_sqB {id : Nat} {Q : Exit → Act → World → Prop} {a : Act} {w : World} (n : Nat) (ps : List Nat) (Post : Nat → Value → World → Prop) (hm : P.follows .mixedOrders = true) (hB : sqB l n a.tmps.size ps = true)
    (stable : ∀ i v w w', Post i v w → ExtB w w' → Post i v w')
    (h : SqW P l ps ExtB w.drew Post (fun a' => ∀ w', ExtB w.drew w' → FactsEnd l ps Post n a' w' → wpList P l.toArray Q (l.drop n) a' w') 0 (l.take n) a) : (Code.region id l.toArray true).wp P Q a w :=
  wp_region_sq n ps ExtB Post hm hB ExtB.refl ExtB.trans stable h
end
end Go.Own
namespace Go.Own
open Go.RowKit
section
variable {P : Program} {l : List Oper} {ps : List Nat} {Ext : World → World → Prop} {w0 : World} {Post : Nat → Value → World → Prop} {Fin : Act → Prop} {k : Nat} {o : Oper} {r : List Oper} {a : Act}
theorem sqw_postY {d : Tmp} (hd : o.dst = some d) (hps : ps.contains k = true) (hw : Region.wanted o (yielded l.toArray a.tmps) = true)
    (hop : ∀ w1, Ext w0 w1 → Facts l ps Post k a w1 → Yields P o a.eval w1 (fun v w' => Post k v w' ∧ Ext w1 w'))
    (hnext : ∀ v w, Post k v w → SqW P l ps Ext w0 Post Fin (k + 1) r (a.put (some d) v)) : SqW P l ps Ext w0 Post Fin k (o :: r) a := by
  unfold SqW
  rw [if_pos hw, if_pos hps]
  exact ⟨hop, fun v w hv => by rw [hd]; exact hnext v w hv⟩
end
section
variable {P : Program} {o : Oper} {ρ : Operand → Value} {w : World} {R : Value → World → Prop}
theorem yields_value {v : Value} {w' : World} (h : (execOp ρ o).run P w = .ok (.value v) w') (hR : R v w') : Yields P o ρ w R := by
  unfold Yields; rw [h]; exact hR
theorem yields_load {g off n : Nat} {vs : List Value} {ty : TypeId} {d : TypeDesc} {x : Operand} (ho : o.op = .load ty x) (hC : Cells w g off vs) (hx : ρ x = .pointer (some ⟨g, off, none⟩))
    (hu : P.underlying ty = some d) (hd : (match d with | .struct _ | .array _ _ => true | _ => false) = true) (hi : (P.info? ty).map (·.size) = some n) (hn : vs.length = n) (hR : R (.agg vs.toArray) w) : Yields P o ρ w R :=
  yields_value (v := .agg vs.toArray) (by
    unfold execOp
    simp only [ho, hx, Instr.loadAt, Instr.sureAddr, Sem.run_bind, Sem.run_pure, Result.andThen_ok, run_loadVar_cells hC hu hd hi hn]) hR
theorem yields_convert {src dst : TypeId} {x : Operand} {v : Value} {w' : World} (ho : o.op = .convert src dst x) (h : (convert src dst (ρ x)).run P w = .ok v w') (hR : R v w') : Yields P o ρ w R :=
  yields_value (v := v) (w' := w') (by
    unfold execOp
    simp only [ho, Sem.run_bind, h, Sem.run_pure, Result.andThen_ok]) hR
/-- '[]byte(s)'. -/
theorem yields_str_bytes {src dst e : TypeId} {x : Operand} {bs : List UInt8} (ho : o.op = .convert src dst x) (hx : ρ x = str bs) (hs : P.underlying src = some .string) (hd : P.underlying dst = some (.slice e)) (he : P.underlying e = some (.int .u8)) (hm : bs.length ≤ 140737488355328)
    (hR : ∀ v w', Sl w' 1 v bs.length (bs.map byv) → ExtB w w' → (∀ b, v.ownBlock = some b → w.heap.size ≤ b) → R v w') : Yields P o ρ w R := by
  obtain ⟨v, w', h1, h2, h3, h4⟩ := run_str_bytes (P := P) (w := w) hs hd he bs hm
  exact yields_convert ho (by rw [hx]; exact h1) (hR v w' h2 h3 h4)
theorem run_callFunc {f : FuncId} {args : Array Value} (hf : (P.funcs[f]?).map (fun fn => (fn.name == "runtime.NumGoroutine", fn.body.isNone)) = some (false, false)) : (callFunc f args).run P w = .ok (.enter f args) w := by
  cases hq : P.funcs[f]? with
  | none => simp [hq] at hf
  | some fn =>
    simp only [hq, Option.map_some, Option.some.injEq, Prod.mk.injEq] at hf
    unfold callFunc
    have hn : fn.name ≠ "runtime.NumGoroutine" := by simpa using hf.1
    have hb : fn.body ≠ none := by intro h; simp [h] at hf
    simp [hq, hn, hb]
theorem yields_call {f : FuncId} {xs : Array Operand} {ts : Array TypeId} {args : Array Value} (ho : o.op = .call { callee := .value (.func f), args := xs, argTypes := ts })
    (hf : (P.funcs[f]?).map (fun fn => (fn.name == "runtime.NumGoroutine", fn.body.isNone)) = some (false, false)) (hfn : ρ (.func f) = .func (.func f) #[] #[]) (ha : xs.toList.map ρ = args.toList) (hc : Calls P f args w fun e w' => ∃ v, e = .returned v ∧ R v w') : Yields P o ρ w R := by
  have ha' : xs.map ρ = args := by
    apply Array.toList_inj.1
    rw [Array.toList_map]; exact ha
  have hr : (execOp ρ o).run P w = .ok (.enter f args) w := by
    unfold execOp
    simp only [ho, resolve, hfn, Deferred.ofValue, ha']
    simp [invoke, run_callFunc hf]
  unfold Yields; rw [hr]; exact hc
end
end Go.Own
end
