/- top: trees of questions in plain Lean: the least tree, what follows it, and that no other one costs less. No program. -/
import Derived.Test.YtkccmpikeekceaaGreatTQ07
import Derived.Test.YtkccmpikeekceaaGreatTQ05
import Derived.Deep.DeepAppendRoom
/- top: trees of questions in plain Lean: the least tree, what follows it, and that no other one costs less. No program. -/
section
namespace Go.Top
inductive Tr where
  | leaf (i : Nat)
  | node (k : Nat) (no yes : Tr)
deriving DecidableEq, Repr
/-- Does world i have question k? -/
def hasQ (ws : List Nat) (k i : Nat) : Bool := (ws.getD i 0).testBit k
def noL (ws : List Nat) (k : Nat) (l : List Nat) : List Nat := l.filter fun i => !hasQ ws k i
def yesL (ws : List Nat) (k : Nat) (l : List Nat) : List Nat := l.filter fun i => hasQ ws k i
/-- What a tree costs for some worlds, if it tells them apart. -/
def folT (ws cs : List Nat) : Tr → List Nat → Option Nat
  | .leaf i, l => if l = [i] then some 0 else none
  | .node k a b, l =>
      if l = [] ∨ cs.length ≤ k then none
      else match folT ws cs a (noL ws k l), folT ws cs b (yesL ws k l) with
        | some x, some y => some (cs.getD k 0 + max x y)
        | _, _ => none
/-- One question tried: the better one of what is known and of the tree that asks it first. -/
def tryQ (ws cs : List Nat) (f : List Nat → Option (Tr × Nat)) (l : List Nat) (out : Option (Tr × Nat)) (k : Nat) : Option (Tr × Nat) :=
  if yesL ws k l = [] ∨ noL ws k l = [] then out
  else match f (noL ws k l), f (yesL ws k l) with
    | some (a, x), some (b, y) =>
        match out with
        | none => some (.node k a b, cs.getD k 0 + max x y)
        | some (t, c) => if cs.getD k 0 + max x y < c then some (.node k a b, cs.getD k 0 + max x y) else some (t, c)
    | _, _ => out
def bestT (ws cs : List Nat) : Nat → List Nat → Option (Tr × Nat)
  | 0, _ => none
  | f + 1, l => match l with
    | [] => none
    | [i] => some (.leaf i, 0)
    | _ => (List.range cs.length).foldl (tryQ ws cs (bestT ws cs f) l) none

theorem split_len (ws : List Nat) (k : Nat) (l : List Nat) : (noL ws k l).length + (yesL ws k l).length = l.length := by
  unfold noL yesL
  induction l with
  | nil => rfl
  | cons a l ih => simp only [List.filter_cons]; cases hasQ ws k a <;> simp <;> omega

/-- What is known after some questions: a tree that tells the worlds apart at its cost, and no tree that begins with one of them costs less. -/
structure Kn (ws cs : List Nat) (l : List Nat) (ks : List Nat) (out : Option (Tr × Nat)) : Prop where
  sound : ∀ t c, out = some (t, c) → folT ws cs t l = some c
  least : ∀ k ∈ ks, ∀ a b c, yesL ws k l ≠ [] → noL ws k l ≠ [] → folT ws cs (.node k a b) l = some c → ∃ t c', out = some (t, c') ∧ c' ≤ c
/-- Are any two of the worlds told apart by a question? -/
def Apart (ws cs : List Nat) (l : List Nat) : Prop := ∀ i ∈ l, ∀ j ∈ l, i ≠ j → ∃ k < cs.length, hasQ ws k i ≠ hasQ ws k j
theorem Apart.sub {ws cs l m : List Nat} (h : Apart ws cs l) (hm : ∀ i ∈ m, i ∈ l) : Apart ws cs m := fun i hi j hj hij => h i (hm i hi) j (hm j hj) hij

structure BestOk (ws cs : List Nat) (l : List Nat) (r : Option (Tr × Nat)) : Prop where
  is : ∃ t c, r = some (t, c) ∧ folT ws cs t l = some c
  least : ∀ t c u d, r = some (t, c) → folT ws cs u l = some d → c ≤ d

theorem fol_nil (ws cs : List Nat) (t : Tr) : folT ws cs t [] = none := by
  cases t with
  | leaf i => simp [folT]
  | node k a b => simp [folT]

theorem best_ok (ws cs : List Nat) : ∀ (f : Nat) (l : List Nat), l.length ≤ f → l ≠ [] → l.Nodup → Apart ws cs l → BestOk ws cs l (bestT ws cs f l) := by
  intro f
  induction f with
  | zero => intro l h h0; exact absurd (List.length_eq_zero_iff.1 (by omega)) h0
  | succ f ih =>
    intro l hl h0 hnd hap
    match l, hl, h0, hnd, hap with
    | [i], _, _, _, _ =>
      refine ⟨⟨.leaf i, 0, rfl, by simp [folT]⟩, ?_⟩
      intro t c u d h _
      simp only [bestT, Option.some.injEq, Prod.mk.injEq] at h
      omega
    | i :: j :: m, hl, _, hnd, hap =>
      generalize hL : i :: j :: m = l at *
      have hb : bestT ws cs (f + 1) l = (List.range cs.length).foldl (tryQ ws cs (bestT ws cs f) l) none := by rw [← hL]; rfl
      rw [hb]
      have hns : ∀ k, noL ws k l ≠ [] → yesL ws k l ≠ [] → BestOk ws cs (noL ws k l) (bestT ws cs f (noL ws k l)) ∧ BestOk ws cs (yesL ws k l) (bestT ws cs f (yesL ws k l)) := by
        intro k h1 h2
        have hs := split_len ws k l
        have l1 : 0 < (noL ws k l).length := List.length_pos_iff.2 h1
        have l2 : 0 < (yesL ws k l).length := List.length_pos_iff.2 h2
        exact ⟨ih _ (by omega) h1 (hnd.filter _) (hap.sub fun i hi => (List.mem_filter.1 hi).1), ih _ (by omega) h2 (hnd.filter _) (hap.sub fun i hi => (List.mem_filter.1 hi).1)⟩
      have step : ∀ (ks : List Nat) (done : List Nat) (out : Option (Tr × Nat)), (∀ k ∈ ks, k < cs.length) → Kn ws cs l done out → Kn ws cs l (done ++ ks) (ks.foldl (tryQ ws cs (bestT ws cs f) l) out) := by
        intro ks
        induction ks with
        | nil => intro done out _ h; simpa using h
        | cons k ks ihk =>
          intro done out hk h
          rw [List.foldl_cons, show done ++ k :: ks = (done ++ [k]) ++ ks by simp]
          refine ihk _ _ (fun k' hk' => hk k' (List.mem_cons_of_mem _ hk')) ?_
          have hkc : ¬ cs.length ≤ k := Nat.not_le.2 (hk k (List.mem_cons_self ..))
          unfold tryQ
          split
          · rename_i hsp
            refine ⟨h.sound, ?_⟩
            intro k' hk' a b c h1 h2 h3
            rcases List.mem_append.1 hk' with h4 | h4
            · exact h.least k' h4 a b c h1 h2 h3
            · rw [List.mem_singleton] at h4; subst h4
              rcases hsp with h5 | h5
              · exact absurd h5 h1
              · exact absurd h5 h2
          · rename_i hsp
            have h1 : yesL ws k l ≠ [] := fun e => hsp (.inl e)
            have h2 : noL ws k l ≠ [] := fun e => hsp (.inr e)
            obtain ⟨⟨⟨a, x, ea, fa⟩, la⟩, ⟨⟨b, y, eb, fb⟩, lb⟩⟩ := hns k h2 h1
            rw [ea, eb]
            dsimp only
            have hnode : folT ws cs (.node k a b) l = some (cs.getD k 0 + max x y) := by
              have hl0 : l ≠ [] := by rw [← hL]; simp
              simp only [folT]; rw [if_neg (fun e => e.elim hl0 hkc), fa, fb]
            have hle : ∀ a' b' c, folT ws cs (.node k a' b') l = some c → cs.getD k 0 + max x y ≤ c := by
              intro a' b' c h3
              simp only [folT] at h3
              split at h3
              · exact absurd h3 (by simp)
              · split at h3
                · rename_i x' y' e1 e2
                  have := la a x a' x' ea e1
                  have := lb b y b' y' eb e2
                  injection h3 with h3; omega
                · exact absurd h3 (by simp)
            rcases out with _ | ⟨t, c⟩
            · refine ⟨?_, ?_⟩
              · intro t c e; injection e with e; injection e with e1 e2; subst e1 e2; exact hnode
              · intro k' hk' a' b' c h3 h4 h5
                rcases List.mem_append.1 hk' with h6 | h6
                · obtain ⟨_, _, e, _⟩ := h.least k' h6 a' b' c h3 h4 h5; exact absurd e (by simp)
                · rw [List.mem_singleton] at h6; subst h6
                  exact ⟨_, _, rfl, hle a' b' c h5⟩
            · dsimp only
              split
              · rename_i hlt
                refine ⟨?_, ?_⟩
                · intro t c e; injection e with e; injection e with e1 e2; subst e1 e2; exact hnode
                · intro k' hk' a' b' c' h3 h4 h5
                  rcases List.mem_append.1 hk' with h6 | h6
                  · obtain ⟨t', c2, e, hc⟩ := h.least k' h6 a' b' c' h3 h4 h5
                    injection e with e; injection e with e1 e2; subst e1 e2
                    exact ⟨_, _, rfl, by omega⟩
                  · rw [List.mem_singleton] at h6; subst h6
                    exact ⟨_, _, rfl, hle a' b' c' h5⟩
              · rename_i hlt
                refine ⟨h.sound, ?_⟩
                intro k' hk' a' b' c' h3 h4 h5
                rcases List.mem_append.1 hk' with h6 | h6
                · exact h.least k' h6 a' b' c' h3 h4 h5
                · rw [List.mem_singleton] at h6; subst h6
                  have := hle a' b' c' h5
                  exact ⟨_, _, rfl, by omega⟩
      have K := step (List.range cs.length) [] none (fun k hk => List.mem_range.1 hk) ⟨fun _ _ e => absurd e (by simp), fun k hk => absurd hk (by simp)⟩
      rw [List.nil_append] at K
      -- some question tells i and j apart
      have hij : i ≠ j := by
        rw [← hL] at hnd
        intro e; subst e; simp at hnd
      obtain ⟨k, hk, hd⟩ := hap i (by rw [← hL]; simp) j (by rw [← hL]; simp) hij
      have hmi : i ∈ l := by rw [← hL]; simp
      have hmj : j ∈ l := by rw [← hL]; simp
      have hy : yesL ws k l ≠ [] := by
        intro e
        have h1 := List.filter_eq_nil_iff.1 e i hmi
        have h2 := List.filter_eq_nil_iff.1 e j hmj
        cases h3 : hasQ ws k i <;> cases h4 : hasQ ws k j <;> simp_all
      have hn : noL ws k l ≠ [] := by
        intro e
        have h1 := List.filter_eq_nil_iff.1 e i hmi
        have h2 := List.filter_eq_nil_iff.1 e j hmj
        cases h3 : hasQ ws k i <;> cases h4 : hasQ ws k j <;> simp_all
      obtain ⟨⟨⟨a, x, ea, fa⟩, la⟩, ⟨⟨b, y, eb, fb⟩, lb⟩⟩ := hns k hn hy
      have hnode : folT ws cs (.node k a b) l = some (cs.getD k 0 + max x y) := by
        have hl0 : l ≠ [] := by rw [← hL]; simp
        simp only [folT]; rw [if_neg (fun e => e.elim hl0 (Nat.not_le.2 hk)), fa, fb]
      obtain ⟨t, c, e, _⟩ := K.least k (List.mem_range.2 hk) a b _ hy hn hnode
      refine ⟨⟨t, c, e, K.sound t c e⟩, ?_⟩
      intro t' c' u d e' hu
      -- any tree that tells the worlds apart begins with a question; if it does not split them it costs at least as much as its part
      have main : ∀ (u : Tr) (d : Nat), folT ws cs u l = some d → c ≤ d := by
        intro u
        induction u with
        | leaf n =>
          intro d hu
          simp only [folT] at hu
          rw [← hL] at hu
          simp at hu
        | node k' a' b' iha ihb =>
          intro d hu
          by_cases h1 : yesL ws k' l = []
          · simp only [folT] at hu
            rw [h1, fol_nil] at hu
            split at hu
            · exact absurd hu (by simp)
            · split at hu
              · rename_i e2; exact absurd e2 (by simp)
              · exact absurd hu (by simp)
          · by_cases h2 : noL ws k' l = []
            · simp only [folT] at hu
              rw [h2, fol_nil] at hu
              split at hu
              · exact absurd hu (by simp)
              · split at hu
                · rename_i e2 _; exact absurd e2 (by simp)
                · exact absurd hu (by simp)
            · have hk' : k' < cs.length := by
                simp only [folT] at hu
                split at hu
                · exact absurd hu (by simp)
                · rename_i h3; exact Nat.lt_of_not_le fun h => h3 (.inr h)
              obtain ⟨t2, c2, e2, hle⟩ := K.least k' (List.mem_range.2 hk') a' b' d h1 h2 hu
              rw [e] at e2; injection e2 with e2; injection e2 with _ e2
              omega
      rw [e] at e'; injection e' with e'; injection e' with _ e'
      subst e'
      exact main u d hu

/-- The walk of world i down a tree: at most m questions. -/
def walkT (ws : List Nat) (cs : List Nat) (i : Nat) : Nat → Tr → Nat → Tr × Nat
  | 0, t, p => (t, p)
  | _ + 1, .leaf j, p => (.leaf j, p)
  | m + 1, .node k a b, p => walkT ws cs i m (if hasQ ws k i then b else a) (p + cs.getD k 0)

theorem walk_ok (ws cs : List Nat) (i : Nat) : ∀ (m : Nat) (t : Tr) (l : List Nat) (c p : Nat), folT ws cs t l = some c → i ∈ l → l.length ≤ m + 1 → ∃ q, walkT ws cs i m t p = (.leaf i, q) ∧ q ≤ p + c := by
  intro m
  induction m with
  | zero =>
    intro t l c p h hi hl
    cases t with
    | leaf j =>
      simp only [folT] at h
      split at h
      · rename_i e; subst e; rw [List.mem_singleton] at hi; subst hi; exact ⟨p, rfl, by omega⟩
      · exact absurd h (by simp)
    | node k a b =>
      exfalso
      simp only [folT] at h
      split at h
      · exact absurd h (by simp)
      · split at h
        · rename_i x y e1 e2
          have h1 : noL ws k l ≠ [] := fun e => by rw [e, fol_nil] at e1; exact absurd e1 (by simp)
          have h2 : yesL ws k l ≠ [] := fun e => by rw [e, fol_nil] at e2; exact absurd e2 (by simp)
          have := split_len ws k l
          have := List.length_pos_iff.2 h1
          have := List.length_pos_iff.2 h2
          omega
        · exact absurd h (by simp)
  | succ m ih =>
    intro t l c p h hi hl
    cases t with
    | leaf j =>
      simp only [folT] at h
      split at h
      · rename_i e; subst e; rw [List.mem_singleton] at hi; subst hi; exact ⟨p, rfl, by omega⟩
      · exact absurd h (by simp)
    | node k a b =>
      simp only [folT] at h
      split at h
      · exact absurd h (by simp)
      · split at h
        · rename_i x y e1 e2
          have h1 : noL ws k l ≠ [] := fun e => by rw [e, fol_nil] at e1; exact absurd e1 (by simp)
          have h2 : yesL ws k l ≠ [] := fun e => by rw [e, fol_nil] at e2; exact absurd e2 (by simp)
          have := split_len ws k l
          have := List.length_pos_iff.2 h1
          have := List.length_pos_iff.2 h2
          injection h with h
          simp only [walkT]
          cases hq : hasQ ws k i with
          | true =>
            obtain ⟨q, e, hq'⟩ := ih b (yesL ws k l) y (p + cs.getD k 0) e2 (List.mem_filter.2 ⟨hi, hq⟩) (by omega)
            exact ⟨q, by simpa using e, by omega⟩
          | false =>
            obtain ⟨q, e, hq'⟩ := ih a (noL ws k l) x (p + cs.getD k 0) e1 (List.mem_filter.2 ⟨hi, by simp [hq]⟩) (by omega)
            exact ⟨q, by simpa using e, by omega⟩
        · exact absurd h (by simp)
end Go.Top
end
/- top: the other tree of the law, its code, and numbers as sets of worlds. No program. -/
section
namespace Go.Top
/-- The code of a tree. -/
def codeT : Tr → List Int
  | .leaf i => [-1 - (i : Int)]
  | .node k a b => (k : Int) :: (codeT a ++ codeT b)
theorem code_ne (t : Tr) : codeT t ≠ [] := by cases t <;> simp [codeT]
/-- The first question, from one on and around, that splits some worlds. -/
def firstQ (ws : List Nat) (q : Nat) (l : List Nat) (first : Nat) : Nat → Nat → Option Nat
  | 0, _ => none
  | n + 1, i => if noL ws ((first + i) % q) l ≠ [] ∧ yesL ws ((first + i) % q) l ≠ [] then some ((first + i) % q) else firstQ ws q l first n (i + 1)
def otherT (ws cs : List Nat) (fst : Nat → Nat) : Nat → List Nat → Nat → Option Tr
  | 0, _, _ => none
  | f + 1, l, at' => match l with
    | [i] => some (.leaf i)
    | _ => match firstQ ws cs.length l (fst at') cs.length 0 with
      | none => none
      | some k => match otherT ws cs fst f (noL ws k l) (at' + 1), otherT ws cs fst f (yesL ws k l) (at' + 2) with
        | some a, some b => some (.node k a b)
        | _, _ => none
theorem firstQ_some (ws : List Nat) (q : Nat) (l : List Nat) (first : Nat) : ∀ n i, (∃ j, i ≤ j ∧ j < i + n ∧ noL ws ((first + j) % q) l ≠ [] ∧ yesL ws ((first + j) % q) l ≠ []) →
    ∃ k, firstQ ws q l first n i = some k ∧ noL ws k l ≠ [] ∧ yesL ws k l ≠ [] ∧ ∃ j, k = (first + j) % q := by
  intro n
  induction n with
  | zero => rintro i ⟨j, h1, h2, _⟩; omega
  | succ n ih =>
    rintro i ⟨j, h1, h2, h3, h4⟩
    unfold firstQ
    split
    · rename_i h; exact ⟨_, rfl, h.1, h.2, i, rfl⟩
    · rename_i h
      refine ih (i + 1) ⟨j, ?_, by omega, h3, h4⟩
      rcases Nat.lt_or_ge i j with h5 | h5
      · omega
      · have : i = j := by omega
        subst this; exact absurd ⟨h3, h4⟩ h
theorem around_all {first q k : Nat} (hk : k < q) : ∃ j < q, (first + j) % q = k := by
  refine ⟨(k + (q - first % q)) % q, Nat.mod_lt _ (by omega), ?_⟩
  have h1 := Nat.mod_lt first (show 0 < q by omega)
  have h2 := Nat.div_add_mod first q
  rw [Nat.add_mod, Nat.mod_mod, ← Nat.add_mod]
  have : first + (k + (q - first % q)) = k + q * (first / q + 1) := by
    rw [Nat.mul_add]; omega
  rw [this, Nat.add_mul_mod_self_left, Nat.mod_eq_of_lt hk]
theorem other_ok (ws cs : List Nat) (fst : Nat → Nat) : ∀ (f : Nat) (l : List Nat) (a : Nat), l.length ≤ f → l ≠ [] → l.Nodup → Apart ws cs l → ∃ t c, otherT ws cs fst f l a = some t ∧ folT ws cs t l = some c := by
  intro f
  induction f with
  | zero => intro l a h h0; exact absurd (List.length_eq_zero_iff.1 (by omega)) h0
  | succ f ih =>
    intro l a hl h0 hnd hap
    match l, hl, h0, hnd, hap with
    | [i], _, _, _, _ => exact ⟨.leaf i, 0, rfl, by simp [folT]⟩
    | i :: j :: m, hl, _, hnd, hap =>
      generalize hL : i :: j :: m = l at *
      have hb : otherT ws cs fst (f + 1) l a = match firstQ ws cs.length l (fst a) cs.length 0 with
          | none => none
          | some k => match otherT ws cs fst f (noL ws k l) (a + 1), otherT ws cs fst f (yesL ws k l) (a + 2) with
            | some a, some b => some (.node k a b)
            | _, _ => none := by rw [← hL]; rfl
      have hij : i ≠ j := by rw [← hL] at hnd; intro e; subst e; simp at hnd
      obtain ⟨k, hk, hd⟩ := hap i (by rw [← hL]; simp) j (by rw [← hL]; simp) hij
      have hmi : i ∈ l := by rw [← hL]; simp
      have hmj : j ∈ l := by rw [← hL]; simp
      have hy : yesL ws k l ≠ [] := by
        intro e
        have h1 := List.filter_eq_nil_iff.1 e i hmi
        have h2 := List.filter_eq_nil_iff.1 e j hmj
        cases h3 : hasQ ws k i <;> cases h4 : hasQ ws k j <;> simp_all
      have hn : noL ws k l ≠ [] := by
        intro e
        have h1 := List.filter_eq_nil_iff.1 e i hmi
        have h2 := List.filter_eq_nil_iff.1 e j hmj
        cases h3 : hasQ ws k i <;> cases h4 : hasQ ws k j <;> simp_all
      obtain ⟨j', hj', hjk⟩ := around_all (first := fst a) hk
      obtain ⟨k', e, h1, h2, j2, hk2⟩ := firstQ_some ws cs.length l (fst a) cs.length 0 ⟨j', by omega, by omega, by rw [hjk]; exact hn, by rw [hjk]; exact hy⟩
      have hk' : k' < cs.length := by rw [hk2]; exact Nat.mod_lt _ (by omega)
      have hs := split_len ws k' l
      have l1 := List.length_pos_iff.2 h1
      have l2 := List.length_pos_iff.2 h2
      obtain ⟨t1, c1, e1, f1⟩ := ih (noL ws k' l) (a + 1) (by omega) h1 (hnd.filter _) (hap.sub fun i hi => (List.mem_filter.1 hi).1)
      obtain ⟨t2, c2, e2, f2⟩ := ih (yesL ws k' l) (a + 2) (by omega) h2 (hnd.filter _) (hap.sub fun i hi => (List.mem_filter.1 hi).1)
      refine ⟨.node k' t1 t2, cs.getD k' 0 + max c1 c2, by rw [hb, e]; dsimp only; rw [e1, e2], ?_⟩
      have hl0 : l ≠ [] := by rw [← hL]; simp
      simp only [folT]; rw [if_neg (fun e => e.elim hl0 (Nat.not_le.2 hk')), f1, f2]
/-- Some worlds as a number. -/
def maskL (l : List Nat) : Nat := l.foldr (fun i m => m ||| 2 ^ i) 0
theorem mask_bit (l : List Nat) (i : Nat) : (maskL l).testBit i = decide (i ∈ l) := by
  unfold maskL
  induction l with
  | nil => simp
  | cons a l ih =>
    rw [List.foldr_cons, Nat.testBit_or, ih, Nat.testBit_two_pow]
    by_cases h : a = i
    · subst h; simp
    · have h' : ¬ i = a := fun e => h e.symm
      simp [h, h']
theorem mask_inj {l m : List Nat} (h : maskL l = maskL m) (i : Nat) : i ∈ l ↔ i ∈ m := by
  have h1 := mask_bit l i
  rw [h, mask_bit] at h1
  simpa using h1.symm
/-- The sorted list of worlds below n that a number has. -/
def elsN (n S : Nat) : List Nat := (List.range n).filter fun i => S.testBit i
theorem mask_all (n : Nat) : maskL (List.range n) = 2 ^ n - 1 := by
  apply Nat.eq_of_testBit_eq
  intro i
  rw [mask_bit, Nat.testBit_two_pow_sub_one]
  simp
theorem els_filter (n S : Nat) (p : Nat → Bool) : elsN n (maskL ((elsN n S).filter p)) = (elsN n S).filter p := by
  unfold elsN
  conv => lhs; arg 1; ext i; rw [mask_bit]
  rw [List.filter_filter]
  apply List.filter_congr
  intro i hi
  have : i < n := List.mem_range.1 hi
  simp [this]
theorem els_range (n : Nat) : elsN n (2 ^ n - 1) = List.range n := by
  unfold elsN
  rw [List.filter_eq_self]
  intro i hi
  rw [Nat.testBit_two_pow_sub_one]
  simpa using hi
end Go.Top
end
/- top: what other texts say of rows, appends, maps (generic); two rows that appends fill. -/
section
namespace Go.Own
open Go.RowKit
theorem Chg.grown {F : List Nat} {X w w' : World} {row : Option Nat} (h : Chg F X w) (hg : w.grownBy w' row) (hr : ∀ b, row = some b → X.heap.size ≤ b) : Chg F X w' :=
  ⟨hg.os.trans h.os, hg.tape.trans h.tape, hg.output.trans h.output, Nat.le_trans h.size hg.size, fun k hk hn => (hg.block k (Nat.lt_of_lt_of_le hk h.size) (fun e => by have := hr k e.symm; omega)).trans (h.block k hk hn)⟩
theorem IMap.grown {w w' : World} {b : Nat} {m : List (Int × Value)} {row : Option Nat} (h : IMap w b m) (hg : w.grownBy w' row) (hb : some b ≠ row) : IMap w' b m := h.same (hg.block b h.lt hb)
theorem own_grown {w w' : World} {base size n : Nat} {e : TypeId} {v : Value} {xs : List Value} {row : Option Nat} (h : w.ownsRow base e size v n xs) (hg : w.grownBy w' row) (hr : ∀ b, v.ownBlock = some b → some b ≠ row) : w'.ownsRow base e size v n xs := by
  refine ⟨h.1, ?_⟩
  rcases h.2 with hn | ⟨g, cap, cur, rfl, hb, hgg, rest⟩
  · exact .inl hn
  · have hlt : g < w.heap.size := by
      rcases Nat.lt_or_ge g w.heap.size with h8 | h8
      · exact h8
      · rw [Array.getElem?_eq_none h8] at hgg; cases hgg
    exact .inr ⟨g, cap, cur, rfl, hb, (hg.block g hlt (hr g rfl)).trans hgg, rest⟩
/-- 'append(s, x...)', and where the row lies. -/
theorem run_append_where {P : Program} (w : World) (base : Nat) (t ty e : TypeId) (i : TypeInfo) (z : Value) (size bytes : Nat) (ht : P.underlying t = some (.slice e)) (hi : P.info? e = some i) (hz : i.zero = some z)
    (hsize : i.size = size) (hby : i.bytes = bytes) (hzs : z.cells.size = size) (hsz : 0 < size)
    (v : Value) (n : Nat) (xs : List Value) (hown : w.ownsRow base e size v n xs)
    (a : Addr) (m c : Nat) (news : List Value) (hl : news.length = m * size) (hnews : ∀ j u, news[j]? = some u → w.cell? (a.add j) = some u) (h1 : ∀ u ∈ news, u.oneCell' = true)
    (h63 : n + m ≤ maxLen) (hbytes : (n + m) * bytes ≤ 140737488355328) (hbase : base ≤ w.heap.size) :
    ∃ v' w', (Builtin.append_ #[t, t] ty #[v, .slice (some a) m c]).run P w = .ok v' w' ∧ w'.ownsRow base e size v' (n + m) (xs ++ news) ∧ w.grownBy w' v.ownBlock ∧
      (∀ b, v'.ownBlock = some b → v.ownBlock = some b ∨ w.heap.size ≤ b) := by
  obtain ⟨v', w', hr, h2, h3, _⟩ := run_append_own w base t ty e i z size bytes ht hi hz hsize hby hzs hsz v n xs hown a m c news hl hnews h1 h63 hbytes hbase
  refine ⟨v', w', hr, h2, h3, fun b hb => ?_⟩
  rcases hown.2 with ⟨rfl, rfl⟩ | ⟨g, cap, cur, rfl, hbg, hg, hnc, hcm, hcs, htake⟩
  · have hx : xs = [] := List.eq_nil_of_length_eq_zero (by simpa using hown.1)
    subst hx
    obtain ⟨v2, w2, hr2, h4, _, _⟩ := run_append_own w w.heap.size t ty e i z size bytes ht hi hz hsize hby hzs hsz _ 0 [] (World.ownsRow_nil w w.heap.size e size) a m c news hl hnews h1 h63 hbytes (Nat.le_refl _)
    rw [hr] at hr2
    injection hr2 with e1 e2
    subst e1 e2
    obtain ⟨_, _, _, hge⟩ := own_slice h4
    exact .inr (hge b hb)
  · by_cases hroom : n + m ≤ cap
    · obtain ⟨w2, hr2, _, _⟩ := run_append_own_spare w base t ty e i size ht hi hsize g n cap xs hown a m c news hl hnews h1 hroom
      rw [hr] at hr2
      injection hr2 with e1 e2
      subst e1
      exact .inl hb
    · subst hsize
      subst hby
      have hsmall : n + m ≤ 9223372036854775807 := by simp only [maxLen] at h63; omega
      have holds : ∀ j u, xs[j]? = some u → w.cell? ((⟨g, 0, none⟩ : Addr).add j) = some u := hown.cells (g := g) rfl
      have hr2 := run_append_grow (P := P) w t ty e i z ht hi hz ⟨g, 0, none⟩ n cap xs hown.1 holds a m c news hl hnews (by omega) (by omega) (growslice_fits (by omega) hbytes)
      rw [hr] at hr2
      injection hr2 with e1 e2
      subst e1
      cases hb
      exact .inr (Nat.le_refl _)
theorem wpList_append_where {P : Program} {w : World} {ops : Array Oper} {rest : List Oper} {o : Oper} {a : Act} {Q : Exit → Act → World → Prop} (hgd : o.guard = none) (s x : Operand) (t : TypeId)
    (ho : o.op = .call { callee := .builtin .append, args := #[s, x], argTypes := #[t, t] })
    (base : Nat) (e : TypeId) (z : Value) (size bytes : Nat) (ht : P.underlying t = some (.slice e)) (hi : (P.info? e).map (fun i => (i.zero, i.size, i.bytes)) = some (some z, size, bytes))
    (hzs : z.cells.size = size) (hsz : 0 < size)
    (v : Value) (n : Nat) (xs : List Value) (hs : a.eval s = v) (hown : w.ownsRow base e size v n xs)
    (ad : Addr) (m c : Nat) (news : List Value) (hx : a.eval x = .slice (some ad) m c) (hl : news.length = m * size) (hnews : ∀ j u, news[j]? = some u → w.cell? (ad.add j) = some u) (h1 : ∀ u ∈ news, u.oneCell' = true)
    (h63 : n + m ≤ maxLen) (hbytes : (n + m) * bytes ≤ 140737488355328) (hbase : base ≤ w.heap.size)
    (h : ∀ v' w', w'.ownsRow base e size v' (n + m) (xs ++ news) → w.grownBy w' v.ownBlock → (∀ b, v'.ownBlock = some b → v.ownBlock = some b ∨ w.heap.size ≤ b) → wpList P ops Q rest (a.put o.dst v') w') : wpList P ops Q (o :: rest) a w := by
  obtain ⟨i, hi1, hi2, hi3, hi4⟩ := info_parts hi
  refine wpList_plain hgd fun _ hK => ?_
  obtain ⟨v', w', hr, h2, h3, h4⟩ := run_append_where (P := P) w base t o.type e i z size bytes ht hi1 hi2 hi3 hi4 hzs hsz v n xs hown ad m c news hl hnews h1 h63 hbytes hbase
  unfold Oper.wp execOp
  simp only [ho, resolve, invoke, builtin, Sem.run_bind, Sem.run_pure, Result.andThen_ok, List.map_toArray, List.map_cons, List.map_nil, hs, hx, hr]
  exact hK _ _ (h v' w' h2 h3 h4)
end Go.Own
namespace Go.Own
open Go.RowKit
/-- Block A is a map that says f. -/
def MapV (w : World) (A : Nat) (f : Int → Option Value) : Prop := ∃ m, IMap w A m ∧ ∀ k, mget m k = f k
theorem MapV.lt {w : World} {A : Nat} {f : Int → Option Value} (h : MapV w A f) : A < w.heap.size := by obtain ⟨m, h, _⟩ := h; exact h.lt
theorem MapV.below {w w' : World} {A : Nat} {f : Int → Option Value} (h : MapV w A f) (hb : Below w.heap.size w w') : MapV w' A f := by obtain ⟨m, h, h2⟩ := h; exact ⟨m, h.below hb, h2⟩
theorem MapV.chg {F : List Nat} {w w' : World} {A : Nat} {f : Int → Option Value} (h : MapV w A f) (hb : Chg F w w') (hA : A ∉ F) : MapV w' A f := by obtain ⟨m, h, h2⟩ := h; exact ⟨m, h.chg hb hA, h2⟩
theorem MapV.congr {w : World} {A : Nat} {f g : Int → Option Value} (h : MapV w A f) (e : ∀ k, f k = g k) : MapV w A g := by obtain ⟨m, h, h2⟩ := h; exact ⟨m, h, fun k => by rw [h2, e]⟩
theorem MapV.new (w : World) : MapV (w.alloc (.map #[] 0)) w.heap.size fun _ => none := ⟨[], IMap.new w, fun _ => rfl⟩
theorem MapV.set {w' : World} {A : Nat} {f : Int → Option Value} {m : List (Int × Value)} (hm : ∀ k, mget m k = f k) {k : Int} {v : Value} (h : IMap w' A (mset m k v)) : MapV w' A fun x => if x = k then some v else f x :=
  ⟨_, h, fun x => by rw [mget_mset, hm x]⟩
theorem MapV.look {P : Program} {T K E : TypeId} {w : World} {A : Nat} {f : Int → Option Value} (h : MapV w A f) (hT : P.underlying T = some (.map K E)) (hK : P.underlying K = some (.int .i64)) {z : Value} (hz : (zeroValue E).run P w = .ok z w) (k : Int) (ok : Bool) :
    (Instr.lookup T (.map (some A)) (.int .i64 k) ok).run P w = .ok (if ok then .tuple #[(f k).getD z, .bool (f k).isSome] else (f k).getD z) w := by
  obtain ⟨m, hm, h2⟩ := h
  rw [run_lookup_imap hT hK hm hz k ok, h2]
theorem own_lt {w : World} {base size n : Nat} {e : TypeId} {v : Value} {xs : List Value} (h : w.ownsRow base e size v n xs) {b : Nat} (hb : v.ownBlock = some b) : b < w.heap.size := by
  rcases h.2 with ⟨h6, _⟩ | ⟨g, cap, cur, h6, _, h7, _⟩
  · rw [h6] at hb; cases hb
  · rw [h6] at hb
    cases hb
    rcases Nat.lt_or_ge g w.heap.size with h8 | h8
    · exact h8
    · rw [Array.getElem?_eq_none h8] at h7; cases h7
end Go.Own
namespace Go.Top
open Go.RowKit Go.Own
abbrev nvs (l : List Nat) : List Value := l.map fun (j : Nat) => .int .i64 j
/-- Two rows that appends fill, apart. -/
structure Two (X w : World) (t : TypeId) (v1 v2 : Value) (A B : List Nat) : Prop where
  a : w.ownsRow X.heap.size t 1 v1 A.length (nvs A)
  b : w.ownsRow X.heap.size t 1 v2 B.length (nvs B)
  ne : ∀ b, v1.ownBlock = some b → v2.ownBlock ≠ some b
  below : Below X.heap.size X w
theorem Two.start (X : World) (t : TypeId) : Two X X t (.slice none 0 0) (.slice none 0 0) [] [] :=
  ⟨World.ownsRow_nil _ _ _ _, World.ownsRow_nil _ _ _ _, (by intro b h; cases h), Below.refl _ _⟩
theorem Two.alloc {X w : World} {t : TypeId} {v1 v2 : Value} {A B : List Nat} (h : Two X w t v1 v2 A B) (o : Obj) : Two X (w.alloc o) t v1 v2 A B :=
  ⟨h.a.alloc o, h.b.alloc o, h.ne, h.below.trans ((alloc_below _ _).mono h.below.size)⟩
theorem Two.fst {X W w' : World} {t : TypeId} {v1 v2 v' : Value} {A B : List Nat} {x : Nat} (h : Two X W t v1 v2 A B) (h1 : w'.ownsRow X.heap.size t 1 v' (A.length + 1) (nvs A ++ [.int .i64 x])) (h2 : W.grownBy w' v1.ownBlock) (h3 : ∀ b, v'.ownBlock = some b → v1.ownBlock = some b ∨ W.heap.size ≤ b) :
    Two X w' t v' v2 (A ++ [x]) B :=
  ⟨by simp only [nvs, List.length_append, List.map_append]; exact h1, own_grown h.b h2 (fun b hb e => h.ne b e.symm hb), fun b hb hb2 => by
      rcases h3 b hb with h4 | h4
      · exact h.ne b h4 hb2
      · have := own_lt h.b hb2; omega,
   grown_below h.below h.a h2 h.below.size⟩
theorem Two.snd {X W w' : World} {t : TypeId} {v1 v2 v' : Value} {A B : List Nat} {x : Nat} (h : Two X W t v1 v2 A B) (h1 : w'.ownsRow X.heap.size t 1 v' (B.length + 1) (nvs B ++ [.int .i64 x])) (h2 : W.grownBy w' v2.ownBlock) (h3 : ∀ b, v'.ownBlock = some b → v2.ownBlock = some b ∨ W.heap.size ≤ b) :
    Two X w' t v1 v' A (B ++ [x]) :=
  ⟨own_grown h.a h2 (fun b hb e => h.ne b hb e.symm), by simp only [nvs, List.length_append, List.map_append]; exact h1, fun b hb hb2 => by
      rcases h3 b hb2 with h4 | h4
      · exact h.ne b hb h4
      · have := own_lt h.a hb; omega,
   grown_below h.below h.b h2 h.below.size⟩
theorem noL_succ {ws : List Nat} {k : Nat} {l : List Nat} {i x : Nat} (h : i < l.length) (hx : x = l[i]) : noL ws k (l.take (i + 1)) = noL ws k (l.take i) ++ if hasQ ws k x then [] else [x] := by
  unfold noL
  rw [List.take_succ_eq_append_getElem h, List.filter_append, hx]
  cases hq : hasQ ws k l[i] <;> simp [List.filter, hq]
theorem yesL_succ {ws : List Nat} {k : Nat} {l : List Nat} {i x : Nat} (h : i < l.length) (hx : x = l[i]) : yesL ws k (l.take (i + 1)) = yesL ws k (l.take i) ++ if hasQ ws k x then [x] else [] := by
  unfold yesL
  rw [List.take_succ_eq_append_getElem h, List.filter_append, hx]
  cases hq : hasQ ws k l[i] <;> simp [List.filter, hq]
theorem filter_len_le (p : Nat → Bool) (l : List Nat) (i : Nat) : ((l.take i).filter p).length ≤ i := Nat.le_trans (List.length_filter_le _ _) (by rw [List.length_take]; omega)
theorem eq1 {s k : Nat} (hs : s < 65536) : (bits .and .i64 ((s : Int) / 2 ^ k) 1 == 1) = s.testBit k := by
  rw [Go.Theory.and1 hs]
  cases s.testBit k <;> rfl
theorem eq1' {s k : Nat} (hs : s < 65536) : decide (bits .and .i64 ((s : Int) / 2 ^ k) 1 = 1) = s.testBit k := by
  rw [Go.Theory.and1 hs]
  cases s.testBit k <;> rfl
theorem nvs_at {l : List Nat} {i x : Nat} (h : i < l.length) (hx : x = l[i]) : (nvs l)[i]? = some (.int .i64 (x : Int)) := by
  rw [hx]; simp [h]
end Go.Top
namespace Go.Proofs.YtkccmpikeekceaaGreat
open Go.RowKit Go.Own Go.Theory Go.BigFrame Go.Shelf Go.Top
theorem infoIntT : (Tryz.prog.info? 3).map (fun i => (i.zero, i.size, i.bytes)) = some (some (.int .i64 0), 1, 8) := by kernel_rfl
theorem hTintT : Tryz.prog.underlying 22 = some (.slice 3) := by kernel_rfl
/-- The reference's in. -/
theorem vin_any (s k : Nat) (hs : s < 65536) (hk : k < 62) (w : World) : Calls Tryz.prog 73 #[.int .i64 s, .int .i64 k] w fun e w' => e = .returned (.bool (s.testBit k)) ∧ w' = w := by
  have H := Lib.hid (eq1 (k := k) hs)
  go_enter Tryz.func73, Tryz.ntmps73
  go_wp2
  go_ret
  exact ⟨by rw [← H.out]; rfl, rfl⟩
end Go.Proofs.YtkccmpikeekceaaGreat
end
/- top: the reference's Sides, All of questions. -/
section
namespace Go.Proofs.YtkccmpikeekceaaGreat
open Go.RowKit Go.Own Go.Theory Go.BigFrame Go.Shelf Go.Top
set_option maxRecDepth 100000 in
theorem vall_any (ws : List Nat) (sa : Option Addr) (ca : Nat) (hw : ws.length ≤ 1000) (w : World) :
    Calls Tryz.prog 11 #[.slice sa ws.length ca] w fun e w' => ∃ v, e = .returned v ∧ w'.ownsRow w.heap.size 3 1 v ws.length (nvs (List.range ws.length)) ∧ Below w.heap.size w w' := by
  go_enter Tryz.func11, Tryz.ntmps11
  go_wp2
  go_loopw [3, 4] (fun v c wr => ∃ i : Nat, i ≤ ws.length ∧ c = .int .i64 i ∧ wr.ownsRow w.heap.size 3 1 v i (nvs (List.range i)) ∧ Below w.heap.size w wr) (fun _ c _ => ws.length - (vInt c).toNat)
  case atStart => exact ⟨0, by omega, rfl, World.ownsRow_nil _ _ _ _, Below.refl _ _⟩
  case round =>
    obtain ⟨i, hi, rfl, how, hbr⟩ := hrel
    by_cases hil : i < ws.length
    · have hil' : (i : Int) < ws.length := by omega
      have hbsz := hbr.size
      have HOW := how.alloc (.cells #[.int .i64 i] 3)
      go_wp2_with (refine wpList_append_sl rfl _ _ 22 rfl w.heap.size 3 (.int .i64 0) 1 8 hTintT infoIntT rfl (by decide) _ i _ rfl HOW _ 1 [.int .i64 i] rfl (sl_new _ _ _ 1 rfl (by decide)) (by intro u hu; simp at hu; rw [hu]; rfl) (by unfold maxLen; omega) (by omega) (by simp; omega) ?_)
      intro v' w' h1 h2
      have hb9 : Below w.heap.size w w' := grown_below (hbr.trans ((alloc_below _ _).mono hbsz)) HOW h2 (by simp; omega)
      go_wp2
      go_roundw
      case rel =>
        refine ⟨i + 1, by omega, by go_num, ?_, hb9⟩
        simp only [nvs, List.range_succ, List.map_append]; exact h1
      case measure => simp [vInt]; omega
    · obtain rfl : i = ws.length := by omega
      go_wp2
      go_ret
      exact ⟨_, rfl, how, hbr⟩
set_option maxRecDepth 100000 in
set_option maxHeartbeats 1600000 in
theorem sides_any (ws l : List Nat) (k : Nat) (sa sb : Option Addr) (ca cb : Nat) (hk : k < 62) (hws : ∀ z ∈ ws, z < 65536) (hl : ∀ i ∈ l, i < ws.length) (hn : l.length ≤ 1000) (w : World)
    (h1 : Sl w 1 (.slice sa ws.length ca) ws.length (nvs ws)) (h2 : Sl w 1 (.slice sb l.length cb) l.length (nvs l)) :
    Calls Tryz.prog 31 #[.slice sa ws.length ca, .slice sb l.length cb, .int .i64 k] w fun e w' => ∃ v1 v2, e = .returned (.tuple #[v1, v2]) ∧ Two w w' 3 v1 v2 (noL ws k l) (yesL ws k l) := by
  go_enter Tryz.func31, Tryz.ntmps31
  go_wp2
  go_loopw [8, 9, 10] (fun v1 v2 c wr => ∃ (i : Nat) (A B : List Nat), i ≤ l.length ∧ c = .int .i64 i ∧ A = noL ws k (l.take i) ∧ B = yesL ws k (l.take i) ∧ Two w wr 3 v1 v2 A B) (fun _ _ c _ => l.length - (vInt c).toNat)
  case atStart => exact ⟨0, [], [], by omega, rfl, rfl, rfl, Two.start _ _⟩
  case round =>
    obtain ⟨i, A, B, hi, rfl, hA, hB, hT⟩ := hrel
    have lA : A.length ≤ i := by rw [hA]; exact filter_len_le _ _ _
    have lB : B.length ≤ i := by rw [hB]; exact filter_len_le _ _ _
    by_cases hil : i < l.length
    · have hil' : (i : Int) < l.length := by omega
      obtain ⟨x, hx⟩ : ∃ x, x = l[i] := ⟨_, rfl⟩
      have hxw : x < ws.length := by rw [hx]; exact hl _ (List.getElem_mem _)
      obtain ⟨s, hs⟩ : ∃ s, s = ws[x] := ⟨_, rfl⟩
      have hs6 : s < 65536 := by rw [hs]; exact hws _ (List.getElem_mem _)
      have hq : hasQ ws k x = s.testBit k := by unfold hasQ; rw [List.getD_eq_getElem?_getD, List.getElem?_eq_getElem hxw, hs]; rfl
      have nA := noL_succ (ws := ws) (k := k) hil hx
      have nB := yesL_succ (ws := ws) (k := k) hil hx
      rw [← hA, hq] at nA
      rw [← hB, hq] at nB
      have c1 := h1.below hT.below
      have c2 := h2.below hT.below
      obtain ⟨g1, o1, rfl, _, _, hC1, hg1⟩ := sl_at c1 (by omega)
      obtain ⟨g2, o2, rfl, _, _, hC2, hg2⟩ := sl_at c2 (by omega)
      have cx : wr.cell? ⟨g2, o2 + i, none⟩ = some (.int .i64 x) := hC2 i _ (nvs_at hil hx)
      have cs : wr.cell? ⟨g1, o1 + x, none⟩ = some (.int .i64 s) := hC1 x _ (nvs_at hxw hs)
      have hin := vin_any s k hs6 hk wr
      have hsz := hT.below.size
      have hxw' : (x : Int) < ws.length := by omega
      have T1 := hT.alloc (.cells #[.int .i64 x] 3)
      obtain ⟨b, hb⟩ : ∃ b, b = s.testBit k := ⟨_, rfl⟩
      rw [← hb] at nA nB hin
      have NA := Lib.hid nA; clear nA
      have NB := Lib.hid nB; clear nB
      have HIN := Lib.hid hin; clear hin
      have HT1 := Lib.hid T1; clear T1
      clear hA hB hb hq hs hx c1 c2 hC1 hC2
      go_wp2_with (fail)
      refine HIN.out.mono ?_
      rintro e w2 ⟨rfl, rfl⟩
      cases b with
      | true =>
        go_wp2_with (refine wpList_append_where rfl _ _ 22 rfl w.heap.size 3 (.int .i64 0) 1 8 hTintT infoIntT rfl (by decide) _ B.length (nvs B) rfl HT1.out.b ⟨w2.heap.size, 0, none⟩ 1 1 [.int .i64 x] rfl rfl (by
              intro j u hj
              rw [Addr.add_lit, Nat.zero_add]; exact (Blk.new w2 #[.int .i64 x] 3).cell hj) (by intro u hu; simp at hu; rw [hu]; rfl) (by unfold maxLen; omega) (by omega) (by simp; omega) ?_)
        intro v' w' h3 h4 h5
        have T2 := HT1.out.snd h3 h4 (fun b hb => by simpa using h5 b hb)
        go_wp2
        go_roundw
        case rel => exact ⟨i + 1, _, _, by omega, by go_num, by rw [NA.out]; simp, by rw [NB.out]; rfl, T2⟩
        case measure => simp [vInt]; omega
      | false =>
        go_wp2_with (refine wpList_append_where rfl _ _ 22 rfl w.heap.size 3 (.int .i64 0) 1 8 hTintT infoIntT rfl (by decide) _ A.length (nvs A) rfl HT1.out.a ⟨w2.heap.size, 0, none⟩ 1 1 [.int .i64 x] rfl rfl (by
              intro j u hj
              rw [Addr.add_lit, Nat.zero_add]; exact (Blk.new w2 #[.int .i64 x] 3).cell hj) (by intro u hu; simp at hu; rw [hu]; rfl) (by unfold maxLen; omega) (by omega) (by simp; omega) ?_)
        intro v' w' h3 h4 h5
        have T2 := HT1.out.fst h3 h4 (fun b hb => by simpa using h5 b hb)
        go_wp2
        go_roundw
        case rel => exact ⟨i + 1, _, _, by omega, by go_num, by rw [NA.out]; rfl, by rw [NB.out]; simp, T2⟩
        case measure => simp [vInt]; omega
    · obtain rfl : i = l.length := by omega
      rw [List.take_length] at hA hB
      subst hA hB
      go_wp2
      go_ret2
      exact ⟨_, _, rfl, hT⟩
end Go.Proofs.YtkccmpikeekceaaGreat
end
/- top: trees of questions in memory; the rest of a list; the program's read, Decode. -/
section
namespace Go.Top
open Go.RowKit Go.Own
/-- A tree in memory; its blocks are of type t. -/
def TrAt (t : TypeId) (w : World) : Value → Tr → Prop
  | v, .leaf i => ∃ b, v = .pointer (some ⟨b, 0, none⟩) ∧ Blk w b [.int .i64 (-1), .pointer none, .pointer none, .int .i64 (i : Int)] t
  | v, .node k x y => ∃ b a c, v = .pointer (some ⟨b, 0, none⟩) ∧ Blk w b [.int .i64 (k : Int), .pointer (some ⟨a, 0, none⟩), .pointer (some ⟨c, 0, none⟩), .int .i64 (-1)] t ∧ TrAt t w (.pointer (some ⟨a, 0, none⟩)) x ∧ TrAt t w (.pointer (some ⟨c, 0, none⟩)) y
theorem TrAt.keep {t : TypeId} {w w' : World} (hk : ∀ b l, l.length = 4 → Blk w b l t → Blk w' b l t) : ∀ {T : Tr} {v : Value}, TrAt t w v T → TrAt t w' v T
  | .leaf _i, _v, ⟨b, h1, h2⟩ => ⟨b, h1, hk _ _ rfl h2⟩
  | .node _k _x _y, _v, ⟨b, a, c, h1, h2, h3, h4⟩ => ⟨b, a, c, h1, hk _ _ rfl h2, h3.keep hk, h4.keep hk⟩
theorem TrAt.below {t : TypeId} {w w' : World} {T : Tr} {v : Value} (h : TrAt t w v T) (hb : Below w.heap.size w w') : TrAt t w' v T := h.keep fun _ _ _ h => h.below hb h.lt
theorem TrAt.ptr {t : TypeId} {w : World} : ∀ {T : Tr} {v : Value}, TrAt t w v T → ∃ b, v = .pointer (some ⟨b, 0, none⟩) ∧ b < w.heap.size
  | .leaf _, _, ⟨b, h1, h2⟩ => ⟨b, h1, h2.lt⟩
  | .node .., _, ⟨b, _, _, h1, h2, _⟩ => ⟨b, h1, h2.lt⟩
/-- Questions and worlds below 8. -/
def Tr.small : Tr → Prop
  | .leaf i => i < 8
  | .node k a b => k < 8 ∧ a.small ∧ b.small
/-- The rest of a list of numbers. -/
def dropI (a : Option Addr) (cap k : Nat) : Option Addr := if cap = k then a else a.map (·.add (k * 1))
theorem sl_dropI {w : World} {a : Option Addr} {n cap k : Nat} {vs : List Value} (h : Sl w 1 (.slice a n cap) n vs) (hk : k ≤ n) : Sl w 1 (.slice (dropI a cap k) (n - k) (cap - k)) (n - k) (vs.drop k) := by
  obtain ⟨h1, ⟨h2, h3⟩ | ⟨b, off, cap', h2, h3, h4, h5, h6⟩⟩ := h
  · cases h2
    obtain rfl : k = 0 := by omega
    exact ⟨by simp [h1], .inl ⟨rfl, rfl⟩⟩
  · cases h2
    refine ⟨by rw [List.length_drop, h1]; omega, ?_⟩
    by_cases e : cap = k
    · refine .inr ⟨b, off, cap - k, by unfold dropI; rw [if_pos e], by omega, by omega, ?_, h6⟩
      rw [List.drop_of_length_le (by omega)]
      intro i v hv; cases hv
    · refine .inr ⟨b, off + k, cap - k, by unfold dropI; rw [if_neg e]; simp [Addr.add], by omega, by omega, fun i v hv => ?_, h6⟩
      rw [List.getElem?_drop] at hv
      have := h5 _ v hv
      rwa [Nat.add_assoc]
end Go.Top
namespace Go.Proofs.YtkccmpikeekceaaGreat
open Go.RowKit Go.Own Go.Theory Go.BigFrame Go.Shelf Go.Top
abbrev tT : TypeId := 35
theorem hTints : Tryz.prog.underlying 22 = some (.slice (Tryz.prog.elem 22)) := by kernel_rfl
theorem sizeInts (w : World) : (sizeOf (Tryz.prog.elem 22)).run Tryz.prog w = .ok 1 w := by kernel_rfl
theorem sl_fromI (a : Option Addr) (len cap k : Nat) (hk : k ≤ len) (w : World) : (Instr.sliceAt 22 (.slice a len cap) (some (.int .i64 (k : Int))) none none).run Tryz.prog w = .ok (.slice (dropI a cap k) (len - k) (cap - k)) w := by
  rw [run_sliceAt_slice w _ _ _ _ _ hTints, run_slice_l w _ a len cap hTints .i64 (k : Int) (by omega) (by omega), sizeInts]
  simp only [Result.andThen, sliced, Int.toNat_natCast]
  rfl
/-- What read answers. -/
structure RdQ (w : World) (t : Tr) (rest : List Int) (e : Ending) (w' : World) : Prop where
  out : ∃ b a cap, e = .returned (.tuple #[.pointer (some ⟨b, 0, none⟩), .slice a rest.length cap, .bool true]) ∧ TrAt tT w' (.pointer (some ⟨b, 0, none⟩)) t ∧ Sl w' 1 (.slice a rest.length cap) rest.length (rest.map (.int .i64))
  below : Below w.heap.size w w'
theorem sqw_nil' {P : Program} {l : List Oper} {ps : List Nat} {Ext : World → World → Prop} {w0 : World} {Post : Nat → Value → World → Prop} {Fin : Act → Prop} {k : Nat} {a : Act} (h : Fin a) : SqW P l ps Ext w0 Post Fin k [] a := h
attribute [local irreducible] SqW
set_option maxRecDepth 100000 in
set_option maxHeartbeats 1600000 in
theorem read_any : ∀ (t : Tr) (rest : List Int) (a : Option Addr) (cap : Nat) (w : World), t.small → (codeT t ++ rest).length ≤ 1000 → Sl w 1 (.slice a (codeT t ++ rest).length cap) (codeT t ++ rest).length ((codeT t ++ rest).map (.int .i64)) →
    Calls Tryz.prog 30 #[.slice a (codeT t ++ rest).length cap] w fun e w' => RdQ w t rest e w' := by
  intro t
  induction t with
  | leaf i =>
    intro rest a cap w hs hn hl
    have hi : i < 8 := hs
    simp only [codeT, List.cons_append, List.nil_append, List.length_cons] at hl hn ⊢
    obtain ⟨n, hn0⟩ : ∃ n : Int, n = -1 - (i : Int) := ⟨_, rfl⟩
    rw [← hn0] at hl
    have hn8 : n < 8 := by omega
    have hn9 : -8 ≤ n := by omega
    have hsg : n < 0 := by omega
    have HN0 := Lib.hid hn0; clear hn0
    have e1 : ((rest.length : Int) + 1 == 0) = false := beq_eq_false_iff_ne.2 (by omega)
    have e2 : ((rest.length : Int) + 1 = 0) = False := eq_false (by omega)
    have hl1 := sl_dropI (k := 1) hl (by omega)
    obtain ⟨g, o, rfl, _, _, hC, hg⟩ := sl_at hl (by omega)
    have hcell : ∀ U, Below w.heap.size w U → U.cell? ⟨g, o, none⟩ = some (.int .i64 n) := fun U hU => (hU.cell (p := ⟨g, o, none⟩) hg).trans (hC 0 _ rfl)
    have hs1 : ∀ U : World, (Instr.sliceAt 22 (.slice (some ⟨g, o, none⟩) (rest.length + 1) cap) (some (.int .i64 1)) none none).run Tryz.prog U = .ok (.slice (dropI (some ⟨g, o, none⟩) cap 1) (rest.length + 1 - 1) (cap - 1)) U := fun U => sl_fromI _ _ _ 1 (by omega) U
    rw [Nat.add_sub_cancel] at hl1
    simp only [Nat.add_sub_cancel] at hs1
    obtain ⟨d, hd⟩ : ∃ d, d = dropI (some ⟨g, o, none⟩) cap 1 := ⟨_, rfl⟩
    rw [← hd] at hl1
    simp only [← hd] at hs1
    clear hd
    have HL1 : Hid (Sl w 1 (.slice d rest.length (cap - 1)) rest.length (rest.map (.int .i64))) := Lib.hid hl1; clear hl1 hC hl
    have cx := hcell w (Below.refl _ _)
    have HS1 := Lib.hid hs1; clear hs1
    have HCE := Lib.hid hcell; clear hcell
    go_enter Tryz.func30, Tryz.ntmps30
    go_wp2
    clear cx
    refine wp_region_sqB 6 [2, 4] (fun i v W => match i with
      | 2 => v = .int .i64 n
      | 4 => v = .slice d rest.length (cap - 1)
      | _ => True) (by kernel_rfl) (by kernel_rfl) ?stablerest ?mainrest
    case stablerest =>
      intro i v W W' h hb
      match i, h with
      | 0, h => exact h
      | 1, h => exact h
      | 2, h => exact h
      | 3, h => exact h
      | 4, h => exact h
      | _ + 5, _ => exact trivial
    simp only [List.take_succ_cons, List.take_zero, List.drop_succ_cons, List.drop_zero]
    repeat (refine sqw_quiet rfl rfl (ExtB.refl _) ?_; go_big_quiet_step (fail); refine wpQuiet_nil ?_)
    refine sqw_postY rfl rfl rfl ?_ ?_
    · intro W1 hb hf
      have cx := HCE.out W1 (ExtB.undrew hb)
      refine yields_value (v := .int .i64 n) (w' := W1) ?_ ⟨rfl, ExtB.refl _⟩
      go_simp
    intro v Wj hv
    obtain rfl : v = .int .i64 n := hv
    simp only [Act.put, List.setIfInBounds_toArray, List.set_cons_zero, List.set_cons_succ]
    repeat (refine sqw_quiet rfl rfl (ExtB.refl _) ?_; go_big_quiet_step (fail); refine wpQuiet_nil ?_)
    refine sqw_postY rfl rfl rfl ?_ ?_
    · intro W1 hb hf
      have cx := HS1.out W1
      refine yields_value (v := .slice d rest.length (cap - 1)) (w' := W1) ?_ ⟨rfl, ExtB.refl _⟩
      go_simp
    intro v Wj hv
    obtain rfl : v = .slice d rest.length (cap - 1) := hv
    simp only [Act.put, List.setIfInBounds_toArray, List.set_cons_zero, List.set_cons_succ]
    repeat (refine sqw_quiet rfl rfl (ExtB.refl _) ?_; go_big_quiet_step (fail); refine wpQuiet_nil ?_)
    refine sqw_nil' ?_
    intro w1 hb1 hf1
    clear hf1
    have hb2 : Below w.heap.size w w1 := ExtB.undrew hb1
    clear hb1
    have HB2 := Lib.hid hb2; clear hb2
    go_wp2
    go_ret3
    have e3 : -1 - n = (i : Int) := by have := HN0.out; omega
    rw [e3]
    have hB : Blk (w1.alloc (.cells #[.int .i64 (-1), .pointer none, .pointer none, .int .i64 (i : Int)] tT)) w1.heap.size [.int .i64 (-1), .pointer none, .pointer none, .int .i64 (i : Int)] tT := Blk.new w1 #[.int .i64 (-1), .pointer none, .pointer none, .int .i64 (i : Int)] tT
    have bA : Below w1.heap.size w1 (w1.alloc (.cells #[.int .i64 (-1), .pointer none, .pointer none, .int .i64 (i : Int)] tT)) := alloc_below _ _
    have bB := HB2.out.trans (bA.mono HB2.out.size)
    exact ⟨⟨w1.heap.size, d, cap - 1, rfl, ⟨w1.heap.size, rfl, hB⟩, HL1.out.below bB⟩, bB⟩
  | node k x y ihx ihy =>
    intro rest a cap w hs hn hl
    obtain ⟨hk, hsx, hsy⟩ := hs
    simp only [codeT, List.cons_append, List.append_assoc, List.length_cons] at hl hn ⊢
    obtain ⟨tl, htl⟩ : ∃ tl, tl = codeT x ++ (codeT y ++ rest) := ⟨_, rfl⟩
    rw [← htl] at hl hn ⊢
    have HTL := Lib.hid htl; clear htl
    obtain ⟨n, hn0⟩ : ∃ n : Int, n = (k : Int) := ⟨_, rfl⟩
    rw [← hn0] at hl
    have hn8 : n < 8 := by omega
    have hn9 : -8 ≤ n := by omega
    have hsg : 0 ≤ n := by omega
    have HN0 := Lib.hid hn0; clear hn0
    have e1 : ((tl.length : Int) + 1 == 0) = false := beq_eq_false_iff_ne.2 (by omega)
    have e2 : ((tl.length : Int) + 1 = 0) = False := eq_false (by omega)
    have hl1 := sl_dropI (k := 1) hl (by omega)
    obtain ⟨g, o, rfl, _, _, hC, hg⟩ := sl_at hl (by omega)
    have hcell : ∀ U, Below w.heap.size w U → U.cell? ⟨g, o, none⟩ = some (.int .i64 n) := fun U hU => (hU.cell (p := ⟨g, o, none⟩) hg).trans (hC 0 _ rfl)
    have hs1 : ∀ U : World, (Instr.sliceAt 22 (.slice (some ⟨g, o, none⟩) (tl.length + 1) cap) (some (.int .i64 1)) none none).run Tryz.prog U = .ok (.slice (dropI (some ⟨g, o, none⟩) cap 1) (tl.length + 1 - 1) (cap - 1)) U := fun U => sl_fromI _ _ _ 1 (by omega) U
    rw [Nat.add_sub_cancel] at hl1
    simp only [Nat.add_sub_cancel] at hs1
    obtain ⟨d, hd⟩ : ∃ d, d = dropI (some ⟨g, o, none⟩) cap 1 := ⟨_, rfl⟩
    rw [← hd] at hl1
    simp only [← hd] at hs1
    clear hd
    have HL1 : Hid (Sl w 1 (.slice d tl.length (cap - 1)) tl.length (tl.map (.int .i64))) := Lib.hid hl1; clear hl1 hC hl
    have cx := hcell w (Below.refl _ _)
    have HS1 := Lib.hid hs1; clear hs1
    have HCE := Lib.hid hcell; clear hcell
    go_enter Tryz.func30, Tryz.ntmps30
    go_wp2
    clear cx
    refine wp_region_sqB 6 [2, 4] (fun i v W => match i with
      | 2 => v = .int .i64 n
      | 4 => v = .slice d tl.length (cap - 1)
      | _ => True) (by kernel_rfl) (by kernel_rfl) ?stabletl ?maintl
    case stabletl =>
      intro i v W W' h hb
      match i, h with
      | 0, h => exact h
      | 1, h => exact h
      | 2, h => exact h
      | 3, h => exact h
      | 4, h => exact h
      | _ + 5, _ => exact trivial
    simp only [List.take_succ_cons, List.take_zero, List.drop_succ_cons, List.drop_zero]
    repeat (refine sqw_quiet rfl rfl (ExtB.refl _) ?_; go_big_quiet_step (fail); refine wpQuiet_nil ?_)
    refine sqw_postY rfl rfl rfl ?_ ?_
    · intro W1 hb hf
      have cx := HCE.out W1 (ExtB.undrew hb)
      refine yields_value (v := .int .i64 n) (w' := W1) ?_ ⟨rfl, ExtB.refl _⟩
      go_simp
    intro v Wj hv
    obtain rfl : v = .int .i64 n := hv
    simp only [Act.put, List.setIfInBounds_toArray, List.set_cons_zero, List.set_cons_succ]
    repeat (refine sqw_quiet rfl rfl (ExtB.refl _) ?_; go_big_quiet_step (fail); refine wpQuiet_nil ?_)
    refine sqw_postY rfl rfl rfl ?_ ?_
    · intro W1 hb hf
      have cx := HS1.out W1
      refine yields_value (v := .slice d tl.length (cap - 1)) (w' := W1) ?_ ⟨rfl, ExtB.refl _⟩
      go_simp
    intro v Wj hv
    obtain rfl : v = .slice d tl.length (cap - 1) := hv
    simp only [Act.put, List.setIfInBounds_toArray, List.set_cons_zero, List.set_cons_succ]
    repeat (refine sqw_quiet rfl rfl (ExtB.refl _) ?_; go_big_quiet_step (fail); refine wpQuiet_nil ?_)
    refine sqw_nil' ?_
    intro w1 hb1 hf1
    clear hf1
    have hb2 : Below w.heap.size w w1 := ExtB.undrew hb1
    clear hb1
    have HB2 := Lib.hid hb2; clear hb2
    have hn2 : (codeT y ++ rest).length ≤ 1000 := by rw [HTL.out, List.length_append] at hn; omega
    have hn3 : (codeT x ++ (codeT y ++ rest)).length ≤ 1000 := by rw [← HTL.out]; omega
    have hc1 := ihx (codeT y ++ rest) d (cap - 1) w1 hsx hn3 (by rw [← HTL.out]; exact HL1.out.below HB2.out)
    rw [← HTL.out] at hc1
    obtain ⟨t2, ht2⟩ : ∃ t2, t2 = codeT y ++ rest := ⟨_, rfl⟩
    have hc2 := fun a2 c2 w2 => ihy rest a2 c2 w2 hsy hn2
    rw [← ht2] at hc1
    simp only [← ht2] at hc2
    have HC2 := Lib.hid hc2; clear hc2 hn2 hn3 ihx ihy ht2
    go_wp2_with (fail)
    refine hc1.mono ?_
    clear hc1
    rintro e w2 ⟨⟨bx, a2, c2, rfl, hT1, hS1⟩, hb2⟩
    have HT1 := Lib.hid hT1; clear hT1
    have HB3 := Lib.hid (HB2.out.trans (hb2.mono HB2.out.size)); clear hb2
    have hc2 := HC2.out a2 c2 w2 hS1
    clear hS1
    go_wp2_with (fail)
    refine hc2.mono ?_
    clear hc2
    rintro e w3 ⟨⟨b2, a3, c3, rfl, hT2, hS2⟩, hb3⟩
    have HT1 := Lib.hid (HT1.out.below hb3)
    have HT2 := Lib.hid hT2; clear hT2
    have HS2 := Lib.hid hS2; clear hS2
    have HB4 := Lib.hid (HB3.out.trans (hb3.mono HB3.out.size)); clear hb3
    go_wp2
    go_ret3
    rw [HN0.out]
    have hB : Blk (w3.alloc (.cells #[.int .i64 (k : Int), .pointer (some ⟨bx, 0, none⟩), .pointer (some ⟨b2, 0, none⟩), .int .i64 (-1)] tT)) w3.heap.size [.int .i64 (k : Int), .pointer (some ⟨bx, 0, none⟩), .pointer (some ⟨b2, 0, none⟩), .int .i64 (-1)] tT := Blk.new w3 #[.int .i64 (k : Int), .pointer (some ⟨bx, 0, none⟩), .pointer (some ⟨b2, 0, none⟩), .int .i64 (-1)] tT
    have bA : Below w3.heap.size w3 (w3.alloc (.cells #[.int .i64 (k : Int), .pointer (some ⟨bx, 0, none⟩), .pointer (some ⟨b2, 0, none⟩), .int .i64 (-1)] tT)) := alloc_below _ _
    have bB := HB4.out.trans (bA.mono HB4.out.size)
    exact ⟨⟨w3.heap.size, a3, c3, rfl, ⟨w3.heap.size, bx, b2, rfl, hB, HT1.out.below bA, HT2.out.below bA⟩, HS2.out.below bA⟩, bB⟩
set_option maxRecDepth 100000 in
/-- The program's Decode, at the code of a tree. -/
theorem decode_any (t : Tr) (a : Option Addr) (cap : Nat) (w : World) (hs : t.small) (hn : (codeT t).length ≤ 1000) (hl : Sl w 1 (.slice a (codeT t).length cap) (codeT t).length ((codeT t).map (.int .i64))) :
    Calls Tryz.prog 9 #[.slice a (codeT t).length cap] w fun e w' => ∃ b, e = .returned (.tuple #[.pointer (some ⟨b, 0, none⟩), .int .i64 0]) ∧ TrAt tT w' (.pointer (some ⟨b, 0, none⟩)) t ∧ Below w.heap.size w w' := by
  have hc := read_any t [] a cap w hs (by simpa using hn) (by simpa using hl)
  simp only [List.append_nil] at hc
  obtain ⟨q, hq⟩ : ∃ q, q = (codeT t).length := ⟨_, rfl⟩
  rw [← hq] at hc ⊢
  clear hq hl hn hs
  go_enter Tryz.func9, Tryz.ntmps9
  go_wp2_with (fail)
  refine hc.mono ?_
  rintro e w2 ⟨⟨b, a2, c2, rfl, hT, _⟩, hb⟩
  go_wp2
  go_ret2
  exact ⟨b, rfl, hT, hb⟩
end Go.Proofs.YtkccmpikeekceaaGreat
end
