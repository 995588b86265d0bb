/- label: ranks, what a fact needs, and the order of a proof, in plain Lean. -/
import Derived.Test.YtcbmifaobdamhaaA27
namespace Go.Label
open Go.Own Go.Proofs.Ytcbmifaobdamhaa
/-- the rule of a number -/
def rul (b : Lg) (v : Nat) : Rl := b.rules.getD v rl0
theorem rul_mem {b : Lg} {v : Nat} (h : v < b.rules.length) : rul b v ∈ b.rules := getD_mem h
/-- what is known of ranks and reasons -/
structure RI (b : Lg) (s j : Nat) (rk rs : Pm) : Prop where
  a : ∀ f v, rs f = some v → v < b.rules.length ∧ (rul b v).head = f ∧ ∃ r, rk f = some r ∧ 1 ≤ r ∧ r ≤ j ∧ ∀ g ∈ (rul b v).body, ∃ t, t < r ∧ rk g = some t
  z : ∀ f, rk f = some 0 ↔ ∃ k, k < b.assume.length ∧ s.testBit k = true ∧ b.assume.getD k 0 = f
  c : ∀ f r, rk f = some (r + 1) → ∃ v, rs f = some v
  le : ∀ f r, rk f = some r → r ≤ j
theorem rk0_iff (b : Lg) (s : Nat) (f : Int) : ∀ n, (rk0 b s n f = some 0 ↔ ∃ k, k < n ∧ s.testBit k = true ∧ b.assume.getD k 0 = f) ∧ (rk0 b s n f = none ∨ rk0 b s n f = some 0)
  | 0 => ⟨⟨fun h => (by cases h), fun ⟨k, h, _⟩ => absurd h (by omega)⟩, .inl rfl⟩
  | n + 1 => by
    obtain ⟨ih, ih2⟩ := rk0_iff b s f n
    unfold rk0
    by_cases h : s.testBit n = true
    · rw [if_pos h]
      by_cases e : f = b.assume.getD n 0
      · rw [if_pos e]
        exact ⟨⟨fun _ => ⟨n, by omega, h, e.symm⟩, fun _ => rfl⟩, .inr rfl⟩
      · rw [if_neg e]
        refine ⟨ih.trans ⟨fun ⟨k, h1, h2⟩ => ⟨k, by omega, h2⟩, fun ⟨k, h1, h2, h3⟩ => ?_⟩, ih2⟩
        by_cases ek : k = n
        · subst ek; exact absurd h3.symm e
        · exact ⟨k, by omega, h2, h3⟩
    · rw [if_neg h]
      refine ⟨ih.trans ⟨fun ⟨k, h1, h2⟩ => ⟨k, by omega, h2⟩, fun ⟨k, h1, h2, h3⟩ => ?_⟩, ih2⟩
      by_cases ek : k = n
      · subst ek; exact absurd h2 h
      · exact ⟨k, by omega, h2, h3⟩
theorem fndN_full {b : Lg} {rk : Pm} {f : Int} {v : Nat} : ∀ n, fndN b rk n f = some v → v < n ∧ (rul b v).head = f ∧ rk f = none ∧ ∀ g ∈ (rul b v).body, (rk g).isSome = true
  | 0, h => by cases h
  | n + 1, h => by
    unfold fndN at h
    split at h
    · rename_i hc
      dsimp only at h
      split at h
      · rename_i hf
        injection h with h
        subst h
        unfold newR at hc
        rw [Bool.and_eq_true, Bool.and_eq_true] at hc
        refine ⟨by omega, hf.symm, ?_, fun g hg => List.all_eq_true.1 hc.2 g hg⟩
        rw [hf]
        simpa using hc.1.1
      · obtain ⟨h1, h2⟩ := fndN_full n h
        exact ⟨by omega, h2⟩
    · obtain ⟨h1, h2⟩ := fndN_full n h
      exact ⟨by omega, h2⟩
theorem rIter_ri (b : Lg) (s : Nat) : ∀ j, RI b s j (rIter b s j).1 (rIter b s j).2
  | 0 => by
    refine ⟨fun f v h => (by cases h), fun f => (rk0_iff b s f _).1, fun f r h => ?_, fun f r h => ?_⟩
    · rcases (rk0_iff b s f b.assume.length).2 with e | e
      · have h' : rk0 b s b.assume.length f = some (r + 1) := h
        rw [e] at h'; cases h'
      · have h' : rk0 b s b.assume.length f = some (r + 1) := h
        rw [e] at h'; cases h'
    · exact rIter_le 0 f r h
  | j + 1 => by
    have ih := rIter_ri b s j
    obtain ⟨rk, hrk⟩ : ∃ rk, rk = (rIter b s j).1 := ⟨_, rfl⟩
    obtain ⟨rs, hrs⟩ : ∃ rs, rs = (rIter b s j).2 := ⟨_, rfl⟩
    have e1 : (rIter b s (j + 1)).1 = fun f => if (fnd b rk f).isSome then some (j + 1) else rk f := by rw [hrk]; rfl
    have e2 : (rIter b s (j + 1)).2 = fun f => match fnd b rk f with | some i => some i | none => rs f := by rw [hrk, hrs]; rfl
    rw [← hrk, ← hrs] at ih
    rw [e1, e2]
    have keep : ∀ g t, rk g = some t → (if (fnd b rk g).isSome then some (j + 1) else rk g) = some t := fun g t h => by
      cases hf : fnd b rk g with
      | none => simpa using h
      | some v =>
        have := (fndN_full _ hf).2.2.1
        rw [this] at h; cases h
    refine ⟨fun f v h => ?_, fun f => ?_, fun f r h => ?_, fun f r h => ?_⟩
    · have h := h
      cases hf : fnd b rk f with
      | some i =>
        rw [hf] at h
        dsimp only at h
        injection h with h
        subst h
        obtain ⟨h1, h2, h3, h4⟩ := fndN_full _ hf
        refine ⟨h1, h2, j + 1, by simp, by omega, by omega, fun g hg => ?_⟩
        obtain ⟨t, ht⟩ := Option.isSome_iff_exists.1 (h4 g hg)
        exact ⟨t, by have := ih.le g t ht; omega, keep g t ht⟩
      | none =>
        rw [hf] at h
        obtain ⟨h1, h2, r, h3, h4, h5, h6⟩ := ih.a f v h
        refine ⟨h1, h2, r, by simpa using h3, h4, by omega, fun g hg => ?_⟩
        obtain ⟨t, ht, h7⟩ := h6 g hg
        exact ⟨t, ht, keep g t h7⟩
    · have keep := keep
      cases hf : fnd b rk f with
      | some i =>
        have h3 := (fndN_full _ hf).2.2.1
        simp only [Option.isSome_some, if_true]
        constructor
        · intro h; injection h with h; omega
        · intro h
          rw [(ih.z f).2 h] at h3; cases h3
      | none => simpa using ih.z f
    · have h := h
      cases hf : fnd b rk f with
      | some i => exact ⟨i, rfl⟩
      | none =>
        rw [hf] at h
        exact ih.c f r (by simpa using h)
    · have h := h
      split at h
      · injection h with h; omega
      · have := ih.le f r h; omega
theorem cntB_bound {p : Nat → Bool} {n : Nat} (h : ∀ i, p i = true → i < n) : ∀ m, cntB p m ≤ n
  | 0 => Nat.zero_le _
  | m + 1 => by
    have ih := cntB_bound h m
    have h2 := cntB_le p m
    simp only [cntB]
    split
    · rename_i hp
      have := h m hp
      omega
    · omega
theorem rIter_rg {b : Lg} (ok : Ok b) {s j : Nat} {f : Int} {r : Nat} (h : (rIter b s j).1 f = some r) : -1 ≤ f ∧ f < b.facts := by
  have ri := rIter_ri b s j
  cases r with
  | zero =>
    obtain ⟨k, h1, _, h3⟩ := (ri.z f).1 h
    have := ok.asm _ (getD_mem (l := b.assume) (i := k) (d := 0) h1)
    omega
  | succ r =>
    obtain ⟨v, hv⟩ := ri.c f r h
    obtain ⟨h1, h2, _⟩ := ri.a f v hv
    have := ok.head _ (rul_mem h1)
    omega
theorem known_le {b : Lg} (ok : Ok b) (s j : Nat) : known (rIter b s j).1 ≤ b.facts.toNat + 1 := by
  refine cntB_bound (fun i hi => ?_) 65
  obtain ⟨r, hr⟩ := Option.isSome_iff_exists.1 hi
  have := rIter_rg ok hr
  omega
theorem quiet_end {b : Lg} (ok : Ok b) (s : Nat) : Quiet b s (b.facts.toNat + 1) := by
  have aux : ∀ n, (∃ j, j < n ∧ Quiet b s j) ∨ n ≤ known (rIter b s n).1 := fun n => by
    induction n with
    | zero => exact .inr (Nat.zero_le _)
    | succ n ih =>
      rcases ih with ⟨j, h1, h2⟩ | ih
      · exact .inl ⟨j, by omega, h2⟩
      · by_cases hq : Quiet b s n
        · exact .inl ⟨n, by omega, hq⟩
        · right
          obtain ⟨f, hf⟩ : ∃ f, ¬ fnd b (rIter b s n).1 f = none := Classical.byContradiction fun h => hq fun f => Classical.byContradiction fun h' => h ⟨f, h'⟩
          have := known_lt ok (s := s) (j := n) (f := f) (by cases h : fnd b (rIter b s n).1 f with | none => exact absurd h hf | some v => rfl)
          omega
  rcases aux (b.facts.toNat + 2) with ⟨j, h1, h2⟩ | h
  · have h3 := rIter_stays h2 (b.facts.toNat + 1 - j)
    rw [show j + (b.facts.toNat + 1 - j) = b.facts.toNat + 1 by omega] at h3
    intro f
    rw [h3]; exact h2 f
  · have := known_le ok s (b.facts.toNat + 2)
    omega
/-- the final ranks and reasons -/
def rkE (b : Lg) (s : Nat) : Pm := (rIter b s (b.facts.toNat + 1)).1
def rsE (b : Lg) (s : Nat) : Pm := (rIter b s (b.facts.toNat + 1)).2
theorem riE (b : Lg) (s : Nat) : RI b s (b.facts.toNat + 1) (rkE b s) (rsE b s) := rIter_ri b s _
/-- what a fact needs -/
inductive Rch (b : Lg) (rs : Pm) (fact : Int) : Int → Prop
  | goal : Rch b rs fact fact
  | step (g : Int) (v : Nat) (f : Int) : Rch b rs fact g → rs g = some v → f ∈ (rul b v).body → Rch b rs fact f
theorem addN_mem {l bd : List Int} {x : Int} : ∀ k, k ≤ bd.length → (x ∈ addN l bd k ↔ x ∈ l ∨ x ∈ bd.take k)
  | 0, _ => by simp [addN]
  | k + 1, hk => by
    have ih := addN_mem (l := l) (bd := bd) (x := x) k (by omega)
    have e : bd.take (k + 1) = bd.take k ++ [bd.getD k 0] := by
      rw [List.take_succ_eq_append_getElem (by omega)]
      simp [show k < bd.length by omega]
    rw [e]
    unfold addN
    split
    · rename_i hc
      rw [ih, List.mem_append, List.mem_singleton]
      constructor
      · rintro (h | h)
        · exact .inl h
        · exact .inr (.inl h)
      · rintro (h | h | h)
        · exact .inl h
        · exact .inr h
        · subst h
          have := List.contains_iff_mem.1 hc
          exact (addN_mem (l := l) (bd := bd) k (by omega)).1 this
    · rw [List.mem_append, List.mem_singleton, ih, List.mem_append, List.mem_singleton, or_assoc]
theorem addN_all {l bd : List Int} {x : Int} : x ∈ addN l bd bd.length ↔ x ∈ l ∨ x ∈ bd := by
  rw [addN_mem _ (Nat.le_refl _), List.take_length]
theorem needN_rch {b : Lg} {rs : Pm} {fact : Int} (hr : ∀ f v, rs f = some v → v < b.rules.length) : ∀ i f, f ∈ needN b rs fact i → Rch b rs fact f
  | 0, f, h => by
    rw [show needN b rs fact 0 = [fact] from rfl, List.mem_singleton] at h
    subst h; exact Rch.goal
  | i + 1, f, h => by
    cases hg : (needN b rs fact i)[i]? with
    | none =>
      unfold needN at h
      rw [hg] at h
      exact needN_rch hr i f h
    | some g =>
      cases hv : rs g with
      | none => rw [needN_none hg hv] at h; exact needN_rch hr i f h
      | some v =>
        have hvr := hr g v hv
        rw [needN_some hg hv hvr] at h
        rcases addN_all.1 h with h | h
        · exact needN_rch hr i f h
        · refine Rch.step g v f (needN_rch hr i g (List.mem_of_getElem? hg)) hv ?_
          unfold rul
          rw [getD_eq rl0 hvr]
          exact h
theorem needN_pre (b : Lg) (rs : Pm) (fact : Int) (i : Nat) : ∀ d, needN b rs fact i <+: needN b rs fact (i + d)
  | 0 => List.prefix_refl _
  | d + 1 => by
    refine (needN_pre b rs fact i d).trans ?_
    rw [← Nat.add_assoc]
    conv => rhs; unfold needN
    split
    · exact List.prefix_refl _
    · split
      · exact List.prefix_refl _
      · exact addN_pre _ _ _
theorem rch_need {b : Lg} {rs : Pm} {fact : Int} {M : Nat} (hr : ∀ f v, rs f = some v → v < b.rules.length) (hM : (needN b rs fact M).length ≤ M) {f : Int} (h : Rch b rs fact f) : f ∈ needN b rs fact M := by
  induction h with
  | goal =>
    have := (needN_pre b rs fact 0 M).subset (a := fact) (by simp [needN])
    rwa [Nat.zero_add] at this
  | step g v f _ hv hf ih =>
    obtain ⟨i, hi, e⟩ := List.getElem_of_mem ih
    have hiM : i < M := by omega
    have hil : i < (needN b rs fact i).length := by
      apply Nat.lt_of_not_le
      intro h
      have := needN_end hM (Nat.le_of_lt hiM) h
      rw [this] at h
      omega
    have hpre := needN_pre b rs fact i (M - i)
    rw [show i + (M - i) = M by omega] at hpre
    have hg : (needN b rs fact i)[i]? = some g := by
      rw [List.getElem?_eq_getElem hil, hpre.getElem hil, e]
    have hvr := hr g v hv
    have hpre2 := needN_pre b rs fact (i + 1) (M - (i + 1))
    rw [show i + 1 + (M - (i + 1)) = M by omega] at hpre2
    refine hpre2.subset ?_
    rw [needN_some hg hv hvr]
    refine addN_all.2 (.inr ?_)
    unfold rul at hf
    rwa [getD_eq rl0 hvr] at hf
theorem nodup_le : ∀ (n : Nat) (l : List Nat), l.Nodup → (∀ x ∈ l, x < n) → l.length ≤ n
  | 0, l, _, h => by
    cases l with
    | nil => exact Nat.le_refl _
    | cons x r => exact absurd (h x List.mem_cons_self) (by omega)
  | n + 1, l, hn, h => by
    have h1 := nodup_le n (l.erase n) (hn.erase n) fun x hx => by
      have h2 := (List.Nodup.mem_erase_iff hn).1 hx
      have := h x h2.2
      omega
    by_cases hm : n ∈ l
    · rw [List.length_erase_of_mem hm] at h1; omega
    · rw [List.erase_of_not_mem hm] at h1; omega
theorem rch_rg {b : Lg} (ok : Ok b) {rs : Pm} {fact : Int} (hr : ∀ f v, rs f = some v → v < b.rules.length) (hf : -1 ≤ fact ∧ fact < b.facts) {f : Int} (h : Rch b rs fact f) : -1 ≤ f ∧ f < b.facts ∧ (f = -1 → f = fact) := by
  cases h with
  | goal => exact ⟨hf.1, hf.2, fun _ => rfl⟩
  | step g v f _ hv hm =>
    have := ok.body _ (rul_mem (hr _ _ hv)) f hm
    exact ⟨by omega, by omega, fun h => by omega⟩
theorem need_len {b : Lg} (ok : Ok b) {rs : Pm} {fact : Int} (hr : ∀ f v, rs f = some v → v < b.rules.length) (hf : -1 ≤ fact ∧ fact < b.facts) (i : Nat) : (needN b rs fact i).length ≤ 65 := by
  have h1 : ((needN b rs fact i).map fun f => (f + 1).toNat).length ≤ 65 := by
    refine nodup_le 65 _ ?_ fun x hx => ?_
    · refine List.nodup_iff_pairwise_ne.2 (List.pairwise_map.2 ?_)
      refine List.Pairwise.imp_of_mem (fun {x y} hx hy (h : x ≠ y) => ?_) (List.nodup_iff_pairwise_ne.1 (needN_nodup b rs fact i))
      have r1 := rch_rg ok hr hf (needN_rch hr i x hx)
      have r2 := rch_rg ok hr hf (needN_rch hr i y hy)
      omega
    · obtain ⟨y, hy, rfl⟩ := List.mem_map.1 hx
      have r1 := rch_rg ok hr hf (needN_rch hr i y hy)
      have := ok.f64
      omega
  rwa [List.length_map] at h1
/-- what is needed has a lesser rank -/
theorem rch_rank {b : Lg} {s j : Nat} {rk rs : Pm} (ri : RI b s j rk rs) {fact : Int} {R : Nat} (hR : rk fact = some R) {f : Int} (h : Rch b rs fact f) : (f = fact ∧ rk f = some R) ∨ ∃ t, t < R ∧ rk f = some t := by
  induction h with
  | goal => exact .inl ⟨rfl, hR⟩
  | step g v f _ hv hm ih =>
    right
    obtain ⟨_, _, r, h3, _, _, h6⟩ := ri.a g v hv
    obtain ⟨t, h7, h8⟩ := h6 f hm
    rcases ih with ⟨_, h9⟩ | ⟨t', h9, h10⟩
    · rw [h3] at h9; injection h9 with h9
      exact ⟨t, by omega, h8⟩
    · rw [h3] at h10; injection h10 with h10
      exact ⟨t, by omega, h8⟩
/-- the fact of a slot: the last slot is the contradiction's -/
def slF (F k : Nat) : Int := if k = F then -1 else k
/-- the slot of a fact -/
def slT (F : Nat) (f : Int) : Nat := if f < 0 then F else f.toNat
theorem slT_F {F : Nat} {f : Int} (h1 : -1 ≤ f) (h2 : f < F) : slT F f ≤ F ∧ slF F (slT F f) = f := by
  unfold slT slF
  by_cases h : f < 0
  · rw [if_pos h, if_pos rfl]; omega
  · rw [if_neg h, if_neg (by omega)]; omega
theorem slF_T {F k : Nat} (h : k ≤ F) : slT F (slF F k) = k ∧ -1 ≤ slF F k ∧ slF F k < F + 0 ∨ (slT F (slF F k) = k ∧ slF F k = -1) := by
  unfold slT slF
  by_cases e : k = F
  · right; rw [if_pos e]; exact ⟨by rw [if_pos (by omega)]; exact e.symm, rfl⟩
  · left; rw [if_neg e, if_neg (by omega)]; omega
theorem slF_inj {F k k' : Nat} (h : k ≤ F) (h' : k' ≤ F) (e : slF F k = slF F k') : k = k' := by
  unfold slF at e
  split at e <;> split at e <;> omega
/-- the slots of one rank -/
def inR (F : Nat) (nd : Int → Bool) (rk : Pm) (r : Nat) : List Int := ((List.range (F + 1)).map (slF F)).filter fun f => nd f && (rk f == some r)
def outL (F : Nat) (nd : Int → Bool) (rk : Pm) (R : Nat) : List Int := (List.range R).flatMap fun r => inR F nd rk (r + 1)
theorem slots_nodup (F : Nat) : ((List.range (F + 1)).map (slF F)).Nodup := by
  refine List.nodup_iff_pairwise_ne.2 (List.pairwise_map.2 ?_)
  refine List.Pairwise.imp_of_mem (fun {x y} hx hy (h : x ≠ y) e => h ?_) (List.nodup_iff_pairwise_ne.1 List.nodup_range)
  have := List.mem_range.1 hx
  have := List.mem_range.1 hy
  exact slF_inj (by omega) (by omega) e
theorem mem_inR {F : Nat} {nd : Int → Bool} {rk : Pm} {r : Nat} {f : Int} : f ∈ inR F nd rk r ↔ (∃ k, k < F + 1 ∧ slF F k = f) ∧ nd f = true ∧ rk f = some r := by
  unfold inR
  rw [List.mem_filter, List.mem_map, Bool.and_eq_true, beq_iff_eq]
  simp only [List.mem_range]
theorem mem_outL {F : Nat} {nd : Int → Bool} {rk : Pm} {R : Nat} {f : Int} : f ∈ outL F nd rk R ↔ (∃ k, k < F + 1 ∧ slF F k = f) ∧ nd f = true ∧ ∃ r, r < R ∧ rk f = some (r + 1) := by
  unfold outL
  rw [List.mem_flatMap]
  constructor
  · rintro ⟨r, h1, h2⟩
    obtain ⟨h3, h4, h5⟩ := mem_inR.1 h2
    exact ⟨h3, h4, r, List.mem_range.1 h1, h5⟩
  · rintro ⟨h3, h4, r, h1, h5⟩
    exact ⟨r, List.mem_range.2 h1, mem_inR.2 ⟨h3, h4, h5⟩⟩
theorem range_lt (n : Nat) : (List.range n).Pairwise (· < ·) := List.pairwise_lt_range
theorem keyW_some {rk : Pm} {f : Int} {r : Nat} (h : rk f = some r) : keyW rk f = r := by unfold keyW; rw [h]; rfl
theorem outL_sorted {F : Nat} {nd : Int → Bool} {rk : Pm} {R : Nat} (hone : nd (-1) = true → ∀ r f, rk (-1) = some r → nd f = true → rk f = some r → f = -1) : (outL F nd rk R).Pairwise (lexR (keyW rk)) := by
  unfold outL
  rw [List.pairwise_flatMap]
  constructor
  · intro r _
    unfold inR
    rw [List.pairwise_filter, List.pairwise_map]
    refine List.Pairwise.imp_of_mem (fun {x y} hx hy (h : x < y) h1 h2 => ?_) (range_lt (F + 1))
    rw [Bool.and_eq_true, beq_iff_eq] at h1 h2
    have := List.mem_range.1 hx
    have := List.mem_range.1 hy
    right
    rw [keyW_some h1.2, keyW_some h2.2]
    refine ⟨rfl, ?_⟩
    by_cases e : y = F
    · have e1 : slF F y = -1 := by unfold slF; rw [if_pos e]
      rw [e1] at h2
      have e2 := hone h2.1 _ _ h2.2 h1.1 h1.2
      rw [← e1] at e2
      have := slF_inj (by omega) (by omega) e2
      omega
    · unfold slF
      rw [if_neg (by omega), if_neg e]
      omega
  · refine List.Pairwise.imp (fun {r r'} (h : r < r') x hx y hy => ?_) (range_lt R)
    have h1 := (mem_inR.1 hx).2.2
    have h2 := (mem_inR.1 hy).2.2
    left
    rw [keyW_some h1, keyW_some h2]
    omega
theorem outL_nodup {F : Nat} {nd : Int → Bool} {rk : Pm} {R : Nat} : (outL F nd rk R).Nodup := by
  unfold outL
  rw [List.nodup_iff_pairwise_ne, List.pairwise_flatMap]
  constructor
  · intro r _
    exact List.nodup_iff_pairwise_ne.1 ((slots_nodup F).filter _)
  · refine List.Pairwise.imp (fun {r r'} (h : r < r') x hx y hy e => ?_) (range_lt R)
    have h1 := (mem_inR.1 hx).2.2
    have h2 := (mem_inR.1 hy).2.2
    rw [e, h2] at h1
    injection h1 with h1
    omega
/-- The two ways to write a proof down. -/
theorem out_same {b : Lg} (ok : Ok b) {s j : Nat} {rk rs : Pm} (ri : RI b s j rk rs) {fact : Int} {R M : Nat} (hR : rk fact = some R) (hf : -1 ≤ fact ∧ fact < b.facts) (hM : (needN b rs fact M).length ≤ M)
    {nd : Int → Bool} (hnd : ∀ f, nd f = true ↔ Rch b rs fact f) {ys : List Int} (hp : ys.Perm (needN b rs fact M)) (hw : ys.Pairwise (lexR (keyW rk))) :
    ys.filterMap (rsI rs) = (outL b.facts.toNat nd rk R).filterMap (rsI rs) := by
  have hr : ∀ f v, rs f = some v → v < b.rules.length := fun f v h => (ri.a f v h).1
  have e : ys.filter (fun f => (rs f).isSome) = outL b.facts.toNat nd rk R := by
    refine lex_same (key := keyW rk) ?_ (hw.filter _) (outL_sorted ?_)
    · refine (List.perm_ext_iff_of_nodup ((hp.nodup_iff.2 (needN_nodup b rs fact M)).filter _) outL_nodup).2 fun f => ?_
      rw [List.mem_filter, hp.mem_iff, mem_outL, hnd]
      constructor
      · rintro ⟨h1, h2⟩
        have h3 := needN_rch hr M f h1
        have h4 := rch_rg ok hr hf h3
        have h0 := ok.f0
        have h5 := slT_F (F := b.facts.toNat) (f := f) h4.1 (by omega)
        obtain ⟨v, hv⟩ := Option.isSome_iff_exists.1 h2
        obtain ⟨_, _, r, h6, h7, _⟩ := ri.a f v hv
        refine ⟨⟨_, by omega, h5.2⟩, h3, r - 1, ?_, by rw [h6]; congr 1; omega⟩
        rcases rch_rank ri hR h3 with ⟨_, h8⟩ | ⟨t, h8, h9⟩
        · rw [h6] at h8; injection h8 with h8; omega
        · rw [h6] at h9; injection h9 with h9; omega
      · rintro ⟨_, h3, r, _, h5⟩
        obtain ⟨v, hv⟩ := ri.c f r h5
        exact ⟨rch_need hr hM h3, by rw [hv]; rfl⟩
    · intro h1 r f h2 h3 h4
      have g1 := (hnd _).1 h1
      have g2 := (rch_rg ok hr hf g1).2.2 rfl
      rw [g2, hR] at h2
      injection h2 with h2
      rcases rch_rank ri hR ((hnd f).1 h3) with ⟨h8, _⟩ | ⟨t, h8, h9⟩
      · rw [h8, ← g2]
      · rw [h4] at h9; injection h9 with h9; omega
  rw [← e, List.filterMap_filter]
  congr 1
  funext f
  unfold rsI
  cases rs f <;> rfl
end Go.Label
/- label: what the reference marks as needed; a proof written down slot by slot; in plain Lean. -/
namespace Go.Label
open Go.Own Go.Proofs.Ytcbmifaobdamhaa
/-- the marks, while rank r is gone through, at slot k -/
structure ND (b : Lg) (rk rs : Pm) (fact : Int) (F r k : Nat) (nd : Int → Bool) : Prop where
  snd : ∀ f, nd f = true → Rch b rs fact f
  goal : nd fact = true
  hi : ∀ f t v, nd f = true → rk f = some t → r < t → rs f = some v → ∀ g ∈ (rul b v).body, nd g = true
  cur : ∀ f v, nd f = true → rk f = some r → slT F f < k → rs f = some v → ∀ g ∈ (rul b v).body, nd g = true
section
variable {b : Lg} {s j : Nat} {rk rs : Pm} {fact : Int} {F R r k : Nat} {nd : Int → Bool}
theorem nd_start (hR : rk fact = some R) : ND b rk rs fact F R 0 fun f => decide (f = fact) :=
  ⟨fun f h => by rw [of_decide_eq_true h]; exact Rch.goal, decide_eq_true rfl, fun f t v h ht hlt => by
    rw [of_decide_eq_true h, hR] at ht; injection ht with ht; omega, fun f v _ _ h => by omega⟩
theorem ND.add (h : ND b rk rs fact F r k nd) {g : Int} {t : Nat} (hg : Rch b rs fact g) (ht : rk g = some t) (hlt : t < r) : ND b rk rs fact F r k fun x => if x = g then true else nd x := by
  have keep : ∀ x, nd x = true → (if x = g then true else nd x) = true := fun x hx => by
    by_cases e : x = g
    · rw [if_pos e]
    · rw [if_neg e]; exact hx
  refine ⟨fun f hf => ?_, keep _ h.goal, fun f t' v hf h1 h2 h3 x hx => ?_, fun f v hf h1 h2 h3 x hx => ?_⟩
  · by_cases e : f = g
    · rw [e]; exact hg
    · exact h.snd f (by simpa [e] using hf)
  · by_cases e : f = g
    · rw [e, ht] at h1; injection h1 with h1; omega
    · exact keep x (h.hi f t' v (by simpa [e] using hf) h1 h2 h3 x hx)
  · by_cases e : f = g
    · rw [e, ht] at h1; injection h1 with h1; omega
    · exact keep x (h.cur f v (by simpa [e] using hf) h1 h2 h3 x hx)
theorem ND.skip (h : ND b rk rs fact F r k nd) (hk : k ≤ F) (hn : nd (slF F k) = true → rk (slF F k) = some r → ∀ v, rs (slF F k) = some v → ∀ g ∈ (rul b v).body, nd g = true)
    (hrg : ∀ f, nd f = true → -1 ≤ f ∧ f < F) : ND b rk rs fact F r (k + 1) nd := by
  refine ⟨h.snd, h.goal, h.hi, fun f v hf h1 h2 h3 => ?_⟩
  by_cases e : slT F f = k
  · have h4 := slT_F (hrg f hf).1 (hrg f hf).2
    rw [e] at h4
    rw [← h4.2] at hf h1 h3
    exact hn hf h1 v h3
  · exact h.cur f v hf h1 (by omega) h3
theorem ND.down (h : ND b rk rs fact F (r + 1) (F + 1) nd) (hrg : ∀ f, nd f = true → -1 ≤ f ∧ f < F) : ND b rk rs fact F r 0 nd := by
  refine ⟨h.snd, h.goal, fun f t v hf h1 h2 h3 => ?_, fun f v _ _ h => by omega⟩
  by_cases e : t = r + 1
  · subst e
    have h4 := slT_F (hrg f hf).1 (hrg f hf).2
    exact h.cur f v hf h1 (by omega) h3
  · exact h.hi f t v hf h1 (by omega) h3
theorem ND.done (h : ND b rk rs fact F 0 0 nd) (ri : RI b s j rk rs) (f : Int) : nd f = true ↔ Rch b rs fact f := by
  refine ⟨h.snd f, fun hf => ?_⟩
  induction hf with
  | goal => exact h.goal
  | step g v f _ hv hm ih =>
    obtain ⟨_, _, t, h1, h2, _⟩ := ri.a g v hv
    exact h.hi g t v ih h1 (by omega) hv f hm
end
def inRk (F : Nat) (nd : Int → Bool) (rk : Pm) (r k : Nat) : List Int := ((List.range k).map (slF F)).filter fun f => nd f && (rk f == some r)
/-- what is written down before slot k of rank r + 1 -/
def oK (F : Nat) (nd : Int → Bool) (rk rs : Pm) (r k : Nat) : List Int := (outL F nd rk r ++ inRk F nd rk (r + 1) k).filterMap (rsI rs)
theorem oK_zero (F : Nat) (nd : Int → Bool) (rk rs : Pm) : oK F nd rk rs 0 0 = [] := by simp [oK, outL, inRk]
theorem oK_all (F : Nat) (nd : Int → Bool) (rk rs : Pm) (r : Nat) : oK F nd rk rs r 0 = (outL F nd rk r).filterMap (rsI rs) := by simp [oK, inRk]
theorem oK_next (F : Nat) (nd : Int → Bool) (rk rs : Pm) (r : Nat) : oK F nd rk rs r (F + 1) = oK F nd rk rs (r + 1) 0 := by
  rw [oK_all]
  unfold oK outL
  congr 1
  rw [List.range_succ, List.flatMap_append]
  simp [inRk, inR]
theorem oK_yes {F : Nat} {nd : Int → Bool} {rk rs : Pm} {r k v : Nat} (h1 : nd (slF F k) = true) (h2 : rk (slF F k) = some (r + 1)) (h3 : rs (slF F k) = some v) : oK F nd rk rs r (k + 1) = oK F nd rk rs r k ++ [(v : Int)] := by
  unfold oK inRk
  rw [List.range_succ, List.map_append, List.filter_append, ← List.append_assoc, List.filterMap_append]
  congr 1
  simp [h1, h2, rsI, h3]
theorem oK_no {F : Nat} {nd : Int → Bool} {rk rs : Pm} {r k : Nat} (h : (nd (slF F k) && (rk (slF F k) == some (r + 1))) = false) : oK F nd rk rs r (k + 1) = oK F nd rk rs r k := by
  unfold oK inRk
  rw [List.range_succ, List.map_append, List.filter_append]
  simp only [List.map_cons, List.map_nil, List.filter_cons, h, List.filter_nil, List.append_nil, Bool.false_eq_true, if_false]
theorem inRk_len (F : Nat) (nd : Int → Bool) (rk : Pm) (r k : Nat) : (inRk F nd rk r k).length ≤ k := by
  unfold inRk
  refine Nat.le_trans (List.length_filter_le _ _) ?_
  rw [List.length_map, List.length_range]
  exact Nat.le_refl _
theorem outL_len (F : Nat) (hF : F ≤ 64) (nd : Int → Bool) (rk : Pm) : ∀ r, (outL F nd rk r).length ≤ r * 65
  | 0 => by simp [outL]
  | r + 1 => by
    have ih := outL_len F hF nd rk r
    have e : outL F nd rk (r + 1) = outL F nd rk r ++ inR F nd rk (r + 1) := by
      unfold outL; rw [List.range_succ, List.flatMap_append]; simp
    rw [e, List.length_append]
    have h2 : (inR F nd rk (r + 1)).length ≤ F + 1 := inRk_len F nd rk (r + 1) (F + 1)
    omega
theorem oK_len (F : Nat) (hF : F ≤ 64) (nd : Int → Bool) (rk rs : Pm) (r k : Nat) (hk : k ≤ F + 1) : (oK F nd rk rs r k).length ≤ r * 65 + 65 := by
  unfold oK
  refine Nat.le_trans (List.length_filterMap_le _ _) ?_
  rw [List.length_append]
  have h1 := outL_len F hF nd rk r
  have h2 := inRk_len F nd rk (r + 1) k
  omega
/-- what the reference's Why answers, of arguments that fit -/
def WhyR (b : Lg) (m : Nat) (fact : Int) (out : List Int) (E : Int) : Prop :=
  (rkE b m fact = none ∧ out = [] ∧ E = 6) ∨ ∃ R nd, rkE b m fact = some R ∧ E = 0 ∧ (∀ f, nd f = true ↔ Rch b (rsE b m) fact f) ∧ out = (outL b.facts.toNat nd (rkE b m) R).filterMap (rsI (rsE b m))
theorem why_same {b : Lg} (ok : Ok b) {m : Nat} {fact : Int} (hf : -1 ≤ fact ∧ fact < b.facts) {out out' : List Int} {E E' : Int} (h : WhyP b m fact 79 out E) (h' : WhyR b m fact out' E') : out = out' ∧ E = E' := by
  obtain ⟨j, hj, hq, h⟩ := h
  have e := rIter_same hq (quiet_end ok m)
  have hr : ∀ f v, rsE b m f = some v → v < b.rules.length := fun f v h => ((riE b m).a f v h).1
  rw [e] at h
  rcases h with ⟨h1, h2, h3⟩ | ⟨h1, h2, ys, h3, h4, h5⟩
  · rcases h' with ⟨_, g2, g3⟩ | ⟨R, nd, g1, _⟩
    · exact ⟨by rw [h2, g2], by rw [h3, g3]⟩
    · have h1' : rkE b m fact = none := h1
      rw [h1'] at g1; cases g1
  · rcases h' with ⟨g1, _⟩ | ⟨R, nd, g1, g2, g3, g4⟩
    · exact absurd g1 h1
    · refine ⟨?_, by rw [h2, g2]⟩
      rw [h5, g4]
      exact out_same ok (riE b m) g1 hf (Nat.le_trans (need_len ok hr hf 79) (by omega)) g3 h3 h4
end Go.Label
