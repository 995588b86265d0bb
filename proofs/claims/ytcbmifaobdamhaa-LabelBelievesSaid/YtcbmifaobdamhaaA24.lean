/- label: what a proof needs, in plain Lean. -/
import Derived.Test.YtcbmifaobdamhaaA21
import Derived.Test.YtcbmifaobdamhaaA22
import Derived.Test.YtcbmifaobdamhaaSo
import Derived.Test.YtcbmifaobdamhaaS3
namespace Go.Label
/-- a list with the first k facts of a body, those that lack -/
def addN (l bd : List Int) : Nat → List Int
  | 0 => l
  | k + 1 => if (addN l bd k).contains (bd.getD k 0) then addN l bd k else addN l bd k ++ [bd.getD k 0]
/-- what a fact needs, after so many steps -/
def needN (b : Lg) (rs : Pm) (fact : Int) : Nat → List Int
  | 0 => [fact]
  | i + 1 => match (needN b rs fact i)[i]? with
    | none => needN b rs fact i
    | some f => match rs f with
      | none => needN b rs fact i
      | some v => addN (needN b rs fact i) (b.rules.getD v rl0).body (b.rules.getD v rl0).body.length
theorem addN_pre (l bd : List Int) : ∀ k, l <+: addN l bd k
  | 0 => List.prefix_refl _
  | k + 1 => by
    unfold addN
    split
    · exact addN_pre l bd k
    · exact (addN_pre l bd k).trans (List.prefix_append _ _)
theorem addN_mono (l bd : List Int) (k : Nat) : ∀ d, (addN l bd k).length ≤ (addN l bd (k + d)).length
  | 0 => Nat.le_refl _
  | d + 1 => by
    have ih := addN_mono l bd k d
    rw [← Nat.add_assoc]
    conv => rhs; unfold addN
    split
    · exact ih
    · rw [List.length_append]; omega
theorem addN_nodup {l bd : List Int} (h : l.Nodup) : ∀ k, (addN l bd k).Nodup
  | 0 => h
  | k + 1 => by
    have ih := addN_nodup (bd := bd) h k
    unfold addN
    split
    · exact ih
    · rename_i hc
      rw [List.nodup_append]
      refine ⟨ih, by simp, fun a ha c hc' e => ?_⟩
      rw [List.mem_singleton] at hc'
      subst hc' e
      exact hc (List.contains_iff_mem.2 ha)
theorem needN_nodup (b : Lg) (rs : Pm) (fact : Int) : ∀ i, (needN b rs fact i).Nodup
  | 0 => by simp [needN]
  | i + 1 => by
    have ih := needN_nodup b rs fact i
    unfold needN
    split
    · exact ih
    · split
      · exact ih
      · exact addN_nodup ih _
theorem needN_len (b : Lg) (rs : Pm) (fact : Int) (i : Nat) : (needN b rs fact i).length ≤ (needN b rs fact (i + 1)).length := by
  conv => rhs; unfold needN
  split
  · exact Nat.le_refl _
  · split
    · exact Nat.le_refl _
    · exact (addN_pre _ _ _).length_le
theorem needN_mono (b : Lg) (rs : Pm) (fact : Int) (i : Nat) : ∀ d, (needN b rs fact i).length ≤ (needN b rs fact (i + d)).length
  | 0 => Nat.le_refl _
  | d + 1 => by
    have h1 := needN_mono b rs fact i d
    have h2 := needN_len b rs fact (i + d)
    rw [← Nat.add_assoc]
    omega
theorem needN_still {b : Lg} {rs : Pm} {fact : Int} {M : Nat} (h : (needN b rs fact M).length ≤ M) : ∀ d, needN b rs fact (M + d) = needN b rs fact M
  | 0 => rfl
  | d + 1 => by
    have ih := needN_still h d
    rw [← Nat.add_assoc]
    conv => lhs; unfold needN
    rw [ih, List.getElem?_eq_none (by omega)]
theorem needN_pos (b : Lg) (rs : Pm) (fact : Int) (i : Nat) : 0 < (needN b rs fact i).length := by
  have := needN_mono b rs fact 0 i
  rw [Nat.zero_add] at this
  exact Nat.lt_of_lt_of_le (by simp [needN]) this
/-- while there is something left the steps are few -/
theorem needN_lt {b : Lg} {rs : Pm} {fact : Int} {M i : Nat} (h : (needN b rs fact M).length ≤ M) (hi : i < (needN b rs fact i).length) : i < M := by
  rcases Nat.lt_or_ge i M with h1 | h1
  · exact h1
  · have := needN_still h (i - M)
    rw [show M + (i - M) = i by omega] at this
    rw [this] at hi
    omega
theorem needN_end {b : Lg} {rs : Pm} {fact : Int} {M i : Nat} (h : (needN b rs fact M).length ≤ M) (hi : i ≤ M) (he : (needN b rs fact i).length ≤ i) : needN b rs fact i = needN b rs fact M := by
  have := needN_still he (M - i)
  rw [show i + (M - i) = M by omega] at this
  exact this.symm
theorem rIter_le {b : Lg} {s : Nat} : ∀ (j : Nat) (f : Int) (v : Nat), (rIter b s j).1 f = some v → v ≤ j
  | 0, f, v, h => by
    have aux : ∀ k, rk0 b s k f = some v → v = 0 := fun k => by
      induction k with
      | zero => intro h; cases h
      | succ k ih =>
        intro h
        unfold rk0 at h
        split at h
        · dsimp only at h
          split at h
          · injection h with h; exact h.symm
          · exact ih h
        · exact ih h
    have := aux _ h
    omega
  | j + 1, f, v, h => by
    have h' : (if (fnd b (rIter b s j).1 f).isSome then some (j + 1) else (rIter b s j).1 f) = some v := h
    split at h'
    · injection h' with h'; omega
    · have := rIter_le j f v h'; omega
theorem rIter_rule {b : Lg} {s : Nat} : ∀ (j : Nat) (f : Int) (v : Nat), (rIter b s j).2 f = some v → v < b.rules.length
  | 0, f, v, h => by cases h
  | j + 1, f, v, h => by
    have h' : (match fnd b (rIter b s j).1 f with | some i => some i | none => (rIter b s j).2 f) = some v := h
    split at h'
    · rename_i i hi
      injection h' with h'
      subst h'
      exact (fndN_new _ (Nat.le_refl _) hi).2.1
    · exact rIter_rule j f v h'
end Go.Label
/- label: slices.Contains; the comparison of ranks. -/
namespace Go.Proofs.Ytcbmifaobdamhaa
open Go.RowKit Go.Own Go.Theory Go.BigFrame Go.Ib Go.Label Go.Shelf
set_option maxRecDepth 100000 in
theorem index_any (l : List Int) (x : Int) (sa : Option Addr) (cap : Nat) (w : World) (hl : Sl w 1 (.slice sa l.length cap) l.length (l.map (.int .i64))) (hll : l.length ≤ 1000000) :
    Calls Try.prog 69 #[.slice sa l.length cap, .int .i64 x] w fun e w' => (∃ z : Int, e = .returned (.int .i64 z) ∧ decide (0 ≤ z) = l.contains x) ∧ w' = w := by
  have HL := Lib.hid hl; clear hl
  go_enter Try.func69, Try.ntmps69
  go_wp2
  go_loopw [8] (fun v wr => ∃ i : Nat, i ≤ l.length ∧ v = .int .i64 i ∧ (∀ j (hj : j < l.length), j < i → l[j] ≠ x) ∧ wr = w) (fun v _ => l.length - (vInt v).toNat)
  case atStart => exact ⟨0, by omega, rfl, fun j _ h => absurd h (by omega), rfl⟩
  case round =>
    obtain ⟨i, hi, rfl, hno, rfl⟩ := hrel
    have HNO := Lib.hid hno; clear hno
    by_cases h1 : i < l.length
    · have h1' : (i : Int) < l.length := by omega
      obtain ⟨g, o, rfl, _, _, hC, _⟩ := sl_at HL.out (by omega)
      obtain ⟨y, hy⟩ : ∃ y, y = l[i] := ⟨_, rfl⟩
      have cy : wr.cell? ⟨g, o + i, none⟩ = some (.int .i64 y) := hC i _ (by simp [h1, hy])
      have HY := Lib.hid hy; clear hy hC
      by_cases he : x = y
      · subst he
        have hc : l.contains x = true := List.contains_iff_mem.2 (by rw [HY.out]; exact List.getElem_mem h1)
        have HC := Lib.hid hc; clear hc
        go_wp2
        go_ret
        exact ⟨⟨_, rfl, by rw [HC.out]; exact decide_eq_true (by omega)⟩, rfl⟩
      · have he2 : (x == y) = false := by simpa using he
        have he3 : (x = y) = False := eq_false he
        clear he
        go_wp2
        go_roundw
        case rel =>
          refine ⟨i + 1, by omega, by go_num, fun j hj hji => ?_, trivial⟩
          by_cases e : j = i
          · subst e; rw [← HY.out]; intro h; rw [h] at he2; simp at he2
          · exact HNO.out j hj (by omega)
        case measure => simp [vInt]; omega
    · have h1' : (l.length : Int) ≤ i := by omega
      have hc : l.contains x = false := by
        cases h : l.contains x with
        | false => rfl
        | true =>
          obtain ⟨j, hj, e⟩ := List.getElem_of_mem (List.contains_iff_mem.1 h)
          exact absurd e (HNO.out j hj (by omega))
      have HC := Lib.hid hc; clear hc
      go_wp2
      go_ret
      exact ⟨⟨_, rfl, by rw [HC.out]; rfl⟩, rfl⟩
theorem contains_any (l : List Int) (x : Int) (sa : Option Addr) (cap : Nat) (w : World) (hl : Sl w 1 (.slice sa l.length cap) l.length (l.map (.int .i64))) (hll : l.length ≤ 1000000) :
    Calls Try.prog 54 #[.slice sa l.length cap, .int .i64 x] w fun e w' => e = .returned (.bool (l.contains x)) ∧ w' = w := by
  have h := index_any l x sa cap w hl hll
  clear hl
  go_enter Try.func54, Try.ntmps54
  go_wp2_with (fail)
  refine h.mono ?_
  rintro e w' ⟨⟨z, rfl, hz⟩, rfl⟩
  have HZ := Lib.hid hz; clear hz
  go_wp2
  go_ret
  exact ⟨by rw [← HZ.out]; rfl, rfl⟩
/-- the key by which a proof is sorted -/
def keyW (rk : Pm) (x : Int) : Int := ((rk x).getD 0 : Nat)
theorem wcmp_any (rk : Pm) (A C : Nat) (hrk : ∀ f v, rk f = some v → v ≤ 66) (w : World) (hc : Blk w C [.map (some A)] 75) (hm : MapF w A rk) (x y : Int) :
    Calls Try.prog 57 #[.int .i64 x, .int .i64 y, .pointer (some ⟨C, 0, none⟩)] w fun e w' => ∃ c, e = .returned (.int .i64 c) ∧ (c < 0 ↔ keyW rk x < keyW rk y) ∧ Below w.heap.size w w' := by
  have hb : ∀ z, (rk z).getD 0 ≤ 66 := fun z => by
    cases h : rk z with
    | none => exact Nat.zero_le _
    | some v => exact hrk z v h
  have hx := hb x
  have hy := hb y
  have l1 := look1_any hm x
  have l2 := look1_any hm y
  have cc : w.cell? ⟨C, 0, none⟩ = some (.map (some A)) := hc.cell rfl
  unfold keyW
  obtain ⟨p, hp⟩ : ∃ p, p = (rk x).getD 0 := ⟨_, rfl⟩
  obtain ⟨q, hq⟩ : ∃ q, q = (rk y).getD 0 := ⟨_, rfl⟩
  rw [← hp] at hx l1 ⊢
  rw [← hq] at hy l2 ⊢
  clear hp hq hm hrk hb hc
  have hw : wrap64 ((p : Int) - q) = (p : Int) - q := Go.IntWalk.wrap64_in _ (by omega)
  go_enter Try.func57, Try.ntmps57
  go_wp2
  go_ret
  exact ⟨_, rfl, by omega, Below.refl _ _⟩
end Go.Proofs.Ytcbmifaobdamhaa
