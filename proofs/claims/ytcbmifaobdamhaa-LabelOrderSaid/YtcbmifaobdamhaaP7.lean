/- label: a base with its rules turned, in plain Lean. -/
import Derived.Test.YtcbmifaobdamhaaA31
namespace Go.Label
open Go.Theory
def turnB (l : List Int) : List Int := if 0 < l.length ∧ l.length < 16 then l.reverse ++ [l.reverse.getD 0 0] else l.reverse
def turnRl (r : Rl) : Rl := ⟨r.head, turnB r.body⟩
def turnRs (rs : List Rl) (a : Nat) : List Rl := (List.range rs.length).map fun i => turnRl (rs.getD ((i + a) % rs.length) rl0)
def turnL (rs : List Rl) (c : Nat) : List Rl := if 0 < rs.length ∧ rs.length < 64 then [rs.getD c rl0] else []
def turnLg (b : Lg) (a c : Nat) : Lg := ⟨b.facts, b.assume, turnRs b.rules a ++ turnL b.rules c⟩
theorem turnB_mem {l : List Int} {f : Int} : f ∈ turnB l ↔ f ∈ l := by
  unfold turnB
  split
  · rename_i h
    rw [List.mem_append, List.mem_reverse, List.mem_singleton]
    constructor
    · rintro (h1 | h1)
      · exact h1
      · rw [h1]
        have h2 : 0 < l.reverse.length := by simp; omega
        rw [List.getD_eq_getElem?_getD, List.getElem?_eq_getElem h2]
        have := List.getElem_mem h2
        rw [List.mem_reverse] at this
        exact this
    · exact .inl
  · rw [List.mem_reverse]
theorem turnB_len (l : List Int) (h : l.length ≤ 16) : (turnB l).length ≤ 16 := by
  unfold turnB
  split
  · simp; omega
  · simpa using h
theorem atD_mem {α : Type} {l : List α} {i : Nat} (d : α) (h : i < l.length) : l.getD i d ∈ l := by
  rw [List.getD_eq_getElem?_getD, List.getElem?_eq_getElem h]
  exact List.getElem_mem h
/-- the same head, the same facts in the body -/
def Alike (r r' : Rl) : Prop := r.head = r'.head ∧ ∀ f, f ∈ r.body ↔ f ∈ r'.body
theorem turn_from {rs : List Rl} {a c : Nat} (hc : 0 < rs.length → c < rs.length) {r' : Rl} (h : r' ∈ turnRs rs a ++ turnL rs c) : ∃ r ∈ rs, Alike r r' ∧ (r'.body = turnB r.body ∨ r' = r) := by
  rcases List.mem_append.1 h with h | h
  · unfold turnRs at h
    obtain ⟨i, hi, rfl⟩ := List.mem_map.1 h
    have hn := List.mem_range.1 hi
    exact ⟨_, atD_mem rl0 (Nat.mod_lt _ (by omega)), ⟨rfl, fun f => turnB_mem.symm⟩, .inl rfl⟩
  · unfold turnL at h
    split at h
    · rename_i h1
      rw [List.mem_singleton] at h
      subst h
      exact ⟨_, atD_mem rl0 (hc h1.1), ⟨rfl, fun f => Iff.rfl⟩, .inr rfl⟩
    · cases h
theorem turn_to {rs : List Rl} {a c : Nat} (ha : 0 < rs.length → a < rs.length) {r : Rl} (h : r ∈ rs) : ∃ r' ∈ turnRs rs a ++ turnL rs c, Alike r r' := by
  obtain ⟨j, hj, rfl⟩ := List.mem_iff_getElem.1 h
  have ha' := ha (by omega)
  refine ⟨turnRl rs[j], List.mem_append_left _ ?_, rfl, fun f => turnB_mem.symm⟩
  unfold turnRs
  refine List.mem_map.2 ⟨if a ≤ j then j - a else j + rs.length - a, List.mem_range.2 (by split <;> omega), ?_⟩
  have e : ((if a ≤ j then j - a else j + rs.length - a) + a) % rs.length = j := by
    split
    · rw [Nat.sub_add_cancel (by omega), Nat.mod_eq_of_lt hj]
    · rw [Nat.sub_add_cancel (by omega), Nat.add_mod_right, Nat.mod_eq_of_lt hj]
  show turnRl (rs.getD _ rl0) = _
  rw [e, List.getD_eq_getElem?_getD, List.getElem?_eq_getElem hj]
  rfl
theorem turn_ok {b : Lg} (ok : Ok b) {a c : Nat} (hc : 0 < b.rules.length → c < b.rules.length) : Ok (turnLg b a c) := by
  refine ⟨ok.f0, ok.f64, ok.a16, ?_, fun r hr => ?_, ok.asm, ok.up, fun r hr => ?_, fun r hr f hf => ?_⟩
  · show (turnRs b.rules a ++ turnL b.rules c).length ≤ 64
    have := ok.r64
    rw [List.length_append]
    unfold turnRs turnL
    rw [List.length_map, List.length_range]
    split
    · simp; omega
    · simpa using this
  · obtain ⟨r0, h0, _, h2⟩ := turn_from hc hr
    rcases h2 with h2 | h2
    · rw [h2]; exact turnB_len _ (ok.long r0 h0)
    · rw [h2]; exact ok.long r0 h0
  · obtain ⟨r0, h0, h1, _⟩ := turn_from hc hr
    rw [← h1.1]; exact ok.head r0 h0
  · obtain ⟨r0, h0, h1, _⟩ := turn_from hc hr
    exact ok.body r0 h0 f ((h1.2 f).2 hf)
theorem turn_der {b : Lg} {a c : Nat} (ha : 0 < b.rules.length → a < b.rules.length) (hc : 0 < b.rules.length → c < b.rules.length) {s f : Nat} : Der (turnLg b a c) s f ↔ Der b s f := by
  constructor
  · intro h
    induction h with
    | asm k h1 h2 => exact Der.asm (b := b) k h1 h2
    | rule r hr h0 _ ih =>
      obtain ⟨r0, h1, h2, _⟩ := turn_from hc hr
      rw [← h2.1]
      exact Der.rule r0 h1 (by rw [h2.1]; exact h0) fun f hf => ih f ((h2.2 f).1 hf)
  · intro h
    induction h with
    | asm k h1 h2 => exact Der.asm (b := turnLg b a c) k h1 h2
    | rule r hr h0 _ ih =>
      obtain ⟨r0, h1, h2⟩ := turn_to (c := c) ha hr
      rw [h2.1]
      exact Der.rule (b := turnLg b a c) r0 h1 (by rw [← h2.1]; exact h0) fun f hf => ih f ((h2.2 f).2 hf)
theorem turn_fol {b : Lg} (ok : Ok b) {a c : Nat} (ha : 0 < b.rules.length → a < b.rules.length) (hc : 0 < b.rules.length → c < b.rules.length) (s : Nat) : fol (turnLg b a c) s = fol b s := by
  refine Nat.eq_of_testBit_eq fun f => ?_
  rw [Bool.eq_iff_iff, fol_der (turn_ok ok hc), fol_der ok]
  exact turn_der ha hc
theorem bdy_alike {r r' : Rl} (h : Alike r r') (K : Nat) : bdy r.body K = bdy r'.body K := by
  unfold bdy
  rw [Bool.eq_iff_iff, List.all_eq_true, List.all_eq_true]
  exact ⟨fun h1 f hf => h1 f ((h.2 f).2 hf), fun h1 f hf => h1 f ((h.2 f).1 hf)⟩
theorem turn_bad {b : Lg} (ok : Ok b) {a c : Nat} (ha : 0 < b.rules.length → a < b.rules.length) (hc : 0 < b.rules.length → c < b.rules.length) (s : Nat) : badS (turnLg b a c) s = badS b s := by
  unfold badS
  rw [turn_fol ok ha hc]
  unfold badK
  rw [Bool.eq_iff_iff, List.any_eq_true, List.any_eq_true]
  constructor
  · rintro ⟨r, hr, h⟩
    obtain ⟨r0, h1, h2, _⟩ := turn_from hc hr
    exact ⟨r0, h1, by rw [bdy_alike h2, h2.1]; exact h⟩
  · rintro ⟨r, hr, h⟩
    obtain ⟨r0, h1, h2⟩ := turn_to (c := c) ha hr
    exact ⟨r0, h1, by rw [← bdy_alike h2, ← h2.1]; exact h⟩
theorem turn_labs {b : Lg} (ok : Ok b) {a c : Nat} (ha : 0 < b.rules.length → a < b.rules.length) (hc : 0 < b.rules.length → c < b.rules.length) : labs (turnLg b a c) = labs b := by
  have e : lstep (turnLg b a c) = lstep b := by
    funext S s
    unfold lstep
    rw [turn_fol ok ha hc, turn_bad ok ha hc]
  unfold labs lfold
  rw [e]
  rfl
end Go.Label
