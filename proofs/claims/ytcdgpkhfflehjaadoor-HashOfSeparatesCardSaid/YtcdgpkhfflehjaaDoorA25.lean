/- The wire encoding of lists of strings can be read back. -/
import Derived.Test.YtcdgpkhfflehjaaDoorA24
namespace Go.Proofs.YtcdgpkhfflehjaaDoor
open Go.RowKit Go.Sha Go.Own
theorem ofNat_inj {n n' : Nat} (h : n < 256) (h' : n' < 256) (e : UInt8.ofNat n = UInt8.ofNat n') : n = n' := by
  have := congrArg UInt8.toNat e
  simp at this; omega
theorem wireInt_inj (n n' : Nat) (hn : n < 65536) (hn' : n' < 65536) (s s' : List UInt8) (h : wireInt n ++ s = wireInt n' ++ s') : n = n' ∧ s = s' := by
  unfold wireInt at h
  by_cases h0 : n = 0
  · by_cases h0' : n' = 0
    · simp [h0, h0'] at h; exact ⟨by omega, h⟩
    · by_cases h1' : n' < 256 <;> simp [h0, h0', h1'] at h
  · by_cases h0' : n' = 0
    · by_cases h1 : n < 256 <;> simp [h0, h0', h1] at h
    · by_cases h1 : n < 256
      · by_cases h1' : n' < 256
        · simp only [h0, h0', h1, h1', if_true, if_false, List.cons_append, List.nil_append, List.cons.injEq, true_and] at h
          exact ⟨ofNat_inj h1 h1' h.1, h.2⟩
        · simp [h0, h0', h1, h1'] at h
      · by_cases h1' : n' < 256
        · simp [h0, h0', h1, h1'] at h
        · simp only [h0, h0', h1, h1', if_false, List.cons_append, List.nil_append, List.cons.injEq, true_and] at h
          have e1 := ofNat_inj (by omega) (by omega) h.1
          have e2 := ofNat_inj (by omega) (by omega) h.2.1
          exact ⟨by omega, h.2.2⟩
theorem wireBytes_inj (p p' : List UInt8) (hp : p.length < 65536) (hp' : p'.length < 65536) (s s' : List UInt8) (h : wireBytes p ++ s = wireBytes p' ++ s') : p = p' ∧ s = s' := by
  unfold wireBytes at h
  rw [List.append_assoc, List.append_assoc] at h
  obtain ⟨h1, h2⟩ := wireInt_inj _ _ hp hp' _ _ h
  exact List.append_inj h2 h1
theorem wireBytes_ne (p : List UInt8) : wireBytes p ≠ [] := by
  unfold wireBytes wireInt
  by_cases h0 : p.length = 0
  · simp [h0]
  · by_cases h1 : p.length < 256 <;> simp [h0, h1]
theorem flat_inj : ∀ (l l' : List (List UInt8)), (∀ p ∈ l, p.length < 65536) → (∀ p ∈ l', p.length < 65536) → l.flatMap wireBytes = l'.flatMap wireBytes → l = l'
  | [], [], _, _, _ => rfl
  | [], p :: l', _, _, h => by
    rw [List.flatMap_nil, List.flatMap_cons] at h
    exact absurd (List.append_eq_nil_iff.1 h.symm).1 (wireBytes_ne p)
  | p :: l, [], _, _, h => by
    rw [List.flatMap_nil, List.flatMap_cons] at h
    exact absurd (List.append_eq_nil_iff.1 h).1 (wireBytes_ne p)
  | p :: l, p' :: l', hl, hl', h => by
    rw [List.flatMap_cons, List.flatMap_cons] at h
    obtain ⟨rfl, h2⟩ := wireBytes_inj p p' (hl _ (List.mem_cons_self ..)) (hl' _ (List.mem_cons_self ..)) _ _ h
    rw [flat_inj l l' (fun q hq => hl q (List.mem_cons_of_mem _ hq)) (fun q hq => hl' q (List.mem_cons_of_mem _ hq)) h2]
theorem tagB_nat (t : UInt8) : tagB (t.toNat : Int) = t := by
  have := t.toNat_lt
  rw [tagB]
  apply UInt8.toNat_inj.1
  simp; omega
theorem inputF_inj (t t' : UInt8) (l l' : List (List UInt8)) (hl : ∀ p ∈ l, p.length < 65536) (hl' : ∀ p ∈ l', p.length < 65536) (h : inputF (t.toNat : Int) l = inputF (t'.toNat : Int) l') : t = t' ∧ l = l' := by
  unfold inputF at h
  rw [tagB_nat, tagB_nat] at h
  injection h with h1 h2
  exact ⟨h1, flat_inj l l' hl hl' h2⟩
end Go.Proofs.YtcdgpkhfflehjaaDoor
