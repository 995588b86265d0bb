/- What Open finds when bits of one record's sectors have rotted. No program. -/
import Derived.Test.YtbmnbdkbgpajeaaGreatDoorFR25
import Derived.Test.YtbmnbdkbgpajeaaGreatDoorFR10
import Derived.Test.YtbmnbdkbgpajeaaGreatDoorFR23
/- What Open finds when bits of one record's sectors have rotted. No program. -/
section
namespace Go.Jn
open Go.Disk Go.Sha Go.Own
/-- the sectors of texts with numbers from n on -/
def packs : Nat → List (List UInt8) → List (List UInt8)
  | _, [] => []
  | n, t :: r => pack n t ++ packs (n + 1) r
/-- texts with numbers from n on -/
def numd : Nat → List (List UInt8) → List (Nat × List UInt8)
  | _, [] => []
  | n, t :: r => (n, t) :: numd (n + 1) r
theorem packs_cons (n : Nat) (t : List UInt8) (r : List (List UInt8)) : packs n (t :: r) = pack n t ++ packs (n + 1) r := rfl
theorem packs_length : ∀ (n : Nat) (ts : List (List UInt8)), (packs n ts).length = secs ts
  | _, [] => rfl
  | n, t :: r => by
    have h := packs_length (n + 1) r
    unfold secs at *
    rw [packs_cons, List.length_append, pack_length, h, List.map_cons, List.sum_cons]
theorem packs_append : ∀ (n : Nat) (a b : List (List UInt8)), packs n (a ++ b) = packs n a ++ packs (n + a.length) b
  | _, [], _ => rfl
  | n, t :: a, b => by
    rw [List.cons_append, packs_cons, packs_cons, packs_append (n + 1) a b, List.append_assoc, List.length_cons, show n + 1 + a.length = n + (a.length + 1) by omega]
theorem numd_texts : ∀ (n : Nat) (ts : List (List UInt8)), (numd n ts).map Prod.snd = ts
  | _, [] => rfl
  | n, t :: r => by unfold numd; rw [List.map_cons, numd_texts (n + 1) r]
theorem numd_nums : ∀ (n : Nat) (ts : List (List UInt8)), (numd n ts).map Prod.fst = (List.range ts.length).map (· + n)
  | _, [] => rfl
  | n, t :: r => by
    unfold numd
    rw [List.map_cons, numd_nums (n + 1) r, List.length_cons, List.range_succ_eq_map, List.map_cons, List.map_map]
    simp only [Nat.zero_add, List.cons.injEq, true_and]
    refine List.map_congr_left fun i _ => ?_
    show i + (n + 1) = i + 1 + n
    omega
theorem scanL_packs : ∀ (ts : List (List UInt8)) (n : Nat) (a : List (Nat × List UInt8)) (r : List Prt), 1 ≤ n → n + ts.length ≤ 4097 → (∀ t ∈ ts, t.length ≤ 8000) → (∀ z ∈ a, z.1 < n) → scanL ((packs n ts).map unpack ++ r) a = scanL r (a ++ numd n ts)
  | [], _, a, r, _, _, _, _ => by
    unfold packs numd
    rw [List.append_nil]; rfl
  | t :: ts, n, a, r, h1, h2, h8, ha => by
    have ht := h8 t (List.mem_cons_self ..)
    rw [List.length_cons] at h2
    unfold packs numd
    rw [List.map_append, parts_pack h1 (by omega) ht, List.append_assoc, scanL_parts ht _ _ fun z hz => by have := ha z hz; omega,
      scanL_packs ts (n + 1) _ r (by omega) (by omega) (fun t ht => h8 t (List.mem_cons_of_mem _ ht)) fun z hz => by
        rcases List.mem_append.1 hz with hz | hz
        · have := ha z hz; omega
        · obtain rfl : z = (n, t) := by simpa using hz
          dsimp only; omega]
    rw [List.append_assoc]; rfl
theorem packs_at : ∀ (ts : List (List UInt8)) (n : Nat), ∀ s ∈ packs n ts, ∃ m t k, n ≤ m ∧ m < n + ts.length ∧ ts[m - n]? = some t ∧ k < cntN t.length ∧ s = sect m t k
  | [], _, s, hs => by simp [packs] at hs
  | t :: ts, n, s, hs => by
    unfold packs at hs
    rcases List.mem_append.1 hs with hs | hs
    · unfold pack at hs
      obtain ⟨k, hk, rfl⟩ := List.mem_map.1 hs
      exact ⟨n, t, k, Nat.le_refl _, by simp, by simp, List.mem_range.1 hk, rfl⟩
    · obtain ⟨m, x, k, h1, h2, h3, h4, h5⟩ := packs_at ts (n + 1) s hs
      refine ⟨m, x, k, by omega, by rw [List.length_cons]; omega, ?_, h4, h5⟩
      rw [show m - n = m - (n + 1) + 1 by omega, List.getElem?_cons_succ]
      exact h3
/-- bits turned: places behind `at`, and bits -/
def tS (at_ : Nat) (l : List (Nat × Nat)) (s : List (List UInt8)) : List (List UInt8) := l.foldl (fun s p => s.modify (at_ + p.1) (rotT p.2)) s
theorem mod_at {α : Type} (f : α → α) (s : List α) (i j : Nat) : (s.modify i f)[j]? = if i = j then (s[j]?).map f else s[j]? := by
  rw [List.getElem?_modify]
  split <;> cases s[j]? <;> simp
theorem modify_mid {α : Type} (f : α → α) (X Y W : List α) (i : Nat) (hi : i < Y.length) : (X ++ (Y ++ W)).modify (X.length + i) f = X ++ (Y.modify i f ++ W) := by
  refine List.ext_getElem? fun j => ?_
  simp only [mod_at, List.getElem?_append, List.length_modify]
  by_cases h1 : j < X.length
  · rw [if_pos h1, if_pos h1, if_neg (by omega)]
  · rw [if_neg h1, if_neg h1]
    by_cases h2 : j - X.length < Y.length
    · rw [if_pos h2, if_pos h2]
      by_cases h3 : i = j - X.length
      · rw [if_pos (by omega), if_pos h3]
      · rw [if_neg (by omega), if_neg h3]
    · rw [if_neg h2, if_neg h2, if_neg (by omega)]
theorem tS_length (a : Nat) : ∀ (l : List (Nat × Nat)) (s : List (List UInt8)), (tS a l s).length = s.length
  | [], _ => rfl
  | p :: l, s => by
    show (tS a l _).length = _
    rw [tS_length a l, List.length_modify]
theorem tS_mid : ∀ (l : List (Nat × Nat)) (X Y W : List (List UInt8)), (∀ p ∈ l, p.1 < Y.length) → tS X.length l (X ++ (Y ++ W)) = X ++ (tS 0 l Y ++ W)
  | [], _, _, _, _ => rfl
  | p :: l, X, Y, W, h => by
    show tS X.length l ((X ++ (Y ++ W)).modify (X.length + p.1) (rotT p.2)) = X ++ (tS 0 l (Y.modify (0 + p.1) (rotT p.2)) ++ W)
    rw [modify_mid _ _ _ _ _ (h p (List.mem_cons_self ..)), Nat.zero_add]
    exact tS_mid l X _ W fun q hq => by rw [List.length_modify]; exact h q (List.mem_cons_of_mem _ hq)
theorem tS_other (a : Nat) : ∀ (l : List (Nat × Nat)) (s : List (List UInt8)) (j : Nat), (∀ p ∈ l, a + p.1 ≠ j) → (tS a l s)[j]? = s[j]?
  | [], _, _, _ => rfl
  | p :: l, s, j, h => by
    show (tS a l (s.modify (a + p.1) (rotT p.2)))[j]? = _
    rw [tS_other a l _ j fun q hq => h q (List.mem_cons_of_mem _ hq), mod_at, if_neg (h p (List.mem_cons_self ..))]
theorem tS_at (a : Nat) : ∀ (l : List (Nat × Nat)) (s : List (List UInt8)) (p : Nat × Nat), (l.map Prod.fst).Nodup → p ∈ l → (tS a l s)[a + p.1]? = (s[a + p.1]?).map (rotT p.2)
  | [], _, _, _, h => by cases h
  | q :: l, s, p, hn, h => by
    rw [List.map_cons, List.nodup_cons] at hn
    show (tS a l (s.modify (a + q.1) (rotT q.2)))[a + p.1]? = _
    rcases List.mem_cons.1 h with rfl | h
    · rw [tS_other a l _ _ fun r hr e => hn.1 (List.mem_map.2 ⟨r, hr, by omega⟩), mod_at, if_pos rfl]
    · rw [tS_at a l _ p hn.2 h, mod_at, if_neg fun e => hn.1 (List.mem_map.2 ⟨p, h, by omega⟩)]
theorem tS_snoc (a : Nat) (l : List (Nat × Nat)) (p : Nat × Nat) (s : List (List UInt8)) : tS a (l ++ [p]) s = (tS a l s).modify (a + p.1) (rotT p.2) := by unfold tS; rw [List.foldl_append]; rfl
theorem sums_not_zero : ((List.range 13).all fun n => decide (n = 0) || decide ((sha (head n 0 [])).take 8 ≠ List.replicate 8 0)) = true := by decide +kernel
/-- a rotten sector is not blank -/
theorem rot_blank {n k bit : Nat} {t : List UInt8} (h1 : 1 ≤ n) (h2 : n ≤ 12) (ht : t.length ≤ 8000) (hk : k < cntN t.length) : blank (rotT bit (sect n t k)) = false := by
  cases hb : blank (rotT bit (sect n t k)) with
  | false => rfl
  | true =>
    exfalso
    unfold blank at hb
    rw [List.all_eq_true] at hb
    have hz : ∀ j v, j ≠ bit / 8 → (sect n t k)[j]? = some v → v = 0 := fun j v hj hv => by
      rw [← rotT_other (sect n t k) hj] at hv
      simpa using hb v (List.mem_of_getElem? hv)
    have f0 : (sect n t k)[0]? = some (UInt8.ofNat n) := by
      have := congrArg (fun l => l[0]?) (sect_head n t k)
      try dsimp only at this
      rw [List.getElem?_take_of_lt (by decide), Bn.head_cons] at this
      exact this
    have h0 : bit / 8 = 0 := by
      refine Nat.eq_zero_of_not_pos fun h => ?_
      have e := congrArg UInt8.toNat (hz 0 _ (by omega) f0)
      rw [UInt8.toNat_ofNat'] at e
      simp at e
      omega
    have zs : ∀ i c, 1 ≤ i → ∀ x ∈ ((sect n t k).drop i).take c, x = 0 := fun i c hi x hx => by
      obtain ⟨j, hj⟩ := List.mem_iff_getElem?.1 (List.mem_of_mem_take hx)
      rw [List.getElem?_drop] at hj
      exact hz (i + j) x (by omega) hj
    obtain ⟨s1, s2, s3, s4⟩ := sect_says (n := n) (by omega) ht hk
    have hl : leftOf (sect n t k) = 0 := num_zero _ (zs 6 2 (by decide))
    rw [s3] at hl
    obtain ⟨c1, c2, _⟩ := cntN_lt ht hk
    have hk0 : k = 0 := c2 (by omega)
    subst hk0
    have ht0 : t = [] := List.eq_nil_of_length_eq_zero (by omega)
    subst ht0
    have e1 : (sha (head n 0 [])).take 8 = List.replicate 8 0 := by
      have e := sect_tail n [] 0
      rw [List.drop_nil] at e
      rw [← e]
      refine List.eq_replicate_iff.2 ⟨?_, zs 56 8 (by decide)⟩
      rw [List.length_take, List.length_drop, sect_length]
      rfl
    have a := sums_not_zero
    rw [List.all_eq_true] at a
    have a := a n (List.mem_range.2 (by omega))
    rw [e1] at a
    simp at a
    omega
theorem dmg_table : ((List.range 13).all fun T => (List.range T).all fun h => decide (h + 1 = T) || decide ((((List.range (T + 1)).drop 1).filter fun n => !(((List.range h).map (· + 1)) ++ ((List.range (T - h - 1)).map (· + (h + 2)))).contains n) = [h + 1])) = true := by decide +kernel
/-- the rotten disk -/
theorem rot_found {P Q : List (List UInt8)} {t : List UInt8} {z : Nat} {l : List (Nat × Nat)} {S : List (List UInt8)} (hS : S = tS (secs P) l (packs 1 P ++ (pack (P.length + 1) t ++ (packs (P.length + 2) Q ++ List.replicate z Disk.zeros))))
    (h12 : (P ++ t :: Q).length ≤ 12) (h200 : S.length ≤ 200) (h8 : ∀ x ∈ P ++ t :: Q, x.length ≤ 8000) (hup : ∀ x ∈ P ++ t :: Q, Up x) (hl : ∀ p ∈ l, p.1 < cntN t.length ∧ p.2 < 512) (nd : (l.map Prod.fst).Nodup) (ne : l ≠ []) (hg : genB S (P ++ t :: Q) = true) :
    texts (found S) = P ++ Q ∧ 1 ≤ (found S).bad.length ∧ (found S).bad.length ≤ l.length ∧ (Q ≠ [] → damaged (found S) = [P.length + 1]) := by
  have ht8 := h8 t (by simp)
  have hT : (P ++ t :: Q).length = P.length + Q.length + 1 := by simp; omega
  have hpl : (packs 1 P).length = secs P := packs_length 1 P
  have hplk : (pack (P.length + 1) t).length = cntN t.length := pack_length _ _
  have hsec : secs (P ++ t :: Q) = secs P + cntN t.length + secs Q := by unfold secs; simp; omega
  have hlen : S.length = secs P + (cntN t.length + (secs Q + z)) := by
    rw [hS, tS_length, List.length_append, List.length_append, List.length_append, hpl, hplk, packs_length, List.length_replicate]
  have hSm : S = packs 1 P ++ (tS 0 l (pack (P.length + 1) t) ++ (packs (P.length + 2) Q ++ List.replicate z Disk.zeros)) := by
    rw [hS, ← hpl]
    exact tS_mid l _ _ _ fun p hp => by rw [hplk]; exact (hl p hp).1
  have hpack : ∀ i, i < cntN t.length → (pack (P.length + 1) t)[i]? = some (sect (P.length + 1) t i) := fun i hi => pack_at hi
  have hati : ∀ p ∈ l, (tS 0 l (pack (P.length + 1) t))[p.1]? = some (rotT p.2 (sect (P.length + 1) t p.1)) := fun p hp => by
    have := tS_at 0 l (pack (P.length + 1) t) p nd hp
    rw [Nat.zero_add, hpack _ (hl p hp).1] at this
    exact this
  have hoth : ∀ i, i < cntN t.length → (∀ p ∈ l, p.1 ≠ i) → (tS 0 l (pack (P.length + 1) t))[i]? = some (sect (P.length + 1) t i) := fun i hi h => by
    rw [tS_other 0 l _ i fun p hp => by rw [Nat.zero_add]; exact h p hp, hpack i hi]
  have hat : (P ++ t :: Q)[P.length + 1 - 1]? = some t := by simp
  have hbad : ∀ p ∈ l, goodB (rotT p.2 (sect (P.length + 1) t p.1)) = false := fun p hp => by
    cases hgd : goodB (rotT p.2 (sect (P.length + 1) t p.1)) with
    | false => rfl
    | true =>
      exfalso
      have hm : rotT p.2 (sect (P.length + 1) t p.1) ∈ S := by
        rw [hSm]
        exact List.mem_append_right _ (List.mem_append_left _ (List.mem_of_getElem? (hati p hp)))
      obtain ⟨g1, g2, g3⟩ := genB_at hg hm hgd
      obtain ⟨_, _, g4, _⟩ := good_parts hgd
      have g4 := (good_parts hgd).2.2.1
      obtain ⟨m, hmm⟩ : ∃ m, m = numOf (rotT p.2 (sect (P.length + 1) t p.1)) := ⟨_, rfl⟩
      rw [← hmm] at g1 g2 g3 g4
      have hx : (P ++ t :: Q)[m - 1]? = some ((P ++ t :: Q).getD (m - 1) []) := by
        rw [List.getD_eq_getElem?_getD, List.getElem?_eq_getElem (by omega)]; rfl
      obtain ⟨i, hii⟩ : ∃ i, i = prtOf (rotT p.2 (sect (P.length + 1) t p.1)) := ⟨_, rfl⟩
      rw [← hii] at g3
      have hi : i < cntN ((P ++ t :: Q).getD (m - 1) []).length := by
        rw [← pack_length m]
        exact (List.getElem?_eq_some_iff.1 g3).1
      rw [pack_at hi] at g3
      exact rot_not h12 (by omega) h8 hup (by omega) (by omega) hat (hl p hp).1 (hl p hp).2 m i _ g4 (by omega) hx hi (by simpa using g3.symm)
  have hnb : ∀ p ∈ l, blank (rotT p.2 (sect (P.length + 1) t p.1)) = false := fun p hp => rot_blank (by omega) (by omega) ht8 (hl p hp).1
  have hz : blank Disk.zeros = true := by decide
  -- what the sectors say
  have hrs : (found S).rs = numd 1 P ++ numd (P.length + 2) Q := by
    rw [found_rs, hSm, List.map_append, List.map_append, List.map_append, scanL_packs P 1 [] _ (by omega) (by omega) (fun x hx => h8 x (List.mem_append_left _ hx)) (fun z hz => by cases hz), List.nil_append]
    obtain ⟨p0, hp0⟩ := List.exists_mem_of_ne_nil l ne
    have hRl : ((tS 0 l (pack (P.length + 1) t)).map unpack).length = cntN t.length := by rw [List.length_map, tS_length, hplk]
    have hR1 : ∀ i (hi : i < ((tS 0 l (pack (P.length + 1) t)).map unpack).length), ((tS 0 l (pack (P.length + 1) t)).map unpack)[i].ok = false ∨ ((tS 0 l (pack (P.length + 1) t)).map unpack)[i] = ⟨P.length + 1, i, t.length - 48 * i, (t.drop (48 * i)).take 48, true⟩ := by
      intro i hi
      have hi2 := hi
      rw [hRl] at hi2
      by_cases h : ∃ p ∈ l, p.1 = i
      · obtain ⟨p, hp, rfl⟩ := h
        left
        have e := hati p hp
        have e2 : ((tS 0 l (pack (P.length + 1) t)).map unpack)[p.1]? = some (unpack (rotT p.2 (sect (P.length + 1) t p.1))) := by rw [List.getElem?_map, e]; rfl
        rw [(List.getElem?_eq_some_iff.1 e2).2, unpack_ok]
        exact hbad p hp
      · right
        have e := hoth i hi2 fun p hp hpi => h ⟨p, hp, hpi⟩
        have e2 : ((tS 0 l (pack (P.length + 1) t)).map unpack)[i]? = some (unpack (sect (P.length + 1) t i)) := by rw [List.getElem?_map, e]; rfl
        rw [(List.getElem?_eq_some_iff.1 e2).2]
        exact unpack_sect (by omega) (by omega) ht8 hi2
    have hR2 : ∃ i, ∃ hi : i < ((tS 0 l (pack (P.length + 1) t)).map unpack).length, ((tS 0 l (pack (P.length + 1) t)).map unpack)[i].ok = false := by
      refine ⟨p0.1, by rw [hRl]; exact (hl p0 hp0).1, ?_⟩
      have e2 : ((tS 0 l (pack (P.length + 1) t)).map unpack)[p0.1]? = some (unpack (rotT p0.2 (sect (P.length + 1) t p0.1))) := by rw [List.getElem?_map, hati p0 hp0]; rfl
      rw [(List.getElem?_eq_some_iff.1 e2).2, unpack_ok]
      exact hbad p0 hp0
    rw [scanL_broken (n := P.length + 1) ht8 hRl hR1 hR2]
    rw [scanL_packs Q (P.length + 2) _ _ (by omega) (by omega) (fun x hx => h8 x (by simp [hx])) (fun z hz => by
        have : z.1 ∈ (numd 1 P).map Prod.fst := List.mem_map_of_mem hz
        rw [numd_nums] at this
        obtain ⟨i, hi, e⟩ := List.mem_map.1 this
        have := List.mem_range.1 hi
        omega)]
    have := scanL_bads ((List.replicate z Disk.zeros).map unpack) (numd 1 P ++ numd (P.length + 2) Q) [] (fun x hx => by
      obtain ⟨y, hy, rfl⟩ := List.mem_map.1 hx
      rw [List.eq_of_mem_replicate hy]
      exact .inl unpack_zeros)
    rw [List.append_nil] at this
    rw [this]; rfl
  have hgood : ∀ m x k, (P ++ t :: Q)[m - 1]? = some x → 1 ≤ m → k < cntN x.length → unpack (sect m x k) = ⟨m, k, x.length - 48 * k, (x.drop (48 * k)).take 48, true⟩ := fun m x k hx h1 hk => by
    have : m - 1 < (P ++ t :: Q).length := (List.getElem?_eq_some_iff.1 hx).1
    exact unpack_sect h1 (by omega) (h8 x (List.mem_of_getElem? hx)) hk
  -- each sector is turned, or good, or blank
  have hall : ∀ i s, S[i]? = some s → (∃ p ∈ l, i = secs P + p.1 ∧ s = rotT p.2 (sect (P.length + 1) t p.1)) ∨ (∃ m x k, (P ++ t :: Q)[m - 1]? = some x ∧ 1 ≤ m ∧ k < cntN x.length ∧ s = sect m x k) ∨ s = Disk.zeros := fun i s hi => by
    rw [hSm] at hi
    by_cases h1 : i < secs P
    · rw [List.getElem?_append_left (by rw [hpl]; exact h1)] at hi
      obtain ⟨m, x, k, a1, a2, a3, a4, a5⟩ := packs_at P 1 s (List.mem_of_getElem? hi)
      exact .inr (.inl ⟨m, x, k, by rw [List.getElem?_append_left (by omega)]; exact a3, a1, a4, a5⟩)
    · rw [List.getElem?_append_right (by rw [hpl]; omega), hpl] at hi
      have hRl : (tS 0 l (pack (P.length + 1) t)).length = cntN t.length := by rw [tS_length, hplk]
      by_cases h2 : i - secs P < cntN t.length
      · rw [List.getElem?_append_left (by rw [hRl]; exact h2)] at hi
        by_cases h : ∃ p ∈ l, p.1 = i - secs P
        · obtain ⟨p, hp, e⟩ := h
          rw [← e, hati p hp] at hi
          exact .inl ⟨p, hp, by omega, by simpa using hi.symm⟩
        · rw [hoth _ h2 fun p hp e => h ⟨p, hp, e⟩] at hi
          exact .inr (.inl ⟨P.length + 1, t, i - secs P, hat, by omega, h2, by simpa using hi.symm⟩)
      · rw [List.getElem?_append_right (by rw [hRl]; omega), hRl] at hi
        rcases List.mem_append.1 (List.mem_of_getElem? hi) with h | h
        · obtain ⟨m, x, k, a1, a2, a3, a4, a5⟩ := packs_at Q (P.length + 2) s h
          refine .inr (.inl ⟨m, x, k, ?_, by omega, a4, a5⟩)
          rw [List.getElem?_append_right (by omega), show m - 1 - P.length = m - (P.length + 2) + 1 by omega, List.getElem?_cons_succ]
          exact a3
        · exact .inr (.inr (List.eq_of_mem_replicate h))
  have hgetD : ∀ i, i < S.length → S[i]? = some (S.getD i []) := fun i hi => by rw [List.getD_eq_getElem?_getD, List.getElem?_eq_getElem hi]; rfl
  refine ⟨?_, ?_, ?_, fun hQ => ?_⟩
  · unfold texts
    rw [hrs, List.map_append, numd_texts, numd_texts]
  · obtain ⟨p0, hp0⟩ := List.exists_mem_of_ne_nil l ne
    have hx : S[secs P + p0.1]? = some (rotT p0.2 (sect (P.length + 1) t p0.1)) := by
      rw [hSm, List.getElem?_append_right (by omega), hpl, Nat.add_sub_cancel_left, List.getElem?_append_left (by rw [tS_length, hplk]; exact (hl p0 hp0).1)]
      exact hati p0 hp0
    have hm : secs P + p0.1 ∈ (found S).bad := by
      unfold found
      refine List.mem_filter.2 ⟨List.mem_range.2 (List.getElem?_eq_some_iff.1 hx).1, ?_⟩
      rw [List.getD_eq_getElem?_getD, hx, Option.getD_some, unpack_ok, hbad p0 hp0, hnb p0 hp0]; rfl
    exact List.length_pos_of_mem hm
  · have hnd : (found S).bad.Nodup := by
      unfold found
      exact (List.nodup_range).sublist List.filter_sublist
    have hsub : (found S).bad ⊆ l.map fun p => secs P + p.1 := fun i hi => by
      unfold found at hi
      obtain ⟨h1, h2⟩ := List.mem_filter.1 hi
      rw [List.mem_range] at h1
      rcases hall i _ (hgetD i h1) with ⟨p, hp, e, _⟩ | ⟨m, x, k, a1, a2, a3, a4⟩ | h
      · exact List.mem_map.2 ⟨p, hp, e.symm⟩
      · rw [a4, hgood m x k a1 a2 a3] at h2
        simp at h2
      · rw [h, hz] at h2
        simp at h2
    have := hnd.length_le_of_subset hsub
    rwa [List.length_map] at this
  · have hQl : 1 ≤ Q.length := by
      cases Q with
      | nil => exact absurd rfl hQ
      | cons a b => simp
    have hnx : (found S).next = P.length + Q.length + 2 := by
      unfold found
      dsimp only
      refine foldl_max (fun s => (unpack s).n + 1) _ 1 _ (fun s hs => ?_) (by omega) (.inr ?_)
      · obtain ⟨i, hi⟩ := List.mem_iff_getElem?.1 hs
        rcases hall i s hi with ⟨p, hp, _, e⟩ | ⟨m, x, k, a1, a2, a3, a4⟩ | h
        · have : unpack s = prt0 := by rw [e]; unfold unpack; rw [hbad p hp]; rfl
          rw [this]; show 0 + 1 ≤ _; omega
        · rw [a4, hgood m x k a1 a2 a3]
          have : m - 1 < (P ++ t :: Q).length := (List.getElem?_eq_some_iff.1 a1).1
          dsimp only; omega
        · have : unpack s = prt0 := by rw [h]; unfold unpack; rw [blank_bad hz]; rfl
          rw [this]; show 0 + 1 ≤ _; omega
      · obtain ⟨q, hq⟩ : ∃ q, Q[Q.length - 1]? = some q := ⟨Q[Q.length - 1], List.getElem?_eq_getElem (by omega)⟩
        have hq8 := h8 q (by have := List.mem_of_getElem? hq; simp [this])
        have hqc := (cntN_pos hq8).1
        refine ⟨sect (P.length + Q.length + 1) q 0, ?_, ?_⟩
        · rw [hSm]
          refine List.mem_append_right _ (List.mem_append_right _ (List.mem_append_left _ ?_))
          have e : Q = Q.take (Q.length - 1) ++ q :: [] := by
            have h1 : Q.drop (Q.length - 1) = [q] := by
              rw [List.drop_eq_getElem_cons (by omega), List.drop_of_length_le (by omega)]
              rw [List.getElem?_eq_getElem (by omega)] at hq
              simpa using hq
            rw [← h1, List.take_append_drop]
          have e3 := packs_append (P.length + 2) (Q.take (Q.length - 1)) [q]
          rw [← e, List.length_take] at e3
          rw [e3]
          refine List.mem_append_right _ ?_
          rw [packs_cons]
          refine List.mem_append_left _ ?_
          unfold pack
          exact List.mem_map.2 ⟨0, List.mem_range.2 hqc, by congr 1; omega⟩
        · rw [hgood (P.length + Q.length + 1) q 0 (by rw [List.getElem?_append_right (by omega), show P.length + Q.length + 1 - 1 - P.length = Q.length - 1 + 1 by omega, List.getElem?_cons_succ]; exact hq) (by omega) hqc]
    have hnm : nums (found S) = ((List.range P.length).map (· + 1)) ++ ((List.range Q.length).map (· + (P.length + 2))) := by
      unfold nums
      rw [hrs, List.map_append, numd_nums, numd_nums]
    unfold damaged
    rw [hnx, hnm]
    have a := dmg_table
    rw [List.all_eq_true] at a
    have a := a (P.length + Q.length + 1) (List.mem_range.2 (by omega))
    rw [List.all_eq_true] at a
    have a := a P.length (List.mem_range.2 (by omega))
    rw [show P.length + Q.length + 1 - P.length - 1 = Q.length by omega] at a
    have hne : ¬ P.length + 1 = P.length + Q.length + 1 := by omega
    rw [decide_eq_false hne, Bool.false_or, decide_eq_true_eq] at a
    exact a
end Go.Jn
end
/- A journal on a disk whose texts count up; bits of its disk turned. No program. -/
section
namespace Go.Jn
open Go.Disk Go.Sha Go.Own
theorem text_up (x : Stm) : Up x.text := by
  refine ⟨x.fill, fun j hj => ?_⟩
  unfold Stm.text textOf at hj ⊢
  rw [List.length_map, List.length_range] at hj
  rw [List.getD_eq_getElem?_getD, List.getElem?_map, List.getElem?_range hj]
  rfl
/-- a journal without failures whose texts count up: where its sectors lie -/
structure Inv3 (d : DS) (j : JS) (A B : List Sec) : Prop where
  i2 : Inv2 d j A B
  lay : A.map cont = packs 1 (texts j)
  h8 : ∀ t ∈ texts j, t.length ≤ 8000
  up : ∀ t ∈ texts j, Up t
  sz : d.s.length ≤ 200
theorem Inv3.start {d : DS} (h0 : d.off = false) (h1 : d.left = -1) (hz : ∀ x ∈ d.s, x.t = Disk.zeros ∧ x.p = none) (hw : ∀ x ∈ d.s, x.w = false) (hs : d.s.length ≤ 200) : Inv3 d ⟨[], [], 1, 0, false⟩ [] d.s :=
  ⟨Inv2.start h0 h1 hz hw, rfl, fun t ht => (by cases ht), fun t ht => (by cases ht), hs⟩
theorem aappend_step3 {d : DS} {j : JS} {A B : List Sec} (h : Inv3 d j A B) (t : List UInt8) (ht : Up t) : ∃ A' B', Inv3 (aappend d j t).2.2.2 (aappend d j t).2.2.1 A' B' ∧ Stp d j t A B A' B' := by
  obtain ⟨A', B', hi, S⟩ := aappend_step2 h.i2 t
  refine ⟨A', B', ?_, S⟩
  have hl : (texts j).length = j.rs.length := by unfold texts; rw [List.length_map]
  rcases S.res with ⟨r1, r2, r3, r4⟩ | ⟨r1, r2, r3⟩
  · obtain ⟨T, rfl, hT, ht8, _⟩ := S.ext r1
    have e : texts (aappend d j t).2.2.1 = texts j ++ [t] := by unfold texts; rw [r3, List.map_append]; rfl
    refine ⟨hi, ?_, fun x hx => ?_, fun x hx => ?_, by rw [S.len]; exact h.sz⟩
    · rw [e, packs_append, List.map_append, h.lay, hT, hl, h.i2.next, packs_cons, show 1 + j.rs.length = j.rs.length + 1 by omega]
      unfold packs
      rw [List.append_nil]
    · rw [e] at hx
      rcases List.mem_append.1 hx with hx | hx
      · exact h.h8 x hx
      · obtain rfl : x = t := by simpa using hx
        exact ht8
    · rw [e] at hx
      rcases List.mem_append.1 hx with hx | hx
      · exact h.up x hx
      · obtain rfl : x = t := by simpa using hx
        exact ht
  · rcases r1 with r1 | r1
    · exact absurd r1 (S.nw h.i2.nw).1
    · obtain ⟨s1, rfl, rfl⟩ := S.same r1
      rw [s1]; exact h
/-- the sectors of a disk whose journal is known -/
theorem Inv3.image {d : DS} {j : JS} {A B : List Sec} (h : Inv3 d j A B) : aimage d.s = packs 1 (texts j) ++ List.replicate B.length Disk.zeros := by
  unfold aimage
  rw [h.i2.inv.sec, List.map_append]
  congr 1
  · rw [← h.lay]
    exact List.map_congr_left fun x hx => (cont_quiet (h.i2.inv.qa x hx)).symm
  · refine List.eq_replicate_iff.2 ⟨by rw [List.length_map], fun b hb => ?_⟩
    obtain ⟨x, hx, rfl⟩ := List.mem_map.1 hb
    exact (h.i2.inv.zb x hx).1
/-- a disk of which bits have been turned -/
structure Turned (d0 : DS) (a : Nat) (l : List (Nat × Nat)) (d : DS) : Prop where
  img : aimage d.s = tS a l (aimage d0.s)
  q : quiet d.s
  off : d.off = false
  len : d.s.length = d0.s.length
  nd : (l.map Prod.fst).Nodup
theorem quiet_parts {d : DS} (h : quiet d.s) : d.s.map cont = aimage d.s := List.map_congr_left fun x hx => cont_quiet (h x hx)
theorem Inv3.quiet {d : DS} {j : JS} {A B : List Sec} (h : Inv3 d j A B) : Jn.quiet d.s := fun x hx => by
  rw [h.i2.inv.sec] at hx
  rcases List.mem_append.1 hx with hx | hx
  · exact h.i2.inv.qa x hx
  · exact (h.i2.inv.zb x hx).2
theorem Turned.start {d : DS} (h : quiet d.s) (h0 : d.off = false) (a : Nat) : Turned d a [] d := ⟨rfl, h, h0, rfl, List.nodup_nil⟩
/-- one bit more -/
theorem Turned.rot {d0 d : DS} {a : Nat} {l : List (Nat × Nat)} (h : Turned d0 a l d) {i b : Nat} (hi : a + i < d.s.length) (hb : b < 512) (hn : ∀ p ∈ l, p.1 ≠ i) : (arot d ((a + i : Nat) : Int) (b : Int)).1 = 0 ∧ Turned d0 a (l ++ [(i, b)]) (arot d ((a + i : Nat) : Int) (b : Int)).2 := by
  have e : arot d ((a + i : Nat) : Int) (b : Int) = (0, upd d ((a + i : Nat) : Int) fun x => { x with t := rotT (b : Int).toNat x.t }) := by
    unfold arot
    rw [if_pos]
    simp only [inR, Bool.and_eq_true, decide_eq_true_eq]
    omega
  rw [e]
  have e2 : ((a + i : Nat) : Int).toNat = a + i := Int.toNat_natCast _
  refine ⟨rfl, ?_, fun x hx => ?_, h.off, ?_, ?_⟩
  · unfold upd
    dsimp only
    rw [e2, tS_snoc, ← h.img]
    unfold aimage
    refine List.ext_getElem? fun j => ?_
    rw [List.getElem?_map, mod_at, mod_at, List.getElem?_map]
    split <;> cases d.s[j]? <;> rfl
  · unfold upd at hx
    dsimp only at hx
    rcases mem_modify hx with hx | ⟨y, hy, _, rfl⟩
    · exact h.q x hx
    · exact h.q y hy
  · unfold upd
    dsimp only
    rw [List.length_modify]; exact h.len
  · rw [List.map_append, List.nodup_append]
    refine ⟨h.nd, by simp, fun x hx y hy e => ?_⟩
    obtain ⟨p, hp, rfl⟩ := List.mem_map.1 hx
    have : y = i := by simpa using hy
    exact hn p hp (by omega)
/-- a record's sectors lie on the disk -/
theorem Inv3.room {d : DS} {j : JS} {A B : List Sec} (h : Inv3 d j A B) {hit : Nat} {t : List UInt8} (ht : (texts j)[hit]? = some t) : secs ((texts j).take hit) + cntN t.length ≤ d.s.length := by
  have h1 := congrArg List.length h.image
  rw [List.length_append, packs_length, List.length_replicate] at h1
  unfold aimage at h1
  rw [List.length_map] at h1
  obtain ⟨hh, e⟩ := List.getElem?_eq_some_iff.1 ht
  have h2 : secs (texts j) = secs ((texts j).take hit) + (cntN t.length + secs ((texts j).drop (hit + 1))) := by
    conv => lhs; rw [← List.take_append_drop hit (texts j), List.drop_eq_getElem_cons hh, e]
    unfold secs
    rw [List.map_append, List.sum_append, List.map_cons, List.sum_cons]
  omega
/-- what the law asks behind the loop, in plain words -/
theorem rot_law {d0 d : DS} {j : JS} {A B : List Sec} (h : Inv3 d0 j A B) (h12 : j.rs.length ≤ 12) {hit : Nat} (hh : hit < (texts j).length) {l : List (Nat × Nat)} (hT : Turned d0 (secs ((texts j).take hit)) l d)
    (hl : ∀ p ∈ l, p.1 < cntN ((texts j)[hit]).length ∧ p.2 < 512) (ne : l ≠ []) (hg : genB (aimage d.s) (texts j) = true) :
    texts (found (d.s.map cont)) = (texts j).take hit ++ (texts j).drop (hit + 1) ∧ 1 ≤ (found (d.s.map cont)).bad.length ∧ (found (d.s.map cont)).bad.length ≤ l.length ∧ (hit + 1 ≠ (texts j).length → damaged (found (d.s.map cont)) = [hit + 1]) := by
  have hlen : (texts j).length = j.rs.length := by unfold texts; rw [List.length_map]
  have e : texts j = (texts j).take hit ++ (texts j)[hit] :: (texts j).drop (hit + 1) := by
    rw [← List.drop_eq_getElem_cons hh, List.take_append_drop]
  have hpl : ((texts j).take hit).length = hit := by rw [List.length_take]; omega
  rw [quiet_parts hT.q]
  have himg := hT.img
  rw [h.image] at himg
  have e3 : packs 1 (texts j) = packs 1 ((texts j).take hit) ++ (pack (hit + 1) (texts j)[hit] ++ packs (hit + 2) ((texts j).drop (hit + 1))) := by
    conv => lhs; rw [e]
    rw [packs_append, packs_cons, hpl, show 1 + hit = hit + 1 by omega]
  rw [e3, List.append_assoc, List.append_assoc] at himg
  have hc := rot_found (P := (texts j).take hit) (Q := (texts j).drop (hit + 1)) (t := (texts j)[hit]) (z := B.length) (l := l) (S := aimage d.s) (by rw [hpl]; exact himg) (by rw [← e]; omega) (by unfold aimage; rw [List.length_map, hT.len]; exact h.sz) (by rw [← e]; exact h.h8) (by rw [← e]; exact h.up) hl hT.nd ne (by rw [← e]; exact hg)
  refine ⟨hc.1, hc.2.1, hc.2.2.1, fun hne => ?_⟩
  have := hc.2.2.2 fun h0 => hne (by have := congrArg List.length h0; rw [List.length_drop] at this; simp at this; omega)
  rw [hpl] at this
  exact this
end Go.Jn
end
