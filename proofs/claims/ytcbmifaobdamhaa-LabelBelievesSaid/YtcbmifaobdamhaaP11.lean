/- label: proofs are right, and none of their rules can be left out, in plain Lean. -/
import Derived.Test.YtcbmifaobdamhaaB4
namespace Go.Label
open Go.Own Go.Proofs.Ytcbmifaobdamhaa
theorem fndN_keep {b : Lg} {rk : Pm} {f : Int} {v : Nat} {n : Nat} (h : fndN b rk n f = some v) : (fndN b rk (n + 1) f).isSome = true := by
  cases hc : newR rk (fndN b rk n) (b.rules.getD n rl0) with
  | false => rw [fnd_same hc, h]; rfl
  | true =>
    rw [fnd_more hc]
    dsimp only
    split
    · rfl
    · rw [h]; rfl
theorem fndN_late {b : Lg} {rk : Pm} {f : Int} : ∀ d n, (fndN b rk n f).isSome = true → (fndN b rk (n + d) f).isSome = true
  | 0, _, h => h
  | d + 1, n, h => by
    obtain ⟨v, hv⟩ := Option.isSome_iff_exists.1 (fndN_late d n h)
    exact fndN_keep hv
theorem quiet_closed {b : Lg} {s j : Nat} (hq : Quiet b s j) {r : Rl} (hr : r ∈ b.rules) (h : ∀ g ∈ r.body, ((rIter b s j).1 g).isSome = true) : ((rIter b s j).1 r.head).isSome = true := by
  obtain ⟨i, hi, rfl⟩ := List.getElem_of_mem hr
  have hgd : b.rules.getD i rl0 = b.rules[i] := getD_eq rl0 hi
  have none_at : ∀ n, n ≤ b.rules.length → ∀ f, fndN b (rIter b s j).1 n f = none := fun n hn f => by
    cases hf : fndN b (rIter b s j).1 n f with
    | none => rfl
    | some v =>
      have h1 := fndN_late (b.rules.length - n) n (by rw [hf]; rfl)
      rw [show n + (b.rules.length - n) = b.rules.length by omega] at h1
      have h2 : fndN b (rIter b s j).1 b.rules.length f = none := hq f
      rw [h2] at h1; cases h1
  cases hc : newR (rIter b s j).1 (fndN b (rIter b s j).1 i) (b.rules.getD i rl0) with
  | true =>
    have h1 := none_at (i + 1) (by omega) (b.rules.getD i rl0).head
    rw [fnd_more hc] at h1
    dsimp only at h1
    rw [if_pos rfl] at h1; cases h1
  | false =>
    unfold newR at hc
    rw [none_at i (by omega), hgd] at hc
    cases hk : (rIter b s j).1 b.rules[i].head with
    | some t => rfl
    | none =>
      rw [hk] at hc
      have : (b.rules[i].body.all fun f => ((rIter b s j).1 f).isSome) = true := List.all_eq_true.2 h
      rw [this] at hc; cases hc
theorem der_rank {b : Lg} (ok : Ok b) {m f : Nat} (h : Der b m f) : (rkE b m (f : Int)).isSome = true := by
  induction h with
  | asm k hk hs =>
    have h1 := ok.asm _ (getD_mem (l := b.assume) (i := k) (d := 0) hk)
    rw [show (((b.assume.getD k 0).toNat : Nat) : Int) = b.assume.getD k 0 by omega, ((riE b m).z _).2 ⟨k, hk, hs, rfl⟩]; rfl
  | rule r hr h0 _ ih =>
    rw [show ((r.head.toNat : Nat) : Int) = r.head by omega]
    refine quiet_closed (quiet_end ok m) hr fun g hg => ?_
    have h1 := ok.body r hr g hg
    have h2 := ih g hg
    rw [show ((g.toNat : Nat) : Int) = g by omega] at h2
    exact h2
theorem rank_der {b : Lg} (ok : Ok b) {m : Nat} : ∀ (r : Nat) (f : Int), rkE b m f = some r → 0 ≤ f → Der b m f.toNat := by
  intro r
  induction r using Nat.strongRecOn with
  | _ r ih =>
    intro f h h0
    cases r with
    | zero =>
      obtain ⟨k, h1, h2, h3⟩ := ((riE b m).z f).1 h
      rw [← h3]; exact Der.asm k h1 h2
    | succ r =>
      obtain ⟨v, hv⟩ := (riE b m).c f r h
      obtain ⟨h1, h2, t, h3, _, _, h6⟩ := (riE b m).a f v hv
      rw [h] at h3; injection h3 with h3
      have h7 := Der.rule (b := b) (s := m) (rul b v) (rul_mem h1) (by rw [h2]; exact h0) fun g hg => by
        obtain ⟨t', h8, h9⟩ := h6 g hg
        exact ih t' (by omega) g h9 (ok.body _ (rul_mem h1) g hg).1
      rwa [h2] at h7
theorem rank_bad {b : Lg} (ok : Ok b) {m : Nat} : badS b m = (rkE b m (-1)).isSome := by
  rw [Bool.eq_iff_iff]
  constructor
  · intro h
    unfold badS badK at h
    obtain ⟨r, hr, h1⟩ := List.any_eq_true.1 h
    rw [Bool.and_eq_true, decide_eq_true_eq] at h1
    have h2 := ok.head r hr
    rw [show (-1 : Int) = r.head by omega]
    refine quiet_closed (quiet_end ok m) hr fun g hg => ?_
    have h3 := h1.1
    unfold bdy at h3
    have h4 := (fol_der ok).1 (List.all_eq_true.1 h3 g hg)
    have h5 := der_rank ok h4
    rw [show ((g.toNat : Nat) : Int) = g by have := ok.body r hr g hg; omega] at h5
    exact h5
  · intro h
    obtain ⟨r, hr⟩ := Option.isSome_iff_exists.1 h
    cases r with
    | zero =>
      obtain ⟨k, h1, _, h3⟩ := ((riE b m).z _).1 hr
      have := ok.asm _ (getD_mem (l := b.assume) (i := k) (d := 0) h1)
      omega
    | succ r =>
      obtain ⟨v, hv⟩ := (riE b m).c _ r hr
      obtain ⟨h1, h2, _, _, _, _, h6⟩ := (riE b m).a _ v hv
      unfold badS badK
      refine List.any_eq_true.2 ⟨rul b v, rul_mem h1, ?_⟩
      rw [Bool.and_eq_true, decide_eq_true_eq]
      refine ⟨?_, by omega⟩
      unfold bdy
      refine List.all_eq_true.2 fun g hg => (fol_der ok).2 ?_
      obtain ⟨t, _, h9⟩ := h6 g hg
      exact rank_der ok t g h9 (ok.body _ (rul_mem h1) g hg).1
/-- whether a fact, or the contradiction, follows -/
def flwB (b : Lg) (m : Nat) (fact : Int) : Bool := if fact < 0 then badS b m else (fol b m).testBit fact.toNat
theorem flw_rank {b : Lg} (ok : Ok b) {m : Nat} {fact : Int} (hf : -1 ≤ fact) : flwB b m fact = (rkE b m fact).isSome := by
  unfold flwB
  by_cases h : fact < 0
  · rw [if_pos h, show fact = -1 by omega]; exact rank_bad ok
  · rw [if_neg h, Bool.eq_iff_iff, fol_der ok]
    constructor
    · intro h1
      have := der_rank ok h1
      rwa [show ((fact.toNat : Nat) : Int) = fact by omega] at this
    · intro h1
      obtain ⟨r, hr⟩ := Option.isSome_iff_exists.1 h1
      exact rank_der ok r fact hr (by omega)
/-- the rule that a number names -/
def rlX (b : Lg) (x : Int) : Rl := b.rules.getD x.toNat rl0
theorem chk_know {b : Lg} {s : Nat} {p : List Int} : ∀ j st, chkN b s p j = some st →
    (∀ f, st.1.testBit f = true → (giv b s).testBit f = true ∨ ∃ i, i < j ∧ 0 ≤ (rlX b (p.getD i 0)).head ∧ (rlX b (p.getD i 0)).head.toNat = f) ∧
    (st.2 = true → ∃ i, i < j ∧ (rlX b (p.getD i 0)).head < 0) ∧
    (∀ i, i < j → (0 ≤ p.getD i 0 ∧ p.getD i 0 < (b.rules.length : Int)) ∧ ∀ g ∈ (rlX b (p.getD i 0)).body, (giv b s).testBit g.toNat = true ∨ ∃ k, k < j ∧ 0 ≤ (rlX b (p.getD k 0)).head ∧ (rlX b (p.getD k 0)).head.toNat = g.toNat)
  | 0, st, h => by
    injection h with h
    subst h
    exact ⟨fun f h => .inl h, fun h => (by cases h), fun i h => absurd h (by omega)⟩
  | j + 1, st, h => by
    cases h1 : chkN b s p j with
    | none => unfold chkN at h; rw [h1] at h; cases h
    | some st0 =>
      unfold chkN at h
      rw [h1] at h
      have h2 : chkStep b st0 (p.getD j 0) = some st := h
      obtain ⟨k1, k2, k3⟩ := chk_know j st0 h1
      unfold chkStep at h2
      split at h2
      · cases h2
      · rename_i hr
        split at h2
        · rename_i hb
          injection h2 with h2
          have wid : ∀ f, st0.1.testBit f = true → (giv b s).testBit f = true ∨ ∃ i, i < j + 1 ∧ 0 ≤ (rlX b (p.getD i 0)).head ∧ (rlX b (p.getD i 0)).head.toNat = f := fun f hf => by
            rcases k1 f hf with h | ⟨i, a1, a2⟩
            · exact .inl h
            · exact .inr ⟨i, by omega, a2⟩
          have hbody : ∀ g ∈ (rlX b (p.getD j 0)).body, st0.1.testBit g.toNat = true := by
            unfold bdy at hb
            exact List.all_eq_true.1 hb
          refine ⟨fun f hf => ?_, fun hf => ?_, fun i hi => ?_⟩
          · by_cases hh : (b.rules.getD (p.getD j 0).toNat rl0).head < 0
            · rw [if_pos hh] at h2
              subst h2
              exact wid f hf
            · rw [if_neg hh] at h2
              subst h2
              rcases (or_bit _ _ _).1 hf with hf | hf
              · exact wid f hf
              · exact .inr ⟨j, by omega, Int.not_lt.1 hh, hf.symm⟩
          · by_cases hh : (b.rules.getD (p.getD j 0).toNat rl0).head < 0
            · exact ⟨j, by omega, hh⟩
            · rw [if_neg hh] at h2
              subst h2
              obtain ⟨i, a1, a2⟩ := k2 hf
              exact ⟨i, by omega, a2⟩
          · by_cases e : i = j
            · subst e
              exact ⟨⟨by omega, by omega⟩, fun g hg => wid _ (hbody g hg)⟩
            · obtain ⟨a1, a2⟩ := k3 i (by omega)
              refine ⟨a1, fun g hg => ?_⟩
              rcases a2 g hg with h | ⟨k, a3, a4⟩
              · exact .inl h
              · exact .inr ⟨k, by omega, a4⟩
        · cases h2
theorem chk_do {b : Lg} {s : Nat} {p : List Int} (h : ∀ j, j < p.length → (0 ≤ p.getD j 0 ∧ p.getD j 0 < (b.rules.length : Int)) ∧ ∀ g ∈ (rlX b (p.getD j 0)).body, (giv b s).testBit g.toNat = true ∨ ∃ i, i < j ∧ 0 ≤ (rlX b (p.getD i 0)).head ∧ (rlX b (p.getD i 0)).head.toNat = g.toNat) :
    ∀ j, j ≤ p.length → ∃ st, chkN b s p j = some st ∧ (∀ f, (giv b s).testBit f = true ∨ (∃ i, i < j ∧ 0 ≤ (rlX b (p.getD i 0)).head ∧ (rlX b (p.getD i 0)).head.toNat = f) → st.1.testBit f = true) ∧ ((∃ i, i < j ∧ (rlX b (p.getD i 0)).head < 0) → st.2 = true)
  | 0, _ => ⟨_, rfl, fun f hf => hf.elim id fun ⟨i, h, _⟩ => absurd h (by omega), fun ⟨i, h, _⟩ => absurd h (by omega)⟩
  | j + 1, hj => by
    obtain ⟨st, h1, h2, h3⟩ := chk_do h j (by omega)
    obtain ⟨⟨a1, a2⟩, a3⟩ := h j (by omega)
    have hb : bdy (rlX b (p.getD j 0)).body st.1 = true := by
      unfold bdy
      exact List.all_eq_true.2 fun g hg => h2 _ (a3 g hg)
    have e : chkN b s p (j + 1) = some (if (rlX b (p.getD j 0)).head < 0 then (st.1, true) else (st.1 ||| 2 ^ (rlX b (p.getD j 0)).head.toNat, st.2)) := by
      show (chkN b s p j).bind _ = _
      rw [h1]
      show chkStep b st (p.getD j 0) = _
      unfold chkStep
      rw [if_neg (by omega)]
      exact if_pos hb
    refine ⟨_, e, fun f hf => ?_, fun hf => ?_⟩
    · have old : (giv b s).testBit f = true ∨ (∃ i, i < j ∧ 0 ≤ (rlX b (p.getD i 0)).head ∧ (rlX b (p.getD i 0)).head.toNat = f) ∨ (0 ≤ (rlX b (p.getD j 0)).head ∧ (rlX b (p.getD j 0)).head.toNat = f) := by
        rcases hf with h | ⟨i, b1, b2⟩
        · exact .inl h
        · by_cases e : i = j
          · subst e; exact .inr (.inr b2)
          · exact .inr (.inl ⟨i, by omega, b2⟩)
      by_cases hh : (rlX b (p.getD j 0)).head < 0
      · rw [if_pos hh]
        rcases old with h | h | h
        · exact h2 f (.inl h)
        · exact h2 f (.inr h)
        · omega
      · rw [if_neg hh]
        rcases old with h | h | h
        · exact (or_bit _ _ _).2 (.inl (h2 f (.inl h)))
        · exact (or_bit _ _ _).2 (.inl (h2 f (.inr h)))
        · exact (or_bit _ _ _).2 (.inr h.2.symm)
    · by_cases hh : (rlX b (p.getD j 0)).head < 0
      · rw [if_pos hh]
      · rw [if_neg hh]
        obtain ⟨i, b1, b2⟩ := hf
        by_cases e : i = j
        · subst e; exact absurd b2 hh
        · exact h3 ⟨i, by omega, b2⟩
/-- a list that is accepted proves -/
theorem chk_sound {b : Lg} (ok : Ok b) {s : Nat} {p : List Int} : ∀ j st, chkN b s p j = some st → Snd b s st.1 ∧ (st.2 = true → badS b s = true)
  | 0, st, h => by
    injection h with h
    subst h
    exact ⟨giv_snd b s, fun h => (by cases h)⟩
  | j + 1, st, h => by
    cases h1 : chkN b s p j with
    | none => unfold chkN at h; rw [h1] at h; cases h
    | some st0 =>
      unfold chkN at h
      rw [h1] at h
      have h2 : chkStep b st0 (p.getD j 0) = some st := h
      obtain ⟨k1, k2⟩ := chk_sound ok j st0 h1
      unfold chkStep at h2
      split at h2
      · cases h2
      · rename_i hr
        split at h2
        · rename_i hb
          injection h2 with h2
          have hmem : b.rules.getD (p.getD j 0).toNat rl0 ∈ b.rules := getD_mem (by omega)
          have hbody : ∀ g ∈ (b.rules.getD (p.getD j 0).toNat rl0).body, Der b s g.toNat := fun g hg => k1 _ (by unfold bdy at hb; exact List.all_eq_true.1 hb g hg)
          by_cases hh : (b.rules.getD (p.getD j 0).toNat rl0).head < 0
          · rw [if_pos hh] at h2
            subst h2
            refine ⟨k1, fun _ => ?_⟩
            unfold badS badK
            refine List.any_eq_true.2 ⟨_, hmem, ?_⟩
            rw [Bool.and_eq_true, decide_eq_true_eq]
            refine ⟨?_, hh⟩
            unfold bdy
            exact List.all_eq_true.2 fun g hg => (fol_der ok).2 (hbody g hg)
          · rw [if_neg hh] at h2
            subst h2
            refine ⟨fun f hf => ?_, k2⟩
            rcases (or_bit _ _ _).1 hf with hf | rfl
            · exact k1 f hf
            · exact Der.rule _ hmem (Int.not_lt.1 hh) hbody
        · cases h2
theorem check_sound {b : Lg} (ok : Ok b) {isb : Bool} {s : Nat} {fact : Int} {p : List Int} (hf : fitsE b isb fact = 0) (h : checkE b isb s fact p = 0) : flwB b s fact = true := by
  unfold checkE at h
  rw [if_neg (by simpa using hf)] at h
  cases h1 : chkN b s p p.length with
  | none => rw [h1] at h; cases h
  | some st =>
    rw [h1] at h
    dsimp only at h
    obtain ⟨k1, k2⟩ := chk_sound ok _ st h1
    split at h
    · rename_i hp
      unfold provB at hp
      unfold flwB
      by_cases h0 : fact < 0
      · rw [if_pos h0] at hp ⊢; exact k2 hp
      · rw [if_neg h0] at hp ⊢; exact (fol_der ok).2 (k1 _ hp)
    · cases h
/-- the facts of a proof in their order -/
structure Prf (b : Lg) (m : Nat) (fact : Int) (L : List Int) : Prop where
  mem : ∀ e, e ∈ L ↔ Rch b (rsE b m) fact e ∧ (rsE b m e).isSome = true
  srt : L.Pairwise (lexR (keyW (rkE b m)))
def numL (b : Lg) (m : Nat) (L : List Int) : List Int := L.map fun e => (((rsE b m e).getD 0 : Nat) : Int)
theorem prf_of {b : Lg} (ok : Ok b) {m : Nat} {fact : Int} (hf : -1 ≤ fact ∧ fact < b.facts) {out : List Int} {E : Int} (h : WhyP b m fact 79 out E) :
    (rkE b m fact = none ∧ out = [] ∧ E = 6) ∨ (∃ R L, rkE b m fact = some R ∧ E = 0 ∧ Prf b m fact L ∧ out = numL b m L) := by
  obtain ⟨j, hj, hq, h⟩ := h
  have e := rIter_same hq (quiet_end ok m)
  have hr : ∀ f v, rsE b m f = some v → v < b.rules.length := fun f v h => ((riE b m).a f v h).1
  rw [e] at h
  rcases h with h | ⟨h1, h2, ys, h3, h4, h5⟩
  · exact .inl h
  · right
    obtain ⟨R, hR⟩ := Option.ne_none_iff_exists'.1 h1
    have hM := Nat.le_trans (need_len ok hr hf 79) (show 65 ≤ 79 by omega)
    refine ⟨R, ys.filter fun f => (rsE b m f).isSome, hR, h2, ⟨fun x => ?_, h4.filter _⟩, ?_⟩
    · rw [List.mem_filter]
      constructor
      · rintro ⟨g1, g2⟩
        exact ⟨needN_rch hr 79 x (h3.mem_iff.1 g1), g2⟩
      · rintro ⟨g1, g2⟩
        exact ⟨h3.mem_iff.2 (rch_need hr hM g1), g2⟩
    · rw [h5]
      unfold numL
      clear h3 h4 h5
      induction ys with
      | nil => rfl
      | cons y ys ih =>
        rw [List.filterMap_cons, List.filter_cons]
        cases hy : rsE b m y with
        | none =>
          have h6 : rsI (rIter b m (b.facts.toNat + 1)).2 y = none := by unfold rsI; rw [show (rIter b m (b.facts.toNat + 1)).2 y = none from hy]; rfl
          rw [h6]; simpa using ih
        | some v =>
          have h6 : rsI (rIter b m (b.facts.toNat + 1)).2 y = some (v : Int) := by unfold rsI; rw [show (rIter b m (b.facts.toNat + 1)).2 y = some v from hy]; rfl
          rw [h6]
          simp only [Option.isSome_some, if_true, List.map_cons, hy, Option.getD_some]
          rw [ih]
theorem Prf.nodup {b : Lg} {m : Nat} {fact : Int} {L : List Int} (h : Prf b m fact L) : L.Nodup :=
  List.nodup_iff_pairwise_ne.2 (h.srt.imp fun {x y} h e => by subst e; unfold lexR at h; omega)
theorem numL_len (b : Lg) (m : Nat) (L : List Int) : (numL b m L).length = L.length := by simp [numL]
theorem numL_get {b : Lg} {m : Nat} {L : List Int} {i : Nat} (h : i < L.length) {v : Nat} (hv : rsE b m L[i] = some v) : (numL b m L).getD i 0 = (v : Int) := by
  simp [numL, h, hv]
theorem num_rule {b : Lg} {m : Nat} {e : Int} {v : Nat} (hv : rsE b m e = some v) : rlX b (v : Int) = rul b v ∧ (rul b v).head = e ∧ v < b.rules.length := by
  obtain ⟨h1, h2, _⟩ := (riE b m).a e v hv
  exact ⟨by unfold rlX rul; rw [Int.toNat_natCast], h2, h1⟩
theorem giv_rank {b : Lg} (ok : Ok b) {m : Nat} {f : Int} (h0 : 0 ≤ f) : (giv b m).testBit f.toNat = true ↔ rkE b m f = some 0 := by
  rw [(riE b m).z f]
  have h := giv_bit b m f.toNat b.assume.length
  unfold giv
  rw [h]
  constructor
  · rintro ⟨k, h1, h2, h3⟩
    have := ok.asm _ (getD_mem (l := b.assume) (i := k) (d := 0) h1)
    exact ⟨k, h1, h2, by omega⟩
  · rintro ⟨k, h1, h2, h3⟩
    exact ⟨k, h1, h2, by rw [h3]⟩
theorem lex_before {key : Int → Int} {L : List Int} (h : L.Pairwise (lexR key)) {i j : Nat} (hi : i < L.length) (hj : j < L.length) (hk : key L[i] < key L[j]) : i < j := by
  rcases Nat.lt_trichotomy i j with h1 | h1 | h1
  · exact h1
  · subst h1; omega
  · have := List.pairwise_iff_getElem.1 h j i hj hi h1
    unfold lexR at this; omega
theorem prf_ok {b : Lg} (ok : Ok b) {m : Nat} {fact : Int} (hf : -1 ≤ fact ∧ fact < b.facts) {R : Nat} (hR : rkE b m fact = some R) {L : List Int} (h : Prf b m fact L) {isb : Bool} (hfit : fitsE b isb fact = 0) : checkE b isb m fact (numL b m L) = 0 := by
  have hL : ∀ i (hi : i < L.length), ∃ v, rsE b m L[i] = some v := fun i hi => Option.isSome_iff_exists.1 ((h.mem _).1 (List.getElem_mem hi)).2
  have hd := chk_do (b := b) (s := m) (p := numL b m L) (fun j hj => by
    rw [numL_len] at hj
    obtain ⟨v, hv⟩ := hL j hj
    obtain ⟨h1, h2, h3⟩ := num_rule hv
    rw [numL_get hj hv, h1]
    refine ⟨⟨by omega, by omega⟩, fun g hg => ?_⟩
    obtain ⟨_, _, r, h4, _, _, h6⟩ := (riE b m).a _ v hv
    obtain ⟨t, h7, h8⟩ := h6 g hg
    have hg0 := (ok.body _ (rul_mem h3) g hg).1
    cases t with
    | zero => exact .inl ((giv_rank ok hg0).2 h8)
    | succ t =>
      right
      obtain ⟨v', hv'⟩ := (riE b m).c g t h8
      have hgL : g ∈ L := (h.mem g).2 ⟨Rch.step _ v g ((h.mem _).1 (List.getElem_mem hj)).1 hv hg, by rw [hv']; rfl⟩
      obtain ⟨i, hi, e⟩ := List.getElem_of_mem hgL
      have hv2 : rsE b m L[i] = some v' := by rw [e]; exact hv'
      refine ⟨i, lex_before h.srt hi hj ?_, ?_⟩
      · rw [e, keyW_some h8, keyW_some h4]; omega
      · rw [numL_get hi hv2, (num_rule hv2).1, (num_rule hv2).2.1, e]
        exact ⟨hg0, rfl⟩) _ (Nat.le_refl _)
  obtain ⟨st, h1, h2, h3⟩ := hd
  unfold checkE
  rw [if_neg (by simpa using hfit), h1]
  dsimp only
  rw [if_pos]
  unfold provB
  have atL : ∀ r, rkE b m fact = some (r + 1) → ∃ i, i < (numL b m L).length ∧ (rlX b ((numL b m L).getD i 0)).head = fact := fun r hr => by
    obtain ⟨v, hv⟩ := (riE b m).c fact r hr
    obtain ⟨i, hi, e⟩ := List.getElem_of_mem ((h.mem fact).2 ⟨Rch.goal, by rw [hv]; rfl⟩)
    have hv2 : rsE b m L[i] = some v := by rw [e]; exact hv
    exact ⟨i, by rw [numL_len]; exact hi, by rw [numL_get hi hv2, (num_rule hv2).1, (num_rule hv2).2.1, e]⟩
  by_cases h0 : fact < 0
  · rw [if_pos h0]
    cases R with
    | zero =>
      obtain ⟨k, g1, _, g3⟩ := ((riE b m).z fact).1 hR
      have := ok.asm _ (getD_mem (l := b.assume) (i := k) (d := 0) g1)
      omega
    | succ R =>
      obtain ⟨i, g1, g2⟩ := atL R hR
      exact h3 ⟨i, g1, by omega⟩
  · rw [if_neg h0]
    refine h2 _ ?_
    cases R with
    | zero => exact .inl ((giv_rank ok (by omega)).2 hR)
    | succ R =>
      obtain ⟨i, g1, g2⟩ := atL R hR
      exact .inr ⟨i, g1, by omega, by rw [g2]⟩
theorem prf_min {b : Lg} (ok : Ok b) {m : Nat} {fact : Int} (hf : -1 ≤ fact ∧ fact < b.facts) {R : Nat} (hR : rkE b m fact = some R) {L : List Int} (h : Prf b m fact L) {isb : Bool} (hfit : fitsE b isb fact = 0) {i : Nat} (hi : i < L.length) :
    checkE b isb m fact ((numL b m L).take i ++ (numL b m L).drop (i + 1)) = 22 := by
  obtain ⟨L', hL'⟩ : ∃ L', L' = L.take i ++ L.drop (i + 1) := ⟨_, rfl⟩
  have e : (numL b m L).take i ++ (numL b m L).drop (i + 1) = numL b m L' := by
    rw [hL']; unfold numL; rw [List.map_append, List.map_take, List.map_drop]
  rw [e]
  obtain ⟨f0, hf0⟩ : ∃ f0, f0 = L[i] := ⟨_, rfl⟩
  have hsplit : L = L.take i ++ f0 :: L.drop (i + 1) := by
    rw [hf0, ← List.drop_eq_getElem_cons hi, List.take_append_drop]
  have hnd := h.nodup
  rw [hsplit, List.nodup_append] at hnd
  have hsub : ∀ x, x ∈ L' → x ∈ L ∧ x ≠ f0 := fun x hx => by
    rw [hL'] at hx
    rcases List.mem_append.1 hx with hx | hx
    · exact ⟨List.mem_of_mem_take hx, fun e => hnd.2.2 x hx f0 List.mem_cons_self e⟩
    · exact ⟨List.mem_of_mem_drop hx, fun e => (List.nodup_cons.1 hnd.2.1).1 (e ▸ hx)⟩
  have hsup : ∀ x, x ∈ L → x ≠ f0 → x ∈ L' := fun x hx hne => by
    rw [hL']
    rw [hsplit] at hx
    rcases List.mem_append.1 hx with hx | hx
    · exact List.mem_append_left _ hx
    · rcases List.mem_cons.1 hx with hx | hx
      · exact absurd hx hne
      · exact List.mem_append_right _ hx
  have hf0L : f0 ∈ L := by rw [hf0]; exact List.getElem_mem hi
  obtain ⟨g1, g2⟩ := (h.mem f0).1 hf0L
  obtain ⟨v0, hv0⟩ := Option.isSome_iff_exists.1 g2
  obtain ⟨_, _, r0, hr0, hr01, _, _⟩ := (riE b m).a f0 v0 hv0
  have hr : ∀ f v, rsE b m f = some v → v < b.rules.length := fun f v h => ((riE b m).a f v h).1
  have hLv : ∀ k (hk : k < L'.length), ∃ v, rsE b m L'[k] = some v := fun k hk => Option.isSome_iff_exists.1 ((h.mem _).1 (hsub _ (List.getElem_mem hk)).1).2
  have hnog : 0 ≤ f0 → (giv b m).testBit f0.toNat = true → False := fun h0 hg => by
    have := (giv_rank ok h0).1 hg
    rw [hr0] at this; injection this with this; omega
  have hnoh : ∀ k, k < (numL b m L').length → 0 ≤ (rlX b ((numL b m L').getD k 0)).head → 0 ≤ f0 → (rlX b ((numL b m L').getD k 0)).head.toNat = f0.toNat → False := fun k hk h1 h0 h2 => by
    rw [numL_len] at hk
    obtain ⟨v, hv⟩ := hLv k hk
    rw [numL_get hk hv, (num_rule hv).1, (num_rule hv).2.1] at h1 h2
    exact (hsub _ (List.getElem_mem hk)).2 (by omega)
  unfold checkE
  rw [if_neg (by simpa using hfit)]
  cases hc : chkN b m (numL b m L') (numL b m L').length with
  | none => rfl
  | some st =>
    dsimp only
    obtain ⟨k1, k2, k3⟩ := chk_know _ st hc
    cases g1 with
    | goal =>
      rw [if_neg]
      unfold provB
      by_cases h0 : fact < 0
      · rw [if_pos h0]
        intro hs
        obtain ⟨k, hk, h5⟩ := k2 hs
        rw [numL_len] at hk
        obtain ⟨v, hv⟩ := hLv k hk
        rw [numL_get hk hv, (num_rule hv).1, (num_rule hv).2.1] at h5
        have h6 := (h.mem _).1 (hsub _ (List.getElem_mem hk)).1
        have h7 := rch_rg ok hr hf h6.1
        exact (hsub _ (List.getElem_mem hk)).2 (h7.2.2 (by omega))
      · rw [if_neg h0]
        intro hs
        rcases k1 _ hs with h5 | ⟨k, hk, h5, h6⟩
        · exact hnog (by omega) h5
        · exact hnoh k hk h5 (by omega) h6
    | step g v _ hg hv hm =>
      exfalso
      have hgL : g ∈ L := (h.mem g).2 ⟨hg, by rw [hv]; rfl⟩
      obtain ⟨h1, h2, h3⟩ := num_rule hv
      have hb0 := (ok.body _ (rul_mem h3) f0 hm).1
      have hne : g ≠ f0 := fun e => by
        obtain ⟨_, _, r, h4, _, _, h6⟩ := (riE b m).a g v hv
        obtain ⟨t, h7, h8⟩ := h6 f0 hm
        rw [← e, h4] at h8
        injection h8 with h8
        omega
      obtain ⟨k, hk, e2⟩ := List.getElem_of_mem (hsup g hgL hne)
      have hv2 : rsE b m L'[k] = some v := by rw [e2]; exact hv
      have h4 := (k3 k (by rw [numL_len]; exact hk)).2 f0 (by rw [numL_get hk hv2, h1]; exact hm)
      rcases h4 with h4 | ⟨k', hk', h5, h6⟩
      · exact hnog hb0 h4
      · exact hnoh k' hk' h5 hb0 h6
end Go.Label
